import Derived.Test.YtnoneppmeaeicaaDoorM16
import Derived.Test.YtnoneppmeaeicaaDoorM6
import Derived.Test.YtnoneppmeaeicaaDoorEc
namespace Go.Proofs.YtnoneppmeaeicaaDoor
open Go.RowKit Go.Sort
/-! ### PartsOf, SidesOf -/
noncomputable def poL (n : Int) (es : List (Int × Int)) : List (List Int) := if B (IsG n es) then sdTo es noSk n.toNat n.toNat else []
theorem sdTo_rows (es : List (Int × Int)) (sk : Nat → Bool) (N k : Nat) : ∀ j, (ra (sdTo es sk N k) j).length ≤ N := by
  induction k with
  | zero => intro j; simp [sdTo, ra]
  | succ k ih =>
    intro j
    by_cases hc : leadF es sk k = k
    · rw [sdTo_yes hc]
      by_cases hj : j < (sdTo es sk N k).length
      · rw [ra_app_lt hj]; exact ih j
      · by_cases hj2 : j = (sdTo es sk N k).length
        · subst hj2; rw [ra_app_at]; exact cmTo_len _ _ _ _
        · simp only [ra, List.getD_eq_getElem?_getD]
          rw [List.getElem?_eq_none (by simp; omega)]; simp
    · rw [sdTo_no hc]; exact ih j
-- left out in this seat
-- left out in this seat
noncomputable def soL (n : Int) (es : List (Int × Int)) (ls : Nat → Int) (l : Nat) : List (List Int) := if ecC n es ls l = 0 then sdTo es (skS (setN ls l)) n.toNat n.toNat else []
-- left out in this seat
-- left out in this seat
theorem poL_len (n : Int) (es : List (Int × Int)) : (poL n es).length ≤ 1024 ∧ ∀ j, j < (poL n es).length → (ra (poL n es) j).length ≤ 1048576 := by
  unfold poL
  by_cases hG : IsG n es
  · rw [B_true hG, if_pos rfl]
    have h20 := hG.wf.2.1
    have h1 := ldCnt_le es noSk n.toNat
    rw [sdTo_len]
    exact ⟨by omega, fun j _ => by have := sdTo_rows es noSk n.toNat n.toNat j; omega⟩
  · rw [B_false hG]; simp
theorem soL_len (n : Int) (es : List (Int × Int)) (ls : Nat → Int) (l : Nat) : (soL n es ls l).length ≤ 1024 ∧ ∀ j, j < (soL n es ls l).length → (ra (soL n es ls l) j).length ≤ 1048576 := by
  unfold soL
  rcases ec_cases n es ls l with ⟨_, e⟩ | ⟨_, _, e⟩ | ⟨hG, _, e⟩
  · rw [e]; simp
  · rw [e]; simp
  · rw [e, if_pos rfl]
    have h20 := hG.wf.2.1
    have h1 := ldCnt_le es (skS (setN ls l)) n.toNat
    rw [sdTo_len]
    exact ⟨by omega, fun j _ => by have := sdTo_rows es (skS (setN ls l)) n.toNat n.toNat j; omega⟩
end Go.Proofs.YtnoneppmeaeicaaDoor
