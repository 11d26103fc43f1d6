import Derived.Test.YtnoneppmeaeicaaDoorM16
import Derived.Test.YtnoneppmeaeicaaDoorM6
import Derived.Test.YtnoneppmeaeicaaDoorM7
namespace Go.Proofs.YtnoneppmeaeicaaDoor
open Go.RowKit Go.Sort
/-! ### Bridges -/
theorem ldCnt_rest (es : List (Int × Int)) (sk : Nat → Bool) (N : Nat) : ldCnt (restE es sk) noSk N = ldCnt es sk N := by
  induction N with
  | zero => rfl
  | succ N ih => simp only [ldCnt, ih, lead_rest]
theorem set_one (k : Nat) : skS (setN (fun _ => (k : Int)) 1) = skI k := by
  rw [← skS_one]; congr 1; simp [setN]
theorem set_oneP (k : Nat) (u : Int) (h : (k : Int) ≤ u) : SetP (fun _ => (k : Int)) 1 u := fun j hj => ⟨⟨Int.natCast_nonneg k, h⟩, fun h => by omega⟩
noncomputable def brTo (n : Int) (es : List (Int × Int)) : Nat → List Int
  | 0 => []
  | k + 1 => brTo n es k ++ (if cutB n es (skI k) then [(k : Int)] else [])
theorem brTo_len (n : Int) (es : List (Int × Int)) (k : Nat) : (brTo n es k).length ≤ k := by
  induction k with
  | zero => simp [brTo]
  | succ k ih => simp only [brTo, List.length_append]; split <;> simp <;> omega
theorem brTo_yes {n : Int} {es : List (Int × Int)} {k : Nat} (h : cutB n es (skI k) = true) : brTo n es (k + 1) = brTo n es k ++ [(k : Int)] := by simp [brTo, h]
theorem brTo_no {n : Int} {es : List (Int × Int)} {k : Nat} (h : cutB n es (skI k) = false) : brTo n es (k + 1) = brTo n es k := by simp [brTo, h]
-- left out in this seat
noncomputable def bgL (n : Int) (es : List (Int × Int)) : List Int := if B (IsG n es) then brTo n es es.length else []
theorem bgL_len (n : Int) (es : List (Int × Int)) : (bgL n es).length ≤ es.length := by
  unfold bgL
  split
  · exact brTo_len _ _ _
  · simp
-- left out in this seat
-- left out in this seat
end Go.Proofs.YtnoneppmeaeicaaDoor
