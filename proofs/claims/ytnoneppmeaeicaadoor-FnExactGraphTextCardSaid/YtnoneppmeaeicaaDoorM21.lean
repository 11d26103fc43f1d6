import Derived.Test.YtnoneppmeaeicaaDoorM20
import Derived.Test.YtnoneppmeaeicaaDoorM15
import Derived.Test.YtnoneppmeaeicaaDoorM8
namespace Go.Proofs.YtnoneppmeaeicaaDoor
open Go.RowKit Go.Sort
/-! ### The edges of the parts -/
def natL (xs : List Nat) : List Int := xs.map fun j : Nat => (j : Int)
theorem natL_len (xs : List Nat) : (natL xs).length = xs.length := by simp [natL]
theorem natL_at (xs : List Nat) (j : Nat) : ia (natL xs) j = ((xs.getD j 0 : Nat) : Int) := by
  simp only [ia, natL, List.getD_eq_getElem?_getD, List.getElem?_map]
  cases xs[j]? <;> rfl
theorem natL_app (xs : List Nat) (k : Nat) : natL (xs ++ [k]) = natL xs ++ [(k : Int)] := by simp [natL]
/-- The edges (of the first so many) whose lesser vertex is in a list. -/
noncomputable def inTo (es : List (Int × Int)) (r : List Int) : Nat → List Nat
  | 0 => []
  | k + 1 => inTo es r k ++ (if B (ea es k ∈ r) then [k] else [])
theorem inTo_yes {es : List (Int × Int)} {r : List Int} {k : Nat} (h : ea es k ∈ r) : inTo es r (k + 1) = inTo es r k ++ [k] := by simp only [inTo]; rw [if_pos (B_true h)]
theorem inTo_no {es : List (Int × Int)} {r : List Int} {k : Nat} (h : ¬ ea es k ∈ r) : inTo es r (k + 1) = inTo es r k := by simp only [inTo]; rw [if_neg (by rw [B_false h]; decide), List.append_nil]
theorem inTo_len (es : List (Int × Int)) (r : List Int) (k : Nat) : (inTo es r k).length ≤ k := by
  induction k with
  | zero => simp [inTo]
  | succ k ih => simp only [inTo, List.length_append]; split <;> simp <;> omega
theorem mem_inTo {es : List (Int × Int)} {r : List Int} {d : Nat} : ∀ {k : Nat}, d ∈ inTo es r k ↔ d < k ∧ ea es d ∈ r := by
  intro k
  induction k with
  | zero => simp [inTo]
  | succ k ih =>
    simp only [inTo, List.mem_append, ih]
    constructor
    · rintro (h | h)
      · exact ⟨by omega, h.2⟩
      · split at h
        · rename_i hb
          obtain rfl : d = k := by simpa using h
          exact ⟨by omega, B_iff.1 hb⟩
        · simp at h
    · rintro ⟨h1, h2⟩
      by_cases e : d = k
      · subst e; right; rw [if_pos (B_true h2)]; simp
      · exact .inl ⟨by omega, h2⟩
theorem inTo_asc (es : List (Int × Int)) (r : List Int) (k : Nat) : (inTo es r k).Pairwise (· < ·) := by
  induction k with
  | zero => simp [inTo]
  | succ k ih =>
    simp only [inTo]
    split
    · rw [List.pairwise_append]
      exact ⟨ih, by simp, fun a ha b hb => by obtain rfl : b = k := by simpa using hb
                                              exact (mem_inTo.1 ha).1⟩
    · simpa using ih
noncomputable def peR (es : List (Int × Int)) (rows : List (List Int)) (m : Nat) : Nat → List (List Int)
  | 0 => []
  | j + 1 => peR es rows m j ++ [natL (inTo es (ra rows j) m)]
theorem peR_len (es : List (Int × Int)) (rows : List (List Int)) (m : Nat) : ∀ j, (peR es rows m j).length = j := by
  intro j
  induction j with
  | zero => rfl
  | succ j ih => simp [peR, ih]
theorem peR_at (es : List (Int × Int)) (rows : List (List Int)) (m : Nat) : ∀ j i, i < j → ra (peR es rows m j) i = natL (inTo es (ra rows i) m) := by
  intro j
  induction j with
  | zero => intro i h; omega
  | succ j ih =>
    intro i hi
    rw [peR]
    by_cases e : i < j
    · rw [ra_app_lt (by rw [peR_len]; exact e)]; exact ih i e
    · obtain rfl : i = j := by omega
      have : ra (peR es rows m i ++ [natL (inTo es (ra rows i) m)]) (peR es rows m i).length = natL (inTo es (ra rows i) m) := ra_app_at
      rwa [peR_len] at this
-- left out in this seat
end Go.Proofs.YtnoneppmeaeicaaDoor
namespace Go.Proofs.YtnoneppmeaeicaaDoor
open Go.RowKit Go.Sort
-- left out in this seat
end Go.Proofs.YtnoneppmeaeicaaDoor
namespace Go.Proofs.YtnoneppmeaeicaaDoor
open Go.RowKit Go.Sort
theorem colP_iff {n : Int} {es : List (Int × Int)} {cs : Nat → Int} (hn : WfP n es) : ColP es cs ↔ ∀ e, e < es.length → (0 ≤ cs e ∧ cs e ≤ 2) ∧ FitP es cs e := by
  constructor
  · rintro ⟨h1, h2⟩ e he
    exact ⟨h1 e he, (fitP_iff hn he).2 ⟨h2 _ (by omega), h2 _ (by omega)⟩⟩
  · intro h
    refine ⟨fun e he => (h e he).1, fun t ht => ?_⟩
    have h1 := (fitP_iff hn (by omega : t / 2 < es.length)).1 (h (t / 2) (by omega)).2
    rcases (show t = 2 * (t / 2) ∨ t = 2 * (t / 2) + 1 by omega) with e | e <;> rw [e]
    · exact h1.1
    · exact h1.2
-- left out in this seat
end Go.Proofs.YtnoneppmeaeicaaDoor
