import Derived.Test.YtccinfmphkihoaaLv
import Derived.Test.YtccinfmphkihoaaEdgesAt
namespace Go.Proofs.Ytccinfmphkihoaa
open Go.RowKit Go.Sort
noncomputable def elC (n : Int) (es : List (Int × Int)) (ls : Nat → Int) (l : Nat) : Int := if B (IsG n es) then setC ls l (n - 1) else 1
noncomputable def elL (n : Int) (es : List (Int × Int)) (ls : Nat → Int) (l : Nat) : List Int := if elC n es ls l = 0 then lvL es ls l else []
theorem elL_0 {n : Int} {es : List (Int × Int)} {ls : Nat → Int} {l : Nat} (h : elC n es ls l = 0) : elL n es ls l = lvL es ls l := by simp [elL, h]
theorem elL_n {n : Int} {es : List (Int × Int)} {ls : Nat → Int} {l : Nat} (h : elC n es ls l ≠ 0) : elL n es ls l = [] := by simp [elL, h]
theorem elL_len (n : Int) (es : List (Int × Int)) (ls : Nat → Int) (l : Nat) : (elL n es ls l).length ≤ es.length := by
  unfold elL
  split
  · exact lvTo_len _ _ _
  · simp
theorem setB_iff {ls : Nat → Int} {l : Nat} {u : Int} : setB ls l u = true ↔ SetP ls l u := B_iff
theorem el_cases (n : Int) (es : List (Int × Int)) (ls : Nat → Int) (l : Nat) :
    (¬ IsG n es ∧ elC n es ls l = 1) ∨ (IsG n es ∧ ¬ SetP ls l (n - 1) ∧ elC n es ls l = 2) ∨ (IsG n es ∧ SetP ls l (n - 1) ∧ elC n es ls l = 0) := by
  by_cases h1 : IsG n es
  · by_cases h2 : SetP ls l (n - 1)
    · exact .inr (.inr ⟨h1, h2, by simp [elC, B_true h1, setC_0 h2]⟩)
    · exact .inr (.inl ⟨h1, h2, by simp [elC, B_true h1, setC_2 h2]⟩)
  · exact .inl ⟨h1, by simp [elC, B_false h1]⟩
-- left out in this seat
/-- A new list, as a fact of an operation. -/
def NewL (base : Nat) (xs : List Int) (v : Value) (W : World) : Prop := ∃ A c, v = .slice A xs.length c ∧ OwnL base W A xs.length c xs
theorem NewL.below {base : Nat} {xs : List Int} {v : Value} {W W' : World} (h : NewL base xs v W) (hb : Below W.heap.size W W') : NewL base xs v W' := let ⟨A, c, e, ho⟩ := h; ⟨A, c, e, ho.below hb⟩
-- left out in this seat
end Go.Proofs.Ytccinfmphkihoaa
