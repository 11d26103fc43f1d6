import Derived.Test.YtnoneppmeaeicaaDoorBr
import Derived.Test.YtnoneppmeaeicaaDoorM8
namespace Go.Proofs.YtnoneppmeaeicaaDoor
open Go.RowKit Go.Sort
/-! ### Sets of edges, IsEdgeCut -/
noncomputable def ecC (n : Int) (es : List (Int × Int)) (ls : Nat → Int) (l : Nat) : Int := if B (IsG n es) then setC ls l ((es.length : Int) - 1) else 1
theorem ec_cases (n : Int) (es : List (Int × Int)) (ls : Nat → Int) (l : Nat) :
    (¬ IsG n es ∧ ecC n es ls l = 1) ∨ (IsG n es ∧ ¬ SetP ls l ((es.length : Int) - 1) ∧ ecC n es ls l = 2) ∨ (IsG n es ∧ SetP ls l ((es.length : Int) - 1) ∧ ecC n es ls l = 0) := by
  by_cases hG : IsG n es
  · by_cases hs : SetP ls l ((es.length : Int) - 1)
    · right; right; exact ⟨hG, hs, by simp [ecC, B_true hG, setC_0 hs]⟩
    · right; left; exact ⟨hG, hs, by simp [ecC, B_true hG, setC_2 hs]⟩
  · left; exact ⟨hG, by simp [ecC, B_false hG]⟩
-- left out in this seat
-- left out in this seat
noncomputable def ieV (n : Int) (es : List (Int × Int)) (ls : Nat → Int) (l : Nat) : Bool := decide (ecC n es ls l = 0) && cutB n es (skS (setN ls l))
theorem ieV_0 {n : Int} {es : List (Int × Int)} {ls : Nat → Int} {l : Nat} (h : ecC n es ls l = 0) : ieV n es ls l = cutB n es (skS (setN ls l)) := by simp [ieV, h]
theorem ieV_n {n : Int} {es : List (Int × Int)} {ls : Nat → Int} {l : Nat} (h : ecC n es ls l ≠ 0) : ieV n es ls l = false := by simp [ieV, h]
-- left out in this seat
-- left out in this seat
end Go.Proofs.YtnoneppmeaeicaaDoor
