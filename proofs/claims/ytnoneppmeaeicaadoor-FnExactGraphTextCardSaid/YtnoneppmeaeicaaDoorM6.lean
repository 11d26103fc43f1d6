import Derived.Test.YtnoneppmeaeicaaDoorM3
import Derived.Test.YtnoneppmeaeicaaDoorM5
import Derived.Test.YtnoneppmeaeicaaDoorM4
namespace Go.Proofs.YtnoneppmeaeicaaDoor
open Go.RowKit Go.Sort
-- left out in this seat
-- left out in this seat
-- left out in this seat
-- left out in this seat
noncomputable def cnB (m : Nat) (g : Nat → Int) (x : Int) : Bool := B (∃ j, j < m ∧ g j = x)
theorem cnB_iff {m : Nat} {g : Nat → Int} {x : Int} : cnB m g x = true ↔ ∃ j, j < m ∧ g j = x := B_iff
theorem cnB_not {m : Nat} {g : Nat → Int} {x : Int} : cnB m g x = false ↔ ∀ j, j < m → g j ≠ x := by
  rw [cnB, B_not]; exact ⟨fun h j hj hx => h ⟨j, hj, hx⟩, fun h ⟨j, hj, hx⟩ => h j hj hx⟩
-- left out in this seat
-- left out in this seat
-- left out in this seat
noncomputable def avB (es : List (Int × Int)) (len : Nat) (g : Nat → Int) (lo hi : Int) : Bool := decide (len = es.length) && allB len (fun j => inB (g j) lo hi)
-- left out in this seat
-- left out in this seat
-- left out in this seat
end Go.Proofs.YtnoneppmeaeicaaDoor
namespace Go.Proofs.YtnoneppmeaeicaaDoor
open Go.RowKit Go.Sort
theorem pow64 {x : Nat} (h : x ≤ 63) : (2 : Nat) ^ x < 18446744073709551616 := Nat.lt_of_lt_of_le (Nat.pow_lt_pow_of_lt (a := 2) (by decide) (by omega : x < 64)) (by decide)
theorem wrap_pow {x : Nat} (h : x ≤ 63) : IntKind.u64.wrap (2 ^ x) = ((2 ^ x : Nat) : Int) := by
  have hp := pow64 h
  rw [show ((2 : Int) ^ x) = ((2 ^ x : Nat) : Int) by simp, IntKind.wrap_u64]
  generalize (2 : Nat) ^ x = y at hp
  omega
-- left out in this seat
/-! ### IsMatching -/
noncomputable def imC (n : Int) (es : List (Int × Int)) : Int := if B (IsG n es) then 0 else 1
noncomputable def imR (n : Int) (es : List (Int × Int)) (ls : Nat → Int) (l : Nat) : Bool := B (IsG n es) && matB n es ls l
theorem retBC {a a' : Bool} {k k' : Int} (h : a = a') (h2 : k = k') : Ending.returned (.tuple #[.bool a, .int .i64 k]) = .returned (.tuple #[.bool a', .int .i64 k']) := by rw [h, h2]
-- left out in this seat
-- left out in this seat
end Go.Proofs.YtnoneppmeaeicaaDoor
namespace Go.Proofs.YtnoneppmeaeicaaDoor
open Go.RowKit Go.Sort
/-! ### The edges at a vertex -/
def atTo (es : List (Int × Int)) (v : Int) : Nat → List Int
  | 0 => []
  | k + 1 => atTo es v k ++ (if ea es k = v ∨ eb es k = v then [(k : Int)] else [])
theorem atTo_len (es : List (Int × Int)) (v : Int) (k : Nat) : (atTo es v k).length ≤ k := by
  induction k with
  | zero => simp [atTo]
  | succ k ih => simp only [atTo, List.length_append]; split <;> simp <;> omega
def atL (es : List (Int × Int)) (v : Int) : List Int := atTo es v es.length
theorem atTo_yes {es : List (Int × Int)} {v : Int} {k : Nat} (h : ea es k = v ∨ eb es k = v) : atTo es v (k + 1) = atTo es v k ++ [(k : Int)] := by simp [atTo, h]
theorem atTo_no {es : List (Int × Int)} {v : Int} {k : Nat} (h : ¬ (ea es k = v ∨ eb es k = v)) : atTo es v (k + 1) = atTo es v k := by simp [atTo, h]
-- left out in this seat
-- left out in this seat
end Go.Proofs.YtnoneppmeaeicaaDoor
