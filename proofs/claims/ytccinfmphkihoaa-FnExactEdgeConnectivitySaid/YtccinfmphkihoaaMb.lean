import Derived.Test.YtccinfmphkihoaaMa
import Derived.Test.YtccinfmphkihoaaAl
namespace Go.Proofs.Ytccinfmphkihoaa
open Go.RowKit Go.Sort
theorem pow64 {x : Nat} (h : x ≤ 63) : (2 : Nat) ^ x < 18446744073709551616 := Nat.lt_of_lt_of_le (Nat.pow_lt_pow_of_lt (a := 2) (by decide) (by omega : x < 64)) (by decide)
theorem wrap_pow {x : Nat} (h : x ≤ 63) : IntKind.u64.wrap (2 ^ x) = ((2 ^ x : Nat) : Int) := by
  have hp := pow64 h
  rw [show ((2 : Int) ^ x) = ((2 ^ x : Nat) : Int) by simp, IntKind.wrap_u64]
  generalize (2 : Nat) ^ x = y at hp
  omega
-- left out in this seat
/-! ### IsMatching -/
noncomputable def imC (n : Int) (es : List (Int × Int)) : Int := if B (IsG n es) then 0 else 1
noncomputable def imR (n : Int) (es : List (Int × Int)) (ls : Nat → Int) (l : Nat) : Bool := B (IsG n es) && matB n es ls l
theorem retBC {a a' : Bool} {k k' : Int} (h : a = a') (h2 : k = k') : Ending.returned (.tuple #[.bool a, .int .i64 k]) = .returned (.tuple #[.bool a', .int .i64 k']) := by rw [h, h2]
-- left out in this seat
-- left out in this seat
end Go.Proofs.Ytccinfmphkihoaa
