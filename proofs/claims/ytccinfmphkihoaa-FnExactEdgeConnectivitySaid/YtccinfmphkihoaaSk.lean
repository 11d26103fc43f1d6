import Derived.Test.YtccinfmphkihoaaFi
namespace Go.Proofs.Ytccinfmphkihoaa
open Go.RowKit Go.Sort
/-! ### Which edges are left out -/
theorem sk_none : skI (-1) = noSk := by funext e; simp [skI, noSk]
theorem skS_none : skS 0 = noSk := by funext e; simp [skS, noSk, hasB]
theorem skS_one (i : Nat) : skS (2 ^ i) = skI i := by
  funext e
  rw [Bool.eq_iff_iff]
  simp [skS, skI, hasB, Nat.testBit_two_pow]
  omega
end Go.Proofs.Ytccinfmphkihoaa
