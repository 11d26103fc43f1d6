import Derived.Test.YtccinfmphkihoaaPg
import Derived.Test.YtccinfmphkihoaaSt
import Derived.Test.YtccinfmphkihoaaLv
namespace Go.Proofs.Ytccinfmphkihoaa
open Go.RowKit Go.Sort
/-! ### Matchings -/
def MatP (n : Int) (es : List (Int × Int)) (ls : Nat → Int) (l : Nat) : Prop := SetP ls l ((es.length : Int) - 1) ∧ NP (endQ es ls) (2 * l) ∧ 2 * (l : Int) = n
noncomputable def matB (n : Int) (es : List (Int × Int)) (ls : Nat → Int) (l : Nat) : Bool := B (MatP n es ls l)
theorem endQ_in {n : Int} {es : List (Int × Int)} {ls : Nat → Int} {l : Nat} (hn : WfP n es) (hs : SetP ls l ((es.length : Int) - 1)) (a : Nat) (ha : a < 2 * l) : 0 ≤ endQ es ls a ∧ endQ es ls a ≤ n - 1 := by
  have h1 := (hs (a / 2) (by omega)).1
  have h2 := hn.2.2.2.2 (ls (a / 2)).toNat (by omega)
  unfold endQ
  split <;> omega
theorem endQ_cell {w : World} {b o m : Nat} {es : List (Int × Int)} {ls : Nat → Int} {j k x : Nat} (h : Eds w b o m es) (hx : ls j = x) (hm : x < m) (hk : k < 2) : w.cell? ⟨b, o + x * 2 + k, none⟩ = some (.int .i64 (endQ es ls (2 * j + k))) := by
  rcases (show k = 0 ∨ k = 1 by omega) with rfl | rfl
  · rw [Nat.add_zero, Nat.add_zero, endQ_0, hx, Int.toNat_natCast]; exact h.ca x hm
  · rw [endQ_1, hx, Int.toNat_natCast]; exact h.cb x hm
-- left out in this seat
end Go.Proofs.Ytccinfmphkihoaa
