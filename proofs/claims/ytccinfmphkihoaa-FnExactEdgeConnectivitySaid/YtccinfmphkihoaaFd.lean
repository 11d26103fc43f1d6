import Derived.Test.YtccinfmphkihoaaCv
import Derived.Test.YtccinfmphkihoaaMb
namespace Go.Proofs.Ytccinfmphkihoaa
open Go.RowKit Go.Sort
/-! ### FlowDimension -/
theorem lengthLL_any (A : Option Addr) (m c : Nat) (w : World) : Calls Try.prog 97 #[.slice A m c] w (Is (.int .i64 m) w) := by
  go_enter Try.func97, Try.ntmps97
  go_wp2
  go_ret
  exact ⟨rfl, rfl⟩
noncomputable def fdV (n : Int) (es : List (Int × Int)) : Int := if B (IsG n es) then (es.length : Int) - n + ldCnt es noSk n.toNat else 0
-- left out in this seat
-- left out in this seat
end Go.Proofs.Ytccinfmphkihoaa
