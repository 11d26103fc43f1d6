import Derived.Test.YtccinfmphkihoaaGl
import Derived.Test.YtccinfmphkihoaaFr
namespace Go.Proofs.Ytccinfmphkihoaa
open Go.RowKit Go.Sort
theorem eqGraph_same (n : Int) (b1 o1 m1 c1 b2 o2 m2 c2 : Nat) (es : List (Int × Int)) (w : World) (h1 : Eds w b1 o1 m1 es) (h2 : Eds w b2 o2 m2 es) (hm : m1 ≤ 1048576) (hm2 : m2 ≤ 1048576) :
    Calls Try.prog 19 #[.agg #[.int .i64 n, .slice (some ⟨b1, o1, none⟩) m1 c1], .agg #[.int .i64 n, .slice (some ⟨b2, o2, none⟩) m2 c2]] w (Ret (.bool true) w) := by
  have := eqGraph_any n n b1 o1 m1 c1 b2 o2 m2 c2 es es w h1 h2 hm hm2
  rwa [B_true ⟨rfl, rfl⟩] at this
end Go.Proofs.Ytccinfmphkihoaa
