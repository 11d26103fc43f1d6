import Derived.Deep.Cut
import Derived.Test.YtajnhkkiddeegaaGreatZp23
import Derived.Test.YtajnhkkiddeegaaGreatZp25
set_option linter.unusedVariables false
set_option linter.unusedSimpArgs false
namespace Go.Proofs.YtajnhkkiddeegaaGreat
open Go.RowKit Go.Sort
theorem Kept.box2 {S : Nat → Prop} {w w' : World} (k : Kept S w w') {b : Nat} {v0 v1 : Value} (h : Box2 w b v0 v1) (hs : ¬ S b) : Box2 w' b v0 v1 :=
  ⟨k.lt h.lt, (k.cell h.lt hs 0).trans h.c0, (k.cell h.lt hs 1).trans h.c1⟩
end Go.Proofs.YtajnhkkiddeegaaGreat
