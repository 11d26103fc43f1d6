import Derived.Test.YtajnhkkiddeegaaGreatZc2
namespace Go.Proofs.YtajnhkkiddeegaaGreat.fnColourings
open Go.ChangeShapes Go.WideShapes Go.ChangeAt Go.RowKit
theorem jH : (Tryz.pinned.checked.prog.stopsHeard && Tryz.pinned.checked.prog.mayEnter) = true := by kernel_rfl
theorem jL : (Rows.fnColouringsRow.lifted == Tryz.pinned.checked.prog.liftsFinal) = true := by kernel_rfl
theorem jM : (Tryz.pinned.checked.prog.make == some Rows.fnColouringsRow.make) = true := by kernel_rfl
end Go.Proofs.YtajnhkkiddeegaaGreat.fnColourings
