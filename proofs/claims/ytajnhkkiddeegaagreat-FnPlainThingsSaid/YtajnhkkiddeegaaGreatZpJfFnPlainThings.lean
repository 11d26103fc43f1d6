import Derived.Test.YtajnhkkiddeegaaGreatZp2
namespace Go.Proofs.YtajnhkkiddeegaaGreat.fnPlainThings
open Go.ChangeShapes Go.WideShapes Go.ChangeAt Go.RowKit
theorem jH : (Tryz.pinned.checked.prog.stopsHeard && Tryz.pinned.checked.prog.mayEnter) = true := by kernel_rfl
theorem jL : (Rows.fnPlainThingsRow.lifted == Tryz.pinned.checked.prog.liftsFinal) = true := by kernel_rfl
theorem jM : (Tryz.pinned.checked.prog.make == some Rows.fnPlainThingsRow.make) = true := by kernel_rfl
end Go.Proofs.YtajnhkkiddeegaaGreat.fnPlainThings
