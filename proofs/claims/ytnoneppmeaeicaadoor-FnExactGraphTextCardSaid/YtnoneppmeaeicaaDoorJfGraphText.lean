import Derived.Test.YtnoneppmeaeicaaDoorOp
namespace Go.Proofs.YtnoneppmeaeicaaDoor.fnExactGraphText
open Go.ChangeShapes Go.WideShapes Go.ChangeAt Go.RowKit
theorem jH : (Tryd.pinned.checked.prog.stopsHeard && Tryd.pinned.checked.prog.mayEnter) = true := by kernel_rfl
theorem jL : (Rows.fnExactGraphTextRow.lifted == Tryd.pinned.checked.prog.liftsFinal) = true := by kernel_rfl
theorem jM : (Tryd.pinned.checked.prog.make == some Rows.fnExactGraphTextRow.make) = true := by kernel_rfl
end Go.Proofs.YtnoneppmeaeicaaDoor.fnExactGraphText
