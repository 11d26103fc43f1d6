import Derived.Test.YtppfplhbfgjjhaaOp
namespace Go.Proofs.Ytppfplhbfgjjhaa.fnExactNamedGraph
open Go.ChangeShapes Go.WideShapes Go.ChangeAt Go.RowKit
theorem jH : (Try.pinned.checked.prog.stopsHeard && Try.pinned.checked.prog.mayEnter) = true := by kernel_rfl
theorem jL : (Rows.fnExactNamedGraphRow.lifted == Try.pinned.checked.prog.liftsFinal) = true := by kernel_rfl
theorem jM : (Try.pinned.checked.prog.make == some Rows.fnExactNamedGraphRow.make) = true := by kernel_rfl
end Go.Proofs.Ytppfplhbfgjjhaa.fnExactNamedGraph
