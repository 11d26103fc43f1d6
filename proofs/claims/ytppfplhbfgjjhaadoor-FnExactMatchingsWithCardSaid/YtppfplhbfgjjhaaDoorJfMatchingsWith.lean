import Derived.Test.YtppfplhbfgjjhaaDoorOp
namespace Go.Proofs.YtppfplhbfgjjhaaDoor.fnExactMatchingsWith
open Go.ChangeShapes Go.WideShapes Go.ChangeAt Go.RowKit
theorem jH : (Tryd.pinned.checked.prog.stopsHeard && Tryd.pinned.checked.prog.mayEnter) = true := by kernel_rfl
theorem jL : (Rows.fnExactMatchingsWithRow.lifted == Tryd.pinned.checked.prog.liftsFinal) = true := by kernel_rfl
theorem jM : (Tryd.pinned.checked.prog.make == some Rows.fnExactMatchingsWithRow.make) = true := by kernel_rfl
end Go.Proofs.YtppfplhbfgjjhaaDoor.fnExactMatchingsWith
