import Derived.Test.YtppfplhbfgjjhaaDoorOp2
import Derived.Test.YtppfplhbfgjjhaaDoorMx
import Derived.LaidMore
import Derived.OpenShut
import Derived.Stop.Joined
namespace Go.Proofs.YtppfplhbfgjjhaaDoor
open Go.ChangeShapes Go.WideShapes Go.ChangeAt Go.RowKit Go.Shelf
set_option linter.unusedVariables false
def laid1 : List (String × DataW Unit) := [("math/bits.deBruijn64tab", Rows.laid_math_bits_deBruijn64tab)]
theorem gTab : Tryd.prog.globalNamed "math/bits.deBruijn64tab" = some 0 := by kernel_rfl
theorem tTab : (Tryd.prog.globals[0]?).map (·.type) = some 76 := by kernel_rfl
theorem cellsU8 : Tryd.prog.cellsOf 5 = 1 := by kernel_rfl
/-- The door's own heap meets the condition: three closed facts. -/
theorem door_met (os : Os) (args : Array Value) : laidMetH Tryd.prog laid1 ((World.doorLaid Tryd.prog 400 os).forCall (fun _ _ => 0) ⟨#[], args, []⟩).memory :=
  laidMetH_of_parts3 (fuel := 8) (laidMet_of_run' 8 (by kernel_rfl) (by kernel_rfl)) (by kernel_rfl) (by kernel_rfl)
def tabD : List (DataW Unit) := Lib.deBruijn64tab.map fun (k : Nat) => .lit (.int .u8 (k : Int))
theorem laid_tab : (Rows.laid_math_bits_deBruijn64tab : DataW Unit) = .agg tabD := by rfl
theorem one_of_take {α : Type} {cs : List α} {j : Nat} {v : α} (h : (cs.drop (j * 1)).take 1 = [v]) : cs[j]? = some v := by
  rw [Nat.mul_one] at h
  have h2 := congrArg (fun l => l[0]?) h
  simp only [List.getElem?_take, List.getElem?_drop] at h2
  simpa using h2
/-- What the condition gives the walks: the table's cells. -/
theorem of_laid {W : World} (h : laidMetH Tryd.prog laid1 W) : TabAt 0 Lib.deBruijn64tab W ∧ 0 < W.heap.size := by
  rw [MakeChecks.laidMetH_plain _ _ _ (by kernel_rfl)] at h
  obtain ⟨ps, ⟨g0, t0, cs0, f0, p0, q0, hg0, ht0, hv0, hd0, _, _⟩, _, _⟩ := h
  obtain rfl := Option.some.inj (gTab.symm.trans hg0)
  obtain rfl := Option.some.inj (tTab.symm.trans ht0)
  obtain ⟨xs, m1, _, hx1, hlen, hn3, hel⟩ := DataW.trod_array Tryd.underlying76 hd0
  rw [cellsU8] at hel
  rw [laid_tab] at hx1
  simp only [Prod.mk.injEq, DataW.agg.injEq] at hx1
  have hT : TabAt 0 Lib.deBruijn64tab W := fun j hj => by
    have hj64 : j < 64 := hj
    have h0 := hel j hj64
    have hxj : xs[j]? = some xs[j] := List.getElem?_eq_getElem (by omega)
    rw [hxj] at h0
    obtain ⟨k, e1, e2, _⟩ := DataW.trod_int Tryd.underlying5 h0
    have h3 : (xs.map (·.1))[j]? = tabD[j]? := by rw [← hx1.1]
    rw [List.getElem?_map, hxj, e2] at h3
    unfold tabD at h3
    rw [List.getElem?_map, List.getElem?_eq_getElem hj] at h3
    simp only [Option.map_some, Option.some.injEq, DataW.lit.injEq, Lit.int.injEq, true_and] at h3
    have h4 := World.var?_cell hg0 hv0 j
    rw [h4, ← Array.getElem?_toList, one_of_take e1, h3, List.getD_eq_getElem?_getD, List.getElem?_eq_getElem hj]
    rfl
  have h0 := hT 0 (by decide)
  exact ⟨hT, World.block_lt_of_cell? W _ h0⟩
end Go.Proofs.YtppfplhbfgjjhaaDoor
