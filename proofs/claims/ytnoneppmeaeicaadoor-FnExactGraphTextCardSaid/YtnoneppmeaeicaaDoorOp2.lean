import Derived.Test.YtnoneppmeaeicaaDoorOp
import Derived.Test.YtnoneppmeaeicaaDoorM3
namespace Go.Proofs.YtnoneppmeaeicaaDoor
open Go.ChangeShapes Go.WideShapes Go.ChangeAt Go.RowKit Go.Joins Go.Deep
set_option linter.unusedVariables false
set_option maxRecDepth 100000 in
theorem open_S {H : Type} {enc : TypeId × Value → H} {W : World} {r : Reach} {b0 : Nat} {v : Value} {d : DataW H} {p : List MemPlace}
    (hv : Value.okWide Tryd.prog W r b0 51 v) (h : DataW.Trod enc Tryd.prog W 0 (fun _ => true) true 51 v d p) :
    ∃ A m c g, v = .slice A m c ∧ SrcI W A m g ∧ m ≤ 9223372036854775807 := by
  obtain ⟨a0, len0, cap0, rfl⟩ := okWide_slice Tryd.underlying51 hv
  obtain ⟨fuel, hf⟩ := h
  rcases open_ints Tryd.underlying51 Tryd.underlying2 (by kernel_rfl) hf with ⟨hcs, _⟩ | ⟨x, l, c, zs, hcs, _, hl, hm, hz, _, hcell, hwz⟩
  · simp [Value.cells] at hcs
    obtain ⟨rfl, rfl, rfl⟩ := hcs
    exact ⟨none, 0, 0, fun _ => 0, rfl, fun h => absurd h (by decide), by decide⟩
  · simp [Value.cells] at hcs
    obtain ⟨rfl, rfl, rfl⟩ := hcs
    have hz' : zs.length = cap0 := by simpa using hz
    refine ⟨some x, len0, cap0, fun j => zs.getD j 0, rfl, fun h0 => ?_, by unfold maxLen at hm; omega⟩
    have h00 := hcell 0 (by omega)
    have hs := spot_none h00
    have hs : x.spot = none := by simpa [Addr.add] using hs
    obtain ⟨b, o, s⟩ := x
    simp only at hs
    subst hs
    refine ⟨b, o, rfl, ⟨?_, fun j hj => ?_⟩⟩
    · have := World.block_lt_of_cell? W _ h00
      simpa [Addr.add] using this
    · have := hcell j (by omega)
      rwa [Addr.add_lit] at this
end Go.Proofs.YtnoneppmeaeicaaDoor
