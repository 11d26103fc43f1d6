import Derived.Test.YtnoneppmeaeicaaDoorRows
import Derived.Test.YtnoneppmeaeicaaDoorBase
import Derived.WalkKit
import Derived.ProofKit
import Derived.OpenShut
import Derived.ShutString
import Derived.ChangeOld
import Derived.Below
import Derived.Lib.SmallJoins
import Derived.Deep.Slices
namespace Go.Proofs.YtnoneppmeaeicaaDoor
open Go.ChangeShapes Go.WideShapes Go.ChangeAt Go.RowKit Go.Joins Go.Deep
set_option linter.unusedVariables false
theorem own : ownKnob Tryd.prog.godebug = none := by kernel_rfl
theorem laidOut : laidOutB Tryd.prog = true := by kernel_rfl
theorem cellsLG : Tryd.prog.cellsOf 24 = 2 := by kernel_rfl
theorem cellsPair : Tryd.prog.cellsOf 43 = 2 := by kernel_rfl
theorem cellsI64 : Tryd.prog.cellsOf 2 = 1 := by kernel_rfl
theorem spot_none {W : World} {a : Addr} {v : Value} (h : W.cell? a = some v) : a.spot = none := by
  unfold World.cell? at h
  split at h
  · split at h
    · cases h
    · rename_i hs; simpa using hs
  · cases h
theorem list2 {α : Type} : ∀ {l : List α}, l.length = 2 → ∃ a b, l = [a, b]
  | [a, b], _ => ⟨a, b, rfl⟩
set_option maxRecDepth 100000 in
theorem open_pair {H : Type} {enc : TypeId × Value → H} {W : World} {sp : Nat → Bool} {hd : Bool} {n : Nat} {cs : List Value} {x : DataW H × List MemPlace} {a : Addr}
    (h : DataW.trod enc Tryd.prog W 0 sp hd n 43 cs = some x) (hc : W.cells? 0 a 2 = some cs) :
    ∃ i j : Int, W.cell? (a.add 0) = some (.int .i64 i) ∧ W.cell? (a.add 1) = some (.int .i64 j) := by
  obtain ⟨xs, m, _, _, hl, hxs, hel⟩ := DataW.trod_array Tryd.underlying43 h
  rw [cellsPair] at hl
  obtain ⟨c0, c1, rfl⟩ := list2 hl
  have h0 := hel 0 (by decide)
  have h1 := hel 1 (by decide)
  rw [cellsI64] at h0 h1
  clear h hel
  obtain ⟨y0, y1, rfl⟩ := list2 hxs
  obtain ⟨i, e0, _, _⟩ := DataW.trod_int Tryd.underlying2 h0
  obtain ⟨j, e1, _, _⟩ := DataW.trod_int Tryd.underlying2 h1
  clear h0 h1
  simp at e0 e1
  subst e0 e1
  unfold World.cells? at hc
  rw [if_pos (Nat.zero_le _)] at hc
  refine ⟨i, j, ?_, ?_⟩
  · cases k0 : W.cell? (a.add 0) <;> cases k1 : W.cell? (a.add 1) <;> simp [List.range_succ, k0, k1] at hc
    exact congrArg some hc.1
  · cases k0 : W.cell? (a.add 0) <;> cases k1 : W.cell? (a.add 1) <;> simp [List.range_succ, k0, k1] at hc
    exact congrArg some hc.2
theorem add_add' (a : Addr) (i : Nat) : (a.add i).add 0 = a.add i := by simp [Addr.add]
set_option maxRecDepth 100000 in
theorem open_edges {H : Type} {enc : TypeId × Value → H} {W : World} {n : Nat} {v : Value} {x : DataW H × List MemPlace}
    (h : DataW.trod enc Tryd.prog W 0 (fun _ => true) true n 22 [v] = some x) : ∃ A m c es, v = .slice A m c ∧ SrcE W A m es ∧ m ≤ 9223372036854775807 := by
  rcases open_slice Tryd.underlying22 h with ⟨hcs, _⟩ | ⟨a, len, cap, m, n', D, Pl, hcs, _, hl, hm, hmm, _, hel⟩
  · obtain rfl : v = .slice none 0 0 := by simpa using hcs
    exact ⟨none, 0, 0, [], rfl, ⟨rfl, fun h => absurd h (by decide)⟩, by decide⟩
  · obtain rfl : v = .slice (some a) len cap := by simpa using hcs
    rw [cellsPair] at hel
    simp only [if_true] at hmm
    rw [hmm] at hel
    clear hmm
    have hel' : ∀ i, i < len → ∃ p : Int × Int, W.cell? ((a.add (i * 2)).add 0) = some (.int .i64 p.1) ∧ W.cell? ((a.add (i * 2)).add 1) = some (.int .i64 p.2) := by
      intro i hi
      obtain ⟨cs', hc, ht⟩ := hel i (Nat.lt_of_lt_of_le hi hl)
      obtain ⟨u, v, h1, h2⟩ := open_pair ht hc
      exact ⟨(u, v), h1, h2⟩
    clear hel h
    obtain ⟨f, hf⟩ := choose_lt (p := fun i (p : Int × Int) => W.cell? ((a.add (i * 2)).add 0) = some (.int .i64 p.1) ∧ W.cell? ((a.add (i * 2)).add 1) = some (.int .i64 p.2)) hel'
    refine ⟨some a, len, cap, (List.range len).map f, rfl, ⟨by simp, fun h0 => ?_⟩, by unfold maxLen at hm; omega⟩
    have h00 := (hf 0 h0).1
    have hs := spot_none h00
    have hs : a.spot = none := by simpa [Addr.add] using hs
    obtain ⟨b, o, s⟩ := a
    simp only at hs
    subst hs
    refine ⟨b, o, rfl, ⟨by simp, ?_, fun j hj => ?_, fun j hj => ?_⟩⟩
    · have := World.block_lt_of_cell? W _ h00
      simpa [Addr.add] using this
    · have := (hf j hj).1
      rw [add_add', Addr.add_lit] at this
      rw [this]; simp [ea, hj]
    · have := (hf j hj).2
      rw [Addr.add_lit, Addr.add_lit] at this
      rw [this]; simp [eb, hj]
set_option maxRecDepth 100000 in
theorem open_LG {H : Type} {enc : TypeId × Value → H} {W : World} {r : Reach} {b0 : Nat} {v : Value} {d : DataW H} {p : List MemPlace}
    (hv : Value.okWide Tryd.prog W r b0 24 v) (h : DataW.Trod enc Tryd.prog W 0 (fun _ => true) true 24 v d p) :
    ∃ n A m c es, v = .agg #[.int .i64 n, .slice A m c] ∧ SrcE W A m es ∧ m ≤ 9223372036854775807 := by
  obtain ⟨v0, v1, y0, y1, k, rfl, _, _, h0, h1⟩ := open_agg2 Tryd.underlying24 (by kernel_rfl) cellsLG hv h
  obtain ⟨n, e0, _, _⟩ := DataW.trod_int Tryd.underlying2 h0
  obtain ⟨A, m, c, es, e1, hS, hm⟩ := open_edges h1
  obtain rfl : v0 = .int .i64 n := by simpa using e0
  subst e1
  exact ⟨n, A, m, c, es, rfl, hS, hm⟩
set_option maxRecDepth 100000 in
theorem open_I {H : Type} {enc : TypeId × Value → H} {W : World} {r : Reach} {b0 : Nat} {v : Value} {d : DataW H} {p : List MemPlace}
    (hv : Value.okWide Tryd.prog W r b0 2 v) (h : DataW.Trod enc Tryd.prog W 0 (fun _ => true) true 2 v d p) :
    ∃ a : Int, (-9223372036854775808 ≤ a ∧ a ≤ 9223372036854775807) ∧ v = .int .i64 a := by
  obtain ⟨a, rfl, _, _, wa⟩ := open_int Tryd.underlying2 hv h
  exact ⟨a, bounds_i64 wa, rfl⟩
end Go.Proofs.YtnoneppmeaeicaaDoor
