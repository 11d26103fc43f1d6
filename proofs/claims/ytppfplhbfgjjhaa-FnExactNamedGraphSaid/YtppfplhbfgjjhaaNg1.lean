import Derived.Test.YtppfplhbfgjjhaaPe
import Derived.Test.YtppfplhbfgjjhaaKp
import Derived.Lib.SliceRun
import Derived.Lib.AppendZerosOnto
import Derived.Lib.AppendZeros
namespace Go.Proofs.Ytppfplhbfgjjhaa
open Go.RowKit Go.Sort
/-! ### Lists of edges: joined, cut, written -/
theorem OwnEA.cut {base : Nat} {w : World} {A : Option Addr} {m c : Nat} {es : List (Int × Int)} (h : OwnEA base w A m c es) {k : Nat} (hk : k ≤ m) : OwnEA base w A k c (es.take k) := by
  refine ⟨by rw [List.length_take, h.1]; omega, by rw [flatE_length, List.length_take, h.1]; omega, ?_⟩
  rcases h.2.2 with ⟨e, h0⟩ | ⟨g, cap, cur, e, hb, hg, h1, h2, h3, h4⟩
  · injection e with e1 e2 e3
    subst e1 e2 e3
    obtain rfl : k = 0 := by omega
    exact .inl ⟨rfl, rfl⟩
  · injection e with e1 e2 e3
    subst e1 e3
    refine .inr ⟨g, _, cur, rfl, hb, hg, by omega, h2, h3, ?_⟩
    have h5 : flatE (es.take k) = (flatE es).take (k * 2) := by
      have h6 : flatE es = flatE (es.take k) ++ flatE (es.drop k) := by rw [← flatE_append, List.take_append_drop]
      have hl2 : (flatE (es.take k)).length = k * 2 := by rw [flatE_length, List.length_take, h.1]; omega
      have h7 : (flatE (es.take k) ++ flatE (es.drop k)).take (k * 2) = flatE (es.take k) := by
        rw [List.take_append_of_le_length (by omega)]
        exact List.take_of_length_le (by omega)
      rw [h6, h7]
    rw [h5, ← h4, List.take_take, Nat.min_eq_left (by omega)]
theorem OwnEA.setTail {base : Nat} {w : World} {g m c : Nat} {es : List (Int × Int)} (h : OwnEA base w (some ⟨g, 0, none⟩) m c es) {j : Nat} (hj : m * 2 ≤ j) (v : Value) : OwnEA base (w.setCell ⟨g, j, none⟩ v) (some ⟨g, 0, none⟩) m c es := by
  refine ⟨h.1, h.2.1, ?_⟩
  rcases h.2.2 with ⟨e, _⟩ | ⟨g', cap, cur, e, hb, hg, h1, h2, h3, h4⟩
  · cases e
  · injection e with e1 e2 e3
    injection e1 with e1
    injection e1 with e1
    subst e1 e3
    refine .inr ⟨g, _, cur.setIfInBounds j v, rfl, hb, ?_, h1, h2, by simpa using h3, ?_⟩
    · have hlt : g < w.heap.size := (Array.getElem?_eq_some_iff.1 hg).1
      have hgv := (Array.getElem?_eq_some_iff.1 hg).2
      simp [World.setCell, hlt, Array.getElem_modify, hgv]
    · rw [← h4]
      simp only [Array.toList_setIfInBounds]
      rw [List.take_set_of_le (by omega)]
theorem eds_lit {wr : World} {cs : Array Value} {T : TypeId} {ys : List (Int × Int)} (h : cs.toList = flatE ys) : Eds (wr.alloc (.cells cs T)) wr.heap.size 0 ys.length ys := by
  have hh := heap_alloc_new wr (.cells cs T)
  have hc : ∀ k : Nat, (wr.alloc (.cells cs T)).cell? ⟨wr.heap.size, k, none⟩ = (flatE ys)[k]? := fun k => by
    unfold World.cell?
    rw [show (wr.alloc (.cells cs T)).heap[(⟨wr.heap.size, k, none⟩ : Addr).block]? = some (.cells cs T) from hh, ← h]
    simp
  refine ⟨rfl, by simp, fun j hj => ?_, fun j hj => ?_⟩
  · rw [Nat.zero_add, hc]; exact (flatE_at ys j hj).1
  · rw [Nat.zero_add, hc]; exact (flatE_at ys j hj).2
theorem wp_appX {ops : Array Oper} {rest : List Oper} {o : Oper} {a : Act} {Q : Exit → Act → World → Prop} {s x : Operand} (hgd : o.guard = none)
    (ho : o.op = .call { callee := .builtin .append, args := #[s, x], argTypes := #[28, 28] })
    {base : Nat} {A : Option Addr} {m c : Nat} {es ys : List (Int × Int)} {w1 : World} {B o2 l c2 : Nat} (hs : a.eval s = .slice A m c) (hx : a.eval x = .slice (some ⟨B, o2, none⟩) l c2)
    (hE : Eds w1 B o2 l ys) (hl0 : 0 < l) (hl : l ≤ 1048576) (hown : OwnEA base w1 A m c es) (hbase : base ≤ w1.heap.size) (hm : m ≤ 1048576)
    (h : ∀ A' c' w', OwnEA base w' A' (m + l) c' (es ++ ys) → w1.grownBy w' (blkOf A) → wpList Try.prog ops Q rest (a.put o.dst (.slice A' (m + l) c')) w') :
    wpList Try.prog ops Q (o :: rest) a w1 := by
  obtain ⟨i0, hi, hz0, hz1, hz2⟩ := info_parts infE
  refine wpList_plain hgd fun K hK => wp_append_lies w1 s x 28 ho base 98 i0 (.agg #[.int .i64 0, .int .i64 0]) 2 16 Try.underlying28 hi hz0 hz1 hz2 rfl (by decide) (.slice A m c) m (flatE es) hs hown.2
    ⟨B, o2, none⟩ l c2 (flatE ys) hx (by rw [flatE_length, hE.len]) (fun j u hj => ?_) (fun u hu => ?_) hl0 (by unfold maxLen; omega) (by omega) hbase _ rfl ?_
  · have hjl : j < ys.length * 2 := by
      have := (List.getElem?_eq_some_iff.1 hj).1
      rwa [flatE_length] at this
    have h2 := flatE_at ys (j / 2) (by omega)
    have hj2 : j / 2 < l := by have := hE.len; omega
    rw [Addr.add_lit]
    rcases (show j % 2 = 0 ∨ j % 2 = 1 by omega) with h0 | h0
    · have e : j = j / 2 * 2 := by omega
      rw [e] at hj ⊢
      rw [h2.1] at hj
      rw [hE.ca (j / 2) hj2]; exact hj
    · have e : j = j / 2 * 2 + 1 := by omega
      rw [e] at hj ⊢
      rw [h2.2] at hj
      rw [← Nat.add_assoc, hE.cb (j / 2) hj2]; exact hj
  · simp only [flatE, List.mem_flatMap] at hu
    obtain ⟨y, _, hu⟩ := hu
    simp at hu
    rcases hu with rfl | rfl <;> rfl
  · intro g2 cap w2 hown' hgrow hat _
    have e : (Value.slice A m c).ownBlock = blkOf A := by cases A <;> rfl
    rw [e] at hgrow
    exact hK _ _ (h (some ⟨g2, 0, none⟩) cap w2 ⟨by rw [List.length_append, hown.1, hE.len], by rw [flatE_append]; exact hown'⟩ hgrow)
/-- A list of edges that is written out, appended. -/
theorem wp_appB {ops : Array Oper} {rest : List Oper} {o : Oper} {a : Act} {Q : Exit → Act → World → Prop} {s x : Operand} (ys : List (Int × Int)) (hgd : o.guard = none)
    (ho : o.op = .call { callee := .builtin .append, args := #[s, x], argTypes := #[28, 28] })
    {base : Nat} {A : Option Addr} {m c : Nat} {es : List (Int × Int)} {wr : World} {cs : Array Value} {T : TypeId} (hs : a.eval s = .slice A m c) {H l : Nat} (hx : a.eval x = .slice (some ⟨H, 0, none⟩) l l) (hH : wr.heap.size = H) (hcs : cs.toList = flatE ys) (hyl : ys.length = l) (hl0 : 0 < l) (hl : l ≤ 1048576)
    (hown : OwnEA base wr A m c es) (hbase : base ≤ wr.heap.size) (hm : m ≤ 1048576)
    (h : ∀ A' c' w', OwnEA base w' A' (m + l) c' (es ++ ys) → wr.grownBy w' (blkOf A) → wpList Try.prog ops Q rest (a.put o.dst (.slice A' (m + l) c')) w') :
    wpList Try.prog ops Q (o :: rest) a (wr.alloc (.cells cs T)) := by
  subst hH hyl
  exact wp_appX hgd ho hs hx (eds_lit hcs) hl0 hl (hown.below ((Below.refl _ _).alloc (Nat.le_refl _) _)) (by simp; omega) hm
    fun A' c' w' h1 h2 => h A' c' w' h1 (grownTrans (below_grownBy ((Below.refl _ _).alloc (Nat.le_refl _) _) _) h2)
/-- The call returns a new list of edges. -/
def RetEA (ys : List (Int × Int)) (w : World) (e : Ending) (w' : World) : Prop := ∃ A c, e = .returned (.slice A ys.length c) ∧ OwnEA w.heap.size w' A ys.length c ys ∧ Below w.heap.size w w'
theorem OwnEA.grown {base : Nat} {w w' : World} {A : Option Addr} {m c : Nat} {es : List (Int × Int)} (h : OwnEA base w A m c es) {B : Nat} {w0 : World} (hb : Below B w0 w) (hB : B ≤ base) (hg : w.grownBy w' (blkOf A)) (hB0 : B ≤ w.heap.size) : Below B w0 w' :=
  hb.grown hg hB0 (fun y hy => by have := (h.blk y hy).1; omega)
set_option maxRecDepth 100000 in
theorem growE_any (n : Nat) (w : World) (h0 : 0 < n) (h1 : n ≤ 1000) : Calls Try.prog 139 #[.slice none 0 0, .int .i64 n] w (fun e w' => ∃ A c, e = .returned (.slice A 0 c) ∧ OwnEA w.heap.size w' A 0 c [] ∧ Below w.heap.size w w') := by
  obtain ⟨i0, hi, hz0, hz1, hz2⟩ := info_parts infE
  have hn1 : ¬ ((n : Int) < 0) := by omega
  have hn2 : (0 : Int) < n := by omega
  obtain ⟨G, hG⟩ : ∃ G, G = grownCap w n 0 98 := ⟨_, rfl⟩
  have hrz : ∀ ty, (Builtin.append_ #[28, 3] ty #[.slice none 0 0, .int .i64 n]).run Try.prog w = .ok (.slice (some ⟨w.heap.size, 0, none⟩) n G) (w.drew.alloc (.cells (Builtin.zeroCells (Value.agg #[.int .i64 0, .int .i64 0]).cells n ++ Builtin.zeroCells (Value.agg #[.int .i64 0, .int .i64 0]).cells (G - n)) 98)) := fun ty => by
    have h := Lib.run_append_grow_zeros (P := Try.prog) w 28 3 ty 98 i0 (.agg #[.int .i64 0, .int .i64 0]) .i64 .i64 Try.underlying28 Try.underlying3 hi hz0 none 0 0 [] (run_firstCells_none w.drew i0.size 0 0 0) n h0 (by omega) (by omega) (by omega) (by rw [hz2]; omega)
      (growslice_fits (by omega) (by rw [hz2]; omega))
    rw [Nat.zero_add, ← hG] at h
    simpa using h
  have hGn : n ≤ G := by rw [hG]; exact grownCap_ge w _ _ _
  have hGm : G ≤ maxLen := by rw [hG]; exact grownCap_le_maxLen w _ _ _ (by unfold maxLen; omega)
  have hG63 : G ≤ 9223372036854775807 := by unfold maxLen at hGm; omega
  have HG := Lib.hid hGm
  clear hG hGm
  go_enter Try.func139, Try.ntmps139
  go_wp2_with (at_builtin; refine Lib.wpList_append_run _ rfl _ _ _ _ rfl _ _ rfl rfl _ _ (hrz _) ?_)
  go_ret
  refine ⟨_, _, rfl, ⟨rfl, rfl, .inr ⟨w.heap.size, G, _, rfl, Nat.le_refl _, heap_alloc_new _ _, Nat.zero_le _, HG.out, ?_, by simp [flatE]⟩⟩, (Below.refl _ _).drew.alloc (Nat.le_refl _) _⟩
  simp [Builtin.zeroCells, Value.cells]
  omega
end Go.Proofs.Ytppfplhbfgjjhaa
