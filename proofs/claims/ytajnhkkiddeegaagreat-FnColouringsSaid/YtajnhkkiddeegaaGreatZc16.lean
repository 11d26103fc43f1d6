import Derived.Sort.OwnSortedInts
import Derived.Deep.QuietTactic
import Derived.Test.YtajnhkkiddeegaaGreatZc14
import Derived.Test.YtajnhkkiddeegaaGreatZc15
set_option linter.unusedVariables false
set_option linter.unusedSimpArgs false
namespace Go.Proofs.YtajnhkkiddeegaaGreat
open Go.RowKit Go.Sort Go.Shelf
def encE (x : Int × Int) : List Value := [.int .i64 x.1, .int .i64 x.2]
theorem flat_toList (es : List (Int × Int)) : (flatK encE 2 es.toArray).toList = flatE es := by
  apply List.ext_getElem?
  intro t
  by_cases ht : t < es.length * 2
  · have h1 : (flatK encE 2 es.toArray)[t]! = (encE (es.toArray[t / 2]!))[t % 2]! := get_flatK _ _ _ _ (by simpa using ht)
    have hj : t / 2 < es.length := by omega
    have h2 := flatE_at es (t / 2) hj
    have h3 : es.toArray[t / 2]! = (ea es (t / 2), eb es (t / 2)) := by
      rw [getElem!_pos _ _ (by simpa using hj), List.getElem_toArray, e_pair hj]
    rw [Array.getElem?_toList, Array.getElem?_eq_getElem (by simpa using ht)]
    rw [getElem!_pos _ _ (by simpa using ht)] at h1
    rw [h1, h3]
    rcases (show t % 2 = 0 ∨ t % 2 = 1 by omega) with h0 | h0
    · rw [h0, show t = t / 2 * 2 by omega, Nat.mul_div_cancel _ (by decide), h2.1]; rfl
    · rw [h0, show t = t / 2 * 2 + 1 by omega, show (t / 2 * 2 + 1) / 2 = t / 2 by omega, h2.2]; rfl
  · rw [List.getElem?_eq_none (by simp; omega), List.getElem?_eq_none (by rw [flatE_length]; omega)]
theorem OwnE.holds {base : Nat} {w : World} {g m c : Nat} {es : List (Int × Int)} (h : OwnE base w g m c es) : HoldsK encE 2 w g 0 es.toArray := by
  intro t ht
  have ht' : t < es.length * 2 := by simpa using ht
  rw [Nat.zero_add]
  refine ⟨?_, h.2.frozenAt t⟩
  rw [h.2.cellAt t (by rw [← h.1]; exact ht'), ← flat_toList]
  have : t < (flatK encE 2 es.toArray).size := ht
  rw [Array.getElem?_toList, Array.getElem?_eq_getElem this, getElem!_pos (flatK encE 2 es.toArray) t this]; rfl
end Go.Proofs.YtajnhkkiddeegaaGreat
namespace Go.Proofs.YtajnhkkiddeegaaGreat
open Go.RowKit Go.Sort
def OwnEA (base : Nat) (w : World) (A : Option Addr) (m c : Nat) (es : List (Int × Int)) : Prop := es.length = m ∧ w.ownsRow base 78 2 (.slice A m c) m (flatE es)
theorem OwnEA.nil (base : Nat) (w : World) : OwnEA base w none 0 0 [] := ⟨rfl, World.ownsRow_nil _ _ _ _⟩
theorem OwnE.any {base : Nat} {w : World} {g m c : Nat} {es : List (Int × Int)} (h : OwnE base w g m c es) : OwnEA base w (some ⟨g, 0, none⟩) m c es := h
theorem OwnEA.cases {base : Nat} {w : World} {A : Option Addr} {m c : Nat} {es : List (Int × Int)} (h : OwnEA base w A m c es) : (A = none ∧ m = 0 ∧ c = 0) ∨ ∃ g, A = some ⟨g, 0, none⟩ ∧ OwnE base w g m c es := by
  rcases h.2.2 with ⟨e, e2⟩ | ⟨g, cap, cur, e, hb, hg, hr⟩
  · injection e with e1 e3 e4; exact .inl ⟨e1, e3, e4⟩
  · injection e with e1 e3 e4; subst e1; exact .inr ⟨g, rfl, h⟩
theorem OwnEA.kept {base : Nat} {w w' : World} {A : Option Addr} {m c : Nat} {es : List (Int × Int)} {row : Option Nat} (h : OwnEA base w A m c es) (hg : w.grownBy w' row) (hne : blkOf A = none ∨ blkOf A ≠ row) : OwnEA base w' A m c es :=
  ⟨h.1, h.2.kept hg (by cases A <;> simp [Value.ownBlock, blkOf] at hne ⊢; exact hne)⟩
theorem OwnEA.below {base : Nat} {w w' : World} {A : Option Addr} {m c : Nat} {es : List (Int × Int)} (h : OwnEA base w A m c es) (hb : Below w.heap.size w w') : OwnEA base w' A m c es :=
  h.kept (row := none) (below_grownBy hb none) (by cases A <;> simp [blkOf])
theorem OwnEA.mono {base base' : Nat} {w : World} {A : Option Addr} {m c : Nat} {es : List (Int × Int)} (h : OwnEA base w A m c es) (hb : base' ≤ base) : OwnEA base' w A m c es := by
  refine ⟨h.1, h.2.1, ?_⟩
  rcases h.2.2 with hn | ⟨g', cap, cur, e, hbg, r⟩
  · exact .inl hn
  · exact .inr ⟨g', cap, cur, e, Nat.le_trans hb hbg, r⟩
theorem OwnEA.blk {base : Nat} {w : World} {A : Option Addr} {m c : Nat} {es : List (Int × Int)} (h : OwnEA base w A m c es) : ∀ g, blkOf A = some g → base ≤ g ∧ g < w.heap.size := by
  intro g hg
  rcases h.cases with ⟨rfl, _⟩ | ⟨g', rfl, hb⟩
  · cases hg
  · simp [blkOf] at hg; have := hb.ge; omega
theorem OwnEA.setOther {base : Nat} {w : World} {A : Option Addr} {m c : Nat} {es : List (Int × Int)} (h : OwnEA base w A m c es) {a : Addr} (ha : blkOf A ≠ some a.block) (v : Value) : OwnEA base (w.setCell a v) A m c es :=
  h.kept (row := some a.block) ⟨rfl, rfl, rfl, by simp, fun k _ hk => Below.heap_setCell _ _ _ _ (fun e => hk (by rw [e]))⟩ (.inr ha)
theorem wp_appEA {o : Oper} {a : Act} {K : Act → World → Prop} {Q : Exit → Act → World → Prop} {s x : Operand}
    (ho : o.op = .call { callee := .builtin .append, args := #[s, x], argTypes := #[24, 24] })
    {base : Nat} {A : Option Addr} {m c : Nat} {es : List (Int × Int)} {w1 : World} {B : Nat} {T : TypeId} {fr : Nat × Nat} {p q : Int} (hs : a.eval s = .slice A m c) (hx : a.eval x = .slice (some ⟨B, 0, none⟩) 1 1)
    (hB : w1.heap[B]? = some (.cells #[.int .i64 p, .int .i64 q] T fr))
    (hown : OwnEA base w1 A m c es) (hbase : base ≤ w1.heap.size) (hm : m ≤ 1048576)
    (h : ∀ A' c' w', OwnEA base w' A' (m + 1) c' (es ++ [(p, q)]) → w1.grownBy w' (blkOf A) → LiesAt A A' w1 → K (a.put o.dst (.slice A' (m + 1) c')) w') :
    o.wp Tryz.prog a w1 K Q := by
  obtain ⟨i0, hi, hz0, hz1, hz2⟩ := info_parts infE
  refine wp_append_lies w1 s x 24 ho base 78 i0 (.agg #[.int .i64 0, .int .i64 0]) 2 16 Tryz.underlying24 hi hz0 hz1 hz2 rfl (by decide) (.slice A m c) m (flatE es) hs hown.2
    ⟨B, 0, none⟩ 1 1 [.int .i64 p, .int .i64 q] hx rfl (World.news_of_block (cs := #[.int .i64 p, .int .i64 q]) hB) (fun u hu => by simp at hu; rcases hu with rfl | rfl <;> rfl) (by decide) (by unfold maxLen; omega) (by omega) hbase _ rfl ?_
  intro g' cap w2 hown' hgrow hat _
  have e : (Value.slice A m c).ownBlock = blkOf A := by cases A <;> rfl
  rw [e] at hgrow hat
  exact h _ cap w2 ⟨by simp [hown.1], by rw [flatE_append]; exact hown'⟩ hgrow (hat.imp (fun h => h.symm) fun h => ⟨g', rfl, by omega⟩)
theorem wp_appEA1 {ops : Array Oper} {rest : List Oper} {o : Oper} {a : Act} {Q : Exit → Act → World → Prop} {s x : Operand} (hgd : o.guard = none)
    (ho : o.op = .call { callee := .builtin .append, args := #[s, x], argTypes := #[24, 24] })
    {base : Nat} {A : Option Addr} {m c : Nat} {es : List (Int × Int)} {wr : World} {T : TypeId} {p q : Int} (hs : a.eval s = .slice A m c) {H : Nat} (hx : a.eval x = .slice (some ⟨H, 0, none⟩) 1 1) (hH : wr.heap.size = H)
    (hown : OwnEA base wr A m c es) (hbase : base ≤ wr.heap.size) (hm : m ≤ 1048576)
    (h : ∀ A' c' w', OwnEA base w' A' (m + 1) c' (es ++ [(p, q)]) → wr.grownBy w' (blkOf A) → LiesAt A A' wr → wpList Tryz.prog ops Q rest (a.put o.dst (.slice A' (m + 1) c')) w') :
    wpList Tryz.prog ops Q (o :: rest) a (wr.alloc (.cells #[.int .i64 p, .int .i64 q] T)) := by
  subst hH
  exact wpList_plain hgd fun _ hK => wp_appEA ho hs hx (heap_alloc_new wr _) (hown.below ((Below.refl _ _).alloc (Nat.le_refl _) _)) (by simp; omega) hm
    fun A' c' w' h1 h2 h3 => hK _ _ (h A' c' w' h1 (grownTrans (below_grownBy ((Below.refl _ _).alloc (Nat.le_refl _) _) _) h2) (h3.low (by simp)))
/-- A box of two cells, free to be written. -/
structure Box2F (w : World) (b : Nat) (v0 v1 : Value) : Prop where
  box : Box2 w b v0 v1
  f0 : w.frozen? ⟨b, 0, none⟩ = false
  f1 : w.frozen? ⟨b, 1, none⟩ = false
theorem frozen_new (w : World) (cs : Array Value) (t : TypeId) (k : Nat) : (w.alloc (.cells cs t)).frozen? ⟨w.heap.size, k, none⟩ = false := by
  unfold World.frozen?
  rw [show (w.alloc (.cells cs t)).heap[(⟨w.heap.size, k, none⟩ : Addr).block]? = some (.cells cs t) from heap_alloc_new w _]
  simp
theorem Box2F.made (w : World) (v0 v1 : Value) (t : TypeId) : Box2F (w.alloc (.cells #[v0, v1] t)) w.heap.size v0 v1 := ⟨Box2.made _ _ _ _, frozen_new _ _ _ _, frozen_new _ _ _ _⟩
theorem Box2F.kept {w w' : World} {b : Nat} {v0 v1 : Value} {row : Option Nat} (h : Box2F w b v0 v1) (hg : w.grownBy w' row) (hne : some b ≠ row) : Box2F w' b v0 v1 := by
  refine ⟨h.box.kept hg hne, ?_, ?_⟩
  · have := hg.block b h.box.lt hne
    have h0 := h.f0
    simp only [World.frozen?] at h0 ⊢
    rw [this]; exact h0
  · have := hg.block b h.box.lt hne
    have h0 := h.f1
    simp only [World.frozen?] at h0 ⊢
    rw [this]; exact h0
theorem Box2F.below {w w' : World} {b : Nat} {v0 v1 : Value} (h : Box2F w b v0 v1) (hb : Below w.heap.size w w') : Box2F w' b v0 v1 := h.kept (row := none) (below_grownBy hb none) (by simp)
theorem Box2F.setOther {w : World} {b : Nat} {v0 v1 : Value} (h : Box2F w b v0 v1) {a : Addr} (ha : a.block ≠ b) (v : Value) : Box2F (w.setCell a v) b v0 v1 :=
  h.kept (row := some a.block) ⟨rfl, rfl, rfl, by simp, fun k _ hk => Below.heap_setCell _ _ _ _ (fun e => hk (by rw [e]))⟩ (by simp; exact fun e => ha e.symm)
theorem Box2F.set2 {w : World} {b : Nat} {v0 v1 : Value} (h : Box2F w b v0 v1) (u v : Value) : Box2F ((w.setCell ⟨b, 0, none⟩ u).setCell ⟨b, 1, none⟩ v) b u v := by
  obtain ⟨⟨h0, h1, h2⟩, h3, h4⟩ := h
  refine ⟨⟨by simpa using h0, ?_, ?_⟩, ?_, ?_⟩
  all_goals simp [go_sem, *]
set_option maxRecDepth 100000 in
set_option maxHeartbeats 2000000 in
theorem l01Made_any (n : Int) (b o m c : Nat) (es : List (Int × Int)) (w : World) (h : Eds w b o m es) (hm : m ≤ 1048576) :
    Calls Tryz.prog 98 #[.int .i64 n, .slice (some ⟨b, o, none⟩) m c] w (RetG n (srtE es) w) := by
  have hbb := (by go_grown : Below w.heap.size w (w.alloc (.cells #[.int .i64 0, .slice none 0 0] 26)))
  have PB := Box2F.made w (.int .i64 0) (.slice none 0 0) 26
  go_enter Tryz.func98, Tryz.ntmps98
  go_wp2_with fail
  obtain ⟨w1, hw1⟩ : ∃ w1, w1 = w.alloc (.cells #[.int .i64 0, .slice none 0 0] 26) := ⟨_, rfl⟩
  rw [← hw1] at hbb PB ⊢
  have hz1 : w.heap.size < w1.heap.size := PB.box.lt
  clear hw1
  refine (l01Sort_any b o m c es _ (h.below hbb) hm).mono ?_
  rintro e w2 ⟨g, c2, rfl, O, hb2⟩
  obtain ⟨⟨s1, p1, q1⟩, f1, f2⟩ := PB.below hb2
  have hO := O.ge
  have hB2 := hbb.thenB (by omega) hb2
  have O2 := (O.setOther (a := ⟨w.heap.size, 0, none⟩) (by simp; omega) (.int .i64 n)).setOther (a := ⟨w.heap.size, 1, none⟩) (by simp; omega) (.slice (some ⟨g, 0, none⟩) (srtE es).length c2)
  have P2 := (PB.below hb2).set2 (.int .i64 n) (.slice (some ⟨g, 0, none⟩) (srtE es).length c2)
  have hB3 := (hB2.setCell (p := ⟨w.heap.size, 0, none⟩) (Nat.le_refl _) (.int .i64 n)).setCell (p := ⟨w.heap.size, 1, none⟩) (Nat.le_refl _) (.slice (some ⟨g, 0, none⟩) (srtE es).length c2)
  clear O
  go_wp2_with fail
  obtain ⟨w9, hw9⟩ : ∃ w9, w9 = ((w2.setCell ⟨w.heap.size, 0, none⟩ (.int .i64 n)).setCell ⟨w.heap.size, 1, none⟩ (.slice (some ⟨g, 0, none⟩) (srtE es).length c2)) := ⟨_, rfl⟩
  rw [← hw9] at O2 P2 hB3 ⊢
  obtain ⟨⟨k0, k1, k2⟩, _, _⟩ := P2
  refine bodyPost_ret (v := .agg #[.int .i64 n, .slice (some ⟨g, 0, none⟩) (srtE es).length c2]) ?_ rfl ⟨g, c2, rfl, O2.mono (by omega), hB3⟩
  simp [results, Tryz.results98, go_sem, k1, k2]
end Go.Proofs.YtajnhkkiddeegaaGreat
namespace Go.Proofs.YtajnhkkiddeegaaGreat
open Go.RowKit Go.Sort
theorem OwnEA.src {base : Nat} {w : World} {A : Option Addr} {m c : Nat} {es : List (Int × Int)} (h : OwnEA base w A m c es) : SrcE w A m es := by
  refine ⟨h.1, fun hm => ?_⟩
  rcases h.cases with ⟨_, h0, _⟩ | ⟨g, rfl, hg⟩
  · omega
  · exact ⟨g, 0, rfl, hg.eds⟩
end Go.Proofs.YtajnhkkiddeegaaGreat
