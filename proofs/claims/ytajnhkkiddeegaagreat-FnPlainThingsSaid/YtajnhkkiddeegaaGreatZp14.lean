import Derived.Sort.OwnSortedInts
import Derived.Deep.QuietTactic
import Derived.Test.YtajnhkkiddeegaaGreatZp12
import Derived.Test.YtajnhkkiddeegaaGreatZp13
set_option linter.unusedVariables false
set_option linter.unusedSimpArgs false
namespace Go.Proofs.YtajnhkkiddeegaaGreat
open Go.RowKit Go.Sort Go.Shelf
def encE (x : Int × Int) : List Value := [.int .i64 x.1, .int .i64 x.2]
def cfE (x y : Int × Int) : Int := cmp2 x.1 x.2 y.1 y.2
theorem ltE_eq (x y : Int × Int) : ltOf cfE x y = befE x y := by
  unfold ltOf cfE befE
  cases h : befB x.1 x.2 y.1 y.2 with
  | true => simp [(cmp2_lt _ _ _ _).2 h]
  | false =>
    have : ¬ cmp2 x.1 x.2 y.1 y.2 < 0 := fun h2 => by rw [(cmp2_lt _ _ _ _).1 h2] at h; cases h
    simp [this]
theorem swoE : SWO (ltOf cfE) where
  irrefl x := by rw [ltE_eq]; simp [befE, befB]
  trans x y z h1 h2 := by rw [ltE_eq, befE_iff] at *; omega
  ntrans x y z h1 h2 := by
    have g1 : ¬ befE x y = true := by rw [← ltE_eq]; simp [h1]
    have g2 : ¬ befE y z = true := by rw [← ltE_eq]; simp [h2]
    rw [befE_iff] at g1 g2
    cases h : ltOf cfE x z with
    | false => rfl
    | true => rw [ltE_eq, befE_iff] at h; omega
theorem flat_toList (es : List (Int × Int)) : (flatK encE 2 es.toArray).toList = flatE es := by
  apply List.ext_getElem?
  intro t
  by_cases ht : t < es.length * 2
  · have h1 : (flatK encE 2 es.toArray)[t]! = (encE (es.toArray[t / 2]!))[t % 2]! := get_flatK _ _ _ _ (by simpa using ht)
    have hj : t / 2 < es.length := by omega
    have h2 := flatE_at es (t / 2) hj
    have h3 : es.toArray[t / 2]! = (ea es (t / 2), eb es (t / 2)) := by
      rw [getElem!_pos _ _ (by simpa using hj), List.getElem_toArray, e_pair hj]
    rw [Array.getElem?_toList, Array.getElem?_eq_getElem (by simpa using ht)]
    rw [getElem!_pos _ _ (by simpa using ht)] at h1
    rw [h1, h3]
    rcases (show t % 2 = 0 ∨ t % 2 = 1 by omega) with h0 | h0
    · rw [h0, show t = t / 2 * 2 by omega, Nat.mul_div_cancel _ (by decide), h2.1]; rfl
    · rw [h0, show t = t / 2 * 2 + 1 by omega, show (t / 2 * 2 + 1) / 2 = t / 2 by omega, h2.2]; rfl
  · rw [List.getElem?_eq_none (by simp; omega), List.getElem?_eq_none (by rw [flatE_length]; omega)]
theorem take_putId (cur F : Array Value) (h : F.size ≤ cur.size) : (putCells id 0 F cur).toList.take F.size = F.toList := by
  apply List.ext_getElem?
  intro j
  by_cases hj : j < F.size
  · rw [List.getElem?_take_of_lt hj, Array.getElem?_toList]
    simp [putCells, hj, show j < cur.size by omega]
  · rw [List.getElem?_take_eq_none (by omega), List.getElem?_eq_none (by simp; omega)]
theorem heap_sortedK {w : World} {g n : Nat} {os : Array Obj} {cur : Array Value} {e : TypeId} {fr : Nat × Nat} (F : Array Value) (hb : w.heap[g]? = some (.cells cur e fr)) :
    (grow (putRow id (Sort.ahead w n) g 0 F) os).heap[g]? = some (.cells (putCells id 0 F cur) e fr) := by
  have hg : g < w.heap.size := (Array.getElem?_eq_some_iff.1 hb).1
  rw [heap_grow_old _ _ (by simpa using hg)]
  simp [putRow, mapBlock, Sort.ahead, Array.getElem?_modify, hb, onCells]
theorem grownBy_sortedK {w : World} {g n : Nat} {os : Array Obj} (F : Array Value) : w.grownBy (grow (putRow id (Sort.ahead w n) g 0 F) os) (some g) := by
  refine ⟨rfl, rfl, rfl, by simp, fun k hk hne => ?_⟩
  rw [heap_grow_old _ _ (by simpa using hk)]
  have : g ≠ k := fun e => hne (by rw [e])
  simp [putRow, mapBlock, Sort.ahead, Array.getElem?_modify, this]
theorem OwnE.sorted {base : Nat} {w : World} {g m c n : Nat} {os : Array Obj} {es es' : List (Int × Int)} (h : OwnE base w g m c es) (hl : es'.length = es.length) :
    OwnE base (grow (putRow id (Sort.ahead w n) g 0 (flatK encE 2 es'.toArray)) os) g m c es' := by
  obtain ⟨h0, h1, h2⟩ := h
  refine ⟨by rw [hl]; exact h0, by rw [flatE_length, hl, h0], ?_⟩
  rcases h2 with ⟨e, _⟩ | ⟨g', cap, cur, e, hb, hg, hn, hcap, hcs, hct⟩
  · cases e
  · cases e
    refine .inr ⟨g, c, _, rfl, hb, heap_sortedK _ hg, hn, hcap, by simp [putCells, hcs], ?_⟩
    have hs : (flatK encE 2 es'.toArray).size = m * 2 := by rw [size_flatK]; simp [hl, h0]
    rw [← hs, take_putId cur _ (by rw [hs, hcs]; exact Nat.mul_le_mul_right _ hn), flat_toList]
theorem OwnE.holds {base : Nat} {w : World} {g m c : Nat} {es : List (Int × Int)} (h : OwnE base w g m c es) : HoldsK encE 2 w g 0 es.toArray := by
  intro t ht
  have ht' : t < es.length * 2 := by simpa using ht
  rw [Nat.zero_add]
  refine ⟨?_, h.2.frozenAt t⟩
  rw [h.2.cellAt t (by rw [← h.1]; exact ht'), ← flat_toList]
  have : t < (flatK encE 2 es.toArray).size := ht
  rw [Array.getElem?_toList, Array.getElem?_eq_getElem this, getElem!_pos (flatK encE 2 es.toArray) t this]; rfl
set_option maxHeartbeats 1000000 in
theorem compareE_lay (a b c d : Int) (W : World) : Calls Tryz.prog 131 #[.agg #[.int .i64 a, .int .i64 b], .agg #[.int .i64 c, .int .i64 d]] W (fun e w' => e = .returned (.int .i64 (cmp2 a b c d)) ∧ ∃ q os', w' = grow (W.drewN q) os') := by
  go_enter Tryz.func131, Tryz.ntmps131
  go_wp2_with fail
  go_quiet ((go_at_call 148; refine Calls.quiet_of_same ((sCompare2_any _ _ _ _ _ _ a b c d _ (by simp [go_sem]) (by simp [go_sem]) (by simp [go_sem]) (by simp [go_sem])).mono fun _ _ ⟨he, hw⟩ => ⟨he, hw.symm⟩)))
  go_wp2_with fail
  go_ret
  exact ⟨rfl, nq, _, by rw [alloc_eq_grow, alloc_eq_grow, grow_grow]; rfl⟩
theorem cmpLaysE (blk off size : Nat) (w : World) : CmpLays Tryz.prog 131 #[] encE 2 cfE blk off size w :=
  fun _ _ _ _ x y => compareE_lay x.1 x.2 y.1 y.2 _
theorem sortF_any (base g m c : Nat) (es : List (Int × Int)) (w : World) (h : OwnE base w g m c es) (hm : m ≤ 1048576) :
    Calls Tryz.prog 133 #[.slice (some ⟨g, 0, none⟩) m c, .func (.func 131) #[] #[]] w (fun e w' => e = .returned (.tuple #[]) ∧ (∃ xs, xs.Perm es ∧ SortedQ xs ∧ OwnE base w' g m c xs) ∧ w.grownBy w' (some g)) := by
  have eg : ∀ args w, (callFunc 131 args).run Tryz.prog w = .ok (.enter 131 args) w := enters_of Tryz.func131 (by kernel_rfl) rfl
  have hcon := AnyQ.slices_SortFunc sortE 2 Tryz.isAgg78 Tryz.sizeOf78 encE (fun _ => rfl) (fun x v hv => by simp [encE] at hv; rcases hv with rfl | rfl <;> rfl) cfE swoE 131 #[] g 0 c es.toArray w eg (cmpLaysE g 0 es.toArray.size w) h.holds h.ge.2 (by simp; have := h.1; omega)
  have hs : es.toArray.size = m := by simp [h.1]
  rw [hs] at hcon
  refine Calls.mono hcon ?_
  rintro e w' ⟨rfl, d', n, os, hp, hso, rfl⟩
  have hsz := hp.1
  have hpl : d'.toList.Perm es := by
    have := hp.2.2
    rw [← hs] at this
    rwa [show d'.extract 0 es.toArray.size = d' by rw [← hsz]; exact Array.extract_size, Array.extract_size] at this
  refine ⟨rfl, ⟨d'.toList, hpl, ?_, ?_⟩, grownBy_sortedK _⟩
  · unfold SortedQ
    rw [List.pairwise_iff_getElem]
    intro i j hi hj hij
    have hi' : i < d'.size := by simpa using hi
    have hj' : j < d'.size := by simpa using hj
    have := hso i j (Nat.zero_le _) hij (by rw [← hs, ← hsz]; exact hj')
    rw [ltE_eq, getElem!_pos d' j hj', getElem!_pos d' i hi'] at this
    simp [leE, this]
  · have := OwnE.sorted (n := n) (os := os) h (es' := d'.toList) (by simp [hsz])
    simp only [Array.toArray_toList] at this
    exact this
end Go.Proofs.YtajnhkkiddeegaaGreat
namespace Go.Proofs.YtajnhkkiddeegaaGreat
open Go.RowKit Go.Sort
def OwnEA (base : Nat) (w : World) (A : Option Addr) (m c : Nat) (es : List (Int × Int)) : Prop := es.length = m ∧ w.ownsRow base 78 2 (.slice A m c) m (flatE es)
theorem OwnEA.nil (base : Nat) (w : World) : OwnEA base w none 0 0 [] := ⟨rfl, World.ownsRow_nil _ _ _ _⟩
theorem OwnE.any {base : Nat} {w : World} {g m c : Nat} {es : List (Int × Int)} (h : OwnE base w g m c es) : OwnEA base w (some ⟨g, 0, none⟩) m c es := h
theorem OwnEA.cases {base : Nat} {w : World} {A : Option Addr} {m c : Nat} {es : List (Int × Int)} (h : OwnEA base w A m c es) : (A = none ∧ m = 0 ∧ c = 0) ∨ ∃ g, A = some ⟨g, 0, none⟩ ∧ OwnE base w g m c es := by
  rcases h.2.2 with ⟨e, e2⟩ | ⟨g, cap, cur, e, hb, hg, hr⟩
  · injection e with e1 e3 e4; exact .inl ⟨e1, e3, e4⟩
  · injection e with e1 e3 e4; subst e1; exact .inr ⟨g, rfl, h⟩
theorem OwnEA.kept {base : Nat} {w w' : World} {A : Option Addr} {m c : Nat} {es : List (Int × Int)} {row : Option Nat} (h : OwnEA base w A m c es) (hg : w.grownBy w' row) (hne : blkOf A = none ∨ blkOf A ≠ row) : OwnEA base w' A m c es :=
  ⟨h.1, h.2.kept hg (by cases A <;> simp [Value.ownBlock, blkOf] at hne ⊢; exact hne)⟩
theorem OwnEA.below {base : Nat} {w w' : World} {A : Option Addr} {m c : Nat} {es : List (Int × Int)} (h : OwnEA base w A m c es) (hb : Below w.heap.size w w') : OwnEA base w' A m c es :=
  h.kept (row := none) (below_grownBy hb none) (by cases A <;> simp [blkOf])
theorem OwnEA.mono {base base' : Nat} {w : World} {A : Option Addr} {m c : Nat} {es : List (Int × Int)} (h : OwnEA base w A m c es) (hb : base' ≤ base) : OwnEA base' w A m c es := by
  refine ⟨h.1, h.2.1, ?_⟩
  rcases h.2.2 with hn | ⟨g', cap, cur, e, hbg, r⟩
  · exact .inl hn
  · exact .inr ⟨g', cap, cur, e, Nat.le_trans hb hbg, r⟩
theorem OwnEA.blk {base : Nat} {w : World} {A : Option Addr} {m c : Nat} {es : List (Int × Int)} (h : OwnEA base w A m c es) : ∀ g, blkOf A = some g → base ≤ g ∧ g < w.heap.size := by
  intro g hg
  rcases h.cases with ⟨rfl, _⟩ | ⟨g', rfl, hb⟩
  · cases hg
  · simp [blkOf] at hg; have := hb.ge; omega
theorem OwnEA.setOther {base : Nat} {w : World} {A : Option Addr} {m c : Nat} {es : List (Int × Int)} (h : OwnEA base w A m c es) {a : Addr} (ha : blkOf A ≠ some a.block) (v : Value) : OwnEA base (w.setCell a v) A m c es :=
  h.kept (row := some a.block) ⟨rfl, rfl, rfl, by simp, fun k _ hk => Below.heap_setCell _ _ _ _ (fun e => hk (by rw [e]))⟩ (.inr ha)
theorem wp_appEA {o : Oper} {a : Act} {K : Act → World → Prop} {Q : Exit → Act → World → Prop} {s x : Operand}
    (ho : o.op = .call { callee := .builtin .append, args := #[s, x], argTypes := #[24, 24] })
    {base : Nat} {A : Option Addr} {m c : Nat} {es : List (Int × Int)} {w1 : World} {B : Nat} {T : TypeId} {fr : Nat × Nat} {p q : Int} (hs : a.eval s = .slice A m c) (hx : a.eval x = .slice (some ⟨B, 0, none⟩) 1 1)
    (hB : w1.heap[B]? = some (.cells #[.int .i64 p, .int .i64 q] T fr))
    (hown : OwnEA base w1 A m c es) (hbase : base ≤ w1.heap.size) (hm : m ≤ 1048576)
    (h : ∀ A' c' w', OwnEA base w' A' (m + 1) c' (es ++ [(p, q)]) → w1.grownBy w' (blkOf A) → LiesAt A A' w1 → K (a.put o.dst (.slice A' (m + 1) c')) w') :
    o.wp Tryz.prog a w1 K Q := by
  obtain ⟨i0, hi, hz0, hz1, hz2⟩ := info_parts infE
  refine wp_append_lies w1 s x 24 ho base 78 i0 (.agg #[.int .i64 0, .int .i64 0]) 2 16 Tryz.underlying24 hi hz0 hz1 hz2 rfl (by decide) (.slice A m c) m (flatE es) hs hown.2
    ⟨B, 0, none⟩ 1 1 [.int .i64 p, .int .i64 q] hx rfl (World.news_of_block (cs := #[.int .i64 p, .int .i64 q]) hB) (fun u hu => by simp at hu; rcases hu with rfl | rfl <;> rfl) (by decide) (by unfold maxLen; omega) (by omega) hbase _ rfl ?_
  intro g' cap w2 hown' hgrow hat _
  have e : (Value.slice A m c).ownBlock = blkOf A := by cases A <;> rfl
  rw [e] at hgrow hat
  exact h _ cap w2 ⟨by simp [hown.1], by rw [flatE_append]; exact hown'⟩ hgrow (hat.imp (fun h => h.symm) fun h => ⟨g', rfl, by omega⟩)
theorem wp_appEA1 {ops : Array Oper} {rest : List Oper} {o : Oper} {a : Act} {Q : Exit → Act → World → Prop} {s x : Operand} (hgd : o.guard = none)
    (ho : o.op = .call { callee := .builtin .append, args := #[s, x], argTypes := #[24, 24] })
    {base : Nat} {A : Option Addr} {m c : Nat} {es : List (Int × Int)} {wr : World} {T : TypeId} {p q : Int} (hs : a.eval s = .slice A m c) {H : Nat} (hx : a.eval x = .slice (some ⟨H, 0, none⟩) 1 1) (hH : wr.heap.size = H)
    (hown : OwnEA base wr A m c es) (hbase : base ≤ wr.heap.size) (hm : m ≤ 1048576)
    (h : ∀ A' c' w', OwnEA base w' A' (m + 1) c' (es ++ [(p, q)]) → wr.grownBy w' (blkOf A) → LiesAt A A' wr → wpList Tryz.prog ops Q rest (a.put o.dst (.slice A' (m + 1) c')) w') :
    wpList Tryz.prog ops Q (o :: rest) a (wr.alloc (.cells #[.int .i64 p, .int .i64 q] T)) := by
  subst hH
  exact wpList_plain hgd fun _ hK => wp_appEA ho hs hx (heap_alloc_new wr _) (hown.below ((Below.refl _ _).alloc (Nat.le_refl _) _)) (by simp; omega) hm
    fun A' c' w' h1 h2 h3 => hK _ _ (h A' c' w' h1 (grownTrans (below_grownBy ((Below.refl _ _).alloc (Nat.le_refl _) _) _) h2) (h3.low (by simp)))
/-- A box of two cells, free to be written. -/
structure Box2F (w : World) (b : Nat) (v0 v1 : Value) : Prop where
  box : Box2 w b v0 v1
  f0 : w.frozen? ⟨b, 0, none⟩ = false
  f1 : w.frozen? ⟨b, 1, none⟩ = false
theorem frozen_new (w : World) (cs : Array Value) (t : TypeId) (k : Nat) : (w.alloc (.cells cs t)).frozen? ⟨w.heap.size, k, none⟩ = false := by
  unfold World.frozen?
  rw [show (w.alloc (.cells cs t)).heap[(⟨w.heap.size, k, none⟩ : Addr).block]? = some (.cells cs t) from heap_alloc_new w _]
  simp
theorem Box2F.made (w : World) (v0 v1 : Value) (t : TypeId) : Box2F (w.alloc (.cells #[v0, v1] t)) w.heap.size v0 v1 := ⟨Box2.made _ _ _ _, frozen_new _ _ _ _, frozen_new _ _ _ _⟩
theorem Box2F.kept {w w' : World} {b : Nat} {v0 v1 : Value} {row : Option Nat} (h : Box2F w b v0 v1) (hg : w.grownBy w' row) (hne : some b ≠ row) : Box2F w' b v0 v1 := by
  refine ⟨h.box.kept hg hne, ?_, ?_⟩
  · have := hg.block b h.box.lt hne
    have h0 := h.f0
    simp only [World.frozen?] at h0 ⊢
    rw [this]; exact h0
  · have := hg.block b h.box.lt hne
    have h0 := h.f1
    simp only [World.frozen?] at h0 ⊢
    rw [this]; exact h0
theorem Box2F.below {w w' : World} {b : Nat} {v0 v1 : Value} (h : Box2F w b v0 v1) (hb : Below w.heap.size w w') : Box2F w' b v0 v1 := h.kept (row := none) (below_grownBy hb none) (by simp)
theorem Box2F.setOther {w : World} {b : Nat} {v0 v1 : Value} (h : Box2F w b v0 v1) {a : Addr} (ha : a.block ≠ b) (v : Value) : Box2F (w.setCell a v) b v0 v1 :=
  h.kept (row := some a.block) ⟨rfl, rfl, rfl, by simp, fun k _ hk => Below.heap_setCell _ _ _ _ (fun e => hk (by rw [e]))⟩ (by simp; exact fun e => ha e.symm)
theorem Box2F.set2 {w : World} {b : Nat} {v0 v1 : Value} (h : Box2F w b v0 v1) (u v : Value) : Box2F ((w.setCell ⟨b, 0, none⟩ u).setCell ⟨b, 1, none⟩ v) b u v := by
  obtain ⟨⟨h0, h1, h2⟩, h3, h4⟩ := h
  refine ⟨⟨by simpa using h0, ?_, ?_⟩, ?_, ?_⟩
  all_goals simp [go_sem, *]
theorem Box2F.set1 {w : World} {b : Nat} {v0 v1 : Value} (h : Box2F w b v0 v1) (v : Value) : Box2F (w.setCell ⟨b, 1, none⟩ v) b v0 v := by
  obtain ⟨⟨h0, h1, h2⟩, h3, h4⟩ := h
  refine ⟨⟨by simpa using h0, ?_, ?_⟩, ?_, ?_⟩
  all_goals simp [go_sem, *]
set_option maxRecDepth 100000 in
set_option maxHeartbeats 2000000 in
theorem l01Made_any (n : Int) (b o m c : Nat) (es : List (Int × Int)) (w : World) (h : Eds w b o m es) (hm : m ≤ 1048576) :
    Calls Tryz.prog 98 #[.int .i64 n, .slice (some ⟨b, o, none⟩) m c] w (RetG n (srtE es) w) := by
  have hbb := (by go_grown : Below w.heap.size w (w.alloc (.cells #[.int .i64 0, .slice none 0 0] 26)))
  have PB := Box2F.made w (.int .i64 0) (.slice none 0 0) 26
  go_enter Tryz.func98, Tryz.ntmps98
  go_wp2_with fail
  obtain ⟨w1, hw1⟩ : ∃ w1, w1 = w.alloc (.cells #[.int .i64 0, .slice none 0 0] 26) := ⟨_, rfl⟩
  rw [← hw1] at hbb PB ⊢
  have hz1 : w.heap.size < w1.heap.size := PB.box.lt
  clear hw1
  refine (l01Sort_any b o m c es _ (h.below hbb) hm).mono ?_
  rintro e w2 ⟨g, c2, rfl, O, hb2⟩
  obtain ⟨⟨s1, p1, q1⟩, f1, f2⟩ := PB.below hb2
  have hO := O.ge
  have hB2 := hbb.thenB (by omega) hb2
  have O2 := (O.setOther (a := ⟨w.heap.size, 0, none⟩) (by simp; omega) (.int .i64 n)).setOther (a := ⟨w.heap.size, 1, none⟩) (by simp; omega) (.slice (some ⟨g, 0, none⟩) (srtE es).length c2)
  have P2 := (PB.below hb2).set2 (.int .i64 n) (.slice (some ⟨g, 0, none⟩) (srtE es).length c2)
  have hB3 := (hB2.setCell (p := ⟨w.heap.size, 0, none⟩) (Nat.le_refl _) (.int .i64 n)).setCell (p := ⟨w.heap.size, 1, none⟩) (Nat.le_refl _) (.slice (some ⟨g, 0, none⟩) (srtE es).length c2)
  clear O
  go_wp2_with fail
  obtain ⟨w9, hw9⟩ : ∃ w9, w9 = ((w2.setCell ⟨w.heap.size, 0, none⟩ (.int .i64 n)).setCell ⟨w.heap.size, 1, none⟩ (.slice (some ⟨g, 0, none⟩) (srtE es).length c2)) := ⟨_, rfl⟩
  rw [← hw9] at O2 P2 hB3 ⊢
  obtain ⟨⟨k0, k1, k2⟩, _, _⟩ := P2
  refine bodyPost_ret (v := .agg #[.int .i64 n, .slice (some ⟨g, 0, none⟩) (srtE es).length c2]) ?_ rfl ⟨g, c2, rfl, O2.mono (by omega), hB3⟩
  simp [results, Tryz.results98, go_sem, k1, k2]
set_option maxRecDepth 100000 in
set_option maxHeartbeats 4000000 in
theorem graphOf_any (n : Int) (b o m c : Nat) (es : List (Int × Int)) (w : World) (h : Eds w b o m es) (hm : m ≤ 1048576) (hm0 : 0 < m) :
    Calls Tryz.prog 88 #[.int .i64 n, .slice (some ⟨b, o, none⟩) m c] w (RetG n (srtE es) w) := by
  have hl := Lib.hid h.len
  go_enter Tryz.func88, Tryz.ntmps88
  go_wp2_with fail
  obtain ⟨w0, hw0⟩ : ∃ w0, w0 = w.alloc (.cells #[.int .i64 0, .slice none 0 0] 26) := ⟨_, rfl⟩
  have P4 := Box2F.made w (.int .i64 0) (.slice none 0 0) 26
  have hb0 : Below w.heap.size w (w.alloc (.cells #[.int .i64 0, .slice none 0 0] 26)) := (Below.refl _ _).alloc (Nat.le_refl _) _
  rw [← hw0] at P4 hb0 ⊢
  have hs0 : w0.heap.size = w.heap.size + 1 := by rw [hw0]; simp [go_sem]
  have P5 := Box2F.made w0 (.int .i64 n) (.slice none 0 0) 26
  have hb1 := hb0.alloc (by omega) (.cells #[.int .i64 n, .slice none 0 0] 26)
  have P4 := P4.below ((Below.refl w0.heap.size w0).alloc (Nat.le_refl _) (.cells #[.int .i64 n, .slice none 0 0] 26))
  have hs1 : (w0.alloc (.cells #[.int .i64 n, .slice none 0 0] 26)).heap.size = w0.heap.size + 1 := by simp [go_sem]
  obtain ⟨w1, hw1⟩ : ∃ w1, w1 = w0.alloc (.cells #[.int .i64 n, .slice none 0 0] 26) := ⟨_, rfl⟩
  rw [← hw1] at P4 P5 hb1 hs1 ⊢
  rw [hs0] at P5
  obtain ⟨B0, hB0⟩ : ∃ B0, B0 = w.heap.size := ⟨_, rfl⟩
  obtain ⟨B1, hB1⟩ : ∃ B1, B1 = w.heap.size + 1 := ⟨_, rfl⟩
  rw [← hB1] at P5 ⊢
  rw [← hB0] at P4 ⊢
  have hB01 : B0 ≠ B1 := by omega
  have hB0w : w.heap.size ≤ B0 ∧ B0 < w1.heap.size := by omega
  have hB1w : w.heap.size ≤ B1 ∧ B1 < w1.heap.size := by omega
  have hww : w.heap.size ≤ w1.heap.size := by omega
  clear hw0 hw1 hB0 hB1 hs0 hs1 hb0
  go_loopw [12] (fun iv wr => ∃ (i : Nat) (A : Option Addr) (c' : Nat), i ≤ m ∧ iv = .int .i64 i ∧ OwnEA w1.heap.size wr A i c' ((es.take i).map mmE) ∧ Box2F wr B1 (.int .i64 n) (.slice A i c') ∧ Box2F wr B0 (.int .i64 0) (.slice none 0 0) ∧ Below w.heap.size w wr ∧ w1.heap.size ≤ wr.heap.size) (fun i _ => m - (intOf i).toNat)
  case atStart => exact ⟨0, none, 0, Nat.zero_le _, rfl, by simpa using OwnEA.nil w1.heap.size w1, P5, P4, hb1, Nat.le_refl _⟩
  case round =>
    clear P4 P5 hb1
    obtain ⟨i, A, c', hi, rfl, OX, P5, P4, hbr, hsr⟩ := hrel
    by_cases hlt : i < m
    · obtain ⟨w4, rfl⟩ : ∃ w4, w4 = wr := ⟨wr, rfl⟩
      have E := h.below hbr
      have d1 := E.ca i hlt
      have d2 := E.cb i hlt
      have zE := E.blk
      have ha : Below w4.heap.size w4 (w4.alloc (.cells #[.int .i64 (ea es i), .int .i64 (eb es i)] 78)) := (Below.refl _ _).alloc (Nat.le_refl _) _
      have OX6 := OX.below ha
      have P56 := P5.below ha
      have P46 := P4.below ha
      have hb6 := hbr.andB ha
      have hsz6 : w1.heap.size ≤ (w4.alloc (.cells #[.int .i64 (ea es i), .int .i64 (eb es i)] 78)).heap.size := by simp [go_sem]; omega
      have hA1 : some B1 ≠ blkOf A := fun e => by have := (OX.blk B1 e.symm).1; omega
      have hA0 : some B0 ≠ blkOf A := fun e => by have := (OX.blk B0 e.symm).1; omega
      obtain ⟨⟨s5, p5, q5⟩, f50, f51⟩ := P5
      clear OX P4 ha hbr
      have HMM : Hid (mmE (ea es i, eb es i) = (min (ea es i) (eb es i), max (ea es i) (eb es i))) := rfl
      have HTK : Hid ((es.take (i + 1)).map mmE = (es.take i).map mmE ++ [(min (ea es i) (eb es i), max (ea es i) (eb es i))]) := by
        show _ = _
        rw [List.take_succ_eq_append_getElem (by rw [hl.out]; exact hlt), List.map_append, List.map_singleton, e_pair, HMM.out]
      clear HMM
      go_wp2_with (first
        | (at_builtin; refine wp_appEA1 rfl rfl rfl rfl (by simp [go_sem]) OX6 hsz6 (by omega) ?_; intro A6 c6 w6 OX7 hg6 hat6;
           have P57 := P56.kept hg6 hA1; have P47 := P46.kept hg6 hA0; have hb7 := hb6.grown hg6 (by omega) (fun y hy => by have := (OX6.blk y hy).1; omega); have hsz7 := hg6.size;
           have hA1' := hat6.ne P56.box.lt hA1;
           obtain ⟨⟨s6, p6, q6⟩, f60, f61⟩ := P57;
           clear OX6 P56 P46 hb6 hg6 hat6 hA1 hA0 E d1 d2 zE s5 p5 q5 f50 f51))
      go_roundw
      case rel => exact ⟨i + 1, A6, c6, by omega, by go_num, by have := HTK.out; rw [this]; exact OX7.setOther (fun e => hA1' e.symm) _, (Box2F.set1 (v1 := .slice A i c') ⟨⟨s6, p6, q6⟩, f60, f61⟩ _), P47.setOther (fun e => hB01 e.symm) _, hb7.setCell hB1w.1 _, by simp [go_sem]; omega⟩
      case measure => simp [intOf]; omega
    · obtain rfl : i = m := by omega
      obtain ⟨g, rfl, OG⟩ : ∃ g, A = some ⟨g, 0, none⟩ ∧ OwnE w1.heap.size wr g i c' ((es.take i).map mmE) := by
        rcases OX.cases with ⟨_, h0, _⟩ | h0
        · omega
        · exact h0
      have hgg := OG.ge
      have HTM : Hid ((es.take i).map mmE = es.map mmE) := by show _ = _; rw [List.take_of_length_le (by rw [hl.out]; exact Nat.le_refl _)]
      have HSF := Lib.hid (sortF_any w1.heap.size g i c' _ wr OG hm)
      have P5' := P5
      obtain ⟨⟨s5, p5, q5⟩, f50, f51⟩ := P5'
      clear OX OG
      go_wp2_with fail
      refine HSF.out.mono ?_
      rintro e w6 ⟨rfl, ⟨xs, hp, hs, OG6⟩, hg6⟩
      have HXS : Hid (xs = srtE es) := srt_uniq (by rw [← HTM.out]; exact hp) hs
      have hb6 := hbr.grown hg6 (by omega) (fun y hy => by cases hy; omega)
      have P46 := P4.kept hg6 (by simp; omega)
      have P56 := P5.kept hg6 (by simp; omega)
      obtain ⟨⟨s6, p6, q6⟩, f60, f61⟩ := P56
      have P46' := P46
      obtain ⟨⟨s7, p7, q7⟩, f70, f71⟩ := P46'
      have hlen : Hid (i = (srtE es).length) := by show _ = _; rw [srt_len, hl.out]
      have O8 := (OG6.setOther (a := ⟨B0, 0, none⟩) (by simp; omega) (.int .i64 n)).setOther (a := ⟨B0, 1, none⟩) (by simp; omega) (.slice (some ⟨g, 0, none⟩) i c')
      have P8 := P46.set2 (.int .i64 n) (.slice (some ⟨g, 0, none⟩) i c')
      have hB8 := (hb6.setCell (p := ⟨B0, 0, none⟩) hB0w.1 (.int .i64 n)).setCell (p := ⟨B0, 1, none⟩) hB0w.1 (.slice (some ⟨g, 0, none⟩) i c')
      clear hp hs s5 p5 q5 f50 f51 P4 P5 hg6 hb6 hbr HSF
      go_wp2_with fail
      obtain ⟨w9, hw9⟩ : ∃ w9, w9 = ((w6.setCell ⟨B0, 0, none⟩ (.int .i64 n)).setCell ⟨B0, 1, none⟩ (.slice (some ⟨g, 0, none⟩) i c')) := ⟨_, rfl⟩
      rw [← hw9] at O8 P8 hB8 ⊢
      clear hw9 p6 q6 p7 q7
      obtain ⟨⟨k0, k1, k2⟩, _, _⟩ := P8
      refine bodyPost_ret (v := .agg #[.int .i64 n, .slice (some ⟨g, 0, none⟩) i c']) ?_ rfl ⟨g, c', by rw [← hlen.out], by rw [← hlen.out, ← HXS.out]; exact O8.mono hww, hB8⟩
      simp [results, Tryz.results88, go_sem, k1, k2]
end Go.Proofs.YtajnhkkiddeegaaGreat
namespace Go.Proofs.YtajnhkkiddeegaaGreat
open Go.RowKit Go.Sort
theorem OwnEA.src {base : Nat} {w : World} {A : Option Addr} {m c : Nat} {es : List (Int × Int)} (h : OwnEA base w A m c es) : SrcE w A m es := by
  refine ⟨h.1, fun hm => ?_⟩
  rcases h.cases with ⟨_, h0, _⟩ | ⟨g, rfl, hg⟩
  · omega
  · exact ⟨g, 0, rfl, hg.eds⟩
/-- The call returns a new graph, maybe an empty one, and a code. -/
def RetGC (n : Int) (es : List (Int × Int)) (k : Int) (w : World) (e : Ending) (w' : World) : Prop := ∃ A c, e = .returned (.tuple #[.agg #[.int .i64 n, .slice A es.length c], .int .i64 k]) ∧ OwnEA w.heap.size w' A es.length c es ∧ Below w.heap.size w w'
end Go.Proofs.YtajnhkkiddeegaaGreat
namespace Go.Proofs.YtajnhkkiddeegaaGreat
open Go.RowKit Go.Sort
def OrdP (ls : Nat → Int) (l : Nat) (n : Int) : Prop := (l : Int) = n ∧ (∀ j, j < l → 0 ≤ ls j ∧ ls j ≤ n - 1) ∧ NP ls l
/-- One power, none beyond 63. -/
def powG (x : Int) : Nat := if x ≤ 63 then 2 ^ x.toNat else 0
def setG (ls : Nat → Int) : Nat → Nat
  | 0 => 0
  | k + 1 => setG ls k ||| powG (ls k)
theorem powG_lt (x : Int) : powG x < 18446744073709551616 := by
  unfold powG; split
  · exact pow64 (by omega)
  · decide
theorem setG_lt (ls : Nat → Int) : ∀ k, setG ls k < 18446744073709551616
  | 0 => by simp [setG]
  | k + 1 => by
    have h1 : setG ls k < 2 ^ 64 := by have := setG_lt ls k; simpa using this
    have h2 : powG (ls k) < 2 ^ 64 := by have := powG_lt (ls k); simpa using this
    have := Nat.or_lt_two_pow h1 h2
    simpa [setG] using this
theorem setG_eq {ls : Nat → Int} : ∀ {k : Nat}, (∀ j, j < k → ls j ≤ 63) → setG ls k = setN ls k
  | 0, _ => rfl
  | k + 1, h => by
    show setG ls k ||| powG (ls k) = setN ls k ||| 2 ^ (ls k).toNat
    rw [setG_eq (fun j hj => h j (by omega)), powG, if_pos (h k (by omega))]
theorem wrap_powG (x : Int) : IntKind.u64.wrap (2 ^ min x.toNat 64) = (powG x : Int) := by
  unfold powG
  by_cases h : x ≤ 63
  · rw [if_pos h, Nat.min_eq_left (by omega)]; exact wrap_pow (by omega)
  · rw [if_neg h, Nat.min_eq_right (by omega)]; decide
theorem setOf_gen (b o l c : Nat) (ls : Nat → Int) (w : World) (h : Ints w b o l ls) (hl : l ≤ 1048576) (hv : ∀ j, j < l → 0 ≤ ls j) :
    Calls Tryz.prog 125 #[.slice (some ⟨b, o, none⟩) l c] w (Is (.int .u64 (setG ls l)) w) := by
  have HV := Lib.hid hv
  clear hv
  go_enter Tryz.func125, Tryz.ntmps125
  go_wp2_with fail
  go_loop [3, 8] (fun s i => ∃ j : Nat, j ≤ l ∧ i = .int .i64 j ∧ s = .int .u64 (setG ls j)) (fun _ i => l - (intOf i).toNat)
  case atStart => exact ⟨0, Nat.zero_le _, rfl, by rfl⟩
  case round =>
    obtain ⟨j, hj, rfl, rfl⟩ := hrel
    by_cases hlt : j < l
    · have c1 := h.c j hlt
      have h0 := HV.out j hlt
      have hw := wrap_powG (ls j)
      have ho : bits .or .u64 (setG ls j : Int) (IntKind.u64.wrap (2 ^ min (ls j).toNat 64)) = (setG ls (j + 1) : Int) := by
        rw [hw, u64_or_nat _ _ (setG_lt ls j) (powG_lt _)]; rfl
      clear hw
      go_wp2_with fail
      exact ⟨⟨j + 1, by omega, by go_num, rfl⟩, by simp [intOf]; omega⟩
    · obtain rfl : j = l := by omega
      go_wp2_with fail
      go_ret
      exact ⟨rfl, rfl⟩
theorem lengthI_any (A : Option Addr) (m c : Nat) (w : World) : Calls Tryz.prog 122 #[.slice A m c] w (Is (.int .i64 m) w) := by
  go_enter Tryz.func122, Tryz.ntmps122
  go_wp2_with fail
  go_ret
  exact ⟨rfl, rfl⟩
theorem isOrder1_any (x n : Int) (p1 : Nat) (w : World) (h1 : w.cell? ⟨p1, 0, none⟩ = some (.int .i64 n)) (hn : IntKind.i64.wrap (n - 1) = n - 1) :
    Calls Tryz.prog 123 #[.int .i64 x, .pointer (some ⟨p1, 0, none⟩)] w (Is (.bool (inB x 0 (n - 1))) w) := by
  go_enter Tryz.func123, Tryz.ntmps123
  go_wp2_with (go_at_call 124; refine (within_any _ _ _ _).mono ?_; rintro e w' ⟨rfl, rfl⟩)
  go_ret
  exact ⟨rfl, rfl⟩
theorem enO1 : Enters 123 := fun args w => by kernel_rfl
def qN (n : Nat) : Int := IntKind.u64.wrap ((powG n : Int) - 1)
noncomputable def ordB (ls : Nat → Int) (l : Nat) (n : Int) : Bool := decide ((l : Int) = n) && (allB l (fun j => inB (ls j) 0 (n - 1)) && decide ((setG ls l : Int) = qN l))
theorem ordB_eq {ls : Nat → Int} {l : Nat} {n : Int} (h2 : n ≤ 20) : ordB ls l n = B (OrdP ls l n) := by
  rw [Bool.eq_iff_iff, B_iff]
  unfold ordB OrdP
  simp only [Bool.and_eq_true, decide_eq_true_eq]
  by_cases hl : (l : Int) = n
  · subst hl
    have hall : allB l (fun j => inB (ls j) 0 ((l : Int) - 1)) = true ↔ ∀ j, j < l → 0 ≤ ls j ∧ ls j ≤ (l : Int) - 1 := by
      unfold allB
      rw [B_iff]
      exact ⟨fun h j hj => inB_iff.1 (h j hj), fun h j hj => inB_iff.2 (h j hj)⟩
    rw [hall]
    constructor
    · rintro ⟨_, h1, h3⟩
      refine ⟨rfl, h1, ?_⟩
      rw [← full_iff (fun a ha => by have := h1 a ha; omega)]
      rw [setG_eq (fun j hj => by have := h1 j hj; omega)] at h3
      have hq : qN l = ((2 ^ l - 1 : Nat) : Int) := by
        unfold qN powG
        rw [if_pos (by omega), Int.toNat_natCast, IntKind.wrap_u64]
        have hp : (2 : Nat) ^ l ≤ 2 ^ 20 := Nat.pow_le_pow_right (by decide) (by omega)
        have hp1 : 0 < (2 : Nat) ^ l := Nat.two_pow_pos l
        generalize (2 : Nat) ^ l = y at hp hp1
        omega
      rw [hq] at h3
      exact Int.ofNat_inj.1 h3
    · rintro ⟨_, h1, h3⟩
      refine ⟨rfl, h1, ?_⟩
      rw [← full_iff (fun a ha => by have := h1 a ha; omega)] at h3
      rw [setG_eq (fun j hj => by have := h1 j hj; omega), h3]
      unfold qN powG
      rw [if_pos (by omega), Int.toNat_natCast, IntKind.wrap_u64]
      have hp : (2 : Nat) ^ l ≤ 2 ^ 20 := Nat.pow_le_pow_right (by decide) (by omega)
      have hp1 : 0 < (2 : Nat) ^ l := Nat.two_pow_pos l
      generalize (2 : Nat) ^ l = y at hp hp1
      omega
  · simp [hl]
set_option maxHeartbeats 1000000 in
theorem isOrder_any (b2 o2 l c2 : Nat) (ls : Nat → Int) (n : Int) (w : World) (h : Ints w b2 o2 l ls) (hl : l ≤ 1048576) :
    Calls Tryz.prog 78 #[.slice (some ⟨b2, o2, none⟩) l c2, .int .i64 n] w (Ret (.bool (ordB ls l n)) w) := by
  have KC := cell_rg
  have hbb := (by go_grown : Below w.heap.size w (w.alloc (.cells #[.int .i64 n] 2)))
  have hbx : (w.alloc (.cells #[.int .i64 n] 2)).cell? ⟨w.heap.size, 0, none⟩ = some (.int .i64 n) := by simp
  by_cases hln : (l : Int) = n
  rotate_left
  · have HO : Hid (ordB ls l n = false) := by show _ = _; simp [ordB, hln]
    have hne : ((l : Int) == n) = false := by simpa using hln
    clear hln
    go_enter Tryz.func78, Tryz.ntmps78
    go_wp2_with fail
    (refine wp_region_quiet_below (by kernel_rfl) (by kernel_rfl) ?_
     repeat (any_goals (go_big_quiet_step (first | (go_at_call 122; exact Is.rg (lengthI_any _ _ _ _)))))
     all_goals (refine wpQuiet_nil ?_; intro wq1 hq1; replace hq1 := below_of_rg hq1))
    go_wp2_with fail
    go_ret
    exact ⟨ret_bool HO.out.symm, hbb.thenB (by simp) hq1⟩
  have heq : ((l : Int) == n) = true := by simpa using hln
  have hwn : IntKind.i64.wrap (n - 1) = n - 1 := IntWalk.i64_in _ (by omega)
  have hAA : ∀ d os, Calls Tryz.prog 117 #[.slice (some ⟨b2, o2, none⟩) l c2, .func (.func 123) #[] #[.pointer (some ⟨w.heap.size, 0, none⟩)]] (grow (redrawn (w.alloc (.cells #[.int .i64 n] 2)) d) os) (Ret (.bool (allB l (fun j => inB (ls j) 0 (n - 1)))) (grow (redrawn (w.alloc (.cells #[.int .i64 n] 2)) d) os)) := fun d os =>
    areAllL_any 123 #[.pointer (some ⟨w.heap.size, 0, none⟩)] (fun j => inB (ls j) 0 (n - 1)) b2 o2 l c2 ls _ ((h.below hbb).below (below_regrown _ _ _)) hl enO1 (fun j _ w' hw' => by
      have a1 := (bcell hw').1 w.heap.size 0 (Nat.lt_of_lt_of_le (by simp) (below_regrown (w.alloc (.cells #[.int .i64 n] 2)) d os).size)
      rw [(bcell (below_regrown (w.alloc (.cells #[.int .i64 n] 2)) d os)).1 w.heap.size 0 (by simp), hbx] at a1
      exact Is.ret (isOrder1_any _ n _ _ a1 hwn))
  cases hal : allB l (fun j => inB (ls j) 0 (n - 1)) with
  | false =>
    have HO : Hid (ordB ls l n = false) := by show _ = _; simp [ordB, hal]
    rw [hal] at hAA
    have HAA := Lib.hid hAA
    clear hln hAA hal
    go_enter Tryz.func78, Tryz.ntmps78
    go_wp2_with fail
    (refine wp_region_quiet_below (by kernel_rfl) (by kernel_rfl) ?_
     repeat (any_goals (go_big_quiet_step (first | (go_at_call 122; exact Is.rg (lengthI_any _ _ _ _)) | (go_at_call 117; exact Ret.rg (HAA.out _ _)))))
     all_goals (refine wpQuiet_nil ?_; intro wq1 hq1; replace hq1 := below_of_rg hq1))
    go_wp2_with fail
    go_ret
    exact ⟨ret_bool HO.out.symm, hbb.thenB (by simp) hq1⟩
  | true =>
    have hrng : ∀ j, j < l → 0 ≤ ls j := fun j hj => by
      unfold allB at hal
      have := inB_iff.1 (B_iff.1 hal j hj)
      exact this.1
    have HO : Hid (ordB ls l n = ((setG ls l : Int) == qN l)) := by show _ = _; simp only [ordB, hal, hln]; simp; rfl
    have HSG := Lib.hid (fun d os => setOf_gen b2 o2 l c2 ls (grow (redrawn (w.alloc (.cells #[.int .i64 n] 2)) d) os) ((h.below hbb).below (below_regrown _ _ _)) hl hrng)
    rw [hal] at hAA
    have HAA := Lib.hid hAA
    have hn0 : 0 ≤ n := by omega
    have hsh : IntKind.u64.wrap (2 ^ min n.toNat 64) = (powG n : Int) := wrap_powG n
    have hqq : IntKind.u64.wrap ((powG n : Int) - 1) = qN l := by unfold qN; rw [hln]
    obtain ⟨S, hS⟩ : ∃ S, S = setG ls l := ⟨_, rfl⟩
    obtain ⟨q, hq⟩ : ∃ q, q = qN l := ⟨_, rfl⟩
    rw [← hS] at HSG HO
    rw [← hq] at HO hqq
    clear hln hAA hal hrng hS hq
    go_enter Tryz.func78, Tryz.ntmps78
    go_wp2_with fail
    (refine wp_region_quiet_below (by kernel_rfl) (by kernel_rfl) ?_
     repeat (any_goals (go_big_quiet_step (first | (go_at_call 122; exact Is.rg (lengthI_any _ _ _ _)) | (go_at_call 117; exact Ret.rg (HAA.out _ _)) | (go_at_call 125; exact Is.rg (HSG.out _ _)))))
     all_goals (refine wpQuiet_nil ?_; intro wq1 hq1; replace hq1 := below_of_rg hq1))
    go_wp2_with fail
    go_ret
    exact ⟨ret_bool HO.out.symm, hbb.thenB (by simp) hq1⟩
end Go.Proofs.YtajnhkkiddeegaaGreat
