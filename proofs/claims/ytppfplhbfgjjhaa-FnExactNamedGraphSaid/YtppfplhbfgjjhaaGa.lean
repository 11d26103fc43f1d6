import Derived.Test.YtppfplhbfgjjhaaSg
namespace Go.Proofs.Ytppfplhbfgjjhaa
open Go.RowKit Go.Sort
/-! ### Graphs as results -/
def OwnEA (base : Nat) (w : World) (A : Option Addr) (m c : Nat) (es : List (Int × Int)) : Prop := es.length = m ∧ w.ownsRow base 98 2 (.slice A m c) m (flatE es)
theorem OwnEA.nil (base : Nat) (w : World) : OwnEA base w none 0 0 [] := ⟨rfl, World.ownsRow_nil _ _ _ _⟩
theorem OwnE.any {base : Nat} {w : World} {g m c : Nat} {es : List (Int × Int)} (h : OwnE base w g m c es) : OwnEA base w (some ⟨g, 0, none⟩) m c es := h
theorem OwnEA.cases {base : Nat} {w : World} {A : Option Addr} {m c : Nat} {es : List (Int × Int)} (h : OwnEA base w A m c es) : (A = none ∧ m = 0 ∧ c = 0) ∨ ∃ g, A = some ⟨g, 0, none⟩ ∧ OwnE base w g m c es := by
  rcases h.2.2 with ⟨e, e2⟩ | ⟨g, cap, cur, e, hb, hg, hr⟩
  · injection e with e1 e3 e4; exact .inl ⟨e1, e3, e4⟩
  · injection e with e1 e3 e4; subst e1; exact .inr ⟨g, rfl, h⟩
theorem OwnEA.kept {base : Nat} {w w' : World} {A : Option Addr} {m c : Nat} {es : List (Int × Int)} {row : Option Nat} (h : OwnEA base w A m c es) (hg : w.grownBy w' row) (hne : blkOf A = none ∨ blkOf A ≠ row) : OwnEA base w' A m c es :=
  ⟨h.1, h.2.kept hg (by cases A <;> simp [Value.ownBlock, blkOf] at hne ⊢; exact hne)⟩
theorem OwnEA.below {base : Nat} {w w' : World} {A : Option Addr} {m c : Nat} {es : List (Int × Int)} (h : OwnEA base w A m c es) (hb : Below w.heap.size w w') : OwnEA base w' A m c es :=
  h.kept (row := none) (below_grownBy hb none) (by cases A <;> simp [blkOf])
theorem OwnEA.mono {base base' : Nat} {w : World} {A : Option Addr} {m c : Nat} {es : List (Int × Int)} (h : OwnEA base w A m c es) (hb : base' ≤ base) : OwnEA base' w A m c es := by
  refine ⟨h.1, h.2.1, ?_⟩
  rcases h.2.2 with hn | ⟨g', cap, cur, e, hbg, r⟩
  · exact .inl hn
  · exact .inr ⟨g', cap, cur, e, Nat.le_trans hb hbg, r⟩
theorem OwnEA.blk {base : Nat} {w : World} {A : Option Addr} {m c : Nat} {es : List (Int × Int)} (h : OwnEA base w A m c es) : ∀ g, blkOf A = some g → base ≤ g ∧ g < w.heap.size := by
  intro g hg
  rcases h.cases with ⟨rfl, _⟩ | ⟨g', rfl, hb⟩
  · cases hg
  · simp [blkOf] at hg; have := hb.ge; omega
theorem OwnEA.setOther {base : Nat} {w : World} {A : Option Addr} {m c : Nat} {es : List (Int × Int)} (h : OwnEA base w A m c es) {a : Addr} (ha : blkOf A ≠ some a.block) (v : Value) : OwnEA base (w.setCell a v) A m c es :=
  h.kept (row := some a.block) ⟨rfl, rfl, rfl, by simp, fun k _ hk => Below.heap_setCell _ _ _ _ (fun e => hk (by rw [e]))⟩ (.inr ha)
theorem wp_appEA {o : Oper} {a : Act} {K : Act → World → Prop} {Q : Exit → Act → World → Prop} {s x : Operand}
    (ho : o.op = .call { callee := .builtin .append, args := #[s, x], argTypes := #[28, 28] })
    {base : Nat} {A : Option Addr} {m c : Nat} {es : List (Int × Int)} {w1 : World} {B : Nat} {T : TypeId} {fr : Nat × Nat} {p q : Int} (hs : a.eval s = .slice A m c) (hx : a.eval x = .slice (some ⟨B, 0, none⟩) 1 1)
    (hB : w1.heap[B]? = some (.cells #[.int .i64 p, .int .i64 q] T fr))
    (hown : OwnEA base w1 A m c es) (hbase : base ≤ w1.heap.size) (hm : m ≤ 1048576)
    (h : ∀ A' c' w', OwnEA base w' A' (m + 1) c' (es ++ [(p, q)]) → w1.grownBy w' (blkOf A) → LiesAt A A' w1 → K (a.put o.dst (.slice A' (m + 1) c')) w') :
    o.wp Try.prog a w1 K Q := by
  obtain ⟨i0, hi, hz0, hz1, hz2⟩ := info_parts infE
  refine wp_append_lies w1 s x 28 ho base 98 i0 (.agg #[.int .i64 0, .int .i64 0]) 2 16 Try.underlying28 hi hz0 hz1 hz2 rfl (by decide) (.slice A m c) m (flatE es) hs hown.2
    ⟨B, 0, none⟩ 1 1 [.int .i64 p, .int .i64 q] hx rfl (World.news_of_block (cs := #[.int .i64 p, .int .i64 q]) hB) (fun u hu => by simp at hu; rcases hu with rfl | rfl <;> rfl) (by decide) (by unfold maxLen; omega) (by omega) hbase _ rfl ?_
  intro g' cap w2 hown' hgrow hat _
  have e : (Value.slice A m c).ownBlock = blkOf A := by cases A <;> rfl
  rw [e] at hgrow hat
  exact h _ cap w2 ⟨by simp [hown.1], by rw [flatE_append]; exact hown'⟩ hgrow (hat.imp (fun h => h.symm) fun h => ⟨g', rfl, by omega⟩)
theorem wp_appEA1 {ops : Array Oper} {rest : List Oper} {o : Oper} {a : Act} {Q : Exit → Act → World → Prop} {s x : Operand} (hgd : o.guard = none)
    (ho : o.op = .call { callee := .builtin .append, args := #[s, x], argTypes := #[28, 28] })
    {base : Nat} {A : Option Addr} {m c : Nat} {es : List (Int × Int)} {wr : World} {T : TypeId} {p q : Int} (hs : a.eval s = .slice A m c) {H : Nat} (hx : a.eval x = .slice (some ⟨H, 0, none⟩) 1 1) (hH : wr.heap.size = H)
    (hown : OwnEA base wr A m c es) (hbase : base ≤ wr.heap.size) (hm : m ≤ 1048576)
    (h : ∀ A' c' w', OwnEA base w' A' (m + 1) c' (es ++ [(p, q)]) → wr.grownBy w' (blkOf A) → LiesAt A A' wr → wpList Try.prog ops Q rest (a.put o.dst (.slice A' (m + 1) c')) w') :
    wpList Try.prog ops Q (o :: rest) a (wr.alloc (.cells #[.int .i64 p, .int .i64 q] T)) := by
  subst hH
  exact wpList_plain hgd fun _ hK => wp_appEA ho hs hx (heap_alloc_new wr _) (hown.below ((Below.refl _ _).alloc (Nat.le_refl _) _)) (by simp; omega) hm
    fun A' c' w' h1 h2 h3 => hK _ _ (h A' c' w' h1 (grownTrans (below_grownBy ((Below.refl _ _).alloc (Nat.le_refl _) _) _) h2) (h3.low (by simp)))
/-- A box of two cells, free to be written. -/
structure Box2F (w : World) (b : Nat) (v0 v1 : Value) : Prop where
  box : Box2 w b v0 v1
  f0 : w.frozen? ⟨b, 0, none⟩ = false
  f1 : w.frozen? ⟨b, 1, none⟩ = false
theorem frozen_new (w : World) (cs : Array Value) (t : TypeId) (k : Nat) : (w.alloc (.cells cs t)).frozen? ⟨w.heap.size, k, none⟩ = false := by
  unfold World.frozen?
  rw [show (w.alloc (.cells cs t)).heap[(⟨w.heap.size, k, none⟩ : Addr).block]? = some (.cells cs t) from heap_alloc_new w _]
  simp
theorem Box2F.made (w : World) (v0 v1 : Value) (t : TypeId) : Box2F (w.alloc (.cells #[v0, v1] t)) w.heap.size v0 v1 := ⟨Box2.made _ _ _ _, frozen_new _ _ _ _, frozen_new _ _ _ _⟩
theorem Box2F.kept {w w' : World} {b : Nat} {v0 v1 : Value} {row : Option Nat} (h : Box2F w b v0 v1) (hg : w.grownBy w' row) (hne : some b ≠ row) : Box2F w' b v0 v1 := by
  refine ⟨h.box.kept hg hne, ?_, ?_⟩
  · have := hg.block b h.box.lt hne
    have h0 := h.f0
    simp only [World.frozen?] at h0 ⊢
    rw [this]; exact h0
  · have := hg.block b h.box.lt hne
    have h0 := h.f1
    simp only [World.frozen?] at h0 ⊢
    rw [this]; exact h0
theorem Box2F.below {w w' : World} {b : Nat} {v0 v1 : Value} (h : Box2F w b v0 v1) (hb : Below w.heap.size w w') : Box2F w' b v0 v1 := h.kept (row := none) (below_grownBy hb none) (by simp)
theorem Box2F.setOther {w : World} {b : Nat} {v0 v1 : Value} (h : Box2F w b v0 v1) {a : Addr} (ha : a.block ≠ b) (v : Value) : Box2F (w.setCell a v) b v0 v1 :=
  h.kept (row := some a.block) ⟨rfl, rfl, rfl, by simp, fun k _ hk => Below.heap_setCell _ _ _ _ (fun e => hk (by rw [e]))⟩ (by simp; exact fun e => ha e.symm)
theorem Box2F.set2 {w : World} {b : Nat} {v0 v1 : Value} (h : Box2F w b v0 v1) (u v : Value) : Box2F ((w.setCell ⟨b, 0, none⟩ u).setCell ⟨b, 1, none⟩ v) b u v := by
  obtain ⟨⟨h0, h1, h2⟩, h3, h4⟩ := h
  refine ⟨⟨by simpa using h0, ?_, ?_⟩, ?_, ?_⟩
  all_goals simp [go_sem, *]
theorem Box2F.set1 {w : World} {b : Nat} {v0 v1 : Value} (h : Box2F w b v0 v1) (v : Value) : Box2F (w.setCell ⟨b, 1, none⟩ v) b v0 v := by
  obtain ⟨⟨h0, h1, h2⟩, h3, h4⟩ := h
  refine ⟨⟨by simpa using h0, ?_, ?_⟩, ?_, ?_⟩
  all_goals simp [go_sem, *]
set_option maxRecDepth 100000 in
set_option maxHeartbeats 2000000 in
theorem l01Made_any (n : Int) (b o m c : Nat) (es : List (Int × Int)) (w : World) (h : Eds w b o m es) (hm : m ≤ 1048576) :
    Calls Try.prog 96 #[.int .i64 n, .slice (some ⟨b, o, none⟩) m c] w (RetG n (srtE es) w) := by
  have hbb := (by go_grown : Below w.heap.size w (w.alloc (.cells #[.int .i64 0, .slice none 0 0] 30)))
  have PB := Box2F.made w (.int .i64 0) (.slice none 0 0) 30
  go_enter Try.func96, Try.ntmps96
  go_wp2_with fail
  obtain ⟨w1, hw1⟩ : ∃ w1, w1 = w.alloc (.cells #[.int .i64 0, .slice none 0 0] 30) := ⟨_, rfl⟩
  rw [← hw1] at hbb PB ⊢
  have hz1 : w.heap.size < w1.heap.size := PB.box.lt
  clear hw1
  refine (l01Sort_any b o m c es _ (h.below hbb) hm).mono ?_
  rintro e w2 ⟨g, c2, rfl, O, hb2⟩
  obtain ⟨⟨s1, p1, q1⟩, f1, f2⟩ := PB.below hb2
  have hO := O.ge
  have hB2 := hbb.thenB (by omega) hb2
  have O2 := (O.setOther (a := ⟨w.heap.size, 0, none⟩) (by simp; omega) (.int .i64 n)).setOther (a := ⟨w.heap.size, 1, none⟩) (by simp; omega) (.slice (some ⟨g, 0, none⟩) (srtE es).length c2)
  have P2 := (PB.below hb2).set2 (.int .i64 n) (.slice (some ⟨g, 0, none⟩) (srtE es).length c2)
  have hB3 := (hB2.setCell (p := ⟨w.heap.size, 0, none⟩) (Nat.le_refl _) (.int .i64 n)).setCell (p := ⟨w.heap.size, 1, none⟩) (Nat.le_refl _) (.slice (some ⟨g, 0, none⟩) (srtE es).length c2)
  clear O
  go_wp2_with fail
  obtain ⟨w9, hw9⟩ : ∃ w9, w9 = ((w2.setCell ⟨w.heap.size, 0, none⟩ (.int .i64 n)).setCell ⟨w.heap.size, 1, none⟩ (.slice (some ⟨g, 0, none⟩) (srtE es).length c2)) := ⟨_, rfl⟩
  rw [← hw9] at O2 P2 hB3 ⊢
  obtain ⟨⟨k0, k1, k2⟩, _, _⟩ := P2
  refine bodyPost_ret (v := .agg #[.int .i64 n, .slice (some ⟨g, 0, none⟩) (srtE es).length c2]) ?_ rfl ⟨g, c2, rfl, O2.mono (by omega), hB3⟩
  simp [results, Try.results96, go_sem, k1, k2]
set_option maxRecDepth 100000 in
set_option maxHeartbeats 4000000 in
theorem graphOf_any (n : Int) (b o m c : Nat) (es : List (Int × Int)) (w : World) (h : Eds w b o m es) (hm : m ≤ 1048576) (hm0 : 0 < m) :
    Calls Try.prog 91 #[.int .i64 n, .slice (some ⟨b, o, none⟩) m c] w (RetG n (srtE es) w) := by
  have hl := Lib.hid h.len
  go_enter Try.func91, Try.ntmps91
  go_wp2_with fail
  obtain ⟨w0, hw0⟩ : ∃ w0, w0 = w.alloc (.cells #[.int .i64 0, .slice none 0 0] 30) := ⟨_, rfl⟩
  have P4 := Box2F.made w (.int .i64 0) (.slice none 0 0) 30
  have hb0 : Below w.heap.size w (w.alloc (.cells #[.int .i64 0, .slice none 0 0] 30)) := (Below.refl _ _).alloc (Nat.le_refl _) _
  rw [← hw0] at P4 hb0 ⊢
  have hs0 : w0.heap.size = w.heap.size + 1 := by rw [hw0]; simp [go_sem]
  have P5 := Box2F.made w0 (.int .i64 n) (.slice none 0 0) 30
  have hb1 := hb0.alloc (by omega) (.cells #[.int .i64 n, .slice none 0 0] 30)
  have P4 := P4.below ((Below.refl w0.heap.size w0).alloc (Nat.le_refl _) (.cells #[.int .i64 n, .slice none 0 0] 30))
  have hs1 : (w0.alloc (.cells #[.int .i64 n, .slice none 0 0] 30)).heap.size = w0.heap.size + 1 := by simp [go_sem]
  obtain ⟨w1, hw1⟩ : ∃ w1, w1 = w0.alloc (.cells #[.int .i64 n, .slice none 0 0] 30) := ⟨_, rfl⟩
  rw [← hw1] at P4 P5 hb1 hs1 ⊢
  rw [hs0] at P5
  obtain ⟨B0, hB0⟩ : ∃ B0, B0 = w.heap.size := ⟨_, rfl⟩
  obtain ⟨B1, hB1⟩ : ∃ B1, B1 = w.heap.size + 1 := ⟨_, rfl⟩
  rw [← hB1] at P5 ⊢
  rw [← hB0] at P4 ⊢
  have hB01 : B0 ≠ B1 := by omega
  have hB0w : w.heap.size ≤ B0 ∧ B0 < w1.heap.size := by omega
  have hB1w : w.heap.size ≤ B1 ∧ B1 < w1.heap.size := by omega
  have hww : w.heap.size ≤ w1.heap.size := by omega
  clear hw0 hw1 hB0 hB1 hs0 hs1 hb0
  go_loopw [12] (fun iv wr => ∃ (i : Nat) (A : Option Addr) (c' : Nat), i ≤ m ∧ iv = .int .i64 i ∧ OwnEA w1.heap.size wr A i c' ((es.take i).map mmE) ∧ Box2F wr B1 (.int .i64 n) (.slice A i c') ∧ Box2F wr B0 (.int .i64 0) (.slice none 0 0) ∧ Below w.heap.size w wr ∧ w1.heap.size ≤ wr.heap.size) (fun i _ => m - (intOf i).toNat)
  case atStart => exact ⟨0, none, 0, Nat.zero_le _, rfl, by simpa using OwnEA.nil w1.heap.size w1, P5, P4, hb1, Nat.le_refl _⟩
  case round =>
    clear P4 P5 hb1
    obtain ⟨i, A, c', hi, rfl, OX, P5, P4, hbr, hsr⟩ := hrel
    by_cases hlt : i < m
    · obtain ⟨w4, rfl⟩ : ∃ w4, w4 = wr := ⟨wr, rfl⟩
      have E := h.below hbr
      have d1 := E.ca i hlt
      have d2 := E.cb i hlt
      have zE := E.blk
      have ha : Below w4.heap.size w4 (w4.alloc (.cells #[.int .i64 (ea es i), .int .i64 (eb es i)] 98)) := (Below.refl _ _).alloc (Nat.le_refl _) _
      have OX6 := OX.below ha
      have P56 := P5.below ha
      have P46 := P4.below ha
      have hb6 := hbr.andB ha
      have hsz6 : w1.heap.size ≤ (w4.alloc (.cells #[.int .i64 (ea es i), .int .i64 (eb es i)] 98)).heap.size := by simp [go_sem]; omega
      have hA1 : some B1 ≠ blkOf A := fun e => by have := (OX.blk B1 e.symm).1; omega
      have hA0 : some B0 ≠ blkOf A := fun e => by have := (OX.blk B0 e.symm).1; omega
      obtain ⟨⟨s5, p5, q5⟩, f50, f51⟩ := P5
      clear OX P4 ha hbr
      have HMM : Hid (mmE (ea es i, eb es i) = (min (ea es i) (eb es i), max (ea es i) (eb es i))) := rfl
      have HTK : Hid ((es.take (i + 1)).map mmE = (es.take i).map mmE ++ [(min (ea es i) (eb es i), max (ea es i) (eb es i))]) := by
        show _ = _
        rw [List.take_succ_eq_append_getElem (by rw [hl.out]; exact hlt), List.map_append, List.map_singleton, e_pair, HMM.out]
      clear HMM
      go_wp2_with (first
        | (at_builtin; refine wp_appEA1 rfl rfl rfl rfl (by simp [go_sem]) OX6 hsz6 (by omega) ?_; intro A6 c6 w6 OX7 hg6 hat6;
           have P57 := P56.kept hg6 hA1; have P47 := P46.kept hg6 hA0; have hb7 := hb6.grown hg6 (by omega) (fun y hy => by have := (OX6.blk y hy).1; omega); have hsz7 := hg6.size;
           have hA1' := hat6.ne P56.box.lt hA1;
           obtain ⟨⟨s6, p6, q6⟩, f60, f61⟩ := P57;
           clear OX6 P56 P46 hb6 hg6 hat6 hA1 hA0 E d1 d2 zE s5 p5 q5 f50 f51))
      go_roundw
      case rel => exact ⟨i + 1, A6, c6, by omega, by go_num, by have := HTK.out; rw [this]; exact OX7.setOther (fun e => hA1' e.symm) _, (Box2F.set1 (v1 := .slice A i c') ⟨⟨s6, p6, q6⟩, f60, f61⟩ _), P47.setOther (fun e => hB01 e.symm) _, hb7.setCell hB1w.1 _, by simp [go_sem]; omega⟩
      case measure => simp [intOf]; omega
    · obtain rfl : i = m := by omega
      obtain ⟨g, rfl, OG⟩ : ∃ g, A = some ⟨g, 0, none⟩ ∧ OwnE w1.heap.size wr g i c' ((es.take i).map mmE) := by
        rcases OX.cases with ⟨_, h0, _⟩ | h0
        · omega
        · exact h0
      have hgg := OG.ge
      have HTM : Hid ((es.take i).map mmE = es.map mmE) := by show _ = _; rw [List.take_of_length_le (by rw [hl.out]; exact Nat.le_refl _)]
      have HSF := Lib.hid (sortF_any w1.heap.size g i c' _ wr OG hm)
      have P5' := P5
      obtain ⟨⟨s5, p5, q5⟩, f50, f51⟩ := P5'
      clear OX OG
      go_wp2_with fail
      refine HSF.out.mono ?_
      rintro e w6 ⟨rfl, ⟨xs, hp, hs, OG6⟩, hg6⟩
      have HXS : Hid (xs = srtE es) := srt_uniq (by rw [← HTM.out]; exact hp) hs
      have hb6 := hbr.grown hg6 (by omega) (fun y hy => by cases hy; omega)
      have P46 := P4.kept hg6 (by simp; omega)
      have P56 := P5.kept hg6 (by simp; omega)
      obtain ⟨⟨s6, p6, q6⟩, f60, f61⟩ := P56
      have P46' := P46
      obtain ⟨⟨s7, p7, q7⟩, f70, f71⟩ := P46'
      have hlen : Hid (i = (srtE es).length) := by show _ = _; rw [srt_len, hl.out]
      have O8 := (OG6.setOther (a := ⟨B0, 0, none⟩) (by simp; omega) (.int .i64 n)).setOther (a := ⟨B0, 1, none⟩) (by simp; omega) (.slice (some ⟨g, 0, none⟩) i c')
      have P8 := P46.set2 (.int .i64 n) (.slice (some ⟨g, 0, none⟩) i c')
      have hB8 := (hb6.setCell (p := ⟨B0, 0, none⟩) hB0w.1 (.int .i64 n)).setCell (p := ⟨B0, 1, none⟩) hB0w.1 (.slice (some ⟨g, 0, none⟩) i c')
      clear hp hs s5 p5 q5 f50 f51 P4 P5 hg6 hb6 hbr HSF
      go_wp2_with fail
      obtain ⟨w9, hw9⟩ : ∃ w9, w9 = ((w6.setCell ⟨B0, 0, none⟩ (.int .i64 n)).setCell ⟨B0, 1, none⟩ (.slice (some ⟨g, 0, none⟩) i c')) := ⟨_, rfl⟩
      rw [← hw9] at O8 P8 hB8 ⊢
      clear hw9 p6 q6 p7 q7
      obtain ⟨⟨k0, k1, k2⟩, _, _⟩ := P8
      refine bodyPost_ret (v := .agg #[.int .i64 n, .slice (some ⟨g, 0, none⟩) i c']) ?_ rfl ⟨g, c', by rw [← hlen.out], by rw [← hlen.out, ← HXS.out]; exact O8.mono hww, hB8⟩
      simp [results, Try.results91, go_sem, k1, k2]
end Go.Proofs.Ytppfplhbfgjjhaa
