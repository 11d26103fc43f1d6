import Derived.Test.YtajnhkkiddeegaaGreatZc27
set_option linter.unusedVariables false
set_option linter.unusedSimpArgs false
namespace Go.Proofs.YtajnhkkiddeegaaGreat
open Go.RowKit Go.Sort
noncomputable def fcL (n : Int) (es : List (Int × Int)) : List Int := if B (IsG n es) then (match allC es (ia []) with | [] => [] | g :: _ => lsN es.length g) else []
noncomputable def fcC (n : Int) (es : List (Int × Int)) : Int := if B (IsG n es) then (match allC es (ia []) with | [] => 4 | _ :: _ => 0) else 1
theorem retLCnil {w w' : World} {xs : List Int} {k : Int} (hx : xs = []) (hb : Below w.heap.size w w') : RetLC xs k w (.returned (.tuple #[.slice none 0 0, .int .i64 k])) w' := by
  subst hx; exact ⟨none, 0, rfl, OwnL.nil _ _, hb⟩
set_option maxRecDepth 100000 in
set_option maxHeartbeats 400000 in
theorem spFirstColouring_any (n : Int) (b o m c : Nat) (es : List (Int × Int)) (w : World) (h : Eds w b o m es) (hm : m ≤ 1048576) :
    Calls Tryz.prog 15 #[.agg #[.int .i64 n, .slice (some ⟨b, o, none⟩) m c]] w (RetLC (fcL n es) (fcC n es) w) := by
  have hbox := Box2.made w (.int .i64 n) (.slice (some ⟨b, o, none⟩) m c) 26
  have hbb := (by go_grown : Below w.heap.size w (w.alloc (.cells #[.int .i64 n, .slice (some ⟨b, o, none⟩) m c] 26)))
  have HSP := Lib.hid (l01Is_any n b o m c es _ (h.alloc (.cells #[.int .i64 n, .slice (some ⟨b, o, none⟩) m c] 26)) hm)
  by_cases hG : IsG n es
  · have hl : es.length = m := h.len
    have hFL : fcL n es = match allC es (ia []) with | [] => [] | g :: _ => lsN m g := by unfold fcL; rw [if_pos (B_true hG), ← hl]
    have hFC : fcC n es = match allC es (ia []) with | [] => 4 | _ :: _ => 0 := by unfold fcC; rw [if_pos (B_true hG)]
    rw [B_true hG] at HSP
    have hn2 := hG.wf.1
    obtain ⟨N, rfl⟩ : ∃ N : Nat, n = N := ⟨n.toNat, by omega⟩
    have HLN := Lib.hid (fun W hE => l02Normal_any N b o m c 0 es W hE hm hG (by omega))
    have c00 : ((0 : Nat) : Int) = 0 := rfl
    rw [c00] at HLN
    clear hG
    cases hA : allC es (ia []) with
    | nil =>
      rw [hA] at hFL hFC HLN
      have HX : Hid (fcL N es = []) := hFL
      have HC : Hid (fcC N es = 4) := hFC
      have HLN2 : Hid (∀ W, Eds W b o m es → Calls Tryz.prog 60 #[.agg #[.int .i64 N, .slice (some ⟨b, o, none⟩) m c], .int .i64 0] W (RetLL [] W)) := HLN
      rw [HC.out]
      clear hA hFL hFC HLN
      go_enter Tryz.func15, Tryz.ntmps15
      go_wp2_with fail
      refine HSP.out.mono ?_
      rintro e w1 ⟨rfl, hb1⟩
      have hB1 := hbb.thenB (by simp) hb1
      obtain ⟨s1, p1, q1⟩ := hbox.below hb1
      clear hb1 hbb hbox
      go_wp2_with fail
      refine (HLN2.out _ (h.below hB1)).mono ?_
      rintro e w2 ⟨A2, c2, rfl, O2, hb2⟩
      go_wp2_with fail
      go_ret2
      exact retLCnil HX.out (hB1.andB hb2)
    | cons g T =>
      rw [hA] at hFL hFC HLN
      have HX : Hid (fcL N es = lsN m g) := hFL
      have HC : Hid (fcC N es = 0) := hFC
      have HLN2 : Hid (∀ W, Eds W b o m es → Calls Tryz.prog 60 #[.agg #[.int .i64 N, .slice (some ⟨b, o, none⟩) m c], .int .i64 0] W (RetLL [lsN m g] W)) := HLN
      rw [HC.out, HX.out]
      clear hA hFL hFC HLN
      go_enter Tryz.func15, Tryz.ntmps15
      go_wp2_with fail
      refine HSP.out.mono ?_
      rintro e w1 ⟨rfl, hb1⟩
      have hB1 := hbb.thenB (by simp) hb1
      obtain ⟨s1, p1, q1⟩ := hbox.below hb1
      clear hb1 hbb hbox
      go_wp2_with fail
      refine (HLN2.out _ (h.below hB1)).mono ?_
      rintro e w2 ⟨A2, c2, rfl, O2, hb2⟩
      obtain ⟨g2, Aj, cj, rfl, hg, hg', rc, OJ⟩ := O2.at (j := 0) (by simp)
      have hra : ra [lsN m g] 0 = lsN m g := rfl
      rw [hra] at rc OJ
      have hB2 := hB1.andB hb2
      have OJ2 := OJ.mono hB1.size
      have HF : Hid (RetLC (lsN m g) 0 w (.returned (.tuple #[.slice Aj (lsN m g).length cj, .int .i64 0])) w2) := ⟨Aj, cj, rfl, OJ2, hB2⟩
      clear OJ OJ2 O2 hra
      go_wp2_with fail
      go_ret2
      exact HF.out
  · have HX : Hid (fcL n es = []) := by show _ = _; unfold fcL; rw [if_neg (by rw [B_false hG]; decide)]
    have HC : Hid (fcC n es = 1) := by show _ = _; unfold fcC; rw [if_neg (by rw [B_false hG]; decide)]
    rw [B_false hG] at HSP
    rw [HC.out]
    clear hG hbox
    go_enter Tryz.func15, Tryz.ntmps15
    go_wp2_with fail
    refine HSP.out.mono ?_
    rintro e w1 ⟨rfl, hb1⟩
    have hB1 := hbb.thenB (by simp) hb1
    clear hb1 hbb
    go_wp2_with fail
    go_ret2
    exact retLCnil HX.out hB1
set_option maxRecDepth 100000 in
set_option maxHeartbeats 400000 in
theorem imFirstColouring_any (n : Int) (b o m c : Nat) (es : List (Int × Int)) (w : World) (h : Eds w b o m es) (hm : m ≤ 1048576) :
    Calls Tryz.prog 14 #[.agg #[.int .i64 n, .slice (some ⟨b, o, none⟩) m c]] w (RetLC (fcL n es) (fcC n es) w) := by
  have hbox := Box2.made w (.int .i64 n) (.slice (some ⟨b, o, none⟩) m c) 26
  have hbb := (by go_grown : Below w.heap.size w (w.alloc (.cells #[.int .i64 n, .slice (some ⟨b, o, none⟩) m c] 26)))
  have HGC := Lib.hid (graphCode_any n b o m c es true _ (h.alloc (.cells #[.int .i64 n, .slice (some ⟨b, o, none⟩) m c] 26)) hm)
  by_cases hG : IsG n es
  · have hl : es.length = m := h.len
    have hFL : fcL n es = match allC es (ia []) with | [] => [] | g :: _ => lsN m g := by unfold fcL; rw [if_pos (B_true hG), ← hl]
    have hFC : fcC n es = match allC es (ia []) with | [] => 4 | _ :: _ => 0 := by unfold fcC; rw [if_pos (B_true hG)]
    rw [show gcC n es true = 0 by simp [gcC, B_true hG]] at HGC
    have hn2 := hG.wf.1
    obtain ⟨N, rfl⟩ : ∃ N : Nat, n = N := ⟨n.toNat, by omega⟩
    have HF := Lib.hid (fun W hE => first_F N b o m c es W hE hm hG)
    clear hG
    cases hA : allC es (ia []) with
    | nil =>
      rw [hA] at hFL hFC
      have HX : Hid (fcL N es = []) := hFL
      have HC : Hid (fcC N es = 4) := hFC
      have HF2 : Hid (∀ W, Eds W b o m es → Calls Tryz.prog 53 #[.agg #[.int .i64 N, .slice (some ⟨b, o, none⟩) m c]] W (fun e w' => e = .returned (.slice none 0 0) ∧ Below W.heap.size W w')) := fun W hE => (HF.out W hE).mono fun e w' hr => by unfold RetF at hr; rw [hA] at hr; exact hr
      rw [HC.out]
      clear hA hFL hFC HF
      go_enter Tryz.func14, Tryz.ntmps14
      go_wp2_with fail
      refine HGC.out.mono ?_
      rintro e w1 ⟨rfl, hb1⟩
      have hB1 := hbb.thenB (by simp) hb1
      obtain ⟨s1, p1, q1⟩ := hbox.below hb1
      clear hb1 hbb hbox
      go_wp2_with fail
      refine (HF2.out _ (h.below hB1)).mono ?_
      rintro e w2 ⟨rfl, hb2⟩
      have hq0 : ∀ W, (binOp .eql 34 (.slice none 0 0) (.slice none 0 0)).run Tryz.prog W = .ok (.bool true) W := fun W => by kernel_rfl
      go_wp2_with fail
      go_ret2
      exact retLCnil HX.out (hB1.andB hb2)
    | cons g T =>
      rw [hA] at hFL hFC
      have HX : Hid (fcL N es = lsN m g) := hFL
      have HC : Hid (fcC N es = 0) := hFC
      have HF2 : Hid (∀ W, Eds W b o m es → Calls Tryz.prog 53 #[.agg #[.int .i64 N, .slice (some ⟨b, o, none⟩) m c]] W (fun e w' => ∃ a c, e = .returned (.slice (some a) (lsN m g).length c) ∧ OwnL W.heap.size w' (some a) (lsN m g).length c (lsN m g) ∧ Below W.heap.size W w')) := fun W hE => (HF.out W hE).mono fun e w' hr => by
        unfold RetF at hr; rw [hA] at hr
        obtain ⟨A2, c2, he, hne, O2, hb2⟩ := hr
        obtain ⟨a2, rfl⟩ : ∃ a, A2 = some a := Option.ne_none_iff_exists'.1 hne
        exact ⟨a2, c2, he, O2, hb2⟩
      rw [HC.out, HX.out]
      clear hA hFL hFC HF
      go_enter Tryz.func14, Tryz.ntmps14
      go_wp2_with fail
      refine HGC.out.mono ?_
      rintro e w1 ⟨rfl, hb1⟩
      have hB1 := hbb.thenB (by simp) hb1
      obtain ⟨s1, p1, q1⟩ := hbox.below hb1
      clear hb1 hbb hbox
      go_wp2_with fail
      refine (HF2.out _ (h.below hB1)).mono ?_
      rintro e w2 ⟨a2, c2, rfl, O2, hb2⟩
      have HFF : Hid (RetLC (lsN m g) 0 w (.returned (.tuple #[.slice (some a2) (lsN m g).length c2, .int .i64 0])) w2) := ⟨some a2, c2, rfl, O2.mono hB1.size, hB1.andB hb2⟩
      have hq0 : ∀ W, (binOp .eql 34 (.slice (some a2) (lsN m g).length c2) (.slice none 0 0)).run Tryz.prog W = .ok (.bool false) W := fun W => by kernel_rfl
      clear O2
      go_wp2_with fail
      go_ret2
      exact HFF.out
  · have HX : Hid (fcL n es = []) := by show _ = _; unfold fcL; rw [if_neg (by rw [B_false hG]; decide)]
    have HC : Hid (fcC n es = 1) := by show _ = _; unfold fcC; rw [if_neg (by rw [B_false hG]; decide)]
    rw [show gcC n es true = 1 by simp [gcC, B_false hG]] at HGC
    rw [HC.out]
    clear hG hbox
    go_enter Tryz.func14, Tryz.ntmps14
    go_wp2_with fail
    refine HGC.out.mono ?_
    rintro e w1 ⟨rfl, hb1⟩
    have hB1 := hbb.thenB (by simp) hb1
    clear hb1 hbb
    go_wp2_with fail
    go_ret2
    exact retLCnil HX.out hB1
end Go.Proofs.YtajnhkkiddeegaaGreat
namespace Go.Proofs.YtajnhkkiddeegaaGreat
open Go.RowKit Go.Sort
theorem allEdges_any (n : Int) (b o m c : Nat) (es : List (Int × Int)) (w : World) (h : Eds w b o m es) (hm : m ≤ 1048576) :
    Calls Tryz.prog 55 #[.agg #[.int .i64 n, .slice (some ⟨b, o, none⟩) m c]] w (RetL (natL (List.range' 0 m)) w) := by
  have hbox := Box2.made w (.int .i64 n) (.slice (some ⟨b, o, none⟩) m c) 26
  have hbb := (by go_grown : Below w.heap.size w (w.alloc (.cells #[.int .i64 n, .slice (some ⟨b, o, none⟩) m c] 26)))
  obtain ⟨w1, hw1⟩ : ∃ w1, w1 = w.alloc (Obj.cells #[Value.int IntKind.i64 n, Value.slice (some ⟨b, o, none⟩) m c] 26) := ⟨_, rfl⟩
  rw [← hw1] at hbb hbox
  obtain ⟨s1, p1, q1⟩ := hbox
  have hll : ∀ k, (natL (List.range' 0 k)).length = k := fun k => by simp [natL]
  have HLL := Lib.hid hll
  clear hll
  go_enter Tryz.func55, Tryz.ntmps55
  go_wp2_with fail
  rw [← hw1]
  go_wp2_with fail
  go_loopw [3, 8] (fun lv kv wv => ∃ (k : Nat) (A : Option Addr) (c' : Nat), k ≤ m ∧ kv = .int .i64 k ∧ lv = .slice A k c' ∧ OwnL w1.heap.size wv A k c' (natL (List.range' 0 k)) ∧ Below w1.heap.size w1 wv) (fun _ k _ => m - (intOf k).toNat)
  case atStart => exact ⟨0, _, _, Nat.zero_le _, rfl, rfl, OwnL.nil _ _, Below.refl _ _⟩
  case round =>
    obtain ⟨k, A, c', hk, rfl, rfl, O, hb⟩ := hrel
    have hsz := hb.size
    by_cases hlt : k < m
    · have HE : Hid (natL (List.range' 0 (k + 1)) = natL (List.range' 0 k) ++ [(k : Int)]) := by
        show _ = _
        rw [List.range'_concat, natL_app]; simp
      go_wp2_with (first
        | (at_builtin; refine wp_appL1 rfl rfl rfl rfl rfl O (by omega) (by omega) ?_; intro A3 c3 w5 O3 hg5 hat5))
      have hb5 := hb.grown hg5 hsz (fun y hy => (O.blk y hy).1)
      go_roundw
      case rel => exact ⟨k + 1, A3, c3, by omega, by go_num, rfl, by rw [HE.out]; exact O3, hb5⟩
      case measure => simp [intOf]; omega
    · obtain rfl : k = m := by omega
      have HF : Hid (RetL (natL (List.range' 0 k)) w (.returned (.slice A k c')) wr) := by
        have hl := HLL.out k
        refine ⟨A, c', by rw [hl], by rw [hl]; exact O.mono hbb.size, hbb.andB hb⟩
      go_wp2_with fail
      go_ret
      exact HF.out
/-- A list of one list. -/
def NewR (base : Nat) (xs : List Int) (v : Value) (W : World) : Prop := ∃ g A c ty fr, v = .slice (some ⟨g, 0, none⟩) 1 1 ∧ base ≤ g ∧ W.heap[g]? = some (.cells #[.slice A xs.length c] ty fr) ∧ OwnL base W A xs.length c xs
theorem NewR.below {base : Nat} {xs : List Int} {v : Value} {W W' : World} (h : NewR base xs v W) (hb : Below W.heap.size W W') : NewR base xs v W' := by
  obtain ⟨g, A, c, ty, fr, e, hg, hh, O⟩ := h
  exact ⟨g, A, c, ty, fr, e, hg, (hb.block _ (Array.getElem?_eq_some_iff.1 hh).1).trans hh, O.below hb⟩
theorem OwnLL.keptK {base top : Nat} {w w' : World} {A : Option Addr} {m c : Nat} {rows : List (List Int)} {T : Nat → Prop} (h : OwnLL base top w A m c rows) (k : Kept T w w') (hT : ∀ i, T i → i < base) : OwnLL base top w' A m c rows := by
  obtain ⟨hl, ht, hA, As, cs, ho, hro, hp⟩ := h
  have hnT : ∀ g, base ≤ g → ¬ T g := fun g hg ht => by have := hT g ht; omega
  refine ⟨hl, Nat.le_trans ht k.size, hA, As, cs, ⟨ho.1, ?_⟩, fun j hj => ⟨k.ownL (hro j hj).1 (fun g hg => hnT g ((hro j hj).1.blk g hg).1), (hro j hj).2⟩, hp⟩
  rcases ho.2 with hn | ⟨g, cap, cur, e, hb, hh, r⟩
  · exact .inl hn
  · exact .inr ⟨g, cap, cur, e, hb, (k.block g (Array.getElem?_eq_some_iff.1 hh).1 (hnT g hb)).trans hh, r⟩
theorem cloneI_any (a : Addr) (l c : Nat) (ys : List Int) (w : World) (hsrc : SrcI w (some a) l (ia ys)) (hyl : ys.length = l) (hl : l ≤ 1048576) : Calls Tryz.prog 57 #[.slice (some a) l c] w (RetL ys w) := by
  have HY := Lib.hid hyl
  have HR : Hid (∀ A' c' w', OwnL w.heap.size w' A' l c' ys → Below w.heap.size w w' → RetL ys w (.returned (.slice A' l c')) w') := fun A' c' w' O hb => by subst hyl; exact ⟨A', c', rfl, O, hb⟩
  have hq0 : ∀ W, (binOp .eql 34 (.slice (some a) l c) (.slice none 0 0)).run Tryz.prog W = .ok (.bool false) W := fun W => by kernel_rfl
  clear hyl
  go_enter Tryz.func57, Tryz.ntmps57
  go_wp2_with (at_builtin; refine wp_app0 rfl rfl rfl rfl rfl hsrc HY.out hl ?_; intro A' c' w' O hb)
  go_ret
  exact HR.out A' c' w' O hb
def fndN (m : Nat) (R : List (List Int)) (f : Nat → Int) : Bool × List (List Int) := (decide (200 < R.length + 1), R ++ [lsN m f])
set_option maxRecDepth 100000 in
set_option maxHeartbeats 1000000 in
theorem nc1_any {bo bc m cc B0 top : Nat} {A : Option Addr} {c : Nat} (R : List (List Int)) (f : Nat → Int) (w : World) (co : w.cell? ⟨bo, 0, none⟩ = some (.slice A R.length c)) (hfz : w.frozen? ⟨bo, 0, none⟩ = false) (lo : bo < w.heap.size) (O : OwnLL B0 top w A R.length c R) (hB : bo < B0) (hBw : B0 ≤ w.heap.size) (hR : R.length ≤ 200) (rc : w.rowIs bc 2 m (fun j => .int .i64 (f j))) (hm : m ≤ 1048576) :
    Calls Tryz.prog 56 #[.slice (some ⟨bc, 0, none⟩) m cc, .pointer (some ⟨bo, 0, none⟩)] w (fun e w' => e = .returned (.bool (fndN m R f).1) ∧ ∃ A' c' top', w'.cell? ⟨bo, 0, none⟩ = some (.slice A' (R.length + 1) c') ∧ w'.frozen? ⟨bo, 0, none⟩ = false ∧ OwnLL B0 top' w' A' (R.length + 1) c' (R ++ [lsN m f]) ∧ Kept (fun k => k = bo ∨ blkOf A = some k) w w' ∧ ∀ g, blkOf A' = some g → blkOf A = some g ∨ w.heap.size ≤ g) := by
  have HCL := Lib.hid (fun W (hW : Below w.heap.size w W) => cloneI_any ⟨bc, 0, none⟩ m cc (lsN m f) W (fun h0 => ⟨bc, 0, rfl, (rc.of_block (hW.block _ rc.lt)).lt, fun j hj => by rw [Nat.zero_add, (rc.of_block (hW.block _ rc.lt)).cell hj]; simp [ia, lsN, hj]⟩) (lsN_len m f) hm)
  go_enter Tryz.func56, Tryz.ntmps56
  go_wp2_with fail
  refine wp_region_then 4 (fun i v W => match i with
    | 0 => v = .slice A R.length c
    | 1 => v = .slice (some ⟨bc, 0, none⟩) m cc
    | 2 => NewL w.heap.size (lsN m f) v W
    | _ => NewR w.heap.size (lsN m f) v W)
    (fun i => match i with
    | _ => none)
    (fun k W W' => Below W.heap.size W W')  (fun W => Below w.heap.size w W) (by kernel_rfl) (by kernel_rfl) ?_ ?_ ?_ ?_ ?_
  · exact (Below.refl _ _).drew
  · intro i k v W W' hne hd hC hf hE
    match i, hf with
    | 0, hf => exact hf
    | 1, hf => exact hf
    | 2, hf => exact NewL.below hf hE
    | _ + 3, hf => exact NewR.below hf hE
  · intro k W W' hC hE
    exact Below.andB hC hE
  · simp only [List.take_succ_cons, List.take_zero]
    refine ⟨?_, ?_, ?_, ?_, trivial⟩
    · intro a W hC hs hd
      have hW : Below w.heap.size w W := hC
      have e1 : a.tmps[1]?.getD undef = .pointer (some ⟨bo, 0, none⟩) := hs 1 (by kernel_rfl)
      refine growsG_none (E := fun W W' => Below W.heap.size W W') rfl ?_
      have k0 := (hW.cell (p := ⟨bo, 0, none⟩) (lo)).trans (co)
      clear hs hd
      unfold GrowsE
      go_simp
      exact Below.refl _ _
    · intro a W hC hs hd
      have hW : Below w.heap.size w W := hC
      have e0 : a.tmps[0]?.getD undef = .slice (some ⟨bc, 0, none⟩) m cc := hs 0 (by kernel_rfl)
      refine growsG_none (E := fun W W' => Below W.heap.size W W') rfl ?_
      clear hs hd
      unfold GrowsE
      go_simp
      exact Below.refl _ _
    · intro a W hC hs hd
      have hW : Below w.heap.size w W := hC
      have e5 : (a.tmps[5]?.getD undef) = .slice (some ⟨bc, 0, none⟩) m cc := hd 1 5 (by kernel_rfl) (by kernel_rfl) (by kernel_rfl)
      refine growsG_none (E := fun W W' => Below W.heap.size W W') rfl ?_
      clear hs hd
      unfold GrowsE
      go_simp
      refine ⟨Below.refl _ _, (HCL.out W hW).mono ?_⟩
      rintro e w6 ⟨A6, c6, rfl, ho6, hb6⟩
      exact ⟨_, rfl, hb6, A6, c6, rfl, ho6.mono hW.size⟩
    · intro a W hC hs hd
      have hW : Below w.heap.size w W := hC
      have e6 : NewL w.heap.size (lsN m f) (a.tmps[6]?.getD undef) W := hd 2 6 (by kernel_rfl) (by kernel_rfl) (by kernel_rfl)
      obtain ⟨A6, c6, e6, O6⟩ := e6
      refine growsG_none (E := fun W W' => Below W.heap.size W W') rfl ?_
      clear hs hd
      unfold GrowsE
      go_simp
      exact ⟨(Below.refl _ _).alloc (Nat.le_refl _) _, _, A6, c6, _, _, rfl, hW.size, heap_alloc_new _ _, O6.below ((Below.refl _ _).alloc (Nat.le_refl _) _)⟩
  intro vs W hW hf
  have f4 : (vs 4) = .slice A R.length c := hf 0 4 (by decide) (by kernel_rfl) (fun _ hk => by cases hk)
  have f5 : (vs 5) = .slice (some ⟨bc, 0, none⟩) m cc := hf 1 5 (by decide) (by kernel_rfl) (fun _ hk => by cases hk)
  have f6 : NewL w.heap.size (lsN m f) (vs 6) W := hf 2 6 (by decide) (by kernel_rfl) (fun _ hk => by cases hk)
  obtain ⟨A6, c6, f6, O6⟩ := f6
  have f7 : NewR w.heap.size (lsN m f) (vs 7) W := hf 3 7 (by decide) (by kernel_rfl) (fun _ hk => by cases hk)
  obtain ⟨g7, A7, c7, ty7, fr7, f7, hg7, R7, O7⟩ := f7
  simp only [dsts, List.take_succ_cons, List.take_zero, List.drop_succ_cons, List.drop_zero, List.filterMap_cons, List.filterMap_nil, List.foldl_cons, List.foldl_nil, Act.put, List.setIfInBounds_toArray, List.set_cons_succ, List.set_cons_zero, f4, f5, f6, f7]
  clear hf
  have co2 := (hW.cell (p := ⟨bo, 0, none⟩) lo).trans co
  have fz2 := (hW.frozen (p := ⟨bo, 0, none⟩) lo).trans hfz
  have lo2 := Nat.lt_of_lt_of_le lo hW.size
  have O2 := O.below hW
  have htop := O.2.1
  have O7' := O7.mono hBw
  have hnew : ∀ g, blkOf A7 = some g → top ≤ g := fun g hg => by have := (O7.blk g hg).1; omega
  have hBW : B0 ≤ W.heap.size := Nat.le_trans hBw hW.size
  have hneA : some bo ≠ blkOf A := fun hh => by have := (O.blk bo hh.symm).1; omega
  clear f4 f5 f6 f7 O6 O7 HCL
  go_wp2_with (at_builtin; refine wpList_plain rfl fun K hK => wp_appR rfl rfl rfl R7 rfl O2 O7' hnew hBW (by omega) ?_; intro A5 c5 w5 O5 hg5 hat5; have co5 := (hg5.cell_far ⟨bo, 0, none⟩ lo2 hneA).trans co2; have fz5 := (hg5.frozen_far ⟨bo, 0, none⟩ lo2 hneA).trans fz2; refine hK _ _ ?_)
  go_ret
  have kk : Kept (fun k => k = bo ∨ blkOf A = some k) w w5 := (Kept.of hW).trans (Kept.ofGrown hg5 (fun k hk _ => .inr hk))
  refine ⟨ret_bool (by show _ = decide (200 < R.length + 1); rw [decide_eq_decide]; omega), A5, c5, w5.heap.size, ?_, by simpa using fz5, ?_, kk.setCell (.inl rfl) _, fun g hg => ?_⟩
  · exact World.cell?_setCell_same _ _ _ co5
  · exact O5.keptK ((Kept.refl (fun k => k = bo) w5).setCell rfl _) (fun i hi => by omega)
  · rcases hat5 with h5 | ⟨g5, h5, h6⟩
    · left; rw [← h5]; exact hg
    · rw [h5] at hg; cases hg; right; have := hW.size; omega
/-- The list so far, in its variable. -/
def StN (bo B0 : Nat) (R : List (List Int)) (w : World) : Prop := ∃ A c top, w.cell? ⟨bo, 0, none⟩ = some (.slice A R.length c) ∧ w.frozen? ⟨bo, 0, none⟩ = false ∧ OwnLL B0 top w A R.length c R ∧ B0 ≤ w.heap.size
def SN (bo : Nat) (w : World) (k : Nat) : Prop := k = bo ∨ ∃ A m c, w.cell? ⟨bo, 0, none⟩ = some (.slice A m c) ∧ blkOf A = some k
theorem enN1 : Enters 56 := fun args w => by kernel_rfl
theorem paintedN {N m b o c : Nat} {A : Option Addr} {cA : Nat} {L : List Nat} {es : List (Int × Int)} {w0 w : World} {bp bc bu bo : Nat} (r : Bool)
    (po : PO w0 w bp bc bu N m (.slice (some ⟨b, o, none⟩) m c) (.slice A L.length cA) (.func (.func 56) #[] #[.pointer (some ⟨bo, 0, none⟩)]) (pF r (atL es 0)) (pU r es (atL es 0))) (hn : WfP N es) (hm : m ≤ 1048576) (hLl : L.length ≤ 1048576) (E : Eds w0 b o m es) (I : SrcI w0 A L.length (fun j => ((L.getD j 0 : Nat) : Int))) (hA : ∀ g, blkOf A = some g → g < w0.heap.size ∧ g ≠ bo) (hL : ∀ d, d ∈ L → d < m) (hb : b ≠ bo)
    (hbo : bo < w0.heap.size) (co : w.cell? ⟨bo, 0, none⟩ = some (.slice none 0 0)) (fo : w.frozen? ⟨bo, 0, none⟩ = false) :
    Calls Tryz.prog 58 #[.pointer (some ⟨bp, 0, none⟩)] w (fun e w' => e = .returned (.bool (runF (fndN m) [] (impT es L r)).1) ∧ StN bo w.heap.size (runF (fndN m) [] (impT es L r)).2 w' ∧ Kept (fun k => k = bo) w0 w') := by
  have hpc := po.hc
  have hpu := po.hu
  have hcl := po.rc.lt
  have hul := po.ru.lt
  have hsz := po.bel.size
  have st : StN bo w.heap.size [] w := ⟨none, 0, _, co, fo, OwnLL.nil _ _, Nat.le_refl _⟩
  have hS0 : ∀ k, SN bo w k → k = bo := fun k hk => by
    rcases hk with h | ⟨A1, m1, c1, h1, h2⟩
    · exact h
    · rw [co] at h1; injection h1 with h1; injection h1 with h1 _ _; subst h1; cases h2
  have ps := po.ps (S := SN bo w) E I (fun g hg => (hA g hg).1) hL (fun k hk => by rw [hS0 k hk]; exact hbo) (fun hh => hb (hS0 _ hh)) (fun g hg hh => (hA g hg).2 (hS0 _ hh))
  have hAw : ∀ g, blkOf A = some g → g < w.heap.size := fun g hg => Nat.lt_of_lt_of_le (hA g hg).1 hsz
  have hbo1 : bo < w.heap.size := by omega
  have hnb : ¬ (bo = bc ∨ bo = bu) := by omega
  have hcell : ∀ w1 w2, Kept (fun k => k = bc ∨ k = bu) w1 w2 → bo < w1.heap.size → w2.cell? ⟨bo, 0, none⟩ = w1.cell? ⟨bo, 0, none⟩ := fun w1 w2 k hl => k.cell hl (by omega) 0
  have hlt : ∀ R w1, StN bo w.heap.size R w1 → bo < w1.heap.size := fun R w1 ⟨A1, c1, t1, h1, _, _, _⟩ => World.block_lt_of_cell? w1 _ h1
  have hpaint : ∀ (W : World), Below w.heap.size w W → Calls Tryz.prog 106 #[.pointer (some ⟨bp, 0, none⟩), .int .i64 0] W (fun e w' => e = .returned (.bool (runF (fndN m) [] (impT es L r)).1) ∧ StN bo w.heap.size (runF (fndN m) [] (impT es L r)).2 w' ∧ Kept (fun k => k = bo) w0 w') := fun W hW => by
    have coW := (hW.cell (p := ⟨bo, 0, none⟩) hbo1).trans co
    have hSW : ∀ k, SN bo W k → k = bo := fun k hk => by
      rcases hk with h | ⟨A1, m1, c1, h1, h2⟩
      · exact h
      · rw [coW] at h1; injection h1 with h1; injection h1 with h1 _ _; subst h1; cases h2
    have ps2 := ps.kept (T := SN bo W) (Kept.of hW) (fun i hi => .inl (.inl (hSW i hi))) hAw
    have pw2 : PW W (SN bo W) bc bu N m (pF r (atL es 0)) (pU r es (atL es 0)) W := (po.pw.below hW).self (w := w) (S := SN bo w)
    have st2 : StN bo w.heap.size [] W := by
      obtain ⟨A1, c1, t1, h1, h2, h3, h4⟩ := st
      exact ⟨A1, c1, t1, (hW.cell (p := ⟨bo, 0, none⟩) hbo1).trans h1, (hW.frozen (p := ⟨bo, 0, none⟩) hbo1).trans h2, h3.below hW, Nat.le_trans h4 hW.size⟩
    have hp := paintW_any (StN bo w.heap.size) (fun _ w => SN bo w) (fndN m) (fun R => R.length ≤ 200) 56 #[.pointer (some ⟨bo, 0, none⟩)] hn hm hLl enN1
      (fun R w1 w2 ⟨A1, c1, t1, h1, h2, h3, h4⟩ k => ⟨A1, c1, t1, (hcell w1 w2 k (World.block_lt_of_cell? w1 _ h1)).trans h1, (k.frozen (World.block_lt_of_cell? w1 _ h1) hnb 0).trans h2, h3.keptK k (fun i hi => by omega), Nat.le_trans h4 k.size⟩)
      (fun R w1 hs k hk => by
        have hl := hlt R w1 hs
        obtain ⟨A1, c1, t1, h1, h2, h3, _⟩ := hs
        rcases hk with h | ⟨A2, m2, c2, h4, h5⟩
        · omega
        · rw [h1] at h4; injection h4 with h4; injection h4 with h4 _ _; subst h4
          have := h3.blk k h5; have := h3.2.1; omega)
      (fun R w1 w2 hs k i hi => by
        have hl := hlt R w1 hs
        rcases hi with h | ⟨A2, m2, c2, h4, h5⟩
        · exact .inl h
        · exact .inr ⟨A2, m2, c2, by rw [← hcell w1 w2 k hl]; exact h4, h5⟩)
      (fun R f hR hf => by
        simp only [fndN, decide_eq_false_iff_not] at hf
        simp only [fndN, List.length_append, List.length_singleton]; omega)
      (fun R f U w1 hR psx pwx hs => by
        have hl := hlt R w1 hs
        obtain ⟨A1, c1, t1, h1, h2, h3, hbw⟩ := hs
        have := nc1_any (cc := m) R f w1 h1 h2 hl h3 (by omega) hbw hR pwx.rc hm
        refine this.mono ?_
        rintro e w2 ⟨rfl, A5, c5, t5, g1, g2, g3, g4, g5⟩
        have hA1 := h3.blk
        have hl5 : (fndN m R f).2.length = R.length + 1 := by simp [fndN]
        refine ⟨rfl, ⟨g4.wide (fun k hk => ?_), g4.row pwx.rc (fun hh => ?_), g4.row pwx.ru (fun hh => ?_)⟩, ⟨A5, c5, t5, by rw [hl5]; exact g1, g2, by rw [hl5]; exact g3, Nat.le_trans hbw g4.size⟩, fun k hk => ?_⟩
        · rcases hk with h | h
          · exact .inr (.inr (.inl h))
          · exact .inr (.inr (.inr ⟨A1, _, c1, h1, h⟩))
        · rcases hh with h | h
          · omega
          · have := (hA1 _ h).1; omega
        · rcases hh with h | h
          · omega
          · have := (hA1 _ h).1; omega
        · rcases hk with h | ⟨A2, m2, c2, h4, h5⟩
          · exact .inl (.inl h)
          · rw [g1] at h4; injection h4 with h4; injection h4 with h4 _ _; subst h4
            rcases g5 k h5 with h | h
            · exact .inl (.inr ⟨A1, _, c1, h1, h⟩)
            · exact .inr h)
      (L.length + 1) 0 [] (pF r (atL es 0)) (pU r es (atL es 0)) W (by omega) (Nat.zero_le _) (by simp) ps2 pw2 st2 (pU8 r es) (fun g hg => Nat.lt_of_lt_of_le (hAw g hg) hW.size)
    refine hp.mono ?_
    rintro e w' ⟨rfl, P, s', hT⟩
    rw [List.drop_zero] at s' ⊢
    refine ⟨rfl, s', (Kept.of (po.bel.andB hW)).trans' P.k (fun i hi => ?_)⟩
    rcases hi with h1 | h1 | h1
    · right; omega
    · right; omega
    · exact .inl (hSW i h1)
  refine start_any ps hn hm _ _ po.pw (pF_rng r es) (pF_nocl r es) _ fun W hW => (hpaint W hW).mono ?_
  rintro e w' ⟨rfl, h1, h2⟩
  exact ⟨_, rfl, rfl, h1, h2⟩
end Go.Proofs.YtajnhkkiddeegaaGreat
namespace Go.Proofs.YtajnhkkiddeegaaGreat
open Go.RowKit Go.Sort
/-- Values laid one edge after the other. -/
def asg : List Nat → List Int → (Nat → Int) → Nat → Int
  | e :: L, x :: ws, f => asg L ws (upF f e x)
  | _, _, f => f
def wrds (vals : List Int) : Nat → List (List Int)
  | 0 => [[]]
  | k + 1 => vals.flatMap fun x => (wrds vals k).map fun t => x :: t
theorem allG_wrds {vals : List Int} : ∀ (L : List Nat) (f : Nat → Int), allG vals L f = (wrds vals L.length).map fun t => asg L t f := by
  intro L
  induction L with
  | nil => intro f; rfl
  | cons e L ih =>
    intro f
    simp only [allG, wrds, List.length_cons, List.map_flatMap, List.map_map]
    congr 1
    funext x
    rw [ih]
    rfl
theorem wrds_len {vals : List Int} : ∀ {k : Nat} {t : List Int}, t ∈ wrds vals k → t.length = k := by
  intro k
  induction k with
  | zero => intro t h; simp [wrds] at h; subst h; rfl
  | succ k ih =>
    intro t h
    simp only [wrds, List.mem_flatMap, List.mem_map] at h
    obtain ⟨x, _, u, hu, rfl⟩ := h
    simp [ih hu]
theorem asg_eq : ∀ (L : List Nat) (t : List Int) (f f' : Nat → Int) (d : Nat), t.length = L.length → (d ∈ L ∨ f d = f' d) → asg L t f d = asg L t f' d := by
  intro L
  induction L with
  | nil =>
    intro t f f' d _ h
    have := h.resolve_left (by simp)
    cases t <;> exact this
  | cons e L ih =>
    intro t f f' d hl h
    cases t with
    | nil => simp at hl
    | cons x t =>
      simp only [asg]
      refine ih t _ _ d (by simpa using hl) ?_
      by_cases hd : d = e
      · right; simp only [upF, if_pos hd]
      · rcases h with h | h
        · exact .inl ((List.mem_cons.1 h).resolve_left hd)
        · right; simp only [upF, if_neg hd, h]
theorem okP_congr {es : List (Int × Int)} {G : Nat → Int} {L : List Nat} {g g' : Nat → Int} (h : ∀ d, d ∈ L → g d = g' d) : okP es G L g = okP es G L g' := by
  rw [Bool.eq_iff_iff, okP_iff, okP_iff]
  constructor
  · rintro ⟨h1, h2⟩
    exact ⟨fun d hd hg => by rw [← h d hd]; exact h1 d hd hg, fun d e hd he ha hne => by rw [← h d hd, ← h e he]; exact h2 d e hd he ha hne⟩
  · rintro ⟨h1, h2⟩
    exact ⟨fun d hd hg => by rw [h d hd]; exact h1 d hd hg, fun d e hd he ha hne => by rw [h d hd, h e he]; exact h2 d e hd he ha hne⟩
/-- The colourings do not turn on what stood at the edges at first. -/
theorem allC_any (es : List (Int × Int)) (G : Nat → Int) (f f' : Nat → Int) :
    ((allG col3 (List.range' 0 es.length) f).filter (okP es G (List.range' 0 es.length))).map (lsN es.length) = ((allG col3 (List.range' 0 es.length) f').filter (okP es G (List.range' 0 es.length))).map (lsN es.length) := by
  rw [allG_wrds, allG_wrds, List.filter_map, List.filter_map, List.map_map, List.map_map]
  have hd : ∀ t, t ∈ wrds col3 (List.range' 0 es.length).length → ∀ d, d ∈ List.range' 0 es.length → asg (List.range' 0 es.length) t f d = asg (List.range' 0 es.length) t f' d := fun t ht d hd => asg_eq _ t f f' d (wrds_len ht) (.inl hd)
  rw [List.filter_congr (p := (okP es G (List.range' 0 es.length)) ∘ fun t => asg (List.range' 0 es.length) t f) (q := (okP es G (List.range' 0 es.length)) ∘ fun t => asg (List.range' 0 es.length) t f') (fun t ht => okP_congr (hd t ht))]
  refine List.map_congr_left fun t ht => ?_
  have ht' := (List.mem_filter.1 ht).1
  refine List.map_congr_left fun d hdm => ?_
  exact hd t ht' d (List.mem_range'_1.2 (by have := List.mem_range.1 hdm; omega))
theorem impT_all {N : Nat} {es : List (Int × Int)} (hG : IsG N es) : (impT es (List.range' 0 es.length) true).map (lsN es.length) = (allC es (ia [])).map (lsN es.length) := by
  have hp := part_all hG
  have hpF : pF true (atL es 0) = gN es 0 := nF_gN es 0
  unfold impT
  rw [col_tree hG.wf (List.range' 0 es.length) _ _ (usI_p hG true) hp.lt (fun d _ => pF_rng true es d) hp.nodup, hpF, treeI hp (fun d e _ hne h => Classical.byContradiction fun h1 => hne (gN_inj h1 h))]
  exact allC_any es (gN es 0) _ _
theorem runN (m : Nat) : ∀ (T : List (Nat → Int)) (R : List (List Int)), R.length ≤ 200 → (R.length + T.length ≤ 200 → runF (fndN m) R T = (false, R ++ T.map (lsN m))) ∧ (200 < R.length + T.length → (runF (fndN m) R T).1 = true) := by
  intro T
  induction T with
  | nil => intro R hR; exact ⟨fun _ => by simp [runF], fun h => by simp at h; omega⟩
  | cons g T ih =>
    intro R hR
    have hf : fndN m R g = (decide (200 < R.length + 1), R ++ [lsN m g]) := rfl
    simp only [runF, hf]
    by_cases h : 200 < R.length + 1
    · rw [decide_eq_true h, if_pos rfl]
      exact ⟨fun h2 => by simp at h2; omega, fun _ => rfl⟩
    · rw [decide_eq_false h, if_neg (by decide)]
      have := ih (R ++ [lsN m g]) (by simp; omega)
      simp only [List.length_append, List.length_cons, List.length_nil] at this ⊢
      refine ⟨fun h2 => ?_, fun h2 => this.2 (by omega)⟩
      rw [this.1 (by omega)]
      simp
noncomputable def ncL (n : Int) (es : List (Int × Int)) : List (List Int) := if B (IsG n es) then (if (allC es (ia [])).length ≤ 200 then (allC es (ia [])).map (lsN es.length) else []) else []
noncomputable def ncC (n : Int) (es : List (Int × Int)) : Int := if B (IsG n es) then (if (allC es (ia [])).length ≤ 200 then 0 else 3) else 1
set_option maxRecDepth 100000 in
set_option maxHeartbeats 400000 in
theorem spNormalColourings_any (n : Int) (b o m c : Nat) (es : List (Int × Int)) (w : World) (h : Eds w b o m es) (hm : m ≤ 1048576) :
    Calls Tryz.prog 8 #[.agg #[.int .i64 n, .slice (some ⟨b, o, none⟩) m c]] w (RetLLC (ncL n es) (ncC n es) w) := by
  have hbox := Box2.made w (.int .i64 n) (.slice (some ⟨b, o, none⟩) m c) 26
  have hbb := (by go_grown : Below w.heap.size w (w.alloc (.cells #[.int .i64 n, .slice (some ⟨b, o, none⟩) m c] 26)))
  have HSP := Lib.hid (l01Is_any n b o m c es _ (h.alloc (.cells #[.int .i64 n, .slice (some ⟨b, o, none⟩) m c] 26)) hm)
  by_cases hG : IsG n es
  · have hl : es.length = m := h.len
    have hFL : ncL n es = if (allC es (ia [])).length ≤ 200 then (allC es (ia [])).map (lsN m) else [] := by unfold ncL; rw [if_pos (B_true hG), ← hl]
    have hFC : ncC n es = if (allC es (ia [])).length ≤ 200 then 0 else 3 := by unfold ncC; rw [if_pos (B_true hG)]
    rw [B_true hG] at HSP
    have hn2 := hG.wf.1
    obtain ⟨N, rfl⟩ : ∃ N : Nat, n = N := ⟨n.toNat, by omega⟩
    have HLN := Lib.hid (fun W hE => l02Normal_any N b o m c 200 es W hE hm hG (by omega))
    have c00 : ((200 : Nat) : Int) = 200 := rfl
    rw [c00] at HLN
    obtain ⟨rows, hrows⟩ : ∃ rows, rows = (allC es (ia [])).map (lsN m) := ⟨_, rfl⟩
    have hrl : rows.length = (allC es (ia [])).length := by rw [hrows]; simp
    rw [← hrl, ← hrows] at hFL
    rw [← hrl] at hFC
    rw [← hrows] at HLN
    clear hG hrows hrl
    by_cases hq : rows.length ≤ 200
    · rw [if_pos hq] at hFL hFC
      have HX := Lib.hid hFL
      have HC := Lib.hid hFC
      have HT : Hid (tkL 200 rows = rows) := tk_self (by omega)
      rw [HT.out] at HLN
      rw [HC.out, HX.out]
      clear hFL hFC
      have hq' : ¬ ((rows.length : Int) > 200) := by omega
      go_enter Tryz.func8, Tryz.ntmps8
      go_wp2_with fail
      refine HSP.out.mono ?_
      rintro e w1 ⟨rfl, hb1⟩
      have hB1 := hbb.thenB (by simp) hb1
      obtain ⟨s1, p1, q1⟩ := hbox.below hb1
      clear hb1 hbb hbox
      go_wp2_with fail
      refine (HLN.out _ (h.below hB1)).mono ?_
      rintro e w2 ⟨A2, c2, rfl, O2, hb2⟩
      have HF : Hid (RetLLC rows 0 w (.returned (.tuple #[.slice A2 rows.length c2, .int .i64 0])) w2) := ⟨A2, c2, rfl, O2.mono hB1.size, hB1.andB hb2⟩
      clear O2
      go_wp2_with fail
      go_ret2
      exact HF.out
    · rw [if_neg hq] at hFL hFC
      have HX := Lib.hid hFL
      have HC := Lib.hid hFC
      have htl : 200 < (tkL 200 rows).length := by unfold tkL; simp; omega
      obtain ⟨r2, hr2⟩ : ∃ r2, r2 = tkL 200 rows := ⟨_, rfl⟩
      rw [← hr2] at HLN htl
      rw [HC.out]
      clear hFL hFC hr2
      have hq' : ((r2.length : Int) > 200) := by omega
      go_enter Tryz.func8, Tryz.ntmps8
      go_wp2_with fail
      refine HSP.out.mono ?_
      rintro e w1 ⟨rfl, hb1⟩
      have hB1 := hbb.thenB (by simp) hb1
      obtain ⟨s1, p1, q1⟩ := hbox.below hb1
      clear hb1 hbb hbox
      go_wp2_with fail
      refine (HLN.out _ (h.below hB1)).mono ?_
      rintro e w2 ⟨A2, c2, rfl, O2, hb2⟩
      clear O2
      go_wp2_with fail
      go_ret2
      exact retLLC_nil HX.out (hB1.andB hb2)
  · have HX : Hid (ncL n es = []) := by show _ = _; unfold ncL; rw [if_neg (by rw [B_false hG]; decide)]
    have HC : Hid (ncC n es = 1) := by show _ = _; unfold ncC; rw [if_neg (by rw [B_false hG]; decide)]
    rw [B_false hG] at HSP
    rw [HC.out]
    clear hG hbox
    go_enter Tryz.func8, Tryz.ntmps8
    go_wp2_with fail
    refine HSP.out.mono ?_
    rintro e w1 ⟨rfl, hb1⟩
    have hB1 := hbb.thenB (by simp) hb1
    clear hb1 hbb
    go_wp2_with fail
    go_ret2
    exact retLLC_nil HX.out hB1
/-- A painter of all edges, with its list. -/
def PaintN (w3 : World) (N m b o c bo : Nat) (es : List (Int × Int)) (v : Value) (W : World) : Prop := ∃ W0 bp bc bu A cA, v = .pointer (some ⟨bp, 0, none⟩) ∧ Below w3.heap.size w3 W0 ∧ PO W0 W bp bc bu N m (.slice (some ⟨b, o, none⟩) m c) (.slice A (List.range' 0 m).length cA) (.func (.func 56) #[] #[.pointer (some ⟨bo, 0, none⟩)]) (pF true (atL es 0)) (pU true es (atL es 0)) ∧ OwnL w3.heap.size W0 A (List.range' 0 m).length cA (natL (List.range' 0 m))
theorem PaintN.below {w3 : World} {N m b o c bo : Nat} {es : List (Int × Int)} {v : Value} {W W' : World} (h : PaintN w3 N m b o c bo es v W) (hb : Below W.heap.size W W') : PaintN w3 N m b o c bo es v W' := by
  obtain ⟨W0, bp, bc, bu, A, cA, e, h0, po, O⟩ := h
  exact ⟨W0, bp, bc, bu, A, cA, e, h0, po.below hb, O⟩
set_option maxRecDepth 100000 in
set_option maxHeartbeats 1000000 in
theorem imNormalColourings_any (n : Int) (b o m c : Nat) (es : List (Int × Int)) (w : World) (h : Eds w b o m es) (hm : m ≤ 1048576) :
    Calls Tryz.prog 7 #[.agg #[.int .i64 n, .slice (some ⟨b, o, none⟩) m c]] w (RetLLC (ncL n es) (ncC n es) w) := by
  have hbox := Box2.made w (.int .i64 n) (.slice (some ⟨b, o, none⟩) m c) 26
  have hbb := (by go_grown : Below w.heap.size w (w.alloc (.cells #[.int .i64 n, .slice (some ⟨b, o, none⟩) m c] 26)))
  have HGC := Lib.hid (graphCode_any n b o m c es true _ (h.alloc (.cells #[.int .i64 n, .slice (some ⟨b, o, none⟩) m c] 26)) hm)
  by_cases hG : IsG n es
  · have hl : es.length = m := h.len
    have hFL : ncL n es = if (allC es (ia [])).length ≤ 200 then (allC es (ia [])).map (lsN m) else [] := by unfold ncL; rw [if_pos (B_true hG), ← hl]
    have hFC : ncC n es = if (allC es (ia [])).length ≤ 200 then 0 else 3 := by unfold ncC; rw [if_pos (B_true hG)]
    rw [show gcC n es true = 0 by simp [gcC, B_true hG]] at HGC
    have hn2 := hG.wf.1
    obtain ⟨N, rfl⟩ : ∃ N : Nat, n = N := ⟨n.toNat, by omega⟩
    have HF := Lib.hid (fun W hE => first_F N b o m c es W hE hm hG)
    have HIT := Lib.hid (impT_all hG)
    have HG := Lib.hid hG
    clear hG
    cases hA : allC es (ia []) with
    | nil =>
      rw [hA] at hFL hFC
      have HX : Hid (ncL N es = []) := hFL
      have HC : Hid (ncC N es = 0) := hFC
      have HF2 : Hid (∀ W, Eds W b o m es → Calls Tryz.prog 53 #[.agg #[.int .i64 N, .slice (some ⟨b, o, none⟩) m c]] W (fun e w' => e = .returned (.slice none 0 0) ∧ Below W.heap.size W w')) := fun W hE => (HF.out W hE).mono fun e w' hr => by unfold RetF at hr; rw [hA] at hr; exact hr
      have hq0 : ∀ W, (binOp .eql 34 (.slice none 0 0) (.slice none 0 0)).run Tryz.prog W = .ok (.bool true) W := fun W => by kernel_rfl
      rw [HC.out]
      clear hA hFL hFC HF
      go_enter Tryz.func7, Tryz.ntmps7
      go_wp2_with fail
      refine HGC.out.mono ?_
      rintro e w1 ⟨rfl, hb1⟩
      have hB1 := hbb.thenB (by simp) hb1
      obtain ⟨s1, p1, q1⟩ := hbox.below hb1
      clear hb1 hbb hbox
      go_wp2_with fail
      refine (HF2.out _ (h.below hB1)).mono ?_
      rintro e w2 ⟨rfl, hb2⟩
      go_wp2_with fail
      go_ret2
      exact retLLC_nil HX.out (hB1.andB hb2)
    | cons g0 T0 =>
      have HF2 : Hid (∀ W, Eds W b o m es → Calls Tryz.prog 53 #[.agg #[.int .i64 N, .slice (some ⟨b, o, none⟩) m c]] W (fun e w' => ∃ a c, e = .returned (.slice (some a) (lsN m g0).length c) ∧ Below W.heap.size W w')) := fun W hE => (HF.out W hE).mono fun e w' hr => by
        unfold RetF at hr; rw [hA] at hr
        obtain ⟨A2, c2, he, hne, O2, hb2⟩ := hr
        obtain ⟨a2, rfl⟩ : ∃ a, A2 = some a := Option.ne_none_iff_exists'.1 hne
        exact ⟨a2, c2, he, hb2⟩
      obtain ⟨rows, hrows⟩ : ∃ rows, rows = (allC es (ia [])).map (lsN m) := ⟨_, rfl⟩
      have hrl : rows.length = (allC es (ia [])).length := by rw [hrows]; simp
      rw [← hrl, ← hrows] at hFL
      rw [← hrl] at hFC
      obtain ⟨T, hT⟩ : ∃ T, T = impT es (List.range' 0 m) true := ⟨_, rfl⟩
      have hTm : T.map (lsN m) = rows := by rw [hT, hrows, ← hl]; exact HIT.out
      have hTl : T.length = rows.length := by rw [← hTm]; simp
      have hrun := runN m T [] (by simp)
      have HTT := Lib.hid hT
      have HFL := Lib.hid hFL
      have HFC := Lib.hid hFC
      have HRUN := Lib.hid hrun
      clear hA HF hrows hrl hT HIT hFL hFC hrun
      go_enter Tryz.func7, Tryz.ntmps7
      go_wp2_with fail
      refine HGC.out.mono ?_
      rintro e w1 ⟨rfl, hb1⟩
      have hB1 := hbb.thenB (by simp) hb1
      obtain ⟨s1, p1, q1⟩ := hbox.below hb1
      clear hb1 hbb hbox
      go_wp2_with fail
      refine (HF2.out _ (h.below hB1)).mono ?_
      rintro e w2 ⟨a2, c2, rfl, hb2⟩
      have hq0 : ∀ W, (binOp .eql 34 (.slice (some a2) (lsN m g0).length c2) (.slice none 0 0)).run Tryz.prog W = .ok (.bool false) W := fun W => by kernel_rfl
      have hB2 := hB1.andB hb2
      have s2 := Nat.lt_of_lt_of_le s1 hb2.size
      have p2 := (hb2.cell (p := ⟨w.heap.size, 0, none⟩) s1).trans p1
      have q2 := (hb2.cell (p := ⟨w.heap.size, 1, none⟩) s1).trans q1
      clear hb2 p1 q1 s1
      go_wp2_with fail
      obtain ⟨bo, hbo⟩ : ∃ bo, bo = w2.heap.size := ⟨_, rfl⟩
      obtain ⟨w3, hw3⟩ : ∃ w3, w3 = w2.alloc (.cells #[.slice none 0 0] 28) := ⟨_, rfl⟩
      have hb3 : Below w2.heap.size w2 w3 := by rw [hw3]; exact (Below.refl _ _).alloc (Nat.le_refl _) _
      have co3 : w3.cell? ⟨bo, 0, none⟩ = some (.slice none 0 0) := by rw [hw3, hbo]; simp
      have fo3 : w3.frozen? ⟨bo, 0, none⟩ = false := by rw [hw3, hbo]; simp
      have zo3 : bo < w3.heap.size := by rw [hw3, hbo]; simp
      have s3 := Nat.lt_of_lt_of_le s2 hb3.size
      have p3 := (hb3.cell (p := ⟨w.heap.size, 0, none⟩) s2).trans p2
      have q3 := (hb3.cell (p := ⟨w.heap.size, 1, none⟩) s2).trans q2
      have hB3 := hB2.andB hb3
      have E3 := h.below hB3
      have hbb2 := h.blk
      have hszw := hB2.size
      have hbow : w.heap.size ≤ bo := by omega
      have hbbo : b < bo := by omega
      rw [← hw3, ← hbo]
      clear hw3 hb3 p2 q2 s2 hbo
      have HPT : Hid (∀ W, Below w3.heap.size w3 W → ∀ A17 c17, OwnL w3.heap.size W A17 (natL (List.range' 0 m)).length c17 (natL (List.range' 0 m)) → Calls Tryz.prog 54 #[.agg #[.int .i64 N, .slice (some ⟨b, o, none⟩) m c], .slice A17 (natL (List.range' 0 m)).length c17, .bool true, .func (.func 56) #[] #[.pointer (some ⟨bo, 0, none⟩)]] W (fun e w' => ∃ bp bc bu, e = .returned (.pointer (some ⟨bp, 0, none⟩)) ∧ PO W w' bp bc bu N m (.slice (some ⟨b, o, none⟩) m c) (.slice A17 (List.range' 0 m).length c17) (.func (.func 56) #[] #[.pointer (some ⟨bo, 0, none⟩)]) (pF true (atL es 0)) (pU true es (atL es 0)))) := fun W hW A17 c17 O17 => by
        rw [natL_len] at O17 ⊢
        refine painterOf_any N b o m c es A17 c17 (List.range' 0 m) true _ _ W (E3.below hW) hm HG.out (fun h0 => ?_) (fun g hg => (O17.blk g hg).2) (fun d hd => by have := List.mem_range'_1.1 hd; omega)
        obtain ⟨g', o', e', I'⟩ := O17.src h0
        exact ⟨g', o', e', ⟨I'.blk, fun i hi => by rw [I'.c i hi, natL_at]⟩⟩
      refine wp_region_then 5 (fun i v W => match i with
        | 0 => v = .agg #[.int .i64 N, .slice (some ⟨b, o, none⟩) m c]
        | 1 => v = .agg #[.int .i64 N, .slice (some ⟨b, o, none⟩) m c]
        | 2 => NewL w3.heap.size (natL (List.range' 0 m)) v W
        | 3 => v = .func (.func 56) #[] #[.pointer (some ⟨bo, 0, none⟩)]
        | _ => PaintN w3 N m b o c bo es v W)
        (fun i => match i with
        | _ => none)
        (fun k W W' => Below W.heap.size W W')  (fun W => Below w3.heap.size w3 W) (by kernel_rfl) (by kernel_rfl) ?_ ?_ ?_ ?_ ?_
      · exact (Below.refl _ _).drew
      · intro i k v W W' hne hd hC hf hE
        match i, hf with
        | 0, hf => exact hf
        | 1, hf => exact hf
        | 2, hf => exact NewL.below hf hE
        | 3, hf => exact hf
        | _ + 4, hf => exact PaintN.below hf hE
      · intro k W W' hC hE
        exact Below.andB hC hE
      · simp only [List.take_succ_cons, List.take_zero]
        refine ⟨?_, ?_, ?_, ?_, ?_, trivial⟩
        · intro a W hC hs hd
          have hW : Below w3.heap.size w3 W := hC
          have e1 : a.tmps[1]?.getD undef = .pointer (some ⟨w.heap.size, 0, none⟩) := hs 1 (by kernel_rfl)
          refine growsG_none (E := fun W W' => Below W.heap.size W W') rfl ?_
          have k0 := (hW.cell (p := ⟨w.heap.size, 0, none⟩) (s3)).trans (p3)
          have k1 := (hW.cell (p := ⟨w.heap.size, 1, none⟩) (s3)).trans (q3)
          clear hs hd
          unfold GrowsE
          go_simp
          exact Below.refl _ _
        · intro a W hC hs hd
          have hW : Below w3.heap.size w3 W := hC
          have e1 : a.tmps[1]?.getD undef = .pointer (some ⟨w.heap.size, 0, none⟩) := hs 1 (by kernel_rfl)
          refine growsG_none (E := fun W W' => Below W.heap.size W W') rfl ?_
          have k0 := (hW.cell (p := ⟨w.heap.size, 0, none⟩) (s3)).trans (p3)
          have k1 := (hW.cell (p := ⟨w.heap.size, 1, none⟩) (s3)).trans (q3)
          clear hs hd
          unfold GrowsE
          go_simp
          exact Below.refl _ _
        · intro a W hC hs hd
          have hW : Below w3.heap.size w3 W := hC
          have e16 : (a.tmps[16]?.getD undef) = .agg #[.int .i64 N, .slice (some ⟨b, o, none⟩) m c] := hd 1 16 (by kernel_rfl) (by kernel_rfl) (by kernel_rfl)
          refine growsG_none (E := fun W W' => Below W.heap.size W W') rfl ?_
          clear hs hd
          unfold GrowsE
          go_simp
          refine ⟨Below.refl _ _, (allEdges_any N b o m c es W (E3.below hW) hm).mono ?_⟩
          rintro e w6 ⟨A6, c6, rfl, ho6, hb6⟩
          exact ⟨_, rfl, hb6, A6, c6, rfl, ho6.mono hW.size⟩
        · intro a W hC hs hd
          have hW : Below w3.heap.size w3 W := hC
          have e5 : a.tmps[5]?.getD undef = .pointer (some ⟨bo, 0, none⟩) := hs 5 (by kernel_rfl)
          refine growsG_none (E := fun W W' => Below W.heap.size W W') rfl ?_
          clear hs hd
          unfold GrowsE
          go_simp
          exact Below.refl _ _
        · intro a W hC hs hd
          have hW : Below w3.heap.size w3 W := hC
          have e15 : (a.tmps[15]?.getD undef) = .agg #[.int .i64 N, .slice (some ⟨b, o, none⟩) m c] := hd 0 15 (by kernel_rfl) (by kernel_rfl) (by kernel_rfl)
          have e17 : NewL w3.heap.size (natL (List.range' 0 m)) (a.tmps[17]?.getD undef) W := hd 2 17 (by kernel_rfl) (by kernel_rfl) (by kernel_rfl)
          obtain ⟨A17, c17, e17, O17⟩ := e17
          have e18 : (a.tmps[18]?.getD undef) = .func (.func 56) #[] #[.pointer (some ⟨bo, 0, none⟩)] := hd 3 18 (by kernel_rfl) (by kernel_rfl) (by kernel_rfl)
          refine growsG_none (E := fun W W' => Below W.heap.size W W') rfl ?_
          clear hs hd
          unfold GrowsE
          go_simp
          refine ⟨Below.refl _ _, (HPT.out W hW A17 c17 O17).mono ?_⟩
          rintro e w6 ⟨bp, bc, bu, rfl, po⟩
          exact ⟨_, rfl, po.bel, W, bp, bc, bu, A17, c17, rfl, hW, po, (by rw [natL_len] at O17; exact O17)⟩
      intro vs W hW hf
      have f19 : PaintN w3 N m b o c bo es (vs 19) W := hf 4 19 (by decide) (by kernel_rfl) (fun _ hk => by cases hk)
      obtain ⟨W0, bp, bc, bu, A19, c19, f19, hW0, po, O19⟩ := f19
      simp only [dsts, List.take_succ_cons, List.take_zero, List.drop_succ_cons, List.drop_zero, List.filterMap_cons, List.filterMap_nil, List.foldl_cons, List.foldl_nil, Act.put, List.setIfInBounds_toArray, List.set_cons_succ, List.set_cons_zero, f19]
      clear hf
      have HST := Lib.hid (paintedN (bo := bo) true po HG.out.wf hm (by simp; omega) (E3.below hW0) (fun h0 => by
        obtain ⟨g', o', e', I'⟩ := O19.src h0
        exact ⟨g', o', e', ⟨I'.blk, fun i hi => by rw [I'.c i hi, natL_at]⟩⟩) (fun g hg => ⟨(O19.blk g hg).2, by have := (O19.blk g hg).1; omega⟩) (fun d hd => by have := List.mem_range'_1.1 hd; omega) (by omega) (Nat.lt_of_lt_of_le zo3 hW0.size) ((hW.cell (p := ⟨bo, 0, none⟩) zo3).trans co3) ((hW.frozen (p := ⟨bo, 0, none⟩) zo3).trans fo3))
      rw [← HTT.out] at HST
      have hszW := hW.size
      have hszW0 := hW0.size
      clear f19 po O19 HPT HGC HF2
      go_wp2_with fail
      refine HST.out.mono ?_
      rintro e w6 ⟨rfl, hN, hK⟩
      obtain ⟨rr, hrr⟩ : ∃ rr, rr = runF (fndN m) [] T := ⟨_, rfl⟩
      have hrun := HRUN.out
      have hFL := HFL.out
      have hFC := HFC.out
      rw [← hrr] at hN hrun ⊢
      have hB6 : Below w.heap.size w w6 := (hB3.andB hW0).trans (hK.below (by omega) (fun k hk => by omega))
      obtain ⟨A6, c6, t6, co6, fo6, O6, hs6⟩ := hN
      clear hrr HST
      by_cases hq : rows.length ≤ 200
      · rw [if_pos hq] at hFL hFC
        have HX := Lib.hid hFL
        have HC := Lib.hid hFC
        have hr2 : rr = (false, rows) := by have := hrun.1 (by simp; omega); rw [this, hTm]; rfl
        subst hr2
        have HFF : Hid (RetLLC (ncL N es) (ncC N es) w (.returned (.tuple #[.slice A6 rows.length c6, .int .i64 0])) w6) := by
          rw [HX.out, HC.out]
          exact ⟨A6, c6, rfl, (O6.mono (by omega)).raise O6.2.1 (Nat.le_refl _), hB6⟩
        have zo6 := hK.lt (Nat.lt_of_lt_of_le zo3 hszW0)
        clear hFL hFC hrun O6
        go_wp2_with fail
        go_ret2
        exact HFF.out
      · rw [if_neg hq] at hFL hFC
        have HX := Lib.hid hFL
        have HC := Lib.hid hFC
        have hr2 := hrun.2 (by simp; omega)
        obtain ⟨rb, rs⟩ := rr
        have hr3 : rb = true := hr2
        subst hr3
        have HFF : Hid (RetLLC (ncL N es) (ncC N es) w (.returned (.tuple #[.slice none 0 0, .int .i64 3])) w6) := by
          rw [HC.out]; exact retLLC_nil HX.out hB6
        clear hFL hFC hrun O6
        go_wp2_with fail
        go_ret2
        exact HFF.out
  · have HX : Hid (ncL n es = []) := by show _ = _; unfold ncL; rw [if_neg (by rw [B_false hG]; decide)]
    have HC : Hid (ncC n es = 1) := by show _ = _; unfold ncC; rw [if_neg (by rw [B_false hG]; decide)]
    rw [show gcC n es true = 1 by simp [gcC, B_false hG]] at HGC
    rw [HC.out]
    clear hG hbox
    go_enter Tryz.func7, Tryz.ntmps7
    go_wp2_with fail
    refine HGC.out.mono ?_
    rintro e w1 ⟨rfl, hb1⟩
    have hB1 := hbb.thenB (by simp) hb1
    clear hb1 hbb
    go_wp2_with fail
    go_ret2
    exact retLLC_nil HX.out hB1
end Go.Proofs.YtajnhkkiddeegaaGreat
