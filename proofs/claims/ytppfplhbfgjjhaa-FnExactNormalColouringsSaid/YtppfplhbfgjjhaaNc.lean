import Derived.Test.YtppfplhbfgjjhaaHd
import Derived.Test.YtppfplhbfgjjhaaPw
import Derived.Test.YtppfplhbfgjjhaaFn
namespace Go.Proofs.Ytppfplhbfgjjhaa
open Go.RowKit Go.Sort
/-! ### NormalColourings, the program -/
theorem allEdges_any (n : Int) (b o m c : Nat) (es : List (Int × Int)) (w : World) (h : Eds w b o m es) (hm : m ≤ 1048576) :
    Calls Try.prog 63 #[.agg #[.int .i64 n, .slice (some ⟨b, o, none⟩) m c]] w (RetL (natL (List.range' 0 m)) w) := by
  have hbox := Box2.made w (.int .i64 n) (.slice (some ⟨b, o, none⟩) m c) 30
  have hbb := (by go_grown : Below w.heap.size w (w.alloc (.cells #[.int .i64 n, .slice (some ⟨b, o, none⟩) m c] 30)))
  obtain ⟨w1, hw1⟩ : ∃ w1, w1 = w.alloc (Obj.cells #[Value.int IntKind.i64 n, Value.slice (some ⟨b, o, none⟩) m c] 30) := ⟨_, rfl⟩
  rw [← hw1] at hbb hbox
  obtain ⟨s1, p1, q1⟩ := hbox
  have hll : ∀ k, (natL (List.range' 0 k)).length = k := fun k => by simp [natL]
  have HLL := Lib.hid hll
  clear hll
  go_enter Try.func63, Try.ntmps63
  go_wp2_with fail
  rw [← hw1]
  go_wp2_with fail
  go_loopw [3, 8] (fun lv kv wv => ∃ (k : Nat) (A : Option Addr) (c' : Nat), k ≤ m ∧ kv = .int .i64 k ∧ lv = .slice A k c' ∧ OwnL w1.heap.size wv A k c' (natL (List.range' 0 k)) ∧ Below w1.heap.size w1 wv) (fun _ k _ => m - (intOf k).toNat)
  case atStart => exact ⟨0, _, _, Nat.zero_le _, rfl, rfl, OwnL.nil _ _, Below.refl _ _⟩
  case round =>
    obtain ⟨k, A, c', hk, rfl, rfl, O, hb⟩ := hrel
    have hsz := hb.size
    by_cases hlt : k < m
    · have HE : Hid (natL (List.range' 0 (k + 1)) = natL (List.range' 0 k) ++ [(k : Int)]) := by
        show _ = _
        rw [List.range'_concat, natL_app]; simp
      go_wp2_with (first
        | (at_builtin; refine wp_appL1 rfl rfl rfl rfl rfl O (by omega) (by omega) ?_; intro A3 c3 w5 O3 hg5 hat5))
      have hb5 := hb.grown hg5 hsz (fun y hy => (O.blk y hy).1)
      go_roundw
      case rel => exact ⟨k + 1, A3, c3, by omega, by go_num, rfl, by rw [HE.out]; exact O3, hb5⟩
      case measure => simp [intOf]; omega
    · obtain rfl : k = m := by omega
      have HF : Hid (RetL (natL (List.range' 0 k)) w (.returned (.slice A k c')) wr) := by
        have hl := HLL.out k
        refine ⟨A, c', by rw [hl], by rw [hl]; exact O.mono hbb.size, hbb.andB hb⟩
      go_wp2_with fail
      go_ret
      exact HF.out
/-- A row more, as a step of a drawn region. -/
theorem grows_appR {o : Oper} {a : Act} {w1 : World} {E : World → World → Prop} {G : Value → World → Prop} {s x : Operand}
    (ho : o.op = .call { callee := .builtin .append, args := #[s, x], argTypes := #[42, 42] })
    {base top : Nat} {A : Option Addr} {m c : Nat} {rows : List (List Int)} {B : Nat} {T : TypeId} {fr : Nat × Nat} {A1 : Option Addr} {l1 c1 : Nat} {xs : List Int} (hs : a.eval s = .slice A m c) (hx : a.eval x = .slice (some ⟨B, 0, none⟩) 1 1)
    (hB : w1.heap[B]? = some (.cells #[.slice A1 l1 c1] T fr)) (hl1 : xs.length = l1)
    (hown : OwnLL base top w1 A m c rows) (hrow : OwnL base w1 A1 l1 c1 xs) (hnew : ∀ g, blkOf A1 = some g → top ≤ g) (hbase : base ≤ w1.heap.size) (hm : m ≤ 1048576)
    (h : ∀ A' c' w', OwnLL base w'.heap.size w' A' (m + 1) c' (rows ++ [xs]) → w1.grownBy w' (blkOf A) → LiesAt A A' w1 → E w1 w' ∧ G (.slice A' (m + 1) c') w') :
    GrowsE Try.prog o a w1 E G := by
  have key : ∃ A' c' w', (execOp a.eval o).run Try.prog w1 = .ok (.value (.slice A' (m + 1) c')) w' ∧ OwnLL base w'.heap.size w' A' (m + 1) c' (rows ++ [xs]) ∧ w1.grownBy w' (blkOf A) ∧ LiesAt A A' w1 := by
    clear h
    subst hl1
    obtain ⟨i0, hi, hz0, hz1, hz2⟩ := info_parts infR
    obtain ⟨hl, ht, hA, As, cs, hw, hr, hp⟩ := hown
    obtain ⟨g, cap, w2, hrun, hown', hgrow, hat, hlt⟩ := run_append_lies (P := Try.prog) w1 42 o.type base 36 i0 (.slice none 0 0) 1 24 Try.underlying42 hi hz0 hz1 hz2 rfl (by decide) (.slice A m c) m (rowV As cs rows m) hw
      ⟨B, 0, none⟩ 1 1 [.slice A1 xs.length c1] rfl (fun j u hj => by
        match j, hj with
        | 0, hj =>
          simp only [List.getElem?_cons_zero, Option.some.injEq] at hj
          subst hj
          rw [Addr.add_lit, cell_of_row w1 B _ _ _ _ hB]; rfl) (fun u hu => by simp at hu; subst hu; rfl) (by decide) (by unfold maxLen; omega) (by omega) hbase _ rfl
    have e : (Value.slice A m c).ownBlock = blkOf A := by cases A <;> rfl
    rw [e] at hgrow hat
    have hat' : LiesAt A (some ⟨g, 0, none⟩) w1 := hat.imp (fun h => h.symm) fun h => ⟨g, rfl, by omega⟩
    have hnA : apart A1 A := by
      cases e1 : blkOf A1 with
      | none => exact .inl e1
      | some g1 => exact .inr (fun e2 => by have := hnew g1 e1; have := hA g1 (e2 ▸ e1); omega)
    have hsz := hgrow.size
    refine ⟨some ⟨g, 0, none⟩, cap, w2, by unfold execOp; simp only [ho, resolve, invoke, builtin, Sem.run_bind, Sem.run_pure, Result.andThen_ok, List.map_toArray, List.map_cons, List.map_nil, hs, hx, hrun], ⟨by simp [hl], Nat.le_refl _, fun g' e' => by simp [blkOf] at e'; omega, fun j => if j < m then As j else A1, fun j => if j < m then cs j else c1, ?_, fun j hj => ?_, fun i j hij hj => ?_⟩, hgrow, hat'⟩
    · have : rowV (fun j => if j < m then As j else A1) (fun j => if j < m then cs j else c1) (rows ++ [xs]) (m + 1) = rowV As cs rows m ++ [.slice A1 xs.length c1] := by
        simp only [rowV, List.range_succ, List.map_append, List.map_cons, List.map_nil]
        rw [if_neg (Nat.lt_irrefl m), if_neg (Nat.lt_irrefl m)]
        have e1 : ra (rows ++ [xs]) m = xs := by rw [← hl]; exact ra_app_at
        have e2 : (List.range m).map (fun j => Value.slice (if j < m then As j else A1) (ra (rows ++ [xs]) j).length (if j < m then cs j else c1)) = (List.range m).map (fun j => Value.slice (As j) (ra rows j).length (cs j)) := by
          apply List.map_congr_left
          intro j hj
          have hj : j < m := by simpa using hj
          rw [if_pos hj, if_pos hj, ra_app_lt (by omega)]
        rw [e1, e2]
      rw [this]; exact hown'
    · by_cases hjm : j < m
      · simp only [if_pos hjm]
        rw [ra_app_lt (by omega)]
        refine ⟨(hr j hjm).1.kept hgrow (hr j hjm).2.2, fun g' hg' => by have := (hr j hjm).2.1 g' hg'; omega, ?_⟩
        exact hat'.apart (fun g' hg' => by have := (hr j hjm).2.1 g' hg'; omega) (hr j hjm).2.2
      · obtain rfl : j = rows.length := by omega
        simp only [if_neg hjm]
        rw [ra_app_at]
        exact ⟨hrow.kept hgrow hnA, fun g' hg' => by have := (hrow.blk g' hg').2; omega, hat'.apart (fun g' hg' => (hrow.blk g' hg').2) hnA⟩
    · show apart (if i < m then As i else A1) (if j < m then As j else A1)
      by_cases hjm : j < m
      · rw [if_pos hjm, if_pos (by omega)]; exact hp i j hij hjm
      · rw [if_neg hjm, if_pos (by omega)]
        cases e1 : blkOf (As i) with
        | none => exact .inl e1
        | some g1 => exact .inr (fun e2 => by have := (hr i (by omega)).2.1 g1 e1; have := hnew g1 (e2 ▸ e1); omega)
  obtain ⟨A', c', w', hr, h1, h2, h3⟩ := key
  unfold GrowsE
  rw [hr]
  exact h A' c' w' h1 h2 h3
/-- A list of one list. -/
def NewR (base : Nat) (xs : List Int) (v : Value) (W : World) : Prop := ∃ g A c ty fr, v = .slice (some ⟨g, 0, none⟩) 1 1 ∧ base ≤ g ∧ W.heap[g]? = some (.cells #[.slice A xs.length c] ty fr) ∧ OwnL base W A xs.length c xs
theorem NewR.below {base : Nat} {xs : List Int} {v : Value} {W W' : World} (h : NewR base xs v W) (hb : Below W.heap.size W W') : NewR base xs v W' := by
  obtain ⟨g, A, c, ty, fr, e, hg, hh, O⟩ := h
  exact ⟨g, A, c, ty, fr, e, hg, (hb.block _ (Array.getElem?_eq_some_iff.1 hh).1).trans hh, O.below hb⟩
theorem OwnLL.keptK {base top : Nat} {w w' : World} {A : Option Addr} {m c : Nat} {rows : List (List Int)} {T : Nat → Prop} (h : OwnLL base top w A m c rows) (k : Kept T w w') (hT : ∀ i, T i → i < base) : OwnLL base top w' A m c rows := by
  obtain ⟨hl, ht, hA, As, cs, ho, hro, hp⟩ := h
  have hnT : ∀ g, base ≤ g → ¬ T g := fun g hg ht => by have := hT g ht; omega
  refine ⟨hl, Nat.le_trans ht k.size, hA, As, cs, ⟨ho.1, ?_⟩, fun j hj => ⟨k.ownL (hro j hj).1 (fun g hg => hnT g ((hro j hj).1.blk g hg).1), (hro j hj).2⟩, hp⟩
  rcases ho.2 with hn | ⟨g, cap, cur, e, hb, hh, r⟩
  · exact .inl hn
  · exact .inr ⟨g, cap, cur, e, hb, (k.block g (Array.getElem?_eq_some_iff.1 hh).1 (hnT g hb)).trans hh, r⟩
theorem cloneI_any (a : Addr) (l c : Nat) (ys : List Int) (w : World) (hsrc : SrcI w (some a) l (ia ys)) (hyl : ys.length = l) (hl : l ≤ 1048576) : Calls Try.prog 65 #[.slice (some a) l c] w (RetL ys w) := by
  have HY := Lib.hid hyl
  have HR : Hid (∀ A' c' w', OwnL w.heap.size w' A' l c' ys → Below w.heap.size w w' → RetL ys w (.returned (.slice A' l c')) w') := fun A' c' w' O hb => by subst hyl; exact ⟨A', c', rfl, O, hb⟩
  have hq0 : ∀ W, (binOp .eql 36 (.slice (some a) l c) (.slice none 0 0)).run Try.prog W = .ok (.bool false) W := fun W => by kernel_rfl
  clear hyl
  go_enter Try.func65, Try.ntmps65
  go_wp2_with (at_builtin; refine wp_app0 rfl rfl rfl rfl rfl hsrc HY.out hl ?_; intro A' c' w' O hb)
  go_ret
  exact HR.out A' c' w' O hb
def fndN (m : Nat) (R : List (List Int)) (f : Nat → Int) : Bool × List (List Int) := (decide (200 < R.length + 1), R ++ [lsN m f])
set_option maxRecDepth 100000 in
set_option maxHeartbeats 1000000 in
theorem nc1_any {bo bc m cc B0 top : Nat} {A : Option Addr} {c : Nat} (R : List (List Int)) (f : Nat → Int) (w : World) (co : w.cell? ⟨bo, 0, none⟩ = some (.slice A R.length c)) (hfz : w.frozen? ⟨bo, 0, none⟩ = false) (lo : bo < w.heap.size) (O : OwnLL B0 top w A R.length c R) (hB : bo < B0) (hBw : B0 ≤ w.heap.size) (hR : R.length ≤ 200) (rc : w.rowIs bc 2 m (fun j => .int .i64 (f j))) (hm : m ≤ 1048576) :
    Calls Try.prog 64 #[.slice (some ⟨bc, 0, none⟩) m cc, .pointer (some ⟨bo, 0, none⟩)] w (fun e w' => e = .returned (.bool (fndN m R f).1) ∧ ∃ A' c' top', w'.cell? ⟨bo, 0, none⟩ = some (.slice A' (R.length + 1) c') ∧ w'.frozen? ⟨bo, 0, none⟩ = false ∧ OwnLL B0 top' w' A' (R.length + 1) c' (R ++ [lsN m f]) ∧ Kept (fun k => k = bo ∨ blkOf A = some k) w w' ∧ ∀ g, blkOf A' = some g → blkOf A = some g ∨ w.heap.size ≤ g) := by
  have HCL := Lib.hid (fun W (hW : Below w.heap.size w W) => cloneI_any ⟨bc, 0, none⟩ m cc (lsN m f) W (fun h0 => ⟨bc, 0, rfl, (rc.of_block (hW.block _ rc.lt)).lt, fun j hj => by rw [Nat.zero_add, (rc.of_block (hW.block _ rc.lt)).cell hj]; simp [ia, lsN, hj]⟩) (lsN_len m f) hm)
  go_enter Try.func64, Try.ntmps64
  go_wp2_with fail
  refine wp_region_then 4 (fun i v W => match i with
    | 0 => v = .slice A R.length c
    | 1 => v = .slice (some ⟨bc, 0, none⟩) m cc
    | 2 => NewL w.heap.size (lsN m f) v W
    | _ => NewR w.heap.size (lsN m f) v W)
    (fun i => match i with
    | _ => none)
    (fun k W W' => Below W.heap.size W W')  (fun W => Below w.heap.size w W) (by kernel_rfl) (by kernel_rfl) ?_ ?_ ?_ ?_ ?_
  · exact (Below.refl _ _).drew
  · intro i k v W W' hne hd hC hf hE
    match i, hf with
    | 0, hf => exact hf
    | 1, hf => exact hf
    | 2, hf => exact NewL.below hf hE
    | _ + 3, hf => exact NewR.below hf hE
  · intro k W W' hC hE
    exact Below.andB hC hE
  · simp only [List.take_succ_cons, List.take_zero]
    refine ⟨?_, ?_, ?_, ?_, trivial⟩
    · intro a W hC hs hd
      have hW : Below w.heap.size w W := hC
      have e1 : a.tmps[1]?.getD undef = .pointer (some ⟨bo, 0, none⟩) := hs 1 (by kernel_rfl)
      refine growsG_none (E := fun W W' => Below W.heap.size W W') rfl ?_
      have k0 := (hW.cell (p := ⟨bo, 0, none⟩) (lo)).trans (co)
      clear hs hd
      unfold GrowsE
      go_simp
      exact Below.refl _ _
    · intro a W hC hs hd
      have hW : Below w.heap.size w W := hC
      have e0 : a.tmps[0]?.getD undef = .slice (some ⟨bc, 0, none⟩) m cc := hs 0 (by kernel_rfl)
      refine growsG_none (E := fun W W' => Below W.heap.size W W') rfl ?_
      clear hs hd
      unfold GrowsE
      go_simp
      exact Below.refl _ _
    · intro a W hC hs hd
      have hW : Below w.heap.size w W := hC
      have e5 : (a.tmps[5]?.getD undef) = .slice (some ⟨bc, 0, none⟩) m cc := hd 1 5 (by kernel_rfl) (by kernel_rfl) (by kernel_rfl)
      refine growsG_none (E := fun W W' => Below W.heap.size W W') rfl ?_
      clear hs hd
      unfold GrowsE
      go_simp
      refine ⟨Below.refl _ _, (HCL.out W hW).mono ?_⟩
      rintro e w6 ⟨A6, c6, rfl, ho6, hb6⟩
      exact ⟨_, rfl, hb6, A6, c6, rfl, ho6.mono hW.size⟩
    · intro a W hC hs hd
      have hW : Below w.heap.size w W := hC
      have e6 : NewL w.heap.size (lsN m f) (a.tmps[6]?.getD undef) W := hd 2 6 (by kernel_rfl) (by kernel_rfl) (by kernel_rfl)
      obtain ⟨A6, c6, e6, O6⟩ := e6
      refine growsG_none (E := fun W W' => Below W.heap.size W W') rfl ?_
      clear hs hd
      unfold GrowsE
      go_simp
      exact ⟨(Below.refl _ _).alloc (Nat.le_refl _) _, _, A6, c6, _, _, rfl, hW.size, heap_alloc_new _ _, O6.below ((Below.refl _ _).alloc (Nat.le_refl _) _)⟩
  intro vs W hW hf
  have f4 : (vs 4) = .slice A R.length c := hf 0 4 (by decide) (by kernel_rfl) (fun _ hk => by cases hk)
  have f5 : (vs 5) = .slice (some ⟨bc, 0, none⟩) m cc := hf 1 5 (by decide) (by kernel_rfl) (fun _ hk => by cases hk)
  have f6 : NewL w.heap.size (lsN m f) (vs 6) W := hf 2 6 (by decide) (by kernel_rfl) (fun _ hk => by cases hk)
  obtain ⟨A6, c6, f6, O6⟩ := f6
  have f7 : NewR w.heap.size (lsN m f) (vs 7) W := hf 3 7 (by decide) (by kernel_rfl) (fun _ hk => by cases hk)
  obtain ⟨g7, A7, c7, ty7, fr7, f7, hg7, R7, O7⟩ := f7
  simp only [dsts, List.take_succ_cons, List.take_zero, List.drop_succ_cons, List.drop_zero, List.filterMap_cons, List.filterMap_nil, List.foldl_cons, List.foldl_nil, Act.put, List.setIfInBounds_toArray, List.set_cons_succ, List.set_cons_zero, f4, f5, f6, f7]
  clear hf
  have co2 := (hW.cell (p := ⟨bo, 0, none⟩) lo).trans co
  have fz2 := (hW.frozen (p := ⟨bo, 0, none⟩) lo).trans hfz
  have lo2 := Nat.lt_of_lt_of_le lo hW.size
  have O2 := O.below hW
  have htop := O.2.1
  have O7' := O7.mono hBw
  have hnew : ∀ g, blkOf A7 = some g → top ≤ g := fun g hg => by have := (O7.blk g hg).1; omega
  have hBW : B0 ≤ W.heap.size := Nat.le_trans hBw hW.size
  have hneA : some bo ≠ blkOf A := fun hh => by have := (O.blk bo hh.symm).1; omega
  clear f4 f5 f6 f7 O6 O7 HCL
  go_wp2_with (at_builtin; refine wpList_plain rfl fun K hK => wp_appR rfl rfl rfl R7 rfl O2 O7' hnew hBW (by omega) ?_; intro A5 c5 w5 O5 hg5 hat5; have co5 := (hg5.cell_far ⟨bo, 0, none⟩ lo2 hneA).trans co2; have fz5 := (hg5.frozen_far ⟨bo, 0, none⟩ lo2 hneA).trans fz2; refine hK _ _ ?_)
  go_ret
  have kk : Kept (fun k => k = bo ∨ blkOf A = some k) w w5 := (Kept.of hW).trans (Kept.ofGrown hg5 (fun k hk _ => .inr hk))
  refine ⟨ret_bool (by show _ = decide (200 < R.length + 1); rw [decide_eq_decide]; omega), A5, c5, w5.heap.size, ?_, by simpa using fz5, ?_, kk.setCell (.inl rfl) _, fun g hg => ?_⟩
  · exact World.cell?_setCell_same _ _ _ co5
  · exact O5.keptK ((Kept.refl (fun k => k = bo) w5).setCell rfl _) (fun i hi => by omega)
  · rcases hat5 with h5 | ⟨g5, h5, h6⟩
    · left; rw [← h5]; exact hg
    · rw [h5] at hg; cases hg; right; have := hW.size; omega
/-- The list so far, in its variable. -/
def StN (bo B0 : Nat) (R : List (List Int)) (w : World) : Prop := ∃ A c top, w.cell? ⟨bo, 0, none⟩ = some (.slice A R.length c) ∧ w.frozen? ⟨bo, 0, none⟩ = false ∧ OwnLL B0 top w A R.length c R ∧ B0 ≤ w.heap.size
def SN (bo : Nat) (w : World) (k : Nat) : Prop := k = bo ∨ ∃ A m c, w.cell? ⟨bo, 0, none⟩ = some (.slice A m c) ∧ blkOf A = some k
theorem enN1 : Enters 64 := fun args w => by kernel_rfl
theorem paintedN {N m b o c : Nat} {A : Option Addr} {cA : Nat} {L : List Nat} {es : List (Int × Int)} {w0 w : World} {bp bc bu bo : Nat} (r : Bool)
    (po : PO w0 w bp bc bu N m (.slice (some ⟨b, o, none⟩) m c) (.slice A L.length cA) (.func (.func 64) #[] #[.pointer (some ⟨bo, 0, none⟩)]) (pF r (atL es 0)) (pU r es (atL es 0))) (hn : WfP N es) (hm : m ≤ 1048576) (hLl : L.length ≤ 1048576) (E : Eds w0 b o m es) (I : SrcI w0 A L.length (fun j => ((L.getD j 0 : Nat) : Int))) (hA : ∀ g, blkOf A = some g → g < w0.heap.size ∧ g ≠ bo) (hL : ∀ d, d ∈ L → d < m) (hb : b ≠ bo)
    (hbo : bo < w0.heap.size) (co : w.cell? ⟨bo, 0, none⟩ = some (.slice none 0 0)) (fo : w.frozen? ⟨bo, 0, none⟩ = false) :
    Calls Try.prog 66 #[.pointer (some ⟨bp, 0, none⟩)] w (fun e w' => e = .returned (.bool (runF (fndN m) [] (impT es L r)).1) ∧ StN bo w.heap.size (runF (fndN m) [] (impT es L r)).2 w' ∧ Kept (fun k => k = bo) w0 w') := by
  have hpc := po.hc
  have hpu := po.hu
  have hcl := po.rc.lt
  have hul := po.ru.lt
  have hsz := po.bel.size
  have st : StN bo w.heap.size [] w := ⟨none, 0, _, co, fo, OwnLL.nil _ _, Nat.le_refl _⟩
  have hS0 : ∀ k, SN bo w k → k = bo := fun k hk => by
    rcases hk with h | ⟨A1, m1, c1, h1, h2⟩
    · exact h
    · rw [co] at h1; injection h1 with h1; injection h1 with h1 _ _; subst h1; cases h2
  have ps := po.ps (S := SN bo w) E I (fun g hg => (hA g hg).1) hL (fun k hk => by rw [hS0 k hk]; exact hbo) (fun hh => hb (hS0 _ hh)) (fun g hg hh => (hA g hg).2 (hS0 _ hh))
  have hAw : ∀ g, blkOf A = some g → g < w.heap.size := fun g hg => Nat.lt_of_lt_of_le (hA g hg).1 hsz
  have hbo1 : bo < w.heap.size := by omega
  have hnb : ¬ (bo = bc ∨ bo = bu) := by omega
  have hcell : ∀ w1 w2, Kept (fun k => k = bc ∨ k = bu) w1 w2 → bo < w1.heap.size → w2.cell? ⟨bo, 0, none⟩ = w1.cell? ⟨bo, 0, none⟩ := fun w1 w2 k hl => k.cell hl (by omega) 0
  have hlt : ∀ R w1, StN bo w.heap.size R w1 → bo < w1.heap.size := fun R w1 ⟨A1, c1, t1, h1, _, _, _⟩ => World.block_lt_of_cell? w1 _ h1
  have hpaint : ∀ (W : World), Below w.heap.size w W → Calls Try.prog 119 #[.pointer (some ⟨bp, 0, none⟩), .int .i64 0] W (fun e w' => e = .returned (.bool (runF (fndN m) [] (impT es L r)).1) ∧ StN bo w.heap.size (runF (fndN m) [] (impT es L r)).2 w' ∧ Kept (fun k => k = bo) w0 w') := fun W hW => by
    have coW := (hW.cell (p := ⟨bo, 0, none⟩) hbo1).trans co
    have hSW : ∀ k, SN bo W k → k = bo := fun k hk => by
      rcases hk with h | ⟨A1, m1, c1, h1, h2⟩
      · exact h
      · rw [coW] at h1; injection h1 with h1; injection h1 with h1 _ _; subst h1; cases h2
    have ps2 := ps.kept (T := SN bo W) (Kept.of hW) (fun i hi => .inl (.inl (hSW i hi))) hAw
    have pw2 : PW W (SN bo W) bc bu N m (pF r (atL es 0)) (pU r es (atL es 0)) W := (po.pw.below hW).self (w := w) (S := SN bo w)
    have st2 : StN bo w.heap.size [] W := by
      obtain ⟨A1, c1, t1, h1, h2, h3, h4⟩ := st
      exact ⟨A1, c1, t1, (hW.cell (p := ⟨bo, 0, none⟩) hbo1).trans h1, (hW.frozen (p := ⟨bo, 0, none⟩) hbo1).trans h2, h3.below hW, Nat.le_trans h4 hW.size⟩
    have hp := paintW_any (StN bo w.heap.size) (fun _ w => SN bo w) (fndN m) (fun R => R.length ≤ 200) 64 #[.pointer (some ⟨bo, 0, none⟩)] hn hm hLl enN1
      (fun R w1 w2 ⟨A1, c1, t1, h1, h2, h3, h4⟩ k => ⟨A1, c1, t1, (hcell w1 w2 k (World.block_lt_of_cell? w1 _ h1)).trans h1, (k.frozen (World.block_lt_of_cell? w1 _ h1) hnb 0).trans h2, h3.keptK k (fun i hi => by omega), Nat.le_trans h4 k.size⟩)
      (fun R w1 hs k hk => by
        have hl := hlt R w1 hs
        obtain ⟨A1, c1, t1, h1, h2, h3, _⟩ := hs
        rcases hk with h | ⟨A2, m2, c2, h4, h5⟩
        · omega
        · rw [h1] at h4; injection h4 with h4; injection h4 with h4 _ _; subst h4
          have := h3.blk k h5; have := h3.2.1; omega)
      (fun R w1 w2 hs k i hi => by
        have hl := hlt R w1 hs
        rcases hi with h | ⟨A2, m2, c2, h4, h5⟩
        · exact .inl h
        · exact .inr ⟨A2, m2, c2, by rw [← hcell w1 w2 k hl]; exact h4, h5⟩)
      (fun R f hR hf => by
        simp only [fndN, decide_eq_false_iff_not] at hf
        simp only [fndN, List.length_append, List.length_singleton]; omega)
      (fun R f U w1 hR psx pwx hs => by
        have hl := hlt R w1 hs
        obtain ⟨A1, c1, t1, h1, h2, h3, hbw⟩ := hs
        have := nc1_any (cc := m) R f w1 h1 h2 hl h3 (by omega) hbw hR pwx.rc hm
        refine this.mono ?_
        rintro e w2 ⟨rfl, A5, c5, t5, g1, g2, g3, g4, g5⟩
        have hA1 := h3.blk
        have hl5 : (fndN m R f).2.length = R.length + 1 := by simp [fndN]
        refine ⟨rfl, ⟨g4.wide (fun k hk => ?_), g4.row pwx.rc (fun hh => ?_), g4.row pwx.ru (fun hh => ?_)⟩, ⟨A5, c5, t5, by rw [hl5]; exact g1, g2, by rw [hl5]; exact g3, Nat.le_trans hbw g4.size⟩, fun k hk => ?_⟩
        · rcases hk with h | h
          · exact .inr (.inr (.inl h))
          · exact .inr (.inr (.inr ⟨A1, _, c1, h1, h⟩))
        · rcases hh with h | h
          · omega
          · have := (hA1 _ h).1; omega
        · rcases hh with h | h
          · omega
          · have := (hA1 _ h).1; omega
        · rcases hk with h | ⟨A2, m2, c2, h4, h5⟩
          · exact .inl (.inl h)
          · rw [g1] at h4; injection h4 with h4; injection h4 with h4 _ _; subst h4
            rcases g5 k h5 with h | h
            · exact .inl (.inr ⟨A1, _, c1, h1, h⟩)
            · exact .inr h)
      (L.length + 1) 0 [] (pF r (atL es 0)) (pU r es (atL es 0)) W (by omega) (Nat.zero_le _) (by simp) ps2 pw2 st2 (pU8 r es) (fun g hg => Nat.lt_of_lt_of_le (hAw g hg) hW.size)
    refine hp.mono ?_
    rintro e w' ⟨rfl, P, s', hT⟩
    rw [List.drop_zero] at s' ⊢
    refine ⟨rfl, s', (Kept.of (po.bel.andB hW)).trans' P.k (fun i hi => ?_)⟩
    rcases hi with h1 | h1 | h1
    · right; omega
    · right; omega
    · exact .inl (hSW i h1)
  refine start_any ps hn hm _ _ po.pw (pF_rng r es) (pF_nocl r es) _ fun W hW => (hpaint W hW).mono ?_
  rintro e w' ⟨rfl, h1, h2⟩
  exact ⟨_, rfl, rfl, h1, h2⟩
end Go.Proofs.Ytppfplhbfgjjhaa
