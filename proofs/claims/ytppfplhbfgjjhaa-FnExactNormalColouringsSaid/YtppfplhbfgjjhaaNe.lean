import Derived.Test.YtppfplhbfgjjhaaNc
namespace Go.Proofs.Ytppfplhbfgjjhaa
open Go.RowKit Go.Sort
/-! ### NormalColourings: both sides -/
/-- Values laid one edge after the other. -/
def asg : List Nat → List Int → (Nat → Int) → Nat → Int
  | e :: L, x :: ws, f => asg L ws (upF f e x)
  | _, _, f => f
def wrds (vals : List Int) : Nat → List (List Int)
  | 0 => [[]]
  | k + 1 => vals.flatMap fun x => (wrds vals k).map fun t => x :: t
theorem allG_wrds {vals : List Int} : ∀ (L : List Nat) (f : Nat → Int), allG vals L f = (wrds vals L.length).map fun t => asg L t f := by
  intro L
  induction L with
  | nil => intro f; rfl
  | cons e L ih =>
    intro f
    simp only [allG, wrds, List.length_cons, List.map_flatMap, List.map_map]
    congr 1
    funext x
    rw [ih]
    rfl
theorem wrds_len {vals : List Int} : ∀ {k : Nat} {t : List Int}, t ∈ wrds vals k → t.length = k := by
  intro k
  induction k with
  | zero => intro t h; simp [wrds] at h; subst h; rfl
  | succ k ih =>
    intro t h
    simp only [wrds, List.mem_flatMap, List.mem_map] at h
    obtain ⟨x, _, u, hu, rfl⟩ := h
    simp [ih hu]
theorem asg_eq : ∀ (L : List Nat) (t : List Int) (f f' : Nat → Int) (d : Nat), t.length = L.length → (d ∈ L ∨ f d = f' d) → asg L t f d = asg L t f' d := by
  intro L
  induction L with
  | nil =>
    intro t f f' d _ h
    have := h.resolve_left (by simp)
    cases t <;> exact this
  | cons e L ih =>
    intro t f f' d hl h
    cases t with
    | nil => simp at hl
    | cons x t =>
      simp only [asg]
      refine ih t _ _ d (by simpa using hl) ?_
      by_cases hd : d = e
      · right; simp only [upF, if_pos hd]
      · rcases h with h | h
        · exact .inl ((List.mem_cons.1 h).resolve_left hd)
        · right; simp only [upF, if_neg hd, h]
theorem okP_congr {es : List (Int × Int)} {G : Nat → Int} {L : List Nat} {g g' : Nat → Int} (h : ∀ d, d ∈ L → g d = g' d) : okP es G L g = okP es G L g' := by
  rw [Bool.eq_iff_iff, okP_iff, okP_iff]
  constructor
  · rintro ⟨h1, h2⟩
    exact ⟨fun d hd hg => by rw [← h d hd]; exact h1 d hd hg, fun d e hd he ha hne => by rw [← h d hd, ← h e he]; exact h2 d e hd he ha hne⟩
  · rintro ⟨h1, h2⟩
    exact ⟨fun d hd hg => by rw [h d hd]; exact h1 d hd hg, fun d e hd he ha hne => by rw [h d hd, h e he]; exact h2 d e hd he ha hne⟩
/-- The colourings do not turn on what stood at the edges at first. -/
theorem allC_any (es : List (Int × Int)) (G : Nat → Int) (f f' : Nat → Int) :
    ((allG col3 (List.range' 0 es.length) f).filter (okP es G (List.range' 0 es.length))).map (lsN es.length) = ((allG col3 (List.range' 0 es.length) f').filter (okP es G (List.range' 0 es.length))).map (lsN es.length) := by
  rw [allG_wrds, allG_wrds, List.filter_map, List.filter_map, List.map_map, List.map_map]
  have hd : ∀ t, t ∈ wrds col3 (List.range' 0 es.length).length → ∀ d, d ∈ List.range' 0 es.length → asg (List.range' 0 es.length) t f d = asg (List.range' 0 es.length) t f' d := fun t ht d hd => asg_eq _ t f f' d (wrds_len ht) (.inl hd)
  rw [List.filter_congr (p := (okP es G (List.range' 0 es.length)) ∘ fun t => asg (List.range' 0 es.length) t f) (q := (okP es G (List.range' 0 es.length)) ∘ fun t => asg (List.range' 0 es.length) t f') (fun t ht => okP_congr (hd t ht))]
  refine List.map_congr_left fun t ht => ?_
  have ht' := (List.mem_filter.1 ht).1
  refine List.map_congr_left fun d hdm => ?_
  exact hd t ht' d (List.mem_range'_1.2 (by have := List.mem_range.1 hdm; omega))
theorem impT_all {N : Nat} {es : List (Int × Int)} (hG : IsG N es) : (impT es (List.range' 0 es.length) true).map (lsN es.length) = (allC es (ia [])).map (lsN es.length) := by
  have hp := part_all hG
  have hpF : pF true (atL es 0) = gN es 0 := nF_gN es 0
  unfold impT
  rw [col_tree hG.wf (List.range' 0 es.length) _ _ (usI_p hG true) hp.lt (fun d _ => pF_rng true es d) hp.nodup, hpF, treeI hp (fun d e _ hne h => Classical.byContradiction fun h1 => hne (gN_inj h1 h))]
  exact allC_any es (gN es 0) _ _
theorem runN (m : Nat) : ∀ (T : List (Nat → Int)) (R : List (List Int)), R.length ≤ 200 → (R.length + T.length ≤ 200 → runF (fndN m) R T = (false, R ++ T.map (lsN m))) ∧ (200 < R.length + T.length → (runF (fndN m) R T).1 = true) := by
  intro T
  induction T with
  | nil => intro R hR; exact ⟨fun _ => by simp [runF], fun h => by simp at h; omega⟩
  | cons g T ih =>
    intro R hR
    have hf : fndN m R g = (decide (200 < R.length + 1), R ++ [lsN m g]) := rfl
    simp only [runF, hf]
    by_cases h : 200 < R.length + 1
    · rw [decide_eq_true h, if_pos rfl]
      exact ⟨fun h2 => by simp at h2; omega, fun _ => rfl⟩
    · rw [decide_eq_false h, if_neg (by decide)]
      have := ih (R ++ [lsN m g]) (by simp; omega)
      simp only [List.length_append, List.length_cons, List.length_nil] at this ⊢
      refine ⟨fun h2 => ?_, fun h2 => this.2 (by omega)⟩
      rw [this.1 (by omega)]
      simp
noncomputable def ncL (n : Int) (es : List (Int × Int)) : List (List Int) := if B (IsG n es) then (if (allC es (ia [])).length ≤ 200 then (allC es (ia [])).map (lsN es.length) else []) else []
noncomputable def ncC (n : Int) (es : List (Int × Int)) : Int := if B (IsG n es) then (if (allC es (ia [])).length ≤ 200 then 0 else 3) else 1
theorem ncL_len (n : Int) (es : List (Int × Int)) (h : es.length ≤ 1048576) : (ncL n es).length ≤ 1024 ∧ ∀ j, j < (ncL n es).length → (ra (ncL n es) j).length ≤ 1048576 := by
  unfold ncL
  split
  · split
    · refine ⟨by simp; omega, fun j hj => ?_⟩
      simp only [List.length_map] at hj
      simp only [ra, List.getD_eq_getElem?_getD, List.getElem?_map, List.getElem?_eq_getElem hj, Option.map_some, Option.getD_some]
      rw [lsN_len]; exact h
    · exact ⟨by simp, fun j hj => by simp at hj⟩
  · exact ⟨by simp, fun j hj => by simp at hj⟩
set_option maxRecDepth 100000 in
set_option maxHeartbeats 400000 in
theorem spNormalColourings_any (n : Int) (b o m c : Nat) (es : List (Int × Int)) (w : World) (h : Eds w b o m es) (hm : m ≤ 1048576) :
    Calls Try.prog 28 #[.agg #[.int .i64 n, .slice (some ⟨b, o, none⟩) m c]] w (RetLLC (ncL n es) (ncC n es) w) := by
  have hbox := Box2.made w (.int .i64 n) (.slice (some ⟨b, o, none⟩) m c) 30
  have hbb := (by go_grown : Below w.heap.size w (w.alloc (.cells #[.int .i64 n, .slice (some ⟨b, o, none⟩) m c] 30)))
  have HSP := Lib.hid (l01Is_any n b o m c es _ (h.alloc (.cells #[.int .i64 n, .slice (some ⟨b, o, none⟩) m c] 30)) hm)
  by_cases hG : IsG n es
  · have hl : es.length = m := h.len
    have hFL : ncL n es = if (allC es (ia [])).length ≤ 200 then (allC es (ia [])).map (lsN m) else [] := by unfold ncL; rw [if_pos (B_true hG), ← hl]
    have hFC : ncC n es = if (allC es (ia [])).length ≤ 200 then 0 else 3 := by unfold ncC; rw [if_pos (B_true hG)]
    rw [B_true hG] at HSP
    have hn2 := hG.wf.1
    obtain ⟨N, rfl⟩ : ∃ N : Nat, n = N := ⟨n.toNat, by omega⟩
    have HLN := Lib.hid (fun W hE => l02Normal_any N b o m c 200 es W hE hm hG (by omega))
    have c00 : ((200 : Nat) : Int) = 200 := rfl
    rw [c00] at HLN
    obtain ⟨rows, hrows⟩ : ∃ rows, rows = (allC es (ia [])).map (lsN m) := ⟨_, rfl⟩
    have hrl : rows.length = (allC es (ia [])).length := by rw [hrows]; simp
    rw [← hrl, ← hrows] at hFL
    rw [← hrl] at hFC
    rw [← hrows] at HLN
    clear hG hrows hrl
    by_cases hq : rows.length ≤ 200
    · rw [if_pos hq] at hFL hFC
      have HX := Lib.hid hFL
      have HC := Lib.hid hFC
      have HT : Hid (tkL 200 rows = rows) := tk_self (by omega)
      rw [HT.out] at HLN
      rw [HC.out, HX.out]
      clear hFL hFC
      have hq' : ¬ ((rows.length : Int) > 200) := by omega
      go_enter Try.func28, Try.ntmps28
      go_wp2_with fail
      refine HSP.out.mono ?_
      rintro e w1 ⟨rfl, hb1⟩
      have hB1 := hbb.thenB (by simp) hb1
      obtain ⟨s1, p1, q1⟩ := hbox.below hb1
      clear hb1 hbb hbox
      go_wp2_with fail
      refine (HLN.out _ (h.below hB1)).mono ?_
      rintro e w2 ⟨A2, c2, rfl, O2, hb2⟩
      have HF : Hid (RetLLC rows 0 w (.returned (.tuple #[.slice A2 rows.length c2, .int .i64 0])) w2) := ⟨A2, c2, rfl, O2.mono hB1.size, hB1.andB hb2⟩
      clear O2
      go_wp2_with fail
      go_ret2
      exact HF.out
    · rw [if_neg hq] at hFL hFC
      have HX := Lib.hid hFL
      have HC := Lib.hid hFC
      have htl : 200 < (tkL 200 rows).length := by unfold tkL; simp; omega
      obtain ⟨r2, hr2⟩ : ∃ r2, r2 = tkL 200 rows := ⟨_, rfl⟩
      rw [← hr2] at HLN htl
      rw [HC.out]
      clear hFL hFC hr2
      have hq' : ((r2.length : Int) > 200) := by omega
      go_enter Try.func28, Try.ntmps28
      go_wp2_with fail
      refine HSP.out.mono ?_
      rintro e w1 ⟨rfl, hb1⟩
      have hB1 := hbb.thenB (by simp) hb1
      obtain ⟨s1, p1, q1⟩ := hbox.below hb1
      clear hb1 hbb hbox
      go_wp2_with fail
      refine (HLN.out _ (h.below hB1)).mono ?_
      rintro e w2 ⟨A2, c2, rfl, O2, hb2⟩
      clear O2
      go_wp2_with fail
      go_ret2
      exact retLLC_nil HX.out (hB1.andB hb2)
  · have HX : Hid (ncL n es = []) := by show _ = _; unfold ncL; rw [if_neg (by rw [B_false hG]; decide)]
    have HC : Hid (ncC n es = 1) := by show _ = _; unfold ncC; rw [if_neg (by rw [B_false hG]; decide)]
    rw [B_false hG] at HSP
    rw [HC.out]
    clear hG hbox
    go_enter Try.func28, Try.ntmps28
    go_wp2_with fail
    refine HSP.out.mono ?_
    rintro e w1 ⟨rfl, hb1⟩
    have hB1 := hbb.thenB (by simp) hb1
    clear hb1 hbb
    go_wp2_with fail
    go_ret2
    exact retLLC_nil HX.out hB1
/-- A painter of all edges, with its list. -/
def PaintN (w3 : World) (N m b o c bo : Nat) (es : List (Int × Int)) (v : Value) (W : World) : Prop := ∃ W0 bp bc bu A cA, v = .pointer (some ⟨bp, 0, none⟩) ∧ Below w3.heap.size w3 W0 ∧ PO W0 W bp bc bu N m (.slice (some ⟨b, o, none⟩) m c) (.slice A (List.range' 0 m).length cA) (.func (.func 64) #[] #[.pointer (some ⟨bo, 0, none⟩)]) (pF true (atL es 0)) (pU true es (atL es 0)) ∧ OwnL w3.heap.size W0 A (List.range' 0 m).length cA (natL (List.range' 0 m))
theorem PaintN.below {w3 : World} {N m b o c bo : Nat} {es : List (Int × Int)} {v : Value} {W W' : World} (h : PaintN w3 N m b o c bo es v W) (hb : Below W.heap.size W W') : PaintN w3 N m b o c bo es v W' := by
  obtain ⟨W0, bp, bc, bu, A, cA, e, h0, po, O⟩ := h
  exact ⟨W0, bp, bc, bu, A, cA, e, h0, po.below hb, O⟩
set_option maxRecDepth 100000 in
set_option maxHeartbeats 1000000 in
theorem imNormalColourings_any (n : Int) (b o m c : Nat) (es : List (Int × Int)) (w : World) (h : Eds w b o m es) (hm : m ≤ 1048576) :
    Calls Try.prog 29 #[.agg #[.int .i64 n, .slice (some ⟨b, o, none⟩) m c]] w (RetLLC (ncL n es) (ncC n es) w) := by
  have hbox := Box2.made w (.int .i64 n) (.slice (some ⟨b, o, none⟩) m c) 30
  have hbb := (by go_grown : Below w.heap.size w (w.alloc (.cells #[.int .i64 n, .slice (some ⟨b, o, none⟩) m c] 30)))
  have HGC := Lib.hid (graphCode_any n b o m c es true _ (h.alloc (.cells #[.int .i64 n, .slice (some ⟨b, o, none⟩) m c] 30)) hm)
  by_cases hG : IsG n es
  · have hl : es.length = m := h.len
    have hFL : ncL n es = if (allC es (ia [])).length ≤ 200 then (allC es (ia [])).map (lsN m) else [] := by unfold ncL; rw [if_pos (B_true hG), ← hl]
    have hFC : ncC n es = if (allC es (ia [])).length ≤ 200 then 0 else 3 := by unfold ncC; rw [if_pos (B_true hG)]
    rw [show gcC n es true = 0 by simp [gcC, B_true hG]] at HGC
    have hn2 := hG.wf.1
    obtain ⟨N, rfl⟩ : ∃ N : Nat, n = N := ⟨n.toNat, by omega⟩
    have HF := Lib.hid (fun W hE => first_F N b o m c es W hE hm hG)
    have HIT := Lib.hid (impT_all hG)
    have HG := Lib.hid hG
    clear hG
    cases hA : allC es (ia []) with
    | nil =>
      rw [hA] at hFL hFC
      have HX : Hid (ncL N es = []) := hFL
      have HC : Hid (ncC N es = 0) := hFC
      have HF2 : Hid (∀ W, Eds W b o m es → Calls Try.prog 58 #[.agg #[.int .i64 N, .slice (some ⟨b, o, none⟩) m c]] W (fun e w' => e = .returned (.slice none 0 0) ∧ Below W.heap.size W w')) := fun W hE => (HF.out W hE).mono fun e w' hr => by unfold RetF at hr; rw [hA] at hr; exact hr
      have hq0 : ∀ W, (binOp .eql 36 (.slice none 0 0) (.slice none 0 0)).run Try.prog W = .ok (.bool true) W := fun W => by kernel_rfl
      rw [HC.out]
      clear hA hFL hFC HF
      go_enter Try.func29, Try.ntmps29
      go_wp2_with fail
      refine HGC.out.mono ?_
      rintro e w1 ⟨rfl, hb1⟩
      have hB1 := hbb.thenB (by simp) hb1
      obtain ⟨s1, p1, q1⟩ := hbox.below hb1
      clear hb1 hbb hbox
      go_wp2_with fail
      refine (HF2.out _ (h.below hB1)).mono ?_
      rintro e w2 ⟨rfl, hb2⟩
      go_wp2_with fail
      go_ret2
      exact retLLC_nil HX.out (hB1.andB hb2)
    | cons g0 T0 =>
      have HF2 : Hid (∀ W, Eds W b o m es → Calls Try.prog 58 #[.agg #[.int .i64 N, .slice (some ⟨b, o, none⟩) m c]] W (fun e w' => ∃ a c, e = .returned (.slice (some a) (lsN m g0).length c) ∧ Below W.heap.size W w')) := fun W hE => (HF.out W hE).mono fun e w' hr => by
        unfold RetF at hr; rw [hA] at hr
        obtain ⟨A2, c2, he, hne, O2, hb2⟩ := hr
        obtain ⟨a2, rfl⟩ : ∃ a, A2 = some a := Option.ne_none_iff_exists'.1 hne
        exact ⟨a2, c2, he, hb2⟩
      obtain ⟨rows, hrows⟩ : ∃ rows, rows = (allC es (ia [])).map (lsN m) := ⟨_, rfl⟩
      have hrl : rows.length = (allC es (ia [])).length := by rw [hrows]; simp
      rw [← hrl, ← hrows] at hFL
      rw [← hrl] at hFC
      obtain ⟨T, hT⟩ : ∃ T, T = impT es (List.range' 0 m) true := ⟨_, rfl⟩
      have hTm : T.map (lsN m) = rows := by rw [hT, hrows, ← hl]; exact HIT.out
      have hTl : T.length = rows.length := by rw [← hTm]; simp
      have hrun := runN m T [] (by simp)
      have HTT := Lib.hid hT
      have HFL := Lib.hid hFL
      have HFC := Lib.hid hFC
      have HRUN := Lib.hid hrun
      clear hA HF hrows hrl hT HIT hFL hFC hrun
      go_enter Try.func29, Try.ntmps29
      go_wp2_with fail
      refine HGC.out.mono ?_
      rintro e w1 ⟨rfl, hb1⟩
      have hB1 := hbb.thenB (by simp) hb1
      obtain ⟨s1, p1, q1⟩ := hbox.below hb1
      clear hb1 hbb hbox
      go_wp2_with fail
      refine (HF2.out _ (h.below hB1)).mono ?_
      rintro e w2 ⟨a2, c2, rfl, hb2⟩
      have hq0 : ∀ W, (binOp .eql 36 (.slice (some a2) (lsN m g0).length c2) (.slice none 0 0)).run Try.prog W = .ok (.bool false) W := fun W => by kernel_rfl
      have hB2 := hB1.andB hb2
      have s2 := Nat.lt_of_lt_of_le s1 hb2.size
      have p2 := (hb2.cell (p := ⟨w.heap.size, 0, none⟩) s1).trans p1
      have q2 := (hb2.cell (p := ⟨w.heap.size, 1, none⟩) s1).trans q1
      clear hb2 p1 q1 s1
      go_wp2_with fail
      obtain ⟨bo, hbo⟩ : ∃ bo, bo = w2.heap.size := ⟨_, rfl⟩
      obtain ⟨w3, hw3⟩ : ∃ w3, w3 = w2.alloc (.cells #[.slice none 0 0] 42) := ⟨_, rfl⟩
      have hb3 : Below w2.heap.size w2 w3 := by rw [hw3]; exact (Below.refl _ _).alloc (Nat.le_refl _) _
      have co3 : w3.cell? ⟨bo, 0, none⟩ = some (.slice none 0 0) := by rw [hw3, hbo]; simp
      have fo3 : w3.frozen? ⟨bo, 0, none⟩ = false := by rw [hw3, hbo]; simp
      have zo3 : bo < w3.heap.size := by rw [hw3, hbo]; simp
      have s3 := Nat.lt_of_lt_of_le s2 hb3.size
      have p3 := (hb3.cell (p := ⟨w.heap.size, 0, none⟩) s2).trans p2
      have q3 := (hb3.cell (p := ⟨w.heap.size, 1, none⟩) s2).trans q2
      have hB3 := hB2.andB hb3
      have E3 := h.below hB3
      have hbb2 := h.blk
      have hszw := hB2.size
      have hbow : w.heap.size ≤ bo := by omega
      have hbbo : b < bo := by omega
      rw [← hw3, ← hbo]
      clear hw3 hb3 p2 q2 s2 hbo
      have HPT : Hid (∀ W, Below w3.heap.size w3 W → ∀ A17 c17, OwnL w3.heap.size W A17 (natL (List.range' 0 m)).length c17 (natL (List.range' 0 m)) → Calls Try.prog 62 #[.agg #[.int .i64 N, .slice (some ⟨b, o, none⟩) m c], .slice A17 (natL (List.range' 0 m)).length c17, .bool true, .func (.func 64) #[] #[.pointer (some ⟨bo, 0, none⟩)]] W (fun e w' => ∃ bp bc bu, e = .returned (.pointer (some ⟨bp, 0, none⟩)) ∧ PO W w' bp bc bu N m (.slice (some ⟨b, o, none⟩) m c) (.slice A17 (List.range' 0 m).length c17) (.func (.func 64) #[] #[.pointer (some ⟨bo, 0, none⟩)]) (pF true (atL es 0)) (pU true es (atL es 0)))) := fun W hW A17 c17 O17 => by
        rw [natL_len] at O17 ⊢
        refine painterOf_any N b o m c es A17 c17 (List.range' 0 m) true _ _ W (E3.below hW) hm HG.out (fun h0 => ?_) (fun g hg => (O17.blk g hg).2) (fun d hd => by have := List.mem_range'_1.1 hd; omega)
        obtain ⟨g', o', e', I'⟩ := O17.src h0
        exact ⟨g', o', e', ⟨I'.blk, fun i hi => by rw [I'.c i hi, natL_at]⟩⟩
      refine wp_region_then 5 (fun i v W => match i with
        | 0 => v = .agg #[.int .i64 N, .slice (some ⟨b, o, none⟩) m c]
        | 1 => v = .agg #[.int .i64 N, .slice (some ⟨b, o, none⟩) m c]
        | 2 => NewL w3.heap.size (natL (List.range' 0 m)) v W
        | 3 => v = .func (.func 64) #[] #[.pointer (some ⟨bo, 0, none⟩)]
        | _ => PaintN w3 N m b o c bo es v W)
        (fun i => match i with
        | _ => none)
        (fun k W W' => Below W.heap.size W W')  (fun W => Below w3.heap.size w3 W) (by kernel_rfl) (by kernel_rfl) ?_ ?_ ?_ ?_ ?_
      · exact (Below.refl _ _).drew
      · intro i k v W W' hne hd hC hf hE
        match i, hf with
        | 0, hf => exact hf
        | 1, hf => exact hf
        | 2, hf => exact NewL.below hf hE
        | 3, hf => exact hf
        | _ + 4, hf => exact PaintN.below hf hE
      · intro k W W' hC hE
        exact Below.andB hC hE
      · simp only [List.take_succ_cons, List.take_zero]
        refine ⟨?_, ?_, ?_, ?_, ?_, trivial⟩
        · intro a W hC hs hd
          have hW : Below w3.heap.size w3 W := hC
          have e1 : a.tmps[1]?.getD undef = .pointer (some ⟨w.heap.size, 0, none⟩) := hs 1 (by kernel_rfl)
          refine growsG_none (E := fun W W' => Below W.heap.size W W') rfl ?_
          have k0 := (hW.cell (p := ⟨w.heap.size, 0, none⟩) (s3)).trans (p3)
          have k1 := (hW.cell (p := ⟨w.heap.size, 1, none⟩) (s3)).trans (q3)
          clear hs hd
          unfold GrowsE
          go_simp
          exact Below.refl _ _
        · intro a W hC hs hd
          have hW : Below w3.heap.size w3 W := hC
          have e1 : a.tmps[1]?.getD undef = .pointer (some ⟨w.heap.size, 0, none⟩) := hs 1 (by kernel_rfl)
          refine growsG_none (E := fun W W' => Below W.heap.size W W') rfl ?_
          have k0 := (hW.cell (p := ⟨w.heap.size, 0, none⟩) (s3)).trans (p3)
          have k1 := (hW.cell (p := ⟨w.heap.size, 1, none⟩) (s3)).trans (q3)
          clear hs hd
          unfold GrowsE
          go_simp
          exact Below.refl _ _
        · intro a W hC hs hd
          have hW : Below w3.heap.size w3 W := hC
          have e16 : (a.tmps[16]?.getD undef) = .agg #[.int .i64 N, .slice (some ⟨b, o, none⟩) m c] := hd 1 16 (by kernel_rfl) (by kernel_rfl) (by kernel_rfl)
          refine growsG_none (E := fun W W' => Below W.heap.size W W') rfl ?_
          clear hs hd
          unfold GrowsE
          go_simp
          refine ⟨Below.refl _ _, (allEdges_any N b o m c es W (E3.below hW) hm).mono ?_⟩
          rintro e w6 ⟨A6, c6, rfl, ho6, hb6⟩
          exact ⟨_, rfl, hb6, A6, c6, rfl, ho6.mono hW.size⟩
        · intro a W hC hs hd
          have hW : Below w3.heap.size w3 W := hC
          have e5 : a.tmps[5]?.getD undef = .pointer (some ⟨bo, 0, none⟩) := hs 5 (by kernel_rfl)
          refine growsG_none (E := fun W W' => Below W.heap.size W W') rfl ?_
          clear hs hd
          unfold GrowsE
          go_simp
          exact Below.refl _ _
        · intro a W hC hs hd
          have hW : Below w3.heap.size w3 W := hC
          have e15 : (a.tmps[15]?.getD undef) = .agg #[.int .i64 N, .slice (some ⟨b, o, none⟩) m c] := hd 0 15 (by kernel_rfl) (by kernel_rfl) (by kernel_rfl)
          have e17 : NewL w3.heap.size (natL (List.range' 0 m)) (a.tmps[17]?.getD undef) W := hd 2 17 (by kernel_rfl) (by kernel_rfl) (by kernel_rfl)
          obtain ⟨A17, c17, e17, O17⟩ := e17
          have e18 : (a.tmps[18]?.getD undef) = .func (.func 64) #[] #[.pointer (some ⟨bo, 0, none⟩)] := hd 3 18 (by kernel_rfl) (by kernel_rfl) (by kernel_rfl)
          refine growsG_none (E := fun W W' => Below W.heap.size W W') rfl ?_
          clear hs hd
          unfold GrowsE
          go_simp
          refine ⟨Below.refl _ _, (HPT.out W hW A17 c17 O17).mono ?_⟩
          rintro e w6 ⟨bp, bc, bu, rfl, po⟩
          exact ⟨_, rfl, po.bel, W, bp, bc, bu, A17, c17, rfl, hW, po, (by rw [natL_len] at O17; exact O17)⟩
      intro vs W hW hf
      have f19 : PaintN w3 N m b o c bo es (vs 19) W := hf 4 19 (by decide) (by kernel_rfl) (fun _ hk => by cases hk)
      obtain ⟨W0, bp, bc, bu, A19, c19, f19, hW0, po, O19⟩ := f19
      simp only [dsts, List.take_succ_cons, List.take_zero, List.drop_succ_cons, List.drop_zero, List.filterMap_cons, List.filterMap_nil, List.foldl_cons, List.foldl_nil, Act.put, List.setIfInBounds_toArray, List.set_cons_succ, List.set_cons_zero, f19]
      clear hf
      have HST := Lib.hid (paintedN (bo := bo) true po HG.out.wf hm (by simp; omega) (E3.below hW0) (fun h0 => by
        obtain ⟨g', o', e', I'⟩ := O19.src h0
        exact ⟨g', o', e', ⟨I'.blk, fun i hi => by rw [I'.c i hi, natL_at]⟩⟩) (fun g hg => ⟨(O19.blk g hg).2, by have := (O19.blk g hg).1; omega⟩) (fun d hd => by have := List.mem_range'_1.1 hd; omega) (by omega) (Nat.lt_of_lt_of_le zo3 hW0.size) ((hW.cell (p := ⟨bo, 0, none⟩) zo3).trans co3) ((hW.frozen (p := ⟨bo, 0, none⟩) zo3).trans fo3))
      rw [← HTT.out] at HST
      have hszW := hW.size
      have hszW0 := hW0.size
      clear f19 po O19 HPT HGC HF2
      go_wp2_with fail
      refine HST.out.mono ?_
      rintro e w6 ⟨rfl, hN, hK⟩
      obtain ⟨rr, hrr⟩ : ∃ rr, rr = runF (fndN m) [] T := ⟨_, rfl⟩
      have hrun := HRUN.out
      have hFL := HFL.out
      have hFC := HFC.out
      rw [← hrr] at hN hrun ⊢
      have hB6 : Below w.heap.size w w6 := (hB3.andB hW0).trans (hK.below (by omega) (fun k hk => by omega))
      obtain ⟨A6, c6, t6, co6, fo6, O6, hs6⟩ := hN
      clear hrr HST
      by_cases hq : rows.length ≤ 200
      · rw [if_pos hq] at hFL hFC
        have HX := Lib.hid hFL
        have HC := Lib.hid hFC
        have hr2 : rr = (false, rows) := by have := hrun.1 (by simp; omega); rw [this, hTm]; rfl
        subst hr2
        have HFF : Hid (RetLLC (ncL N es) (ncC N es) w (.returned (.tuple #[.slice A6 rows.length c6, .int .i64 0])) w6) := by
          rw [HX.out, HC.out]
          exact ⟨A6, c6, rfl, (O6.mono (by omega)).raise O6.2.1 (Nat.le_refl _), hB6⟩
        have zo6 := hK.lt (Nat.lt_of_lt_of_le zo3 hszW0)
        clear hFL hFC hrun O6
        go_wp2_with fail
        go_ret2
        exact HFF.out
      · rw [if_neg hq] at hFL hFC
        have HX := Lib.hid hFL
        have HC := Lib.hid hFC
        have hr2 := hrun.2 (by simp; omega)
        obtain ⟨rb, rs⟩ := rr
        have hr3 : rb = true := hr2
        subst hr3
        have HFF : Hid (RetLLC (ncL N es) (ncC N es) w (.returned (.tuple #[.slice none 0 0, .int .i64 3])) w6) := by
          rw [HC.out]; exact retLLC_nil HX.out hB6
        clear hFL hFC hrun O6
        go_wp2_with fail
        go_ret2
        exact HFF.out
  · have HX : Hid (ncL n es = []) := by show _ = _; unfold ncL; rw [if_neg (by rw [B_false hG]; decide)]
    have HC : Hid (ncC n es = 1) := by show _ = _; unfold ncC; rw [if_neg (by rw [B_false hG]; decide)]
    rw [show gcC n es true = 1 by simp [gcC, B_false hG]] at HGC
    rw [HC.out]
    clear hG hbox
    go_enter Try.func29, Try.ntmps29
    go_wp2_with fail
    refine HGC.out.mono ?_
    rintro e w1 ⟨rfl, hb1⟩
    have hB1 := hbb.thenB (by simp) hb1
    clear hb1 hbb
    go_wp2_with fail
    go_ret2
    exact retLLC_nil HX.out hB1
end Go.Proofs.Ytppfplhbfgjjhaa
