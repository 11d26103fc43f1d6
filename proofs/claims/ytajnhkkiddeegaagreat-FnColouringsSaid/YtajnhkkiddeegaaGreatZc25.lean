import Derived.Test.YtajnhkkiddeegaaGreatZc19
set_option linter.unusedVariables false
set_option linter.unusedSimpArgs false
namespace Go.Proofs.YtajnhkkiddeegaaGreat
open Go.RowKit Go.Sort
def onT (L : List Int) (e : Int) : Nat → Int
  | 0 => -1
  | k + 1 => if ia L k = e then (k : Int) else onT L e k
theorem onT_rng (L : List Int) (e : Int) : ∀ k, -1 ≤ onT L e k ∧ onT L e k < k := by
  intro k
  induction k with
  | zero => simp [onT]
  | succ k ih => simp only [onT]; split <;> omega
/-- The colours given at a vertex. -/
def gN (es : List (Int × Int)) (v : Int) (d : Nat) : Int := onT (atL es v) d 3
def lsN (m : Nat) (g : Nat → Int) : List Int := (List.range m).map g
theorem lsN_len (m : Nat) (g : Nat → Int) : (lsN m g).length = m := by simp [lsN]
theorem lsN_ia (ys : List Int) : lsN ys.length (ia ys) = ys := by
  apply List.ext_getElem
  · simp [lsN]
  · intro j h1 h2; simp [lsN, ia, h2]
noncomputable def lvs (es : List (Int × Int)) (G : Nat → Int) (m e : Nat) (f : Nat → Int) : List (List Int) := (treeG col3 (okS es G) (List.range' e (m - e)) f).map (lsN m)
noncomputable def lvT (es : List (Int × Int)) (G : Nat → Int) (m e : Nat) (f : Nat → Int) : Nat → List (List Int)
  | 0 => []
  | x + 1 => lvT es G m e f x ++ (if okS es G f e x then lvs es G m (e + 1) (upF f e x) else [])
theorem lvs_step (es : List (Int × Int)) (G : Nat → Int) {m e : Nat} (f : Nat → Int) (h : e < m) : lvs es G m e f = lvT es G m e f 3 := by
  unfold lvs
  rw [show m - e = (m - (e + 1)) + 1 by omega, List.range'_succ]
  simp only [treeG, col3, List.flatMap_cons, List.flatMap_nil, List.append_nil, List.map_append, lvT, List.nil_append, lvs, List.append_assoc]
  have key : ∀ (b : Bool) (X : List (Nat → Int)), (if b = true then X else []).map (lsN m) = if b = true then X.map (lsN m) else [] := fun b X => by cases b <;> rfl
  simp only [key]
  rfl
theorem lvs_leaf (es : List (Int × Int)) (G : Nat → Int) (ys : List Int) : lvs es G ys.length ys.length (ia ys) = [ys] := by
  unfold lvs
  simp [treeG, lsN_ia]
theorem ia_snoc (ys : List Int) (x : Int) : ia (ys ++ [x]) = upF (ia ys) ys.length x := by
  funext j
  simp only [upF]
  by_cases h : j < ys.length
  · rw [ia_app h, if_neg (by omega)]
  · by_cases e : j = ys.length
    · subst e; simp [ia]
    · rw [if_neg e]
      simp only [ia, List.getD_eq_getElem?_getD]
      rw [List.getElem?_eq_none (by simp; omega), List.getElem?_eq_none (by omega)]
def tkL (most : Nat) (rows : List (List Int)) : List (List Int) := rows.take (most + 1)
theorem tk_app (most : Nat) (A B : List (List Int)) : tkL most (tkL most A ++ B) = tkL most (A ++ B) := by
  unfold tkL
  rw [List.take_append, List.take_append, List.take_take, Nat.min_self, List.length_take]
  by_cases h : most + 1 ≤ A.length
  · rw [Nat.min_eq_left h, show most + 1 - (most + 1) = 0 by omega, show most + 1 - A.length = 0 by omega]
  · rw [Nat.min_eq_right (by omega)]
theorem tk_full {most : Nat} {A B : List (List Int)} (h : most < (tkL most A).length) : tkL most (A ++ B) = tkL most A := by
  unfold tkL at h ⊢
  rw [List.take_append, show most + 1 - A.length = 0 by simp at h; omega]
  simp
theorem tk_self {most : Nat} {A : List (List Int)} (h : A.length ≤ most + 1) : tkL most A = A := List.take_of_length_le h
theorem tk_len (most : Nat) (A : List (List Int)) : (tkL most A).length ≤ most + 1 := by simp [tkL]; omega
theorem lvT_pre (es : List (Int × Int)) (G : Nat → Int) (m e : Nat) (f : Nat → Int) (x : Nat) : ∀ y, x ≤ y → ∃ Z, lvT es G m e f y = lvT es G m e f x ++ Z := by
  intro y
  induction y with
  | zero => intro h; obtain rfl : x = 0 := by omega
            exact ⟨[], by simp⟩
  | succ y ih =>
    intro h
    by_cases e : x = y + 1
    · subst e; exact ⟨[], by simp⟩
    · obtain ⟨Z, hz⟩ := ih (by omega)
      exact ⟨Z ++ _, by rw [lvT, hz, List.append_assoc]⟩
/-- Lists of lists, grown: in the block of the one that was handed over, or in a new one. -/
def LLo (B : Nat) (A : Option Addr) (n : Nat) (R : List (List Int)) (v : Value) (W : World) : Prop := ∃ A2 c2, v = .slice A2 R.length c2 ∧ (∃ top, OwnLL B top W A2 R.length c2 R) ∧ ∀ g, blkOf A2 = some g → blkOf A = some g ∨ n ≤ g
theorem LLo.below {B : Nat} {A : Option Addr} {n : Nat} {R : List (List Int)} {v : Value} {W W' : World} (h : LLo B A n R v W) (hb : Below W.heap.size W W') : LLo B A n R v W' := let ⟨A2, c2, e, ⟨t, ho⟩, hn⟩ := h; ⟨A2, c2, e, ⟨t, ho.below hb⟩, hn⟩
theorem fitP_adj {es : List (Int × Int)} {f cs : Nat → Int} {e : Nat} {x : Int} (hf : ∀ d, d < e → cs d = f d) (hx : cs e = x) : FitP es cs e ↔ ∀ d, d < e → adjP es d e → f d ≠ x := by
  have v0 : vE es (2 * e + 0) = ea es e := vE_0 es e
  have v1 : vE es (2 * e + 1) = eb es e := vE_1 es e
  constructor
  · intro h d hd ha
    rw [← hf d hd, ← hx]
    rcases ha with ha | ha
    · exact h 0 (by omega) d hd (by rw [v0]; exact ha)
    · exact h 1 (by omega) d hd (by rw [v1]; exact ha)
  · intro h k hk d hd ha
    rw [hf d hd, hx]
    refine h d hd ?_
    rcases (show k = 0 ∨ k = 1 by omega) with rfl | rfl
    · rw [v0] at ha; exact .inl ha
    · rw [v1] at ha; exact .inr ha
set_option maxRecDepth 100000 in
set_option maxHeartbeats 1000000 in
theorem l02List_any (N b o m c : Nat) (es : List (Int × Int)) (most B0 : Nat) (hm : m ≤ 1048576) (hG : IsG N es) (hmost : most ≤ 300) :
    ∀ (dp : Nat) (ys : List Int) (A0 : Option Addr) (c0 : Nat) (rows : List (List Int)) (A : Option Addr) (c' : Nat) (w : World), m - ys.length < dp → ys.length ≤ m → Eds w b o m es → SrcI w A0 ys.length (ia ys) → (∃ top, OwnLL B0 top w A rows.length c' rows) → rows.length ≤ most → B0 ≤ w.heap.size →
      (∀ g, blkOf A = some g → g ≠ b ∧ blkOf A0 ≠ some g) → (∀ g, blkOf A0 = some g → g < w.heap.size) →
      Calls Tryz.prog 110 #[.agg #[.int .i64 N, .slice (some ⟨b, o, none⟩) m c], .slice A0 ys.length c0, .slice A rows.length c', .int .i64 most] w (fun e w' => ∃ A2 c2, e = .returned (.slice A2 (tkL most (rows ++ lvs es (gN es 0) m ys.length (ia ys))).length c2) ∧ (∃ top, OwnLL B0 top w' A2 (tkL most (rows ++ lvs es (gN es 0) m ys.length (ia ys))).length c2 (tkL most (rows ++ lvs es (gN es 0) m ys.length (ia ys)))) ∧ Kept (fun k => blkOf A = some k) w w' ∧ ∀ g, blkOf A2 = some g → blkOf A = some g ∨ w.heap.size ≤ g) := by
  have HG := Lib.hid hG
  have hn2 := hG.wf.1
  have hn20 := hG.wf.2.1
  clear hG
  intro dp
  induction dp with
  | zero => intro ys A0 c0 rows A c' w h; omega
  | succ dp ih =>
    intro ys A0 c0 rows A c' w hdp hle h I hO hrl hB hne hA0
    have IH := Lib.hid ih
    have hl := Lib.hid h.len
    have HNE := Lib.hid hne
    have hbox := Box2.made w (.int .i64 N) (.slice (some ⟨b, o, none⟩) m c) 26
    have hbb := (by go_grown : Below w.heap.size w (w.alloc (.cells #[.int .i64 N, .slice (some ⟨b, o, none⟩) m c] 26)))
    clear ih hne
    obtain ⟨w1, hw1⟩ : ∃ w1, w1 = w.alloc (Obj.cells #[Value.int IntKind.i64 N, Value.slice (some ⟨b, o, none⟩) m c] 26) := ⟨_, rfl⟩
    have E1 := h.below (hw1 ▸ hbb)
    have I1 := SrcI.below I (hw1 ▸ hbb)
    rw [← hw1] at hbb hbox
    obtain ⟨top, O⟩ := hO
    have O1 := O.below hbb
    have hA := O.blk
    have htop := O.2.1
    have hs1 : w1.heap.size = w.heap.size + 1 := by rw [hw1]; simp [go_sem]
    by_cases hlt : ys.length < m
    rotate_left
    · have hem : ys.length = m := by omega
      have HLV : Hid (tkL most (rows ++ lvs es (gN es 0) m ys.length (ia ys)) = rows ++ [ys]) := by
        show _ = _; rw [← hem, lvs_leaf]; exact tk_self (by simp; omega)
      have hq : ((ys.length : Int) == m) = true := by simp [hem]
      obtain ⟨s1, p1, q1⟩ := hbox
      have HOW := Lib.hid (l01Own_any A0 ys.length c0 ys w1 I1 rfl (by omega))
      rw [HLV.out]
      clear I hem hlt
      go_enter Tryz.func110, Tryz.ntmps110
      go_wp2_with fail
      rw [← hw1]
      go_wp2_with fail
      refine HOW.out.mono ?_
      rintro e w2 ⟨A3, c3, rfl, O3, hb3⟩
      have O2 := O1.below hb3
      have hb4 := hbb.andB hb3
      have hnew : ∀ g, blkOf A3 = some g → top ≤ g := fun g hg => by have := (O3.blk g hg).1; omega
      go_wp2_with (first
        | (at_builtin; refine wp_appR1 rfl rfl rfl rfl rfl rfl O2 (O3.mono (by omega)) hnew (by have := hb4.size; omega) (by omega) ?_; intro A5 c5 w5 O5 hg5 hat5))
      go_ret
      refine ⟨A5, c5, by rw [List.length_append]; rfl, ⟨_, by rw [List.length_append]; exact O5⟩, (Kept.of hb4).trans (Kept.ofGrown hg5 (fun k hk _ => hk)), fun g hg => ?_⟩
      rcases hat5 with h5 | ⟨g5, h5, h6⟩
      · left; rw [← h5]; exact hg
      · rw [h5] at hg; cases hg; right; have := hb4.size; omega
    have hq : ((ys.length : Int) == m) = false := by simp; omega
    obtain ⟨s1, p1, q1⟩ := hbox
    have HAT := Lib.hid (l01At_any N b o m c es 0 w1 E1 hm)
    have hL3 : (atL es 0).length = 3 := atL_3 HG.out (by omega) (by omega)
    have HGN : Hid (∀ d, gN es 0 d = onT (atL es 0) d 3) := fun _ => rfl
    obtain ⟨L0, hL0⟩ : ∃ L0, L0 = atL es 0 := ⟨_, rfl⟩
    rw [← hL0] at HAT hL3 HGN
    have HL3 := Lib.hid hL3
    obtain ⟨G, hGG⟩ : ∃ G, G = gN es 0 := ⟨_, rfl⟩
    have HLS := Lib.hid (lvs_step es G (ia ys) hlt)
    rw [← hGG] at HGN IH ⊢
    clear hL0 hL3 hGG I O h
    go_enter Tryz.func110, Tryz.ntmps110
    go_wp2_with fail
    rw [← hw1]
    go_wp2_with fail
    refine HAT.out.mono ?_
    rintro e w2 ⟨A3, c3, rfl, O3, hb3⟩
    rw [HL3.out] at O3 ⊢
    have c33 : ((3 : Nat) : Int) = 3 := rfl
    have hb4 := hbb.andB hb3
    go_wp2_with fail
    obtain ⟨g3, o3, rfl, I3⟩ := O3.src (by omega)
    have z3 := I3.blk
    go_loop [11, 12] (fun ov iv => ∃ i : Nat, i ≤ 3 ∧ iv = .int .i64 i ∧ ov = .int .i64 (onT L0 ys.length i)) (fun _ i => 3 - (intOf i).toNat)
    case atStart => exact ⟨0, by omega, rfl, rfl⟩
    case round =>
      obtain ⟨i, hi, rfl, rfl⟩ := hrel
      by_cases hi3 : i < 3
      · have i3 := I3.c i hi3
        have HON : Hid (onT L0 ys.length (i + 1) = if ia L0 i = ys.length then (i : Int) else onT L0 ys.length i) := rfl
        by_cases hq3 : ia L0 i = ys.length
        · have HO2 : Hid (onT L0 ys.length (i + 1) = i) := by show _ = _; rw [HON.out, if_pos hq3]
          go_wp2_with fail
          go_round
          case rel => exact ⟨i + 1, by omega, by go_num, by rw [HO2.out]⟩
          case measure => simp [intOf]; omega
        · have HO2 : Hid (onT L0 ys.length (i + 1) = onT L0 ys.length i) := by show _ = _; rw [HON.out, if_neg hq3]
          go_wp2_with fail
          go_round
          case rel => exact ⟨i + 1, by omega, by go_num, by rw [HO2.out]⟩
          case measure => simp [intOf]; omega
      · obtain rfl : i = 3 := by omega
        have HON : Hid (onT L0 ys.length 3 = G ys.length) := (HGN.out ys.length).symm
        have hons := onT_rng L0 ys.length 3
        rw [HON.out] at hons ⊢
        obtain ⟨on, hon⟩ : ∃ on, on = G ys.length := ⟨_, rfl⟩
        rw [← hon] at hons ⊢
        have HONG := Lib.hid hon
        clear hon HON
        have O2 := O1.below hb3
        have E2 := E1.below hb3
        have I2 := SrcI.below I1 hb3
        have p2 := (hb3.cell (p := ⟨w.heap.size, 0, none⟩) s1).trans p1
        have q2 := (hb3.cell (p := ⟨w.heap.size, 1, none⟩) s1).trans q1
        have s2 : w.heap.size < w2.heap.size := Nat.lt_of_lt_of_le s1 hb3.size
        have HT0 : Hid (tkL most (rows ++ lvT es G m ys.length (ia ys) 0) = rows) := by
          show _ = _; simp only [lvT, List.append_nil]; exact tk_self (by omega)
        have HX0 : Hid (∃ A2 c2, (Value.slice A rows.length c') = .slice A2 (tkL most (rows ++ lvT es G m ys.length (ia ys) 0)).length c2 ∧ (∃ top, OwnLL B0 top w2 A2 (tkL most (rows ++ lvT es G m ys.length (ia ys) 0)).length c2 (tkL most (rows ++ lvT es G m ys.length (ia ys) 0))) ∧ ∀ g, blkOf A2 = some g → blkOf A = some g ∨ w2.heap.size ≤ g) := by
          rw [HT0.out]; exact ⟨A, c', rfl, ⟨top, O2⟩, fun g hg => .inl hg⟩
        have HA0 : Hid (∀ g, blkOf A0 = some g → g < w.heap.size) := hA0
        clear p1 q1 I3 z3 O3
        go_wp2_with fail
        go_loopw [2, 13] (fun ov xv wv => ∃ (x : Nat) (A2 : Option Addr) (c2 : Nat), x ≤ 3 ∧ xv = .int .i64 x ∧ ov = .slice A2 (tkL most (rows ++ lvT es G m ys.length (ia ys) x)).length c2 ∧ (∃ top, OwnLL B0 top wv A2 (tkL most (rows ++ lvT es G m ys.length (ia ys) x)).length c2 (tkL most (rows ++ lvT es G m ys.length (ia ys) x))) ∧ Kept (fun k => blkOf A = some k) w2 wv ∧ ∀ g, blkOf A2 = some g → blkOf A = some g ∨ w2.heap.size ≤ g) (fun _ x _ => 3 - (intOf x).toNat)
        case atStart =>
          obtain ⟨A2, c2, e, hT, hN⟩ := HX0.out
          exact ⟨0, A2, c2, by omega, rfl, e, hT, Kept.refl _ _, hN⟩
        case round =>
          obtain ⟨x, A2, c2, hx, rfl, rfl, hTT, hK, hN⟩ := hrel
          obtain ⟨R, hR⟩ : ∃ R, R = tkL most (rows ++ lvT es G m ys.length (ia ys) x) := ⟨_, rfl⟩
          rw [← hR] at hTT ⊢
          have HR := Lib.hid hR
          have hRl : R.length ≤ most + 1 := by rw [hR]; exact tk_len _ _
          have nbox : ¬ blkOf A = some w.heap.size := fun hh => by have := (hA _ hh).2; omega
          have nb : ¬ blkOf A = some b := fun hh => (HNE.out b hh).1 rfl
          have p1 := (hK.cell s2 nbox 0).trans p2
          have q1 := (hK.cell s2 nbox 1).trans q2
          have s1 := hK.lt s2
          have E5 := hK.eds E2 nb
          have I5 := hK.srcI I2 (fun g hg hh => (HNE.out g hh).2 hg)
          clear hR
          by_cases hx3 : x < 3
          · by_cases hRm : R.length ≤ most
            · have hRm' : (R.length : Int) ≤ (most : Int) := by omega
              obtain ⟨w5, rfl⟩ : ∃ w5, w5 = wr := ⟨wr, rfl⟩
              obtain ⟨r, hr⟩ : ∃ r, r = B (FitP es (ia (ys ++ [(x : Int)])) ys.length) := ⟨_, rfl⟩
              have hce : ia (ys ++ [(x : Int)]) ys.length = x := by rw [ia_snoc, upF_same]
              have HOWN := Lib.hid (fun W (hW : Below w5.heap.size w5 W) => l01Own_any A0 ys.length c0 ys W (SrcI.below I5 hW) rfl (by omega))
              have HFIT : Hid (∀ W, Below w5.heap.size w5 W → ∀ A63 c63, OwnL w5.heap.size W A63 (ys.length + 1) c63 (ys ++ [(x : Int)]) → Calls Tryz.prog 113 #[.agg #[.int .i64 N, .slice (some ⟨b, o, none⟩) m c], .slice A63 (ys.length + 1) c63, .int .i64 ys.length, .int .i64 x] W (Ret (.bool r) W)) := fun W hW A63 c63 O63 => by
                obtain ⟨b2, o2, rfl, I63⟩ := O63.src (by omega)
                have := l02FitsX_any N b o m c b2 o2 (ys.length + 1) c63 ys.length es (ia (ys ++ [(x : Int)])) (ia (ys ++ [(x : Int)])) W (E5.below hW) hm HG.out I63 hlt (by omega) (fun _ _ => rfl)
                rw [hce, ← hr] at this
                exact this
              have HRR : Hid (r = true ↔ ∀ d, d < ys.length → adjP es d ys.length → ia ys d ≠ x) := by
                rw [hr]
                exact B_iff.trans (fitP_adj (fun d hd => ia_app hd) hce)
              have HOK : Hid (okS es G (ia ys) ys.length x = B ((on ≠ -1 → (x : Int) = on) ∧ r = true)) := by
                show _ = _
                unfold okS
                rw [← HONG.out]
                exact B_congr (and_congr Iff.rfl HRR.out.symm)
              have HLT : Hid (lvT es G m ys.length (ia ys) (x + 1) = lvT es G m ys.length (ia ys) x ++ (if okS es G (ia ys) ys.length x then lvs es G m (ys.length + 1) (upF (ia ys) ys.length x) else [])) := rfl
              have HNO : Hid (okS es G (ia ys) ys.length x = false → tkL most (rows ++ lvT es G m ys.length (ia ys) (x + 1)) = R) := fun hf => by
                rw [HLT.out, hf, HR.out]; simp
              have HYES : Hid (okS es G (ia ys) ys.length x = true → tkL most (rows ++ lvT es G m ys.length (ia ys) (x + 1)) = tkL most (R ++ lvs es G m (ys.length + 1) (ia (ys ++ [(x : Int)])))) := fun hf => by
                rw [HLT.out, hf, HR.out, tk_app, ia_snoc]; simp
              clear hr hce HRR HLT
              by_cases hq1 : 0 ≤ on ∧ (x : Int) ≠ on
              · have hg1 := hq1.1
                have hg2 := hq1.2
                have HE := HNO.out (by rw [HOK.out]; exact B_false (fun hh => hg2 (hh.1 (by omega))))
                have HE2 := Lib.hid HE
                clear HE hq1
                go_wp2_with fail
                refine wp_region_eff (fun i v W => match i with
                  | 0 => v = .int .i64 on
                  | 1 => v = .bool true
                  | 2 => v = .bool true
                  | 3 => v = .int .i64 x
                  | 4 => v = .int .i64 on
                  | 5 => v = .bool true
                  | 6 => v = .bool true
                  | 7 => v = .bool true
                  | 8 => v = undef
                  | 9 => v = undef
                  | 10 => v = undef
                  | 11 => v = undef
                  | 12 => v = undef
                  | 13 => v = undef
                  | 14 => v = undef
                  | 15 => v = undef
                  | 16 => v = undef
                  | 17 => v = undef
                  | _ => v = .bool true)
                  (fun i => match i with
                  | _ => none)
                  (fun k W W' => Below W.heap.size W W') (by kernel_rfl) (by kernel_rfl) ?_ ?_ ?_ ?_
                · intro i k v W W' hne hd hC hf hE
                  match i, hf with
                  | 0, hf => exact hf
                  | 1, hf => exact hf
                  | 2, hf => exact hf
                  | 3, hf => exact hf
                  | 4, hf => exact hf
                  | 5, hf => exact hf
                  | 6, hf => exact hf
                  | 7, hf => exact hf
                  | 8, hf => exact hf
                  | 9, hf => exact hf
                  | 10, hf => exact hf
                  | 11, hf => exact hf
                  | 12, hf => exact hf
                  | 13, hf => exact hf
                  | 14, hf => exact hf
                  | 15, hf => exact hf
                  | 16, hf => exact hf
                  | 17, hf => exact hf
                  | _ + 18, hf => exact hf
                · intro k W W' hC hE
                  exact Below.mono hE hC.size
                · refine ⟨?_, ?_, ?_, ?_, ?_, ?_, ?_, ?_, ?_, ?_, ?_, ?_, ?_, ?_, ?_, ?_, ?_, ?_, ?_, trivial⟩
                  · intro a W hC hs hd
                    have hW : Below w5.heap.size w5 W := hC
                    have e11 : a.tmps[11]?.getD undef = .int .i64 on := hs 11 (by kernel_rfl)
                    refine growsG_none (E := fun W W' => Below W.heap.size W W') rfl ?_
                    clear hs hd
                    unfold GrowsE
                    go_simp
                    exact Below.refl _ _
                  · intro a W hC hs hd
                    have hW : Below w5.heap.size w5 W := hC
                    have e50 : (a.tmps[50]?.getD undef) = .int .i64 on := hd 0 50 (by kernel_rfl) (by kernel_rfl) (by kernel_rfl)
                    refine growsG_none (E := fun W W' => Below W.heap.size W W') rfl ?_
                    clear hs hd
                    unfold GrowsE
                    go_simp
                    exact Below.refl _ _
                  · intro a W hC hs hd
                    have hW : Below w5.heap.size w5 W := hC
                    have e51 : (a.tmps[51]?.getD undef) = .bool true := hd 1 51 (by kernel_rfl) (by kernel_rfl) (by kernel_rfl)
                    refine growsG_none (E := fun W W' => Below W.heap.size W W') rfl ?_
                    clear hs hd
                    unfold GrowsE
                    go_simp
                    exact Below.refl _ _
                  · intro a W hC hs hd
                    have hW : Below w5.heap.size w5 W := hC
                    have y52 : (a.tmps[52]?.getD undef) = .bool true := hd 2 52 (by kernel_rfl) (by kernel_rfl) (by kernel_rfl)
                    have e13 : a.tmps[13]?.getD undef = .int .i64 x := hs 13 (by kernel_rfl)
                    refine growsG_yes (E := fun W W' => Below W.heap.size W W') rfl (by kernel_rfl) y52 ?_
                    clear hs hd
                    unfold GrowsE
                    go_simp
                    exact Below.refl _ _
                  · intro a W hC hs hd
                    have hW : Below w5.heap.size w5 W := hC
                    have y52 : (a.tmps[52]?.getD undef) = .bool true := hd 2 52 (by kernel_rfl) (by kernel_rfl) (by kernel_rfl)
                    have e11 : a.tmps[11]?.getD undef = .int .i64 on := hs 11 (by kernel_rfl)
                    refine growsG_yes (E := fun W W' => Below W.heap.size W W') rfl (by kernel_rfl) y52 ?_
                    clear hs hd
                    unfold GrowsE
                    go_simp
                    exact Below.refl _ _
                  · intro a W hC hs hd
                    have hW : Below w5.heap.size w5 W := hC
                    have y52 : (a.tmps[52]?.getD undef) = .bool true := hd 2 52 (by kernel_rfl) (by kernel_rfl) (by kernel_rfl)
                    have e53 : (a.tmps[53]?.getD undef) = .int .i64 x := hd 3 53 (by kernel_rfl) (by kernel_rfl) (by kernel_rfl)
                    have e54 : (a.tmps[54]?.getD undef) = .int .i64 on := hd 4 54 (by kernel_rfl) (by kernel_rfl) (by kernel_rfl)
                    refine growsG_yes (E := fun W W' => Below W.heap.size W W') rfl (by kernel_rfl) y52 ?_
                    clear hs hd
                    unfold GrowsE
                    go_simp
                    exact Below.refl _ _
                  · intro a W hC hs hd
                    have hW : Below w5.heap.size w5 W := hC
                    have e52 : (a.tmps[52]?.getD undef) = .bool true := hd 2 52 (by kernel_rfl) (by kernel_rfl) (by kernel_rfl)
                    have e55 : (a.tmps[55]?.getD undef) = .bool true := hd 5 55 (by kernel_rfl) (by kernel_rfl) (by kernel_rfl)
                    refine growsG_none (E := fun W W' => Below W.heap.size W W') rfl ?_
                    clear hs hd
                    unfold GrowsE
                    go_simp
                    exact Below.refl _ _
                  · intro a W hC hs hd
                    have hW : Below w5.heap.size w5 W := hC
                    have e56 : (a.tmps[56]?.getD undef) = .bool true := hd 6 56 (by kernel_rfl) (by kernel_rfl) (by kernel_rfl)
                    refine growsG_none (E := fun W W' => Below W.heap.size W W') rfl ?_
                    clear hs hd
                    unfold GrowsE
                    go_simp
                    exact Below.refl _ _
                  · intro a W hC hs hd
                    have hW : Below w5.heap.size w5 W := hC
                    have y57 : (a.tmps[57]?.getD undef) = .bool true := hd 7 57 (by kernel_rfl) (by kernel_rfl) (by kernel_rfl)
                    exact growsG_no (E := fun W W' => Below W.heap.size W W') (b := true) rfl (by kernel_rfl) y57 (by decide) (Below.refl _ _) rfl
                  · intro a W hC hs hd
                    have hW : Below w5.heap.size w5 W := hC
                    have y57 : (a.tmps[57]?.getD undef) = .bool true := hd 7 57 (by kernel_rfl) (by kernel_rfl) (by kernel_rfl)
                    exact growsG_no (E := fun W W' => Below W.heap.size W W') (b := true) rfl (by kernel_rfl) y57 (by decide) (Below.refl _ _) rfl
                  · intro a W hC hs hd
                    have hW : Below w5.heap.size w5 W := hC
                    have y57 : (a.tmps[57]?.getD undef) = .bool true := hd 7 57 (by kernel_rfl) (by kernel_rfl) (by kernel_rfl)
                    exact growsG_no (E := fun W W' => Below W.heap.size W W') (b := true) rfl (by kernel_rfl) y57 (by decide) (Below.refl _ _) rfl
                  · intro a W hC hs hd
                    have hW : Below w5.heap.size w5 W := hC
                    have y57 : (a.tmps[57]?.getD undef) = .bool true := hd 7 57 (by kernel_rfl) (by kernel_rfl) (by kernel_rfl)
                    exact growsG_no (E := fun W W' => Below W.heap.size W W') (b := true) rfl (by kernel_rfl) y57 (by decide) (Below.refl _ _) rfl
                  · intro a W hC hs hd
                    have hW : Below w5.heap.size w5 W := hC
                    have y57 : (a.tmps[57]?.getD undef) = .bool true := hd 7 57 (by kernel_rfl) (by kernel_rfl) (by kernel_rfl)
                    exact growsG_no (E := fun W W' => Below W.heap.size W W') (b := true) rfl (by kernel_rfl) y57 (by decide) (Below.refl _ _) rfl
                  · intro a W hC hs hd
                    have hW : Below w5.heap.size w5 W := hC
                    have y57 : (a.tmps[57]?.getD undef) = .bool true := hd 7 57 (by kernel_rfl) (by kernel_rfl) (by kernel_rfl)
                    exact growsG_no (E := fun W W' => Below W.heap.size W W') (b := true) rfl (by kernel_rfl) y57 (by decide) (Below.refl _ _) rfl
                  · intro a W hC hs hd
                    have hW : Below w5.heap.size w5 W := hC
                    have y57 : (a.tmps[57]?.getD undef) = .bool true := hd 7 57 (by kernel_rfl) (by kernel_rfl) (by kernel_rfl)
                    exact growsG_no (E := fun W W' => Below W.heap.size W W') (b := true) rfl (by kernel_rfl) y57 (by decide) (Below.refl _ _) rfl
                  · intro a W hC hs hd
                    have hW : Below w5.heap.size w5 W := hC
                    have y57 : (a.tmps[57]?.getD undef) = .bool true := hd 7 57 (by kernel_rfl) (by kernel_rfl) (by kernel_rfl)
                    exact growsG_no (E := fun W W' => Below W.heap.size W W') (b := true) rfl (by kernel_rfl) y57 (by decide) (Below.refl _ _) rfl
                  · intro a W hC hs hd
                    have hW : Below w5.heap.size w5 W := hC
                    have y57 : (a.tmps[57]?.getD undef) = .bool true := hd 7 57 (by kernel_rfl) (by kernel_rfl) (by kernel_rfl)
                    exact growsG_no (E := fun W W' => Below W.heap.size W W') (b := true) rfl (by kernel_rfl) y57 (by decide) (Below.refl _ _) rfl
                  · intro a W hC hs hd
                    have hW : Below w5.heap.size w5 W := hC
                    have y57 : (a.tmps[57]?.getD undef) = .bool true := hd 7 57 (by kernel_rfl) (by kernel_rfl) (by kernel_rfl)
                    exact growsG_no (E := fun W W' => Below W.heap.size W W') (b := true) rfl (by kernel_rfl) y57 (by decide) (Below.refl _ _) rfl
                  · intro a W hC hs hd
                    have hW : Below w5.heap.size w5 W := hC
                    have e57 : (a.tmps[57]?.getD undef) = .bool true := hd 7 57 (by kernel_rfl) (by kernel_rfl) (by kernel_rfl)
                    have e67 : (a.tmps[67]?.getD undef) = undef := hd 17 67 (by kernel_rfl) (by kernel_rfl) (by kernel_rfl)
                    refine growsG_none (E := fun W W' => Below W.heap.size W W') rfl ?_
                    clear hs hd
                    unfold GrowsE
                    go_simp
                    exact Below.refl _ _
                intro vs W hW hf
                have f50 : (vs 50) = .int .i64 on := hf 0 50 (by kernel_rfl) rfl
                have f51 : (vs 51) = .bool true := hf 1 51 (by kernel_rfl) rfl
                have f52 : (vs 52) = .bool true := hf 2 52 (by kernel_rfl) rfl
                have f53 : (vs 53) = .int .i64 x := hf 3 53 (by kernel_rfl) rfl
                have f54 : (vs 54) = .int .i64 on := hf 4 54 (by kernel_rfl) rfl
                have f55 : (vs 55) = .bool true := hf 5 55 (by kernel_rfl) rfl
                have f56 : (vs 56) = .bool true := hf 6 56 (by kernel_rfl) rfl
                have f57 : (vs 57) = .bool true := hf 7 57 (by kernel_rfl) rfl
                have f58 : (vs 58) = undef := hf 8 58 (by kernel_rfl) rfl
                have f59 : (vs 59) = undef := hf 9 59 (by kernel_rfl) rfl
                have f60 : (vs 60) = undef := hf 10 60 (by kernel_rfl) rfl
                have f61 : (vs 61) = undef := hf 11 61 (by kernel_rfl) rfl
                have f62 : (vs 62) = undef := hf 12 62 (by kernel_rfl) rfl
                have f63 : (vs 63) = undef := hf 13 63 (by kernel_rfl) rfl
                have f64 : (vs 64) = undef := hf 14 64 (by kernel_rfl) rfl
                have f65 : (vs 65) = undef := hf 15 65 (by kernel_rfl) rfl
                have f66 : (vs 66) = undef := hf 16 66 (by kernel_rfl) rfl
                have f67 : (vs 67) = undef := hf 17 67 (by kernel_rfl) rfl
                have f68 : (vs 68) = .bool true := hf 18 68 (by kernel_rfl) rfl
                simp only [dsts, List.filterMap_cons, List.filterMap_nil, List.foldl_cons, List.foldl_nil, Act.put, List.setIfInBounds_toArray, List.set_cons_succ, List.set_cons_zero, f50, f51, f52, f53, f54, f55, f56, f57, f58, f59, f60, f61, f62, f63, f64, f65, f66, f67, f68]
                clear hf
                have hK2 := hK.thenB hW
                obtain ⟨tp, hTp⟩ := hTT
                have hT2 := hTp.below hW
                clear p1 q1
                go_wp2_with fail
                go_roundw
                case rel => exact ⟨x + 1, A2, c2, by omega, by go_num, by rw [HE2.out], ⟨tp, by rw [HE2.out]; exact hT2⟩, hK2, hN⟩
                case measure => simp [intOf]; omega
              · have hq2 : Hid (0 ≤ on → (x : Int) = on) := fun h0 => Classical.byContradiction fun hne => hq1 ⟨h0, hne⟩
                clear hq1
                have HOK2 : Hid (okS es G (ia ys) ys.length x = r) := by
                  show _ = _
                  rw [HOK.out, Bool.eq_iff_iff, B_iff]
                  exact ⟨fun hh => hh.2, fun hh => ⟨fun h0 => hq2.out (by omega), hh⟩⟩
                have HREC : Hid (∀ w6, Below w5.heap.size w5 w6 → ∀ W, Below w6.heap.size w6 W → ∀ A74 c74, OwnL w6.heap.size W A74 (ys.length + 1) c74 (ys ++ [(x : Int)]) → Calls Tryz.prog 110 #[.agg #[.int .i64 N, .slice (some ⟨b, o, none⟩) m c], .slice A74 (ys.length + 1) c74, .slice A2 R.length c2, .int .i64 most] W (fun e w' => ∃ A9 c9, e = .returned (.slice A9 (tkL most (R ++ lvs es G m (ys.length + 1) (ia (ys ++ [(x : Int)])))).length c9) ∧ (∃ top, OwnLL B0 top w' A9 (tkL most (R ++ lvs es G m (ys.length + 1) (ia (ys ++ [(x : Int)])))).length c9 (tkL most (R ++ lvs es G m (ys.length + 1) (ia (ys ++ [(x : Int)]))))) ∧ Kept (fun k => blkOf A2 = some k) W w' ∧ ∀ g, blkOf A9 = some g → blkOf A2 = some g ∨ W.heap.size ≤ g)) := fun w6 h6 W hW A74 c74 O74 => by
                  have hB6 := h6.andB hW
                  have hlen : (ys ++ [(x : Int)]).length = ys.length + 1 := by simp
                  obtain ⟨tp, hTp⟩ := hTT
                  have hIH := IH.out (ys ++ [(x : Int)]) A74 c74 R A2 c2 W
                  rw [hlen] at hIH
                  refine hIH (by omega) (by omega) (E5.below hB6) O74.src ⟨tp, hTp.below hB6⟩ hRm (by have := hB6.size; have := hK.size; have := hb4.size; omega) (fun g hg => ⟨?_, fun h74 => ?_⟩) (fun g hg => (O74.blk g hg).2)
                  · rcases hN g hg with h1 | h1
                    · exact (HNE.out g h1).1
                    · intro e; subst e; have := E2.blk; omega
                  · have h1 := (O74.blk g h74).1
                    have h2 := hTp.blk g hg
                    have h3 := hTp.2.1
                    have h4 := h6.size
                    omega
                have HSTEP : Hid (r = true → ∀ (w6 Wt : World) (A9 : Option Addr) (c9 : Nat), Below w5.heap.size w5 w6 → Kept (fun k => blkOf A2 = some k) w6 Wt → (∃ top, OwnLL B0 top Wt A9 (tkL most (R ++ lvs es G m (ys.length + 1) (ia (ys ++ [(x : Int)])))).length c9 (tkL most (R ++ lvs es G m (ys.length + 1) (ia (ys ++ [(x : Int)]))))) → (∀ g, blkOf A9 = some g → blkOf A2 = some g ∨ w6.heap.size ≤ g) →
                    ∃ A2' c2', (Value.slice A9 (tkL most (R ++ lvs es G m (ys.length + 1) (ia (ys ++ [(x : Int)])))).length c9) = .slice A2' (tkL most (rows ++ lvT es G m ys.length (ia ys) (x + 1))).length c2' ∧ (∃ top, OwnLL B0 top Wt A2' (tkL most (rows ++ lvT es G m ys.length (ia ys) (x + 1))).length c2' (tkL most (rows ++ lvT es G m ys.length (ia ys) (x + 1)))) ∧ Kept (fun k => blkOf A = some k) w2 Wt ∧ ∀ g, blkOf A2' = some g → blkOf A = some g ∨ w2.heap.size ≤ g) := fun hrt w6 Wt A9 c9 h6 hk6 hT hn9 => by
                  rw [HYES.out (by rw [HOK2.out]; exact hrt)]
                  refine ⟨A9, c9, rfl, hT, (hK.thenB h6).trans' hk6 hN, fun g hg => ?_⟩
                  rcases hn9 g hg with h1 | h1
                  · exact hN g h1
                  · have := h6.size; have := hK.size; right; omega
                have HREST : Hid (r = false → ∀ w6, Below w5.heap.size w5 w6 → tkL most (rows ++ lvT es G m ys.length (ia ys) (x + 1)) = R ∧ (∃ top, OwnLL B0 top w6 A2 R.length c2 R) ∧ Kept (fun k => blkOf A = some k) w2 w6) := fun hrf w6 h6 => by
                  obtain ⟨tp, hTp⟩ := hTT
                  exact ⟨HNO.out (by rw [HOK2.out]; exact hrf), ⟨tp, hTp.below h6⟩, hK.thenB h6⟩
                clear hTT
                by_cases hon0 : 0 ≤ on
                · have hxon : Hid ((x : Int) = on) := hq2.out hon0
                  go_wp2_with fail
                  refine wp_region_eff (fun i v W => match i with
                    | 0 => v = .int .i64 on
                    | 1 => v = .bool true
                    | 2 => v = .bool true
                    | 3 => v = .int .i64 x
                    | 4 => v = .int .i64 on
                    | 5 => v = .bool false
                    | 6 => v = .bool false
                    | 7 => v = .bool false
                    | 8 => v = .agg #[.int .i64 N, .slice (some ⟨b, o, none⟩) m c]
                    | 9 => v = .slice A0 ys.length c0
                    | 10 => NewL w5.heap.size (ys) v W
                    | 11 => v = .int .i64 x
                    | 12 => NewS (x) v W
                    | 13 => NewL w5.heap.size (ys ++ [(x : Int)]) v W
                    | 14 => v = .int .i64 ys.length
                    | 15 => v = .int .i64 x
                    | 16 => v = .bool r
                    | 17 => v = .bool (!r)
                    | _ => v = .bool (!r))
                    (fun i => match i with
                    | 10 => some 13
                    | 12 => some 13
                    | _ => none)
                    (fun k W W' => if k = 13 then Below w5.heap.size W W' else Below W.heap.size W W') (by kernel_rfl) (by kernel_rfl) ?_ ?_ ?_ ?_
                  · intro i k v W W' hne hd hC hf hE
                    by_cases hk13 : k = 13
                    · subst hk13
                      replace hE : Below w5.heap.size W W' := hE
                      match i, hne, hd, hf with
                      | 0, hne, hd, hf => exact hf
                      | 1, hne, hd, hf => exact hf
                      | 2, hne, hd, hf => exact hf
                      | 3, hne, hd, hf => exact hf
                      | 4, hne, hd, hf => exact hf
                      | 5, hne, hd, hf => exact hf
                      | 6, hne, hd, hf => exact hf
                      | 7, hne, hd, hf => exact hf
                      | 8, hne, hd, hf => exact hf
                      | 9, hne, hd, hf => exact hf
                      | 10, hne, hd, hf => exact absurd rfl hd
                      | 11, hne, hd, hf => exact hf
                      | 12, hne, hd, hf => exact absurd rfl hd
                      | 13, hne, hd, hf => exact absurd rfl hne
                      | 14, hne, hd, hf => exact hf
                      | 15, hne, hd, hf => exact hf
                      | 16, hne, hd, hf => exact hf
                      | 17, hne, hd, hf => exact hf
                      | _ + 18, hne, hd, hf => exact hf
                    simp only [if_neg hk13] at hE
                    match i, hf with
                    | 0, hf => exact hf
                    | 1, hf => exact hf
                    | 2, hf => exact hf
                    | 3, hf => exact hf
                    | 4, hf => exact hf
                    | 5, hf => exact hf
                    | 6, hf => exact hf
                    | 7, hf => exact hf
                    | 8, hf => exact hf
                    | 9, hf => exact hf
                    | 10, hf => exact NewL.below hf hE
                    | 11, hf => exact hf
                    | 12, hf => exact NewS.below hf hE
                    | 13, hf => exact NewL.below hf hE
                    | 14, hf => exact hf
                    | 15, hf => exact hf
                    | 16, hf => exact hf
                    | 17, hf => exact hf
                    | _ + 18, hf => exact hf
                  · intro k W W' hC hE
                    by_cases hk13 : k = 13
                    · subst hk13; exact hE
                    simp only [if_neg hk13] at hE
                    exact Below.mono hE hC.size
                  · refine ⟨?_, ?_, ?_, ?_, ?_, ?_, ?_, ?_, ?_, ?_, ?_, ?_, ?_, ?_, ?_, ?_, ?_, ?_, ?_, trivial⟩
                    · intro a W hC hs hd
                      have hW : Below w5.heap.size w5 W := hC
                      have e11 : a.tmps[11]?.getD undef = .int .i64 on := hs 11 (by kernel_rfl)
                      refine growsG_none (E := fun W W' => Below W.heap.size W W') rfl ?_
                      clear hs hd
                      unfold GrowsE
                      go_simp
                      exact Below.refl _ _
                    · intro a W hC hs hd
                      have hW : Below w5.heap.size w5 W := hC
                      have e50 : (a.tmps[50]?.getD undef) = .int .i64 on := hd 0 50 (by kernel_rfl) (by kernel_rfl) (by kernel_rfl)
                      refine growsG_none (E := fun W W' => Below W.heap.size W W') rfl ?_
                      clear hs hd
                      unfold GrowsE
                      go_simp
                      exact Below.refl _ _
                    · intro a W hC hs hd
                      have hW : Below w5.heap.size w5 W := hC
                      have e51 : (a.tmps[51]?.getD undef) = .bool true := hd 1 51 (by kernel_rfl) (by kernel_rfl) (by kernel_rfl)
                      refine growsG_none (E := fun W W' => Below W.heap.size W W') rfl ?_
                      clear hs hd
                      unfold GrowsE
                      go_simp
                      exact Below.refl _ _
                    · intro a W hC hs hd
                      have hW : Below w5.heap.size w5 W := hC
                      have y52 : (a.tmps[52]?.getD undef) = .bool true := hd 2 52 (by kernel_rfl) (by kernel_rfl) (by kernel_rfl)
                      have e13 : a.tmps[13]?.getD undef = .int .i64 x := hs 13 (by kernel_rfl)
                      refine growsG_yes (E := fun W W' => Below W.heap.size W W') rfl (by kernel_rfl) y52 ?_
                      clear hs hd
                      unfold GrowsE
                      go_simp
                      exact Below.refl _ _
                    · intro a W hC hs hd
                      have hW : Below w5.heap.size w5 W := hC
                      have y52 : (a.tmps[52]?.getD undef) = .bool true := hd 2 52 (by kernel_rfl) (by kernel_rfl) (by kernel_rfl)
                      have e11 : a.tmps[11]?.getD undef = .int .i64 on := hs 11 (by kernel_rfl)
                      refine growsG_yes (E := fun W W' => Below W.heap.size W W') rfl (by kernel_rfl) y52 ?_
                      clear hs hd
                      unfold GrowsE
                      go_simp
                      exact Below.refl _ _
                    · intro a W hC hs hd
                      have hW : Below w5.heap.size w5 W := hC
                      have y52 : (a.tmps[52]?.getD undef) = .bool true := hd 2 52 (by kernel_rfl) (by kernel_rfl) (by kernel_rfl)
                      have e53 : (a.tmps[53]?.getD undef) = .int .i64 x := hd 3 53 (by kernel_rfl) (by kernel_rfl) (by kernel_rfl)
                      have e54 : (a.tmps[54]?.getD undef) = .int .i64 on := hd 4 54 (by kernel_rfl) (by kernel_rfl) (by kernel_rfl)
                      refine growsG_yes (E := fun W W' => Below W.heap.size W W') rfl (by kernel_rfl) y52 ?_
                      clear hs hd
                      unfold GrowsE
                      go_simp
                      exact ⟨Below.refl _ _, hxon.out⟩
                    · intro a W hC hs hd
                      have hW : Below w5.heap.size w5 W := hC
                      have e52 : (a.tmps[52]?.getD undef) = .bool true := hd 2 52 (by kernel_rfl) (by kernel_rfl) (by kernel_rfl)
                      have e55 : (a.tmps[55]?.getD undef) = .bool false := hd 5 55 (by kernel_rfl) (by kernel_rfl) (by kernel_rfl)
                      refine growsG_none (E := fun W W' => Below W.heap.size W W') rfl ?_
                      clear hs hd
                      unfold GrowsE
                      go_simp
                      exact Below.refl _ _
                    · intro a W hC hs hd
                      have hW : Below w5.heap.size w5 W := hC
                      have e56 : (a.tmps[56]?.getD undef) = .bool false := hd 6 56 (by kernel_rfl) (by kernel_rfl) (by kernel_rfl)
                      refine growsG_none (E := fun W W' => Below W.heap.size W W') rfl ?_
                      clear hs hd
                      unfold GrowsE
                      go_simp
                      exact Below.refl _ _
                    · intro a W hC hs hd
                      have hW : Below w5.heap.size w5 W := hC
                      have y57 : (a.tmps[57]?.getD undef) = .bool false := hd 7 57 (by kernel_rfl) (by kernel_rfl) (by kernel_rfl)
                      have e4 : a.tmps[4]?.getD undef = .pointer (some ⟨w.heap.size, 0, none⟩) := hs 4 (by kernel_rfl)
                      refine growsG_yes (E := fun W W' => Below W.heap.size W W') rfl (by kernel_rfl) y57 ?_
                      have k0 := (hW.cell (p := ⟨w.heap.size, 0, none⟩) (s1)).trans (p1)
                      have k1 := (hW.cell (p := ⟨w.heap.size, 1, none⟩) (s1)).trans (q1)
                      clear hs hd
                      unfold GrowsE
                      go_simp
                      exact Below.refl _ _
                    · intro a W hC hs hd
                      have hW : Below w5.heap.size w5 W := hC
                      have y57 : (a.tmps[57]?.getD undef) = .bool false := hd 7 57 (by kernel_rfl) (by kernel_rfl) (by kernel_rfl)
                      have e1 : a.tmps[1]?.getD undef = .slice A0 ys.length c0 := hs 1 (by kernel_rfl)
                      refine growsG_yes (E := fun W W' => Below W.heap.size W W') rfl (by kernel_rfl) y57 ?_
                      clear hs hd
                      unfold GrowsE
                      go_simp
                      exact Below.refl _ _
                    · intro a W hC hs hd
                      have hW : Below w5.heap.size w5 W := hC
                      have y57 : (a.tmps[57]?.getD undef) = .bool false := hd 7 57 (by kernel_rfl) (by kernel_rfl) (by kernel_rfl)
                      have e59 : (a.tmps[59]?.getD undef) = .slice A0 ys.length c0 := hd 9 59 (by kernel_rfl) (by kernel_rfl) (by kernel_rfl)
                      refine growsG_yes (E := fun W W' => Below W.heap.size W W') rfl (by kernel_rfl) y57 ?_
                      clear hs hd
                      unfold GrowsE
                      go_simp
                      refine ⟨Below.refl _ _, (HOWN.out W hW).mono ?_⟩
                      rintro e w6 ⟨A6, c6, rfl, ho6, hb6⟩
                      exact ⟨_, rfl, hb6, A6, c6, rfl, ho6.mono hW.size⟩
                    · intro a W hC hs hd
                      have hW : Below w5.heap.size w5 W := hC
                      have y57 : (a.tmps[57]?.getD undef) = .bool false := hd 7 57 (by kernel_rfl) (by kernel_rfl) (by kernel_rfl)
                      have e13 : a.tmps[13]?.getD undef = .int .i64 x := hs 13 (by kernel_rfl)
                      refine growsG_yes (E := fun W W' => Below W.heap.size W W') rfl (by kernel_rfl) y57 ?_
                      clear hs hd
                      unfold GrowsE
                      go_simp
                      exact Below.refl _ _
                    · intro a W hC hs hd
                      have hW : Below w5.heap.size w5 W := hC
                      have y57 : (a.tmps[57]?.getD undef) = .bool false := hd 7 57 (by kernel_rfl) (by kernel_rfl) (by kernel_rfl)
                      have e61 : (a.tmps[61]?.getD undef) = .int .i64 x := hd 11 61 (by kernel_rfl) (by kernel_rfl) (by kernel_rfl)
                      refine growsG_yes (E := fun W W' => Below W.heap.size W W') rfl (by kernel_rfl) y57 ?_
                      clear hs hd
                      unfold GrowsE
                      go_simp
                      exact ⟨(Below.refl _ _).alloc (Nat.le_refl _) _, _, rfl, ints1 _ _ _⟩
                    · intro a W hC hs hd
                      have hW : Below w5.heap.size w5 W := hC
                      have y57 : (a.tmps[57]?.getD undef) = .bool false := hd 7 57 (by kernel_rfl) (by kernel_rfl) (by kernel_rfl)
                      have e60 : NewL w5.heap.size (ys) (a.tmps[60]?.getD undef) W := hd 10 60 (by kernel_rfl) (by kernel_rfl) (by kernel_rfl)
                      obtain ⟨A60, c60, e60, O60⟩ := e60
                      have e62 : NewS (x) (a.tmps[62]?.getD undef) W := hd 12 62 (by kernel_rfl) (by kernel_rfl) (by kernel_rfl)
                      obtain ⟨g62, e62, I62⟩ := e62
                      refine growsG_yes rfl (by kernel_rfl) y57 ?_
                      refine grows_appL rfl ((eval_tmp a 60).trans e60) ((eval_tmp a 62).trans e62) I62 (O60.mono (Nat.le_refl _)) (hW.size) (by omega) ?_
                      intro A6 c6 w6 ho6 hg6
                      exact ⟨(Below.refl _ _).grown hg6 hW.size (fun y hy => (O60.blk y hy).1), A6, c6, (by rw [List.length_append]; rfl), (by rw [List.length_append]; exact ho6)⟩
                    · intro a W hC hs hd
                      have hW : Below w5.heap.size w5 W := hC
                      have y57 : (a.tmps[57]?.getD undef) = .bool false := hd 7 57 (by kernel_rfl) (by kernel_rfl) (by kernel_rfl)
                      have e9 : a.tmps[9]?.getD undef = .int .i64 ys.length := hs 9 (by kernel_rfl)
                      refine growsG_yes (E := fun W W' => Below W.heap.size W W') rfl (by kernel_rfl) y57 ?_
                      clear hs hd
                      unfold GrowsE
                      go_simp
                      exact Below.refl _ _
                    · intro a W hC hs hd
                      have hW : Below w5.heap.size w5 W := hC
                      have y57 : (a.tmps[57]?.getD undef) = .bool false := hd 7 57 (by kernel_rfl) (by kernel_rfl) (by kernel_rfl)
                      have e13 : a.tmps[13]?.getD undef = .int .i64 x := hs 13 (by kernel_rfl)
                      refine growsG_yes (E := fun W W' => Below W.heap.size W W') rfl (by kernel_rfl) y57 ?_
                      clear hs hd
                      unfold GrowsE
                      go_simp
                      exact Below.refl _ _
                    · intro a W hC hs hd
                      have hW : Below w5.heap.size w5 W := hC
                      have y57 : (a.tmps[57]?.getD undef) = .bool false := hd 7 57 (by kernel_rfl) (by kernel_rfl) (by kernel_rfl)
                      have e58 : (a.tmps[58]?.getD undef) = .agg #[.int .i64 N, .slice (some ⟨b, o, none⟩) m c] := hd 8 58 (by kernel_rfl) (by kernel_rfl) (by kernel_rfl)
                      have e63 : NewL w5.heap.size (ys ++ [(x : Int)]) (a.tmps[63]?.getD undef) W := hd 13 63 (by kernel_rfl) (by kernel_rfl) (by kernel_rfl)
                      obtain ⟨A63, c63, e63, O63⟩ := e63
                      have e64 : (a.tmps[64]?.getD undef) = .int .i64 ys.length := hd 14 64 (by kernel_rfl) (by kernel_rfl) (by kernel_rfl)
                      have e65 : (a.tmps[65]?.getD undef) = .int .i64 x := hd 15 65 (by kernel_rfl) (by kernel_rfl) (by kernel_rfl)
                      refine growsG_yes (E := fun W W' => Below W.heap.size W W') rfl (by kernel_rfl) y57 ?_
                      clear hs hd
                      unfold GrowsE
                      go_simp
                      refine ⟨Below.refl _ _, (HFIT.out W hW A63 c63 (by rw [List.length_append] at O63; exact O63)).mono ?_⟩
                      rintro e w6 ⟨rfl, hb6⟩
                      exact ⟨_, rfl, hb6, rfl⟩
                    · intro a W hC hs hd
                      have hW : Below w5.heap.size w5 W := hC
                      have y57 : (a.tmps[57]?.getD undef) = .bool false := hd 7 57 (by kernel_rfl) (by kernel_rfl) (by kernel_rfl)
                      have e66 : (a.tmps[66]?.getD undef) = .bool r := hd 16 66 (by kernel_rfl) (by kernel_rfl) (by kernel_rfl)
                      refine growsG_yes (E := fun W W' => Below W.heap.size W W') rfl (by kernel_rfl) y57 ?_
                      clear hs hd
                      unfold GrowsE
                      go_simp
                      exact Below.refl _ _
                    · intro a W hC hs hd
                      have hW : Below w5.heap.size w5 W := hC
                      have e57 : (a.tmps[57]?.getD undef) = .bool false := hd 7 57 (by kernel_rfl) (by kernel_rfl) (by kernel_rfl)
                      have e67 : (a.tmps[67]?.getD undef) = .bool (!r) := hd 17 67 (by kernel_rfl) (by kernel_rfl) (by kernel_rfl)
                      refine growsG_none (E := fun W W' => Below W.heap.size W W') rfl ?_
                      clear hs hd
                      unfold GrowsE
                      go_simp
                      exact Below.refl _ _
                  intro vs W hW hf
                  have f50 : (vs 50) = .int .i64 on := hf 0 50 (by kernel_rfl) rfl
                  have f51 : (vs 51) = .bool true := hf 1 51 (by kernel_rfl) rfl
                  have f52 : (vs 52) = .bool true := hf 2 52 (by kernel_rfl) rfl
                  have f53 : (vs 53) = .int .i64 x := hf 3 53 (by kernel_rfl) rfl
                  have f54 : (vs 54) = .int .i64 on := hf 4 54 (by kernel_rfl) rfl
                  have f55 : (vs 55) = .bool false := hf 5 55 (by kernel_rfl) rfl
                  have f56 : (vs 56) = .bool false := hf 6 56 (by kernel_rfl) rfl
                  have f57 : (vs 57) = .bool false := hf 7 57 (by kernel_rfl) rfl
                  have f58 : (vs 58) = .agg #[.int .i64 N, .slice (some ⟨b, o, none⟩) m c] := hf 8 58 (by kernel_rfl) rfl
                  have f59 : (vs 59) = .slice A0 ys.length c0 := hf 9 59 (by kernel_rfl) rfl
                  have f61 : (vs 61) = .int .i64 x := hf 11 61 (by kernel_rfl) rfl
                  have f63 : NewL w5.heap.size (ys ++ [(x : Int)]) (vs 63) W := hf 13 63 (by kernel_rfl) rfl
                  obtain ⟨A63, c63, f63, O63⟩ := f63
                  have f64 : (vs 64) = .int .i64 ys.length := hf 14 64 (by kernel_rfl) rfl
                  have f65 : (vs 65) = .int .i64 x := hf 15 65 (by kernel_rfl) rfl
                  have f66 : (vs 66) = .bool r := hf 16 66 (by kernel_rfl) rfl
                  have f67 : (vs 67) = .bool (!r) := hf 17 67 (by kernel_rfl) rfl
                  have f68 : (vs 68) = .bool (!r) := hf 18 68 (by kernel_rfl) rfl
                  simp only [dsts, List.filterMap_cons, List.filterMap_nil, List.foldl_cons, List.foldl_nil, Act.put, List.setIfInBounds_toArray, List.set_cons_succ, List.set_cons_zero, f50, f51, f52, f53, f54, f55, f56, f57, f58, f59, f61, f63, f64, f65, f66, f67, f68]
                  clear hf
                  have s2 := Nat.lt_of_lt_of_le s1 hW.size
                  have p2 := (hW.cell (p := ⟨w.heap.size, 0, none⟩) s1).trans p1
                  have q2 := (hW.cell (p := ⟨w.heap.size, 1, none⟩) s1).trans q1
                  have HREC2 := Lib.hid (HREC.out W hW)
                  clear p1 q1 s1
                  obtain ⟨w6, rfl⟩ : ∃ w6, w6 = W := ⟨W, rfl⟩
                  cases r with
                  | false =>
                    obtain ⟨HE, hT6, hK6⟩ := HREST.out rfl w6 hW
                    have HE2 := Lib.hid HE
                    clear HE
                    go_wp2_with fail
                    go_roundw
                    case rel => exact ⟨x + 1, A2, c2, by omega, by go_num, by rw [HE2.out], by rw [HE2.out]; exact hT6, hK6, hN⟩
                    case measure => simp [intOf]; omega
                  | true =>
                    have HOWN2 := Lib.hid (fun W' (hW' : Below w6.heap.size w6 W') => HOWN.out W' (hW.andB hW'))
                    obtain ⟨R2, hR2⟩ : ∃ R2, R2 = tkL most (R ++ lvs es G m (ys.length + 1) (ia (ys ++ [(x : Int)]))) := ⟨_, rfl⟩
                    rw [← hR2] at HREC2 HSTEP
                    have HST2 := Lib.hid (HSTEP.out rfl w6)
                    have hW6 := hW
                    clear hR2 HREC HSTEP hW
                    go_wp2_with fail
                    refine wp_region_tail (fun i v W => match i with
                      | 0 => v = .agg #[.int .i64 N, .slice (some ⟨b, o, none⟩) m c]
                      | 1 => v = .slice A0 ys.length c0
                      | 2 => NewL w6.heap.size (ys) v W
                      | 3 => v = .int .i64 x
                      | 4 => NewS (x) v W
                      | 5 => NewL w6.heap.size (ys ++ [(x : Int)]) v W
                      | 6 => v = .slice A2 R.length c2
                      | 7 => v = .int .i64 most
                      | 8 => LLo B0 A2 w6.heap.size R2 v W
                      | _ => LLo B0 A2 w6.heap.size R2 v W)
                      (fun i => match i with
                      | 2 => some 5
                      | 4 => some 5
                      | 5 => some 8
                      | _ => none)
                      (fun k W W' => if k = 5 then Below w6.heap.size W W' else if k = 8 then Kept (fun k => blkOf A2 = some k) W W' else Below W.heap.size W W') (fun b W => match b with | false => Below w6.heap.size w6 W | true => Kept (fun k => blkOf A2 = some k) w6 W) 8 (by kernel_rfl) (by kernel_rfl) ?_ ?_ ?_ ?_ ?_
                    · exact (Below.refl _ _).drew
                    · intro i k v W W' hne hd hz hj hC hf hE
                      by_cases hk5 : k = 5
                      · subst hk5
                        replace hE : Below w6.heap.size W W' := hE
                        match i, hne, hd, hz, hj, hf with
                        | 0, hne, hd, hz, hj, hf => exact hf
                        | 1, hne, hd, hz, hj, hf => exact hf
                        | 2, hne, hd, hz, hj, hf => exact absurd rfl hd
                        | 3, hne, hd, hz, hj, hf => exact hf
                        | 4, hne, hd, hz, hj, hf => exact absurd rfl hd
                        | 5, hne, hd, hz, hj, hf => exact absurd rfl hne
                        | 6, hne, hd, hz, hj, hf => exact hf
                        | 7, hne, hd, hz, hj, hf => exact hf
                        | 8, hne, hd, hz, hj, hf => exact absurd (hj (by omega)) (by omega)
                        | _ + 9, hne, hd, hz, hj, hf => exact absurd (hj (by omega)) (by omega)
                      by_cases hk8 : k = 8
                      · subst hk8
                        replace hE : Kept (fun k => blkOf A2 = some k) W W' := hE
                        match i, hne, hd, hz, hj, hf with
                        | 0, hne, hd, hz, hj, hf => exact hf
                        | 1, hne, hd, hz, hj, hf => exact hf
                        | 2, hne, hd, hz, hj, hf => exact absurd (hz rfl 5 rfl) (by decide)
                        | 3, hne, hd, hz, hj, hf => exact hf
                        | 4, hne, hd, hz, hj, hf => exact absurd (hz rfl 5 rfl) (by decide)
                        | 5, hne, hd, hz, hj, hf => exact absurd rfl hd
                        | 6, hne, hd, hz, hj, hf => exact hf
                        | 7, hne, hd, hz, hj, hf => exact hf
                        | 8, hne, hd, hz, hj, hf => exact absurd rfl hne
                        | _ + 9, hne, hd, hz, hj, hf => exact absurd (hj (by omega)) (by omega)
                      simp only [if_neg hk5, if_neg hk8] at hE
                      match i, hf with
                      | 0, hf => exact hf
                      | 1, hf => exact hf
                      | 2, hf => exact NewL.below hf hE
                      | 3, hf => exact hf
                      | 4, hf => exact NewS.below hf hE
                      | 5, hf => exact NewL.below hf hE
                      | 6, hf => exact hf
                      | 7, hf => exact hf
                      | 8, hf => exact LLo.below hf hE
                      | _ + 9, hf => exact LLo.below hf hE
                    · intro k W W' hC hE
                      by_cases hk5 : k = 5
                      · subst hk5
                        exact Below.trans hC hE
                      by_cases hk8 : k = 8
                      · subst hk8
                        have hC : Below w6.heap.size w6 W := hC
                        have hE : Kept (fun k => blkOf A2 = some k) W W' := hE
                        show Kept (fun k => blkOf A2 = some k) w6 W'
                        exact (Kept.of hC).trans hE
                      simp only [if_neg hk5, if_neg hk8] at hE
                      by_cases hkT : 8 < k
                      · rw [decide_eq_true hkT] at hC; rw [decide_eq_true (by omega)]
                        exact Kept.thenB hC hE
                      · rw [decide_eq_false hkT] at hC; rw [decide_eq_false (by omega)]
                        exact Below.andB hC hE
                    · refine ⟨?_, ?_, ?_, ?_, ?_, ?_, ?_, ?_, ?_, ?_, trivial⟩
                      · intro a W hC hs hd
                        have hW : Below w6.heap.size w6 W := hC
                        have e4 : a.tmps[4]?.getD undef = .pointer (some ⟨w.heap.size, 0, none⟩) := hs 4 (by kernel_rfl)
                        refine growsG_none (E := fun W W' => Below W.heap.size W W') rfl ?_
                        have k0 := (hW.cell (p := ⟨w.heap.size, 0, none⟩) (s2)).trans (p2)
                        have k1 := (hW.cell (p := ⟨w.heap.size, 1, none⟩) (s2)).trans (q2)
                        clear hs hd
                        unfold GrowsE
                        go_simp
                        exact Below.refl _ _
                      · intro a W hC hs hd
                        have hW : Below w6.heap.size w6 W := hC
                        have e1 : a.tmps[1]?.getD undef = .slice A0 ys.length c0 := hs 1 (by kernel_rfl)
                        refine growsG_none (E := fun W W' => Below W.heap.size W W') rfl ?_
                        clear hs hd
                        unfold GrowsE
                        go_simp
                        exact Below.refl _ _
                      · intro a W hC hs hd
                        have hW : Below w6.heap.size w6 W := hC
                        have e70 : (a.tmps[70]?.getD undef) = .slice A0 ys.length c0 := hd 1 70 (by kernel_rfl) (by kernel_rfl) (by kernel_rfl)
                        refine growsG_none (E := fun W W' => Below W.heap.size W W') rfl ?_
                        clear hs hd
                        unfold GrowsE
                        go_simp
                        refine ⟨Below.refl _ _, (HOWN2.out W hW).mono ?_⟩
                        rintro e w6 ⟨A6, c6, rfl, ho6, hb6⟩
                        exact ⟨_, rfl, hb6, A6, c6, rfl, ho6.mono hW.size⟩
                      · intro a W hC hs hd
                        have hW : Below w6.heap.size w6 W := hC
                        have e13 : a.tmps[13]?.getD undef = .int .i64 x := hs 13 (by kernel_rfl)
                        refine growsG_none (E := fun W W' => Below W.heap.size W W') rfl ?_
                        clear hs hd
                        unfold GrowsE
                        go_simp
                        exact Below.refl _ _
                      · intro a W hC hs hd
                        have hW : Below w6.heap.size w6 W := hC
                        have e72 : (a.tmps[72]?.getD undef) = .int .i64 x := hd 3 72 (by kernel_rfl) (by kernel_rfl) (by kernel_rfl)
                        refine growsG_none (E := fun W W' => Below W.heap.size W W') rfl ?_
                        clear hs hd
                        unfold GrowsE
                        go_simp
                        exact ⟨(Below.refl _ _).alloc (Nat.le_refl _) _, _, rfl, ints1 _ _ _⟩
                      · intro a W hC hs hd
                        have hW : Below w6.heap.size w6 W := hC
                        have e71 : NewL w6.heap.size (ys) (a.tmps[71]?.getD undef) W := hd 2 71 (by kernel_rfl) (by kernel_rfl) (by kernel_rfl)
                        obtain ⟨A71, c71, e71, O71⟩ := e71
                        have e73 : NewS (x) (a.tmps[73]?.getD undef) W := hd 4 73 (by kernel_rfl) (by kernel_rfl) (by kernel_rfl)
                        obtain ⟨g73, e73, I73⟩ := e73
                        refine growsG_none rfl ?_
                        refine grows_appL rfl ((eval_tmp a 71).trans e71) ((eval_tmp a 73).trans e73) I73 (O71.mono (Nat.le_refl _)) (hW.size) (by omega) ?_
                        intro A6 c6 w6 ho6 hg6
                        exact ⟨(Below.refl _ _).grown hg6 hW.size (fun y hy => (O71.blk y hy).1), A6, c6, (by rw [List.length_append]; rfl), (by rw [List.length_append]; exact ho6)⟩
                      · intro a W hC hs hd
                        have hW : Below w6.heap.size w6 W := hC
                        have e2 : a.tmps[2]?.getD undef = .slice A2 R.length c2 := hs 2 (by kernel_rfl)
                        refine growsG_none (E := fun W W' => Below W.heap.size W W') rfl ?_
                        clear hs hd
                        unfold GrowsE
                        go_simp
                        exact Below.refl _ _
                      · intro a W hC hs hd
                        have hW : Below w6.heap.size w6 W := hC
                        have e3 : a.tmps[3]?.getD undef = .int .i64 most := hs 3 (by kernel_rfl)
                        refine growsG_none (E := fun W W' => Below W.heap.size W W') rfl ?_
                        clear hs hd
                        unfold GrowsE
                        go_simp
                        exact Below.refl _ _
                      · intro a W hC hs hd
                        have hW : Below w6.heap.size w6 W := hC
                        have e69 : (a.tmps[69]?.getD undef) = .agg #[.int .i64 N, .slice (some ⟨b, o, none⟩) m c] := hd 0 69 (by kernel_rfl) (by kernel_rfl) (by kernel_rfl)
                        have e74 : NewL w6.heap.size (ys ++ [(x : Int)]) (a.tmps[74]?.getD undef) W := hd 5 74 (by kernel_rfl) (by kernel_rfl) (by kernel_rfl)
                        obtain ⟨A74, c74, e74, O74⟩ := e74
                        have e75 : (a.tmps[75]?.getD undef) = .slice A2 R.length c2 := hd 6 75 (by kernel_rfl) (by kernel_rfl) (by kernel_rfl)
                        have e76 : (a.tmps[76]?.getD undef) = .int .i64 most := hd 7 76 (by kernel_rfl) (by kernel_rfl) (by kernel_rfl)
                        refine growsG_none rfl ?_
                        clear hs hd
                        unfold GrowsE
                        go_simp
                        refine ⟨Below.refl _ _, (HREC2.out W hW A74 c74 (by rw [List.length_append] at O74; exact O74)).mono ?_⟩
                        rintro e w9 ⟨A9, c9, rfl, T9, k9, n9⟩
                        exact ⟨_, rfl, k9, A9, c9, rfl, T9, fun g hg => (n9 g hg).imp id (Nat.le_trans hW.size)⟩
                      · intro a W hC hs hd
                        have e77 : LLo B0 A2 w6.heap.size R2 (a.tmps[77]?.getD undef) W := hd 8 77 (by kernel_rfl) (by kernel_rfl) (by kernel_rfl)
                        obtain ⟨A77, c77, e77, T77, N77⟩ := e77
                        refine growsG_none (E := fun W W' => Below W.heap.size W W') rfl ?_
                        clear hs hd
                        unfold GrowsE
                        go_simp
                        exact ⟨Below.refl _ _, A77, c77, rfl, T77, N77⟩
                    intro vs W hW hf
                    have f2 : LLo B0 A2 w6.heap.size R2 (vs 2) W := hf 9 2 (by kernel_rfl) rfl
                    obtain ⟨A77, c77, f2, T77, N77⟩ := f2
                    simp only [dsts, List.filterMap_cons, List.filterMap_nil, List.foldl_cons, List.foldl_nil, Act.put, List.setIfInBounds_toArray, List.set_cons_succ, List.set_cons_zero, f2]
                    clear hf
                    obtain ⟨A9', c9', e9, hT9, hK9, hN9⟩ := HST2.out W A77 c77 hW6 hW T77 N77
                    have HFIN : Hid (∃ A2' c2', (Value.slice A77 R2.length c77) = .slice A2' (tkL most (rows ++ lvT es G m ys.length (ia ys) (x + 1))).length c2' ∧ (∃ top, OwnLL B0 top W A2' (tkL most (rows ++ lvT es G m ys.length (ia ys) (x + 1))).length c2' (tkL most (rows ++ lvT es G m ys.length (ia ys) (x + 1)))) ∧ Kept (fun k => blkOf A = some k) w2 W ∧ ∀ g, blkOf A2' = some g → blkOf A = some g ∨ w2.heap.size ≤ g) := ⟨A9', c9', e9, hT9, hK9, hN9⟩
                    clear e9 hT9 hK9 hN9 HST2 p2 q2
                    go_wp2_with fail
                    go_roundw
                    case rel =>
                      obtain ⟨A9', c9', e9, hT9, hK9, hN9⟩ := HFIN.out
                      exact ⟨x + 1, A9', c9', by omega, by go_num, e9, hT9, hK9, hN9⟩
                    case measure => simp [intOf]; omega
                · have hon1 : Hid True := trivial
                  go_wp2_with fail
                  refine wp_region_eff (fun i v W => match i with
                    | 0 => v = .int .i64 on
                    | 1 => v = .bool false
                    | 2 => v = .bool false
                    | 3 => v = undef
                    | 4 => v = undef
                    | 5 => v = undef
                    | 6 => v = .bool false
                    | 7 => v = .bool false
                    | 8 => v = .agg #[.int .i64 N, .slice (some ⟨b, o, none⟩) m c]
                    | 9 => v = .slice A0 ys.length c0
                    | 10 => NewL w5.heap.size (ys) v W
                    | 11 => v = .int .i64 x
                    | 12 => NewS (x) v W
                    | 13 => NewL w5.heap.size (ys ++ [(x : Int)]) v W
                    | 14 => v = .int .i64 ys.length
                    | 15 => v = .int .i64 x
                    | 16 => v = .bool r
                    | 17 => v = .bool (!r)
                    | _ => v = .bool (!r))
                    (fun i => match i with
                    | 10 => some 13
                    | 12 => some 13
                    | _ => none)
                    (fun k W W' => if k = 13 then Below w5.heap.size W W' else Below W.heap.size W W') (by kernel_rfl) (by kernel_rfl) ?_ ?_ ?_ ?_
                  · intro i k v W W' hne hd hC hf hE
                    by_cases hk13 : k = 13
                    · subst hk13
                      replace hE : Below w5.heap.size W W' := hE
                      match i, hne, hd, hf with
                      | 0, hne, hd, hf => exact hf
                      | 1, hne, hd, hf => exact hf
                      | 2, hne, hd, hf => exact hf
                      | 3, hne, hd, hf => exact hf
                      | 4, hne, hd, hf => exact hf
                      | 5, hne, hd, hf => exact hf
                      | 6, hne, hd, hf => exact hf
                      | 7, hne, hd, hf => exact hf
                      | 8, hne, hd, hf => exact hf
                      | 9, hne, hd, hf => exact hf
                      | 10, hne, hd, hf => exact absurd rfl hd
                      | 11, hne, hd, hf => exact hf
                      | 12, hne, hd, hf => exact absurd rfl hd
                      | 13, hne, hd, hf => exact absurd rfl hne
                      | 14, hne, hd, hf => exact hf
                      | 15, hne, hd, hf => exact hf
                      | 16, hne, hd, hf => exact hf
                      | 17, hne, hd, hf => exact hf
                      | _ + 18, hne, hd, hf => exact hf
                    simp only [if_neg hk13] at hE
                    match i, hf with
                    | 0, hf => exact hf
                    | 1, hf => exact hf
                    | 2, hf => exact hf
                    | 3, hf => exact hf
                    | 4, hf => exact hf
                    | 5, hf => exact hf
                    | 6, hf => exact hf
                    | 7, hf => exact hf
                    | 8, hf => exact hf
                    | 9, hf => exact hf
                    | 10, hf => exact NewL.below hf hE
                    | 11, hf => exact hf
                    | 12, hf => exact NewS.below hf hE
                    | 13, hf => exact NewL.below hf hE
                    | 14, hf => exact hf
                    | 15, hf => exact hf
                    | 16, hf => exact hf
                    | 17, hf => exact hf
                    | _ + 18, hf => exact hf
                  · intro k W W' hC hE
                    by_cases hk13 : k = 13
                    · subst hk13; exact hE
                    simp only [if_neg hk13] at hE
                    exact Below.mono hE hC.size
                  · refine ⟨?_, ?_, ?_, ?_, ?_, ?_, ?_, ?_, ?_, ?_, ?_, ?_, ?_, ?_, ?_, ?_, ?_, ?_, ?_, trivial⟩
                    · intro a W hC hs hd
                      have hW : Below w5.heap.size w5 W := hC
                      have e11 : a.tmps[11]?.getD undef = .int .i64 on := hs 11 (by kernel_rfl)
                      refine growsG_none (E := fun W W' => Below W.heap.size W W') rfl ?_
                      clear hs hd
                      unfold GrowsE
                      go_simp
                      exact Below.refl _ _
                    · intro a W hC hs hd
                      have hW : Below w5.heap.size w5 W := hC
                      have e50 : (a.tmps[50]?.getD undef) = .int .i64 on := hd 0 50 (by kernel_rfl) (by kernel_rfl) (by kernel_rfl)
                      refine growsG_none (E := fun W W' => Below W.heap.size W W') rfl ?_
                      clear hs hd
                      unfold GrowsE
                      go_simp
                      exact Below.refl _ _
                    · intro a W hC hs hd
                      have hW : Below w5.heap.size w5 W := hC
                      have e51 : (a.tmps[51]?.getD undef) = .bool false := hd 1 51 (by kernel_rfl) (by kernel_rfl) (by kernel_rfl)
                      refine growsG_none (E := fun W W' => Below W.heap.size W W') rfl ?_
                      clear hs hd
                      unfold GrowsE
                      go_simp
                      exact Below.refl _ _
                    · intro a W hC hs hd
                      have hW : Below w5.heap.size w5 W := hC
                      have y52 : (a.tmps[52]?.getD undef) = .bool false := hd 2 52 (by kernel_rfl) (by kernel_rfl) (by kernel_rfl)
                      exact growsG_no (E := fun W W' => Below W.heap.size W W') (b := false) rfl (by kernel_rfl) y52 (by decide) (Below.refl _ _) rfl
                    · intro a W hC hs hd
                      have hW : Below w5.heap.size w5 W := hC
                      have y52 : (a.tmps[52]?.getD undef) = .bool false := hd 2 52 (by kernel_rfl) (by kernel_rfl) (by kernel_rfl)
                      exact growsG_no (E := fun W W' => Below W.heap.size W W') (b := false) rfl (by kernel_rfl) y52 (by decide) (Below.refl _ _) rfl
                    · intro a W hC hs hd
                      have hW : Below w5.heap.size w5 W := hC
                      have y52 : (a.tmps[52]?.getD undef) = .bool false := hd 2 52 (by kernel_rfl) (by kernel_rfl) (by kernel_rfl)
                      exact growsG_no (E := fun W W' => Below W.heap.size W W') (b := false) rfl (by kernel_rfl) y52 (by decide) (Below.refl _ _) rfl
                    · intro a W hC hs hd
                      have hW : Below w5.heap.size w5 W := hC
                      have e52 : (a.tmps[52]?.getD undef) = .bool false := hd 2 52 (by kernel_rfl) (by kernel_rfl) (by kernel_rfl)
                      have e55 : (a.tmps[55]?.getD undef) = undef := hd 5 55 (by kernel_rfl) (by kernel_rfl) (by kernel_rfl)
                      refine growsG_none (E := fun W W' => Below W.heap.size W W') rfl ?_
                      clear hs hd
                      unfold GrowsE
                      go_simp
                      exact Below.refl _ _
                    · intro a W hC hs hd
                      have hW : Below w5.heap.size w5 W := hC
                      have e56 : (a.tmps[56]?.getD undef) = .bool false := hd 6 56 (by kernel_rfl) (by kernel_rfl) (by kernel_rfl)
                      refine growsG_none (E := fun W W' => Below W.heap.size W W') rfl ?_
                      clear hs hd
                      unfold GrowsE
                      go_simp
                      exact Below.refl _ _
                    · intro a W hC hs hd
                      have hW : Below w5.heap.size w5 W := hC
                      have y57 : (a.tmps[57]?.getD undef) = .bool false := hd 7 57 (by kernel_rfl) (by kernel_rfl) (by kernel_rfl)
                      have e4 : a.tmps[4]?.getD undef = .pointer (some ⟨w.heap.size, 0, none⟩) := hs 4 (by kernel_rfl)
                      refine growsG_yes (E := fun W W' => Below W.heap.size W W') rfl (by kernel_rfl) y57 ?_
                      have k0 := (hW.cell (p := ⟨w.heap.size, 0, none⟩) (s1)).trans (p1)
                      have k1 := (hW.cell (p := ⟨w.heap.size, 1, none⟩) (s1)).trans (q1)
                      clear hs hd
                      unfold GrowsE
                      go_simp
                      exact Below.refl _ _
                    · intro a W hC hs hd
                      have hW : Below w5.heap.size w5 W := hC
                      have y57 : (a.tmps[57]?.getD undef) = .bool false := hd 7 57 (by kernel_rfl) (by kernel_rfl) (by kernel_rfl)
                      have e1 : a.tmps[1]?.getD undef = .slice A0 ys.length c0 := hs 1 (by kernel_rfl)
                      refine growsG_yes (E := fun W W' => Below W.heap.size W W') rfl (by kernel_rfl) y57 ?_
                      clear hs hd
                      unfold GrowsE
                      go_simp
                      exact Below.refl _ _
                    · intro a W hC hs hd
                      have hW : Below w5.heap.size w5 W := hC
                      have y57 : (a.tmps[57]?.getD undef) = .bool false := hd 7 57 (by kernel_rfl) (by kernel_rfl) (by kernel_rfl)
                      have e59 : (a.tmps[59]?.getD undef) = .slice A0 ys.length c0 := hd 9 59 (by kernel_rfl) (by kernel_rfl) (by kernel_rfl)
                      refine growsG_yes (E := fun W W' => Below W.heap.size W W') rfl (by kernel_rfl) y57 ?_
                      clear hs hd
                      unfold GrowsE
                      go_simp
                      refine ⟨Below.refl _ _, (HOWN.out W hW).mono ?_⟩
                      rintro e w6 ⟨A6, c6, rfl, ho6, hb6⟩
                      exact ⟨_, rfl, hb6, A6, c6, rfl, ho6.mono hW.size⟩
                    · intro a W hC hs hd
                      have hW : Below w5.heap.size w5 W := hC
                      have y57 : (a.tmps[57]?.getD undef) = .bool false := hd 7 57 (by kernel_rfl) (by kernel_rfl) (by kernel_rfl)
                      have e13 : a.tmps[13]?.getD undef = .int .i64 x := hs 13 (by kernel_rfl)
                      refine growsG_yes (E := fun W W' => Below W.heap.size W W') rfl (by kernel_rfl) y57 ?_
                      clear hs hd
                      unfold GrowsE
                      go_simp
                      exact Below.refl _ _
                    · intro a W hC hs hd
                      have hW : Below w5.heap.size w5 W := hC
                      have y57 : (a.tmps[57]?.getD undef) = .bool false := hd 7 57 (by kernel_rfl) (by kernel_rfl) (by kernel_rfl)
                      have e61 : (a.tmps[61]?.getD undef) = .int .i64 x := hd 11 61 (by kernel_rfl) (by kernel_rfl) (by kernel_rfl)
                      refine growsG_yes (E := fun W W' => Below W.heap.size W W') rfl (by kernel_rfl) y57 ?_
                      clear hs hd
                      unfold GrowsE
                      go_simp
                      exact ⟨(Below.refl _ _).alloc (Nat.le_refl _) _, _, rfl, ints1 _ _ _⟩
                    · intro a W hC hs hd
                      have hW : Below w5.heap.size w5 W := hC
                      have y57 : (a.tmps[57]?.getD undef) = .bool false := hd 7 57 (by kernel_rfl) (by kernel_rfl) (by kernel_rfl)
                      have e60 : NewL w5.heap.size (ys) (a.tmps[60]?.getD undef) W := hd 10 60 (by kernel_rfl) (by kernel_rfl) (by kernel_rfl)
                      obtain ⟨A60, c60, e60, O60⟩ := e60
                      have e62 : NewS (x) (a.tmps[62]?.getD undef) W := hd 12 62 (by kernel_rfl) (by kernel_rfl) (by kernel_rfl)
                      obtain ⟨g62, e62, I62⟩ := e62
                      refine growsG_yes rfl (by kernel_rfl) y57 ?_
                      refine grows_appL rfl ((eval_tmp a 60).trans e60) ((eval_tmp a 62).trans e62) I62 (O60.mono (Nat.le_refl _)) (hW.size) (by omega) ?_
                      intro A6 c6 w6 ho6 hg6
                      exact ⟨(Below.refl _ _).grown hg6 hW.size (fun y hy => (O60.blk y hy).1), A6, c6, (by rw [List.length_append]; rfl), (by rw [List.length_append]; exact ho6)⟩
                    · intro a W hC hs hd
                      have hW : Below w5.heap.size w5 W := hC
                      have y57 : (a.tmps[57]?.getD undef) = .bool false := hd 7 57 (by kernel_rfl) (by kernel_rfl) (by kernel_rfl)
                      have e9 : a.tmps[9]?.getD undef = .int .i64 ys.length := hs 9 (by kernel_rfl)
                      refine growsG_yes (E := fun W W' => Below W.heap.size W W') rfl (by kernel_rfl) y57 ?_
                      clear hs hd
                      unfold GrowsE
                      go_simp
                      exact Below.refl _ _
                    · intro a W hC hs hd
                      have hW : Below w5.heap.size w5 W := hC
                      have y57 : (a.tmps[57]?.getD undef) = .bool false := hd 7 57 (by kernel_rfl) (by kernel_rfl) (by kernel_rfl)
                      have e13 : a.tmps[13]?.getD undef = .int .i64 x := hs 13 (by kernel_rfl)
                      refine growsG_yes (E := fun W W' => Below W.heap.size W W') rfl (by kernel_rfl) y57 ?_
                      clear hs hd
                      unfold GrowsE
                      go_simp
                      exact Below.refl _ _
                    · intro a W hC hs hd
                      have hW : Below w5.heap.size w5 W := hC
                      have y57 : (a.tmps[57]?.getD undef) = .bool false := hd 7 57 (by kernel_rfl) (by kernel_rfl) (by kernel_rfl)
                      have e58 : (a.tmps[58]?.getD undef) = .agg #[.int .i64 N, .slice (some ⟨b, o, none⟩) m c] := hd 8 58 (by kernel_rfl) (by kernel_rfl) (by kernel_rfl)
                      have e63 : NewL w5.heap.size (ys ++ [(x : Int)]) (a.tmps[63]?.getD undef) W := hd 13 63 (by kernel_rfl) (by kernel_rfl) (by kernel_rfl)
                      obtain ⟨A63, c63, e63, O63⟩ := e63
                      have e64 : (a.tmps[64]?.getD undef) = .int .i64 ys.length := hd 14 64 (by kernel_rfl) (by kernel_rfl) (by kernel_rfl)
                      have e65 : (a.tmps[65]?.getD undef) = .int .i64 x := hd 15 65 (by kernel_rfl) (by kernel_rfl) (by kernel_rfl)
                      refine growsG_yes (E := fun W W' => Below W.heap.size W W') rfl (by kernel_rfl) y57 ?_
                      clear hs hd
                      unfold GrowsE
                      go_simp
                      refine ⟨Below.refl _ _, (HFIT.out W hW A63 c63 (by rw [List.length_append] at O63; exact O63)).mono ?_⟩
                      rintro e w6 ⟨rfl, hb6⟩
                      exact ⟨_, rfl, hb6, rfl⟩
                    · intro a W hC hs hd
                      have hW : Below w5.heap.size w5 W := hC
                      have y57 : (a.tmps[57]?.getD undef) = .bool false := hd 7 57 (by kernel_rfl) (by kernel_rfl) (by kernel_rfl)
                      have e66 : (a.tmps[66]?.getD undef) = .bool r := hd 16 66 (by kernel_rfl) (by kernel_rfl) (by kernel_rfl)
                      refine growsG_yes (E := fun W W' => Below W.heap.size W W') rfl (by kernel_rfl) y57 ?_
                      clear hs hd
                      unfold GrowsE
                      go_simp
                      exact Below.refl _ _
                    · intro a W hC hs hd
                      have hW : Below w5.heap.size w5 W := hC
                      have e57 : (a.tmps[57]?.getD undef) = .bool false := hd 7 57 (by kernel_rfl) (by kernel_rfl) (by kernel_rfl)
                      have e67 : (a.tmps[67]?.getD undef) = .bool (!r) := hd 17 67 (by kernel_rfl) (by kernel_rfl) (by kernel_rfl)
                      refine growsG_none (E := fun W W' => Below W.heap.size W W') rfl ?_
                      clear hs hd
                      unfold GrowsE
                      go_simp
                      exact Below.refl _ _
                  intro vs W hW hf
                  have f50 : (vs 50) = .int .i64 on := hf 0 50 (by kernel_rfl) rfl
                  have f51 : (vs 51) = .bool false := hf 1 51 (by kernel_rfl) rfl
                  have f52 : (vs 52) = .bool false := hf 2 52 (by kernel_rfl) rfl
                  have f53 : (vs 53) = undef := hf 3 53 (by kernel_rfl) rfl
                  have f54 : (vs 54) = undef := hf 4 54 (by kernel_rfl) rfl
                  have f55 : (vs 55) = undef := hf 5 55 (by kernel_rfl) rfl
                  have f56 : (vs 56) = .bool false := hf 6 56 (by kernel_rfl) rfl
                  have f57 : (vs 57) = .bool false := hf 7 57 (by kernel_rfl) rfl
                  have f58 : (vs 58) = .agg #[.int .i64 N, .slice (some ⟨b, o, none⟩) m c] := hf 8 58 (by kernel_rfl) rfl
                  have f59 : (vs 59) = .slice A0 ys.length c0 := hf 9 59 (by kernel_rfl) rfl
                  have f61 : (vs 61) = .int .i64 x := hf 11 61 (by kernel_rfl) rfl
                  have f63 : NewL w5.heap.size (ys ++ [(x : Int)]) (vs 63) W := hf 13 63 (by kernel_rfl) rfl
                  obtain ⟨A63, c63, f63, O63⟩ := f63
                  have f64 : (vs 64) = .int .i64 ys.length := hf 14 64 (by kernel_rfl) rfl
                  have f65 : (vs 65) = .int .i64 x := hf 15 65 (by kernel_rfl) rfl
                  have f66 : (vs 66) = .bool r := hf 16 66 (by kernel_rfl) rfl
                  have f67 : (vs 67) = .bool (!r) := hf 17 67 (by kernel_rfl) rfl
                  have f68 : (vs 68) = .bool (!r) := hf 18 68 (by kernel_rfl) rfl
                  simp only [dsts, List.filterMap_cons, List.filterMap_nil, List.foldl_cons, List.foldl_nil, Act.put, List.setIfInBounds_toArray, List.set_cons_succ, List.set_cons_zero, f50, f51, f52, f53, f54, f55, f56, f57, f58, f59, f61, f63, f64, f65, f66, f67, f68]
                  clear hf
                  have s2 := Nat.lt_of_lt_of_le s1 hW.size
                  have p2 := (hW.cell (p := ⟨w.heap.size, 0, none⟩) s1).trans p1
                  have q2 := (hW.cell (p := ⟨w.heap.size, 1, none⟩) s1).trans q1
                  have HREC2 := Lib.hid (HREC.out W hW)
                  clear p1 q1 s1
                  obtain ⟨w6, rfl⟩ : ∃ w6, w6 = W := ⟨W, rfl⟩
                  cases r with
                  | false =>
                    obtain ⟨HE, hT6, hK6⟩ := HREST.out rfl w6 hW
                    have HE2 := Lib.hid HE
                    clear HE
                    go_wp2_with fail
                    go_roundw
                    case rel => exact ⟨x + 1, A2, c2, by omega, by go_num, by rw [HE2.out], by rw [HE2.out]; exact hT6, hK6, hN⟩
                    case measure => simp [intOf]; omega
                  | true =>
                    have HOWN2 := Lib.hid (fun W' (hW' : Below w6.heap.size w6 W') => HOWN.out W' (hW.andB hW'))
                    obtain ⟨R2, hR2⟩ : ∃ R2, R2 = tkL most (R ++ lvs es G m (ys.length + 1) (ia (ys ++ [(x : Int)]))) := ⟨_, rfl⟩
                    rw [← hR2] at HREC2 HSTEP
                    have HST2 := Lib.hid (HSTEP.out rfl w6)
                    have hW6 := hW
                    clear hR2 HREC HSTEP hW
                    go_wp2_with fail
                    refine wp_region_tail (fun i v W => match i with
                      | 0 => v = .agg #[.int .i64 N, .slice (some ⟨b, o, none⟩) m c]
                      | 1 => v = .slice A0 ys.length c0
                      | 2 => NewL w6.heap.size (ys) v W
                      | 3 => v = .int .i64 x
                      | 4 => NewS (x) v W
                      | 5 => NewL w6.heap.size (ys ++ [(x : Int)]) v W
                      | 6 => v = .slice A2 R.length c2
                      | 7 => v = .int .i64 most
                      | 8 => LLo B0 A2 w6.heap.size R2 v W
                      | _ => LLo B0 A2 w6.heap.size R2 v W)
                      (fun i => match i with
                      | 2 => some 5
                      | 4 => some 5
                      | 5 => some 8
                      | _ => none)
                      (fun k W W' => if k = 5 then Below w6.heap.size W W' else if k = 8 then Kept (fun k => blkOf A2 = some k) W W' else Below W.heap.size W W') (fun b W => match b with | false => Below w6.heap.size w6 W | true => Kept (fun k => blkOf A2 = some k) w6 W) 8 (by kernel_rfl) (by kernel_rfl) ?_ ?_ ?_ ?_ ?_
                    · exact (Below.refl _ _).drew
                    · intro i k v W W' hne hd hz hj hC hf hE
                      by_cases hk5 : k = 5
                      · subst hk5
                        replace hE : Below w6.heap.size W W' := hE
                        match i, hne, hd, hz, hj, hf with
                        | 0, hne, hd, hz, hj, hf => exact hf
                        | 1, hne, hd, hz, hj, hf => exact hf
                        | 2, hne, hd, hz, hj, hf => exact absurd rfl hd
                        | 3, hne, hd, hz, hj, hf => exact hf
                        | 4, hne, hd, hz, hj, hf => exact absurd rfl hd
                        | 5, hne, hd, hz, hj, hf => exact absurd rfl hne
                        | 6, hne, hd, hz, hj, hf => exact hf
                        | 7, hne, hd, hz, hj, hf => exact hf
                        | 8, hne, hd, hz, hj, hf => exact absurd (hj (by omega)) (by omega)
                        | _ + 9, hne, hd, hz, hj, hf => exact absurd (hj (by omega)) (by omega)
                      by_cases hk8 : k = 8
                      · subst hk8
                        replace hE : Kept (fun k => blkOf A2 = some k) W W' := hE
                        match i, hne, hd, hz, hj, hf with
                        | 0, hne, hd, hz, hj, hf => exact hf
                        | 1, hne, hd, hz, hj, hf => exact hf
                        | 2, hne, hd, hz, hj, hf => exact absurd (hz rfl 5 rfl) (by decide)
                        | 3, hne, hd, hz, hj, hf => exact hf
                        | 4, hne, hd, hz, hj, hf => exact absurd (hz rfl 5 rfl) (by decide)
                        | 5, hne, hd, hz, hj, hf => exact absurd rfl hd
                        | 6, hne, hd, hz, hj, hf => exact hf
                        | 7, hne, hd, hz, hj, hf => exact hf
                        | 8, hne, hd, hz, hj, hf => exact absurd rfl hne
                        | _ + 9, hne, hd, hz, hj, hf => exact absurd (hj (by omega)) (by omega)
                      simp only [if_neg hk5, if_neg hk8] at hE
                      match i, hf with
                      | 0, hf => exact hf
                      | 1, hf => exact hf
                      | 2, hf => exact NewL.below hf hE
                      | 3, hf => exact hf
                      | 4, hf => exact NewS.below hf hE
                      | 5, hf => exact NewL.below hf hE
                      | 6, hf => exact hf
                      | 7, hf => exact hf
                      | 8, hf => exact LLo.below hf hE
                      | _ + 9, hf => exact LLo.below hf hE
                    · intro k W W' hC hE
                      by_cases hk5 : k = 5
                      · subst hk5
                        exact Below.trans hC hE
                      by_cases hk8 : k = 8
                      · subst hk8
                        have hC : Below w6.heap.size w6 W := hC
                        have hE : Kept (fun k => blkOf A2 = some k) W W' := hE
                        show Kept (fun k => blkOf A2 = some k) w6 W'
                        exact (Kept.of hC).trans hE
                      simp only [if_neg hk5, if_neg hk8] at hE
                      by_cases hkT : 8 < k
                      · rw [decide_eq_true hkT] at hC; rw [decide_eq_true (by omega)]
                        exact Kept.thenB hC hE
                      · rw [decide_eq_false hkT] at hC; rw [decide_eq_false (by omega)]
                        exact Below.andB hC hE
                    · refine ⟨?_, ?_, ?_, ?_, ?_, ?_, ?_, ?_, ?_, ?_, trivial⟩
                      · intro a W hC hs hd
                        have hW : Below w6.heap.size w6 W := hC
                        have e4 : a.tmps[4]?.getD undef = .pointer (some ⟨w.heap.size, 0, none⟩) := hs 4 (by kernel_rfl)
                        refine growsG_none (E := fun W W' => Below W.heap.size W W') rfl ?_
                        have k0 := (hW.cell (p := ⟨w.heap.size, 0, none⟩) (s2)).trans (p2)
                        have k1 := (hW.cell (p := ⟨w.heap.size, 1, none⟩) (s2)).trans (q2)
                        clear hs hd
                        unfold GrowsE
                        go_simp
                        exact Below.refl _ _
                      · intro a W hC hs hd
                        have hW : Below w6.heap.size w6 W := hC
                        have e1 : a.tmps[1]?.getD undef = .slice A0 ys.length c0 := hs 1 (by kernel_rfl)
                        refine growsG_none (E := fun W W' => Below W.heap.size W W') rfl ?_
                        clear hs hd
                        unfold GrowsE
                        go_simp
                        exact Below.refl _ _
                      · intro a W hC hs hd
                        have hW : Below w6.heap.size w6 W := hC
                        have e70 : (a.tmps[70]?.getD undef) = .slice A0 ys.length c0 := hd 1 70 (by kernel_rfl) (by kernel_rfl) (by kernel_rfl)
                        refine growsG_none (E := fun W W' => Below W.heap.size W W') rfl ?_
                        clear hs hd
                        unfold GrowsE
                        go_simp
                        refine ⟨Below.refl _ _, (HOWN2.out W hW).mono ?_⟩
                        rintro e w6 ⟨A6, c6, rfl, ho6, hb6⟩
                        exact ⟨_, rfl, hb6, A6, c6, rfl, ho6.mono hW.size⟩
                      · intro a W hC hs hd
                        have hW : Below w6.heap.size w6 W := hC
                        have e13 : a.tmps[13]?.getD undef = .int .i64 x := hs 13 (by kernel_rfl)
                        refine growsG_none (E := fun W W' => Below W.heap.size W W') rfl ?_
                        clear hs hd
                        unfold GrowsE
                        go_simp
                        exact Below.refl _ _
                      · intro a W hC hs hd
                        have hW : Below w6.heap.size w6 W := hC
                        have e72 : (a.tmps[72]?.getD undef) = .int .i64 x := hd 3 72 (by kernel_rfl) (by kernel_rfl) (by kernel_rfl)
                        refine growsG_none (E := fun W W' => Below W.heap.size W W') rfl ?_
                        clear hs hd
                        unfold GrowsE
                        go_simp
                        exact ⟨(Below.refl _ _).alloc (Nat.le_refl _) _, _, rfl, ints1 _ _ _⟩
                      · intro a W hC hs hd
                        have hW : Below w6.heap.size w6 W := hC
                        have e71 : NewL w6.heap.size (ys) (a.tmps[71]?.getD undef) W := hd 2 71 (by kernel_rfl) (by kernel_rfl) (by kernel_rfl)
                        obtain ⟨A71, c71, e71, O71⟩ := e71
                        have e73 : NewS (x) (a.tmps[73]?.getD undef) W := hd 4 73 (by kernel_rfl) (by kernel_rfl) (by kernel_rfl)
                        obtain ⟨g73, e73, I73⟩ := e73
                        refine growsG_none rfl ?_
                        refine grows_appL rfl ((eval_tmp a 71).trans e71) ((eval_tmp a 73).trans e73) I73 (O71.mono (Nat.le_refl _)) (hW.size) (by omega) ?_
                        intro A6 c6 w6 ho6 hg6
                        exact ⟨(Below.refl _ _).grown hg6 hW.size (fun y hy => (O71.blk y hy).1), A6, c6, (by rw [List.length_append]; rfl), (by rw [List.length_append]; exact ho6)⟩
                      · intro a W hC hs hd
                        have hW : Below w6.heap.size w6 W := hC
                        have e2 : a.tmps[2]?.getD undef = .slice A2 R.length c2 := hs 2 (by kernel_rfl)
                        refine growsG_none (E := fun W W' => Below W.heap.size W W') rfl ?_
                        clear hs hd
                        unfold GrowsE
                        go_simp
                        exact Below.refl _ _
                      · intro a W hC hs hd
                        have hW : Below w6.heap.size w6 W := hC
                        have e3 : a.tmps[3]?.getD undef = .int .i64 most := hs 3 (by kernel_rfl)
                        refine growsG_none (E := fun W W' => Below W.heap.size W W') rfl ?_
                        clear hs hd
                        unfold GrowsE
                        go_simp
                        exact Below.refl _ _
                      · intro a W hC hs hd
                        have hW : Below w6.heap.size w6 W := hC
                        have e69 : (a.tmps[69]?.getD undef) = .agg #[.int .i64 N, .slice (some ⟨b, o, none⟩) m c] := hd 0 69 (by kernel_rfl) (by kernel_rfl) (by kernel_rfl)
                        have e74 : NewL w6.heap.size (ys ++ [(x : Int)]) (a.tmps[74]?.getD undef) W := hd 5 74 (by kernel_rfl) (by kernel_rfl) (by kernel_rfl)
                        obtain ⟨A74, c74, e74, O74⟩ := e74
                        have e75 : (a.tmps[75]?.getD undef) = .slice A2 R.length c2 := hd 6 75 (by kernel_rfl) (by kernel_rfl) (by kernel_rfl)
                        have e76 : (a.tmps[76]?.getD undef) = .int .i64 most := hd 7 76 (by kernel_rfl) (by kernel_rfl) (by kernel_rfl)
                        refine growsG_none rfl ?_
                        clear hs hd
                        unfold GrowsE
                        go_simp
                        refine ⟨Below.refl _ _, (HREC2.out W hW A74 c74 (by rw [List.length_append] at O74; exact O74)).mono ?_⟩
                        rintro e w9 ⟨A9, c9, rfl, T9, k9, n9⟩
                        exact ⟨_, rfl, k9, A9, c9, rfl, T9, fun g hg => (n9 g hg).imp id (Nat.le_trans hW.size)⟩
                      · intro a W hC hs hd
                        have e77 : LLo B0 A2 w6.heap.size R2 (a.tmps[77]?.getD undef) W := hd 8 77 (by kernel_rfl) (by kernel_rfl) (by kernel_rfl)
                        obtain ⟨A77, c77, e77, T77, N77⟩ := e77
                        refine growsG_none (E := fun W W' => Below W.heap.size W W') rfl ?_
                        clear hs hd
                        unfold GrowsE
                        go_simp
                        exact ⟨Below.refl _ _, A77, c77, rfl, T77, N77⟩
                    intro vs W hW hf
                    have f2 : LLo B0 A2 w6.heap.size R2 (vs 2) W := hf 9 2 (by kernel_rfl) rfl
                    obtain ⟨A77, c77, f2, T77, N77⟩ := f2
                    simp only [dsts, List.filterMap_cons, List.filterMap_nil, List.foldl_cons, List.foldl_nil, Act.put, List.setIfInBounds_toArray, List.set_cons_succ, List.set_cons_zero, f2]
                    clear hf
                    obtain ⟨A9', c9', e9, hT9, hK9, hN9⟩ := HST2.out W A77 c77 hW6 hW T77 N77
                    have HFIN : Hid (∃ A2' c2', (Value.slice A77 R2.length c77) = .slice A2' (tkL most (rows ++ lvT es G m ys.length (ia ys) (x + 1))).length c2' ∧ (∃ top, OwnLL B0 top W A2' (tkL most (rows ++ lvT es G m ys.length (ia ys) (x + 1))).length c2' (tkL most (rows ++ lvT es G m ys.length (ia ys) (x + 1)))) ∧ Kept (fun k => blkOf A = some k) w2 W ∧ ∀ g, blkOf A2' = some g → blkOf A = some g ∨ w2.heap.size ≤ g) := ⟨A9', c9', e9, hT9, hK9, hN9⟩
                    clear e9 hT9 hK9 hN9 HST2 p2 q2
                    go_wp2_with fail
                    go_roundw
                    case rel =>
                      obtain ⟨A9', c9', e9, hT9, hK9, hN9⟩ := HFIN.out
                      exact ⟨x + 1, A9', c9', by omega, by go_num, e9, hT9, hK9, hN9⟩
                    case measure => simp [intOf]; omega
            · have HE : Hid (tkL most (rows ++ lvT es G m ys.length (ia ys) 3) = R) := by
                obtain ⟨Z, hZ⟩ := lvT_pre es G m ys.length (ia ys) x 3 (by omega)
                show _ = _
                rw [hZ, ← List.append_assoc, tk_full (by rw [← HR.out]; omega), HR.out]
              have hRm' : ¬ (R.length : Int) ≤ (most : Int) := by omega
              have hK3 := (Kept.of hb4).trans' hK (S := fun k => blkOf A = some k) (fun i hi => .inl hi)
              have hN3 : Hid (∀ g, blkOf A2 = some g → blkOf A = some g ∨ w.heap.size ≤ g) := fun g hg => (hN g hg).imp id (Nat.le_trans hb4.size)
              have HF9 : Hid (∃ A9 c9, Value.slice A2 R.length c2 = .slice A9 (tkL most (rows ++ lvs es G m ys.length (ia ys))).length c9 ∧ (∃ top, OwnLL B0 top wr A9 (tkL most (rows ++ lvs es G m ys.length (ia ys))).length c9 (tkL most (rows ++ lvs es G m ys.length (ia ys)))) ∧ Kept (fun k => blkOf A = some k) w wr ∧ ∀ g, blkOf A9 = some g → blkOf A = some g ∨ w.heap.size ≤ g) := by
                rw [HLS.out, HE.out]; exact ⟨A2, c2, rfl, hTT, hK3, hN3.out⟩
              go_wp2_with fail
              go_ret
              obtain ⟨A9, c9, e9, r9⟩ := HF9.out
              exact ⟨A9, c9, congrArg Ending.returned e9, r9⟩
          · obtain rfl : x = 3 := by omega
            have hK3 := (Kept.of hb4).trans' hK (S := fun k => blkOf A = some k) (fun i hi => .inl hi)
            have hN3 : Hid (∀ g, blkOf A2 = some g → blkOf A = some g ∨ w.heap.size ≤ g) := fun g hg => (hN g hg).imp id (Nat.le_trans hb4.size)
            have HF9 : Hid (∃ A9 c9, Value.slice A2 R.length c2 = .slice A9 (tkL most (rows ++ lvs es G m ys.length (ia ys))).length c9 ∧ (∃ top, OwnLL B0 top wr A9 (tkL most (rows ++ lvs es G m ys.length (ia ys))).length c9 (tkL most (rows ++ lvs es G m ys.length (ia ys)))) ∧ Kept (fun k => blkOf A = some k) w wr ∧ ∀ g, blkOf A9 = some g → blkOf A = some g ∨ w.heap.size ≤ g) := by
              rw [HLS.out, ← HR.out]; exact ⟨A2, c2, rfl, hTT, hK3, hN3.out⟩
            go_wp2_with fail
            go_ret
            obtain ⟨A9, c9, e9, r9⟩ := HF9.out
            exact ⟨A9, c9, congrArg Ending.returned e9, r9⟩
end Go.Proofs.YtajnhkkiddeegaaGreat
