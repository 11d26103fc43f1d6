import Derived.StillTailTactics
import Derived.Test.YtajnhkkiddeegaaGreatZp11
set_option linter.unusedVariables false
set_option linter.unusedSimpArgs false
namespace Go.Proofs.YtajnhkkiddeegaaGreat
open Go.RowKit Go.Sort
noncomputable def poL (n : Int) (es : List (Int × Int)) : List (List Int) := if B (IsG n es) then sdTo es noSk n.toNat n.toNat else []
theorem sdTo_rows (es : List (Int × Int)) (sk : Nat → Bool) (N k : Nat) : ∀ j, (ra (sdTo es sk N k) j).length ≤ N := by
  induction k with
  | zero => intro j; simp [sdTo, ra]
  | succ k ih =>
    intro j
    by_cases hc : leadF es sk k = k
    · rw [sdTo_yes hc]
      by_cases hj : j < (sdTo es sk N k).length
      · rw [ra_app_lt hj]; exact ih j
      · by_cases hj2 : j = (sdTo es sk N k).length
        · subst hj2; rw [ra_app_at]; exact cmTo_len _ _ _ _
        · simp only [ra, List.getD_eq_getElem?_getD]
          rw [List.getElem?_eq_none (by simp; omega)]; simp
    · rw [sdTo_no hc]; exact ih j
set_option maxRecDepth 100000 in
set_option maxHeartbeats 3200000 in
theorem spPartsOf_any (n : Int) (b o m c : Nat) (es : List (Int × Int)) (w : World) (h : Eds w b o m es) (hm : m ≤ 1048576) :
    Calls Tryz.prog 48 #[.agg #[.int .i64 n, .slice (some ⟨b, o, none⟩) m c]] w (RetLLC (poL n es) (imC n es) w) := by
  have hbox := Box2.made w (.int .i64 n) (.slice (some ⟨b, o, none⟩) m c) 26
  have hbb := (by go_grown : Below w.heap.size w (w.alloc (.cells #[.int .i64 n, .slice (some ⟨b, o, none⟩) m c] 26)))
  have HSP := Lib.hid (l01Is_any n b o m c es _ (h.alloc (.cells #[.int .i64 n, .slice (some ⟨b, o, none⟩) m c] 26)) hm)
  by_cases hG : IsG n es
  rotate_left
  · have HC : imC n es = 1 := by simp [imC, B_false hG]
    have HR : Hid (poL n es = []) := by simp [Hid, poL, B_false hG]
    rw [HC]
    rw [B_false hG] at HSP
    clear hG hbox HC
    go_enter Tryz.func48, Tryz.ntmps48
    go_wp2_with fail
    refine HSP.out.mono ?_
    rintro e w1 ⟨rfl, hb1⟩
    have hB1 := hbb.thenB (by simp) hb1
    clear hb1 hbb
    go_wp2_with fail
    go_ret2
    exact retLLC_nil HR.out hB1
  have HC : imC n es = 0 := by simp [imC, B_true hG]
  have HR : Hid (poL n es = sdTo es noSk n.toNat n.toNat) := by simp [Hid, poL, B_true hG]
  rw [HC]
  have HW := Lib.hid hG.wf
  rw [B_true hG] at HSP
  have hn2 := hG.wf.1
  have hn20 := hG.wf.2.1
  obtain ⟨N, rfl⟩ : ∃ N : Nat, n = N := ⟨n.toNat, by omega⟩
  rw [Int.toNat_natCast] at HR
  clear hG HC
  go_enter Tryz.func48, Tryz.ntmps48
  go_wp2_with fail
  refine HSP.out.mono ?_
  rintro e w1 ⟨rfl, hb1⟩
  have hB1 := hbb.thenB (by simp) hb1
  have hbx := hbox.below hb1
  have HBX := Lib.hid hbx.lt
  obtain ⟨s1, p1, q1⟩ := hbox.below hb1
  have HBL := Lib.hid hB1.size
  clear hb1 hbb hbox
  go_wp2_with (go_at_call 99; refine (leaders_any N b o m c es _ (h.below hB1) hm HW.out.inR (by omega) (by omega)).mono ?_; rintro e w2 ⟨AL, cl, rfl, OL, hb2⟩)
  obtain ⟨gl, rfl, hbg, hlg⟩ : ∃ g, AL = some ⟨g, 0, none⟩ ∧ w1.heap.size ≤ g ∧ g < w2.heap.size := by
    rcases OL.cases with ⟨_, h0, _⟩ | h0
    · rw [lsF_len] at h0; omega
    · exact h0
  rw [lsF_len] at OL ⊢
  have HBW := Lib.hid hb2.size
  have OV0 : ∃ top, OwnLL w1.heap.size top (w2.alloc (.cells #[] 34)) (some ⟨w2.heap.size, 0, none⟩) 0 0 [] ∧ w2.heap.size ≤ top := ⟨_, OwnLL.empty _ hb2.size, by omega⟩
  have OL := OL.below ((Below.refl w2.heap.size w2).alloc (Nat.le_refl _) (.cells #[] 34))
  have NE0 : ∀ y, blkOf (some (⟨w2.heap.size, 0, none⟩ : Addr)) = some y → y ≠ gl := fun y hy => by simp [blkOf] at hy; omega
  have HB0 := hb2.andB ((Below.refl w2.heap.size w2).alloc (Nat.le_refl _) (.cells #[] 34))
  clear s1 p1 q1 hb2 hbg
  have hbw : w1.heap.size ≤ w2.heap.size := HBW.out
  go_loopw [5, 6] (fun ov vv wr => ∃ (v : Nat) (A : Option Addr) (c' : Nat), v ≤ N ∧ vv = .int .i64 v ∧ ov = .slice A (sdTo es (noSk) N v).length c' ∧ (∃ top, OwnLL w1.heap.size top wr A (sdTo es (noSk) N v).length c' (sdTo es (noSk) N v) ∧ w2.heap.size ≤ top) ∧ OwnL w1.heap.size wr (some ⟨gl, 0, none⟩) N cl (lsF (leadF es (noSk)) N) ∧ (∀ y, blkOf A = some y → y ≠ gl) ∧ Below w1.heap.size w1 wr) (fun _ v _ => N - (intOf v).toNat)
  case atStart => exact ⟨0, _, _, Nat.zero_le _, rfl, rfl, OV0, OL, NE0, HB0⟩
  case round =>
    clear OV0 OL NE0 HB0
    obtain ⟨v, A, c', hv, rfl, rfl, ⟨top, O, ht⟩, OL, NE, hb1⟩ := hrel
    have hbr := hB1.trans (hb1.mono HBL.out)
    obtain ⟨z1, pp1, qq1⟩ := Box2.upto hbx HBX.out hb1
    have hln : (sdTo es (noSk) N v).length ≤ v := by rw [sdTo_len]; exact ldCnt_le es _ v
    have hsz := O.2.1
    by_cases hlt : v < N
    · have l1 := OL.cell hlt
      rw [lsF_at _ hlt] at l1
      have hgl := (OL.blk gl rfl).2
      by_cases hld : leadF es (noSk) v = v
      · have hne : (leadF es (noSk) v != v) = false := by simp [hld]
        have HLD := Lib.hid hld
        have HE := Lib.hid (sdTo_yes (N := N) hld)
        have HE2 : Hid ((sdTo es (noSk) N (v + 1)).length = (sdTo es (noSk) N v).length + 1) := by show _ = _; rw [HE.out]; simp
        have HLO := Lib.hid (cmTo_low hld)
        clear hld
        go_wp2_with fail
        obtain ⟨w4, rfl⟩ : ∃ w4, w4 = wr := ⟨wr, rfl⟩
        have OP : OwnL w4.heap.size (w4.alloc (.cells #[] 2)) (some ⟨w4.heap.size, 0, none⟩) 0 0 [] := OwnL.empty _ _ _ (Nat.le_refl _) (heap_alloc_new w4 _)
        go_loopw [7, 8] (fun pv uv wv => ∃ (u : Nat) (A2 : Option Addr) (c2' : Nat), v ≤ u ∧ u ≤ N ∧ uv = .int .i64 u ∧ pv = .slice A2 (cmTo es (noSk) v u).length c2' ∧ OwnL w4.heap.size wv A2 (cmTo es (noSk) v u).length c2' (cmTo es (noSk) v u) ∧ Below w4.heap.size w4 wv) (fun _ u _ => N - (intOf u).toNat)
        case atStart => exact ⟨v, _, _, Nat.le_refl _, by omega, rfl, by rw [HLO.out]; rfl, by rw [HLO.out]; exact OP, (Below.refl _ _).alloc (Nat.le_refl _) _⟩
        case round =>
          clear OP
          obtain ⟨u, A2, c2', hvu, hu, rfl, rfl, ho, hbu⟩ := hrel
          have hcl := cmTo_len es (noSk) v u
          have hszu := hbu.size
          obtain ⟨z2, pp2, qq2⟩ := Box2.below ⟨z1, pp1, qq1⟩ hbu
          have OL2 := OL.below hbu
          by_cases hltu : u < N
          · have l2 := OL2.cell hltu
            rw [lsF_at _ hltu] at l2
            have hli := Lib.hid (lead_is (es := es) (sk := noSk) (v := v) (w := u) HLD.out)
            by_cases hr : leadF es (noSk) u = v
            · have hq : (leadF es (noSk) u == v) = true := by simp [hr]
              have e := cmTo_yes (hli.out.1 hr)
              have HC := Lib.hid e
              have HC2 : Hid ((cmTo es (noSk) v (u + 1)).length = (cmTo es (noSk) v u).length + 1) := by show _ = _; rw [e]; simp
              clear hr e
              go_wp2_with (first
                | (at_builtin; refine wp_appL1 rfl rfl rfl rfl rfl ho (by omega) (by omega) ?_; intro A3 c3 w5 ho3 hg5 hat5))
              have hb5 := hbu.grown hg5 hszu (fun y hy => (ho.blk y hy).1)
              go_roundw
              case rel => exact ⟨u + 1, A3, c3, by omega, by omega, by go_num, by rw [HC2.out], by rw [HC2.out, HC.out]; exact ho3, hb5⟩
              case measure => simp [intOf]; omega
            · have hq : (leadF es (noSk) u == v) = false := by simp [hr]
              have HC := Lib.hid (cmTo_no (fun hh => hr (hli.out.2 hh)))
              clear hr
              go_wp2_with fail
              go_roundw
              case rel => exact ⟨u + 1, A2, c2', by omega, by omega, by go_num, by rw [HC.out], by rw [HC.out]; exact ho, hbu⟩
              case measure => simp [intOf]; omega
          · obtain rfl : u = N := by omega
            have O := (O.raise O.2.1 (Nat.le_refl _)).below hbu
            have hb3 := hb1.trans (hbu.mono (by have := hb1.size; have := HBW.out; omega))
            have ho' := ho.mono (show w1.heap.size ≤ w4.heap.size by have := HBW.out; have := hb1.size; omega)
            have hnew : ∀ g, blkOf A2 = some g → w4.heap.size ≤ g := fun g hg => (ho.blk g hg).1
            have hbs : w1.heap.size ≤ wr.heap.size := by have := HBW.out; have := hb1.size; omega
            clear ho
            go_wp2_with (first
              | (at_builtin; refine wp_appR1 rfl rfl rfl rfl rfl rfl O ho' hnew hbs (by omega) ?_; intro A3 c3 w5 O5 hg5 hat5))
            have hb5 := hb3.grown hg5 hbs (fun y hy => (O.blk y hy).1)
            have OL5 := OL2.kept hg5 (.inr (fun e => by
              cases hA : blkOf A with
              | none => rw [hA] at e; cases e
              | some y => rw [hA] at e; exact NE y hA (Option.some.inj e).symm))
            have NE5 : ∀ y, blkOf A3 = some y → y ≠ gl := fun y hy e => by
              rcases hat5 with h1 | ⟨g1, h1, h2⟩
              · exact NE y (by rw [← h1]; exact hy) e
              · rw [h1] at hy; obtain rfl := Option.some.inj hy; omega
            go_roundw
            case rel => exact ⟨v + 1, A3, c3, by omega, by go_num, by rw [HE2.out], ⟨_, by rw [HE2.out, HE.out]; exact O5, by have := hg5.size; omega⟩, OL5, NE5, hb5⟩
            case measure => simp [intOf]; omega
      · have hne : (leadF es (noSk) v != v) = true := by simp [hld]
        have HE := Lib.hid (sdTo_no (N := N) hld)
        clear hld
        go_wp2_with fail
        go_roundw
        case rel => exact ⟨v + 1, A, c', by omega, by go_num, by rw [HE.out], ⟨top, by rw [HE.out]; exact O, ht⟩, OL, NE, hb1⟩
        case measure => simp [intOf]; omega
    · obtain rfl : v = N := by omega
      go_wp2_with fail
      go_ret2
      exact retLLC_of HR.out.symm hB1 (O.raise O.2.1 (Nat.le_refl _)) hb1
set_option maxHeartbeats 400000 in
theorem imPartsOf_any (n : Int) (b o m c : Nat) (es : List (Int × Int)) (w : World) (h : Eds w b o m es) (hm : m ≤ 1048576) :
    Calls Tryz.prog 31 #[.agg #[.int .i64 n, .slice (some ⟨b, o, none⟩) m c]] w (RetLLC (poL n es) (imC n es) w) := by
  have hbox := Box2.made w (.int .i64 n) (.slice (some ⟨b, o, none⟩) m c) 26
  have hbb := (by go_grown : Below w.heap.size w (w.alloc (.cells #[.int .i64 n, .slice (some ⟨b, o, none⟩) m c] 26)))
  have HGC := Lib.hid (graphCode_any n b o m c es true _ (h.alloc (.cells #[.int .i64 n, .slice (some ⟨b, o, none⟩) m c] 26)) hm)
  by_cases hG : IsG n es
  · have HC : imC n es = 0 := by simp [imC, B_true hG]
    have HR : Hid (poL n es = sdTo es noSk n.toNat n.toNat) := by simp [Hid, poL, B_true hG]
    rw [HC]
    have HS0 := Lib.hid (fun W hE => skS_none ▸ sides_any n b o m c 0 es W hE hm hG.wf (by omega))
    rw [show gcC n es true = 0 by simp [gcC, B_true hG]] at HGC
    clear hG HC
    go_enter Tryz.func31, Tryz.ntmps31
    go_wp2_with fail
    refine HGC.out.mono ?_
    rintro e w1 ⟨rfl, hb1⟩
    have hB1 := hbb.thenB (by simp) hb1
    obtain ⟨s1, p1, q1⟩ := hbox.below hb1
    clear hb1 hbb hbox
    go_wp2_with fail
    refine (HS0.out _ (h.below hB1)).mono ?_
    rintro e w2 ⟨A, c', rfl, ho, hb2⟩
    go_wp2_with fail
    go_ret2
    exact retLLC_of HR.out.symm hB1 ho hb2
  · have HC : imC n es = 1 := by simp [imC, B_false hG]
    have HR : Hid (poL n es = []) := by simp [Hid, poL, B_false hG]
    rw [HC]
    rw [show gcC n es true = 1 by simp [gcC, B_false hG]] at HGC
    clear hG hbox HC
    go_enter Tryz.func31, Tryz.ntmps31
    go_wp2_with fail
    refine HGC.out.mono ?_
    rintro e w1 ⟨rfl, hb1⟩
    have hB1 := hbb.thenB (by simp) hb1
    clear hb1 hbb
    go_wp2_with fail
    go_ret2
    exact retLLC_nil HR.out hB1
end Go.Proofs.YtajnhkkiddeegaaGreat
namespace Go.Proofs.YtajnhkkiddeegaaGreat
open Go.RowKit Go.Sort
end Go.Proofs.YtajnhkkiddeegaaGreat
namespace Go.Proofs.YtajnhkkiddeegaaGreat
open Go.RowKit Go.Sort
def NewU (base N : Nat) (v : Value) (W : World) : Prop := ∃ g, v = .slice (some ⟨g, 0, none⟩) N N ∧ base ≤ g ∧ W.rowIs g 81 N (fun _ => .int .u64 0)
theorem NewU.below {base N : Nat} {v : Value} {W W' : World} (h : NewU base N v W) (hb : Below W.heap.size W W') : NewU base N v W' := let ⟨g, e, hg, R⟩ := h; ⟨g, e, hg, R.of_block (hb.block _ R.lt)⟩
def PaintV (base N m : Nat) (E L fv v : Value) (W : World) : Prop := ∃ gc gu, v = .agg #[.int .i64 N, E, L, .slice (some ⟨gc, 0, none⟩) m m, .slice (some ⟨gu, 0, none⟩) N N, fv] ∧ base ≤ gc ∧ base ≤ gu ∧ W.rowIs gc 2 m (fun _ => .int .i64 (-1)) ∧ W.rowIs gu 81 N (fun _ => .int .u64 0)
theorem PaintV.below {base N m : Nat} {E L fv v : Value} {W W' : World} (h : PaintV base N m E L fv v W) (hb : Below W.heap.size W W') : PaintV base N m E L fv v W' := let ⟨gc, gu, e, h1, h2, R1, R2⟩ := h; ⟨gc, gu, e, h1, h2, R1.of_block (hb.block _ R1.lt), R2.of_block (hb.block _ R2.lt)⟩
def PaintP (base N m : Nat) (E L fv v : Value) (W : World) : Prop := ∃ gp gc gu, v = .pointer (some ⟨gp, 0, none⟩) ∧ base ≤ gp ∧ base ≤ gc ∧ base ≤ gu ∧ W.heap[gp]? = some (.cells #[.int .i64 N, E, L, .slice (some ⟨gc, 0, none⟩) m m, .slice (some ⟨gu, 0, none⟩) N N, fv] 105 (0, 0)) ∧ W.rowIs gc 2 m (fun _ => .int .i64 (-1)) ∧ W.rowIs gu 81 N (fun _ => .int .u64 0)
theorem PaintP.below {base N m : Nat} {E L fv v : Value} {W W' : World} (h : PaintP base N m E L fv v W) (hb : Below W.heap.size W W') : PaintP base N m E L fv v W' := by
  obtain ⟨gp, gc, gu, e, h0, h1, h2, R0, R1, R2⟩ := h
  exact ⟨gp, gc, gu, e, h0, h1, h2, (hb.block _ (Array.getElem?_eq_some_iff.1 R0).1).trans R0, R1.of_block (hb.block _ R1.lt), R2.of_block (hb.block _ R2.lt)⟩
/-- A painter that lies in memory. -/
structure PO (w w' : World) (bp bc bu N m : Nat) (E L fv : Value) (f : Nat → Int) (U : Nat → Nat) : Prop where
  p0 : w'.cell? ⟨bp, 0, none⟩ = some (.int .i64 N)
  p1 : w'.cell? ⟨bp, 1, none⟩ = some E
  p2 : w'.cell? ⟨bp, 2, none⟩ = some L
  p3 : w'.cell? ⟨bp, 3, none⟩ = some (.slice (some ⟨bc, 0, none⟩) m m)
  p4 : w'.cell? ⟨bp, 4, none⟩ = some (.slice (some ⟨bu, 0, none⟩) N N)
  p5 : w'.cell? ⟨bp, 5, none⟩ = some fv
  pl : bp < w'.heap.size
  hp : w.heap.size ≤ bp
  hc : w.heap.size ≤ bc
  hu : w.heap.size ≤ bu
  n1 : bp ≠ bc
  n2 : bp ≠ bu
  n3 : bc ≠ bu
  rc : w'.rowIs bc 2 m (fun j => .int .i64 (f j))
  ru : w'.rowIs bu 81 N (fun j => .int .u64 (U j))
  bel : Below w.heap.size w w'
theorem PO.ps {w w' : World} {bp bc bu N m : Nat} {A : Option Addr} {cA : Nat} {L : List Nat} {b o c : Nat} {es : List (Int × Int)} {fv : Value} {f : Nat → Int} {U : Nat → Nat} {S : Nat → Prop}
    (h : PO w w' bp bc bu N m (.slice (some ⟨b, o, none⟩) m c) (.slice A L.length cA) fv f U) (E : Eds w b o m es) (I : SrcI w A L.length (fun j => ((L.getD j 0 : Nat) : Int))) (hA : ∀ g, blkOf A = some g → g < w.heap.size) (hL : ∀ d, d ∈ L → d < m)
    (hS : ∀ k, S k → k < w.heap.size) (hSb : ¬ S b) (hSA : ∀ g, blkOf A = some g → ¬ S g) : PS w' S bp bc bu N m A cA L b o c m N es fv where
  p0 := h.p0
  p1 := h.p1
  p2 := h.p2
  p3 := h.p3
  p4 := h.p4
  p5 := h.p5
  pl := h.pl
  E := E.below h.bel
  I := SrcI.below I h.bel
  hL := hL
  np := by
    rintro (e | e | e)
    · exact h.n1 e
    · exact h.n2 e
    · have := hS _ e; have := h.hp; omega
  nb := by
    rintro (e | e | e)
    · have := E.blk; have := h.hc; omega
    · have := E.blk; have := h.hu; omega
    · exact hSb e
  nA := fun g hg => by
    rintro (e | e | e)
    · have := hA g hg; have := h.hc; omega
    · have := hA g hg; have := h.hu; omega
    · exact hSA g hg e
  ne := h.n3
/-- After a colour is given. -/
theorem PO.next {w w1 w2 : World} {bp bc bu N m : Nat} {E L fv : Value} {f f' : Nat → Int} {U U' : Nat → Nat} (h : PO w w1 bp bc bu N m E L fv f U) (P : PW w1 (fun _ => False) bc bu N m f' U' w2) : PO w w2 bp bc bu N m E L fv f' U' :=
  have hn : ¬ Mut (fun _ => False) bc bu bp := by
    rintro (e | e | e)
    · exact h.n1 e
    · exact h.n2 e
    · exact e
  ⟨(P.k.cell h.pl hn 0).trans h.p0, (P.k.cell h.pl hn 1).trans h.p1, (P.k.cell h.pl hn 2).trans h.p2, (P.k.cell h.pl hn 3).trans h.p3, (P.k.cell h.pl hn 4).trans h.p4, (P.k.cell h.pl hn 5).trans h.p5, P.k.lt h.pl, h.hp, h.hc, h.hu, h.n1, h.n2, h.n3, P.rc, P.ru,
    h.bel.trans (P.k.below h.bel.size (fun k hk => by
      rcases hk with e | e | e
      · have := h.hc; omega
      · have := h.hu; omega
      · exact absurd e id))⟩
theorem PO.below {w w1 w2 : World} {bp bc bu N m : Nat} {E L fv : Value} {f : Nat → Int} {U : Nat → Nat} (h : PO w w1 bp bc bu N m E L fv f U) (hb : Below w1.heap.size w1 w2) : PO w w2 bp bc bu N m E L fv f U :=
  h.next ⟨Kept.of hb, h.rc.of_block (hb.block _ h.rc.lt), h.ru.of_block (hb.block _ h.ru.lt)⟩
end Go.Proofs.YtajnhkkiddeegaaGreat
namespace Go.Proofs.YtajnhkkiddeegaaGreat
open Go.RowKit Go.Sort
end Go.Proofs.YtajnhkkiddeegaaGreat
namespace Go.Proofs.YtajnhkkiddeegaaGreat
open Go.RowKit Go.Sort
def EPost (E : World → World → Prop) (G : Value → World → Prop) (w : World) (e : Ending) (w'' : World) : Prop := ∃ v, e = .returned v ∧ E w w'' ∧ G v w''
def GrowsE (P : Program) (o : Oper) (a : Act) (w : World) (E : World → World → Prop) (G : Value → World → Prop) : Prop :=
  match (execOp a.eval o).run P w with
  | .ok (.value v) w' => E w w' ∧ G v w'
  | .ok .skip w' => E w w' ∧ G undef w'
  | .ok (.enter f args) w' => Below w.heap.size w w' ∧ Calls P f args w' (EPost E G w)
  | _ => False
theorem GrowsE.wp {P : Program} {o : Oper} {a : Act} {w : World} {E : World → World → Prop} {G : Value → World → Prop} (h : GrowsE P o a w E G) {K : Act → World → Prop} {Q : Exit → Act → World → Prop}
    (hK : ∀ v w', E w w' → G v w' → K (a.put o.dst v) w') : o.wp P a w K Q := by
  unfold GrowsE at h
  unfold Oper.wp
  generalize (execOp a.eval o).run P w = r at *
  cases r with
  | ok n w' =>
    cases n <;> simp only [Oper.upon] at h ⊢
    case value v => exact hK _ _ h.1 h.2
    case skip => exact hK _ _ h.1 h.2
    case enter f args => exact h.2.mono fun e w'' ⟨v, he, hb, hg⟩ => by subst he; exact hK _ _ hb hg
  | halt x w' => simp only at h
/-- A guarded operation that is left out. -/
def GrowsG (P : Program) (l : List Oper) (o : Oper) (a : Act) (w : World) (E : World → World → Prop) (G : Value → World → Prop) : Prop :=
  if Region.wanted o (yielded l.toArray a.tmps) = true then GrowsE P o a w E G else E w w ∧ G undef w
def endOk (dead : Nat → Option Nat) (j i : Nat) : Bool := dead j == none || dead j == some i
def StepsHE (P : Program) (l : List Oper) (F : Nat → Value → World → Prop) (dead : Nat → Option Nat) (E : Nat → World → World → Prop) (a0 : Act) (w0 : World) : Nat → List Oper → Prop
  | _, [] => True
  | i, o :: r => (∀ a w, Below w0.heap.size w0 w → (∀ t, (dsts l).contains t = false → a.tmps[t]?.getD undef = a0.eval (.tmp t)) →
      (∀ j d, (depsOf o).contains j = true → dstAt l j = some d → endOk dead j i = true → F j (a.tmps[d]?.getD undef) w) → GrowsG P l o a w (E i) (F i)) ∧ StepsHE P l F dead E a0 w0 (i + 1) r
def StepsE (P : Program) (l : List Oper) (F : Nat → Value → World → Prop) (dead : Nat → Option Nat) (E : Nat → World → World → Prop) (a0 : Act) (w0 : World) : Nat → List Oper → Prop
  | _, [] => True
  | i, o :: r => (∀ a w, Below w0.heap.size w0 w → (∀ t, (dsts l).contains t = false → a.tmps.getD t undef = a0.tmps.getD t undef) →
      (∀ e ∈ o.after, Region.binds .any e = true → endOk dead e.on i = true → ∀ (p : Oper) (d : Tmp), l[e.on]? = some p → p.dst = some d → F e.on (a.tmps.getD d undef) w) → GrowsG P l o a w (E i) (F i)) ∧ StepsE P l F dead E a0 w0 (i + 1) r
theorem StepsHE.steps {P : Program} {l : List Oper} {F : Nat → Value → World → Prop} {dead : Nat → Option Nat} {E : Nat → World → World → Prop} {a0 : Act} {w0 : World} : ∀ (r : List Oper) (i : Nat), StepsHE P l F dead E a0 w0 i r → StepsE P l F dead E a0 w0 i r := by
  intro r
  induction r with
  | nil => intro i _; trivial
  | cons o r ih =>
    intro i h
    refine ⟨fun a w hb hs hd => h.1 a w hb (fun t ht => by rw [← Array.getD_eq_getD_getElem?]; exact hs t ht) (fun j d hj hjd hok => ?_), ih _ h.2⟩
    simp only [depsOf, List.contains_iff_mem, List.mem_map, List.mem_filter] at hj
    obtain ⟨e, ⟨he, hb⟩, rfl⟩ := hj
    obtain ⟨p, hp, hpd⟩ := Option.bind_eq_some_iff.1 hjd
    rw [← Array.getD_eq_getD_getElem?]
    exact hd e (by simpa using he) hb hok p d hp hpd
theorem StepsE.at {P : Program} {l : List Oper} {F : Nat → Value → World → Prop} {dead : Nat → Option Nat} {E : Nat → World → World → Prop} {a0 : Act} {w0 : World} : ∀ (r : List Oper) (k : Nat), StepsE P l F dead E a0 w0 k r → ∀ (i : Nat) (o : Oper), r[i]? = some o →
    ∀ a w, Below w0.heap.size w0 w → (∀ t, (dsts l).contains t = false → a.tmps.getD t undef = a0.tmps.getD t undef) →
      (∀ e ∈ o.after, Region.binds .any e = true → endOk dead e.on (k + i) = true → ∀ (p : Oper) (d : Tmp), l[e.on]? = some p → p.dst = some d → F e.on (a.tmps.getD d undef) w) → GrowsG P l o a w (E (k + i)) (F (k + i)) := by
  intro r
  induction r with
  | nil => intro k _ i o h; simp at h
  | cons x r ih =>
    intro k h i o hi
    cases i with
    | zero => simp at hi; subst hi; exact h.1
    | succ i => rw [show k + (i + 1) = (k + 1) + i from by omega]; exact ih (k + 1) h.2 i o (by simpa using hi)
theorem eval_tmp (a : Act) (t : Tmp) : a.eval (.tmp t) = a.tmps[t]?.getD undef := by
  show a.tmps.getD t undef = _
  rw [Array.getD_eq_getD_getElem?]
theorem growsG_none {P : Program} {l : List Oper} {o : Oper} {a : Act} {w : World} {E : World → World → Prop} {G : Value → World → Prop} (hg : o.guard = none) (h : GrowsE P o a w E G) : GrowsG P l o a w E G := by
  unfold GrowsG
  rw [if_pos (by simp [Region.wanted, hg])]
  exact h
end Go.Proofs.YtajnhkkiddeegaaGreat
namespace Go.Proofs.YtajnhkkiddeegaaGreat
open Go.RowKit Go.Sort
def StepsHN (P : Program) (l : List Oper) (F : Nat → Value → World → Prop) (dead : Nat → Option Nat) (E : Nat → World → World → Prop) (C : World → Prop) (n : Nat) (a0 : Act) : Nat → List Oper → Prop
  | _, [] => True
  | i, o :: r => (∀ a w, C w → (∀ t, (dsts (l.take n)).contains t = false → a.tmps[t]?.getD undef = a0.eval (.tmp t)) →
      (∀ j d, (depsOf o).contains j = true → dstAt l j = some d → endOk dead j i = true → F j (a.tmps[d]?.getD undef) w) → GrowsG P l o a w (E i) (F i)) ∧ StepsHN P l F dead E C n a0 (i + 1) r
def StepsN (P : Program) (l : List Oper) (F : Nat → Value → World → Prop) (dead : Nat → Option Nat) (E : Nat → World → World → Prop) (C : World → Prop) (n : Nat) (a0 : Act) : Nat → List Oper → Prop
  | _, [] => True
  | i, o :: r => (∀ a w, C w → (∀ t, (dsts (l.take n)).contains t = false → a.tmps.getD t undef = a0.tmps.getD t undef) →
      (∀ e ∈ o.after, Region.binds .any e = true → endOk dead e.on i = true → ∀ (p : Oper) (d : Tmp), l[e.on]? = some p → p.dst = some d → F e.on (a.tmps.getD d undef) w) → GrowsG P l o a w (E i) (F i)) ∧ StepsN P l F dead E C n a0 (i + 1) r
theorem StepsHN.steps {P : Program} {l : List Oper} {F : Nat → Value → World → Prop} {dead : Nat → Option Nat} {E : Nat → World → World → Prop} {C : World → Prop} {n : Nat} {a0 : Act} : ∀ (r : List Oper) (i : Nat), StepsHN P l F dead E C n a0 i r → StepsN P l F dead E C n a0 i r := by
  intro r
  induction r with
  | nil => intro i _; trivial
  | cons o r ih =>
    intro i h
    refine ⟨fun a w hb hs hd => h.1 a w hb (fun t ht => by rw [← Array.getD_eq_getD_getElem?]; exact hs t ht) (fun j d hj hjd hok => ?_), ih _ h.2⟩
    simp only [depsOf, List.contains_iff_mem, List.mem_map, List.mem_filter] at hj
    obtain ⟨e, ⟨he, hb⟩, rfl⟩ := hj
    obtain ⟨p, hp, hpd⟩ := Option.bind_eq_some_iff.1 hjd
    rw [← Array.getD_eq_getD_getElem?]
    exact hd e (by simpa using he) hb hok p d hp hpd
theorem StepsN.at {P : Program} {l : List Oper} {F : Nat → Value → World → Prop} {dead : Nat → Option Nat} {E : Nat → World → World → Prop} {C : World → Prop} {n : Nat} {a0 : Act} : ∀ (r : List Oper) (k : Nat), StepsN P l F dead E C n a0 k r → ∀ (i : Nat) (o : Oper), r[i]? = some o →
    ∀ a w, C w → (∀ t, (dsts (l.take n)).contains t = false → a.tmps.getD t undef = a0.tmps.getD t undef) →
      (∀ e ∈ o.after, Region.binds .any e = true → endOk dead e.on (k + i) = true → ∀ (p : Oper) (d : Tmp), l[e.on]? = some p → p.dst = some d → F e.on (a.tmps.getD d undef) w) → GrowsG P l o a w (E (k + i)) (F (k + i)) := by
  intro r
  induction r with
  | nil => intro k _ i o h; simp at h
  | cons x r ih =>
    intro k h i o hi
    cases i with
    | zero => simp at hi; subst hi; exact h.1
    | succ i => rw [show k + (i + 1) = (k + 1) + i from by omega]; exact ih (k + 1) h.2 i o (by simpa using hi)
structure FInvN (l : List Oper) (F : Nat → Value → World → Prop) (dead : Nat → Option Nat) (C : World → Prop) (n : Nat) (a0 : Act) (listed : Array Bool) (a : Act) (w : World) : Prop where
  below : C w
  facts : ∀ (i : Nat) (o : Oper) (d : Tmp), i < n → l[i]? = some o → o.dst = some d → listed.getD i false = true → (∀ k, dead i = some k → listed.getD k false = false) → F i (a.tmps.getD d undef) w
  same : ∀ t, (dsts (l.take n)).contains t = false → a.tmps.getD t undef = a0.tmps.getD t undef
  tsize : a.tmps.size = a0.tmps.size
  defers : a.defers = a0.defers
theorem getD_in' {listed : Array Bool} {i : Nat} (h : listed.getD i true = true) (hi : i < listed.size) : listed.getD i false = true := by
  simp [hi] at h ⊢; exact h
/-- How many of the first n are left. -/
def leftN (listed : Array Bool) (n : Nat) : Nat := ((List.range n).filter fun i => !listed.getD i true).length
theorem leftN_zero {listed : Array Bool} {n : Nat} (h : leftN listed n = 0) : ∀ i, i < n → listed.getD i true = true := fun i hi => by
  have h1 : (List.range n).filter (fun i => !listed.getD i true) = [] := List.length_eq_zero_iff.1 h
  have := List.filter_eq_nil_iff.1 h1 i (List.mem_range.2 hi)
  simpa using this
theorem leftN_pos {listed : Array Bool} {n : Nat} (h : leftN listed n ≠ 0) : ∃ i, i < n ∧ listed.getD i true = false := by
  refine Classical.byContradiction fun hno => h ?_
  have : (List.range n).filter (fun i => !listed.getD i true) = [] := List.filter_eq_nil_iff.2 fun i hi => by
    have hi' := List.mem_range.1 hi
    cases hq : listed.getD i true with
    | true => simp
    | false => exact absurd ⟨i, hi', hq⟩ hno
  unfold leftN
  rw [this]; rfl
theorem filter_drop_one {p q : Nat → Bool} {i : Nat} : ∀ (xs : List Nat), xs.Nodup → i ∈ xs → p i = true → q i = false → (∀ j, j ≠ i → q j = p j) → (xs.filter q).length + 1 = (xs.filter p).length := by
  intro xs
  induction xs with
  | nil => intro _ h; simp at h
  | cons x xs ih =>
    intro hn hi hp hq hj
    have hn' := List.nodup_cons.1 hn
    by_cases e : x = i
    · subst e
      have : xs.filter q = xs.filter p := List.filter_congr fun j hjm => hj j (fun ee => hn'.1 (ee ▸ hjm))
      rw [List.filter_cons, List.filter_cons, hp, hq, if_neg (by decide), if_pos rfl, this]; rfl
    · have hi' : i ∈ xs := (List.mem_cons.1 hi).resolve_left (Ne.symm e)
      have := ih hn'.2 hi' hp hq hj
      rw [List.filter_cons, List.filter_cons, hj x e]
      cases p x <;> simp <;> omega
theorem wpAny_head {P : Program} {l : List Oper} {F : Nat → Value → World → Prop} {dead : Nat → Option Nat} {E : Nat → World → World → Prop} {C : World → Prop} {n : Nat} {a0 : Act} {Q : Exit → Act → World → Prop}
    (hn : n < l.length) (hs : Region.sinkB .any l.toArray n = true) (hc : Region.chainB .any l.toArray n = true)
    (hdist : ∀ (i j : Nat) (o p : Oper) (d : Tmp), i < n → j < n → l[i]? = some o → l[j]? = some p → o.dst = some d → p.dst = some d → i = j) (hsz : ∀ (i : Nat) (o : Oper) (d : Tmp), l[i]? = some o → o.dst = some d → d < a0.tmps.size)
    (mono : ∀ i k v w w', i ≠ k → dead i ≠ some k → C w → F i v w → E k w w' → F i v w') (hE : ∀ k w w', C w → E k w w' → C w') (steps : StepsN P l F dead E C n a0 0 (l.take n))
    (hback : ∀ (i : Nat) (o : Oper), l[i]? = some o → ∀ e ∈ o.after, Region.binds .any e = true → e.on < i) {g : Nat}
    (fin : ∀ listed a w, HeadInv .any l.toArray n listed → FInvN l F dead C n a0 listed a w → leftN listed n = 0 → wpAny P .any l.toArray Q g listed a w) :
    ∀ (h : Nat) (listed : Array Bool) (a : Act) (w : World), HeadInv .any l.toArray n listed → FInvN l F dead C n a0 listed a w → leftN listed n = h → wpAny P .any l.toArray Q (h + g) listed a w := by
  intro h
  induction h with
  | zero => intro listed a w hv inv hl; rw [Nat.zero_add]; exact fin listed a w hv inv hl
  | succ h ih =>
    intro listed a w hv inv hl
    obtain ⟨x, hx, hxl⟩ := leftN_pos (listed := listed) (n := n) (by omega)
    have hwait := tail_waits hs hc (by simpa using hn) hv (n - x) x rfl hx hxl
    rw [show h + 1 + g = (h + g) + 1 by omega]
    refine ⟨fun hr => ?_, fun i hi => ?_⟩
    · -- something is always ready: the least that is left
      exfalso
      have hmin : ∀ k x, x ≤ k → x < n → listed.getD x true = false → ∃ y, y < n ∧ listed.getD y true = false ∧ ∀ z, z < y → listed.getD z true = true := by
        intro k
        induction k with
        | zero => intro x h0 hxn hxf; exact ⟨x, hxn, hxf, fun z hz => absurd hz (by omega)⟩
        | succ k ihk =>
          intro x hxk hxn hxf
          by_cases hq : ∃ z, z < x ∧ listed.getD z true = false
          · obtain ⟨z, hz, hzf⟩ := hq; exact ihk z (by omega) (by omega) hzf
          · exact ⟨x, hxn, hxf, fun z hz => by
              cases hqq : listed.getD z true with
              | true => rfl
              | false => exact absurd ⟨z, hz, hqq⟩ hq⟩
      obtain ⟨y, hy, hyf, hall⟩ := hmin x x (Nat.le_refl _) hx hxl
      have : y ∈ Region.ready .any l.toArray listed := by
        rw [mem_ready]
        refine ⟨hyf, l[y], by simp [show y < l.length by omega], fun e he hb => ?_⟩
        have hlt := hback y l[y] (by simp [show y < l.length by omega]) e he hb
        have h1 := hall e.on hlt
        have h2 := hv.size
        have h3 : e.on < listed.size := by rw [h2]; simp; omega
        simpa [h3] using h1
      rw [hr] at this; cases this
    · have hin : i < n := by
        refine Classical.byContradiction fun hge => ?_
        exact hwait i (by omega) hi
      obtain ⟨hun, o, ho, hall⟩ := mem_ready.1 hi
      have ho' : l[i]? = some o := by simpa using ho
      have hil : i < l.length := (List.getElem?_eq_some_iff.1 ho').1
      have hot : (l.take n)[i]? = some o := by rw [List.getElem?_take, if_pos hin]; exact ho'
      have hunl := getD_both hun
      have hst := StepsN.at (l.take n) 0 steps i o hot a w inv.below inv.same (fun e he hb hok p d hp hd => inv.facts e.on p d (by have := hback i o ho' e he hb; omega) hp hd (hall e he hb) (fun k hk => by
        rw [Nat.zero_add] at hok
        simp only [endOk, hk, Bool.or_eq_true, beq_iff_eq, reduceCtorEq, Option.some.injEq, false_or] at hok
        subst hok; exact hunl))
      rw [Nat.zero_add] at hst
      have hset : (listed.setIfInBounds i true).getD i false = true := by
        rw [Array.getD_eq_getD_getElem?, Array.getElem?_setIfInBounds, if_pos rfl, if_pos (by rw [hv.size]; simpa using hil)]; rfl
      suffices hgo : ∀ v w', E i w w' → F i v w' → wpAny P .any l.toArray Q (h + g) (listed.setIfInBounds i true) (a.put o.dst v) w' by
        unfold wpOp
        rw [ho]
        unfold GrowsG at hst
        simp only
        split
        · rename_i hwant
          rw [if_pos hwant] at hst
          exact .inl (hst.wp hgo)
        · rename_i hwant
          rw [if_neg hwant] at hst
          exact hgo _ _ hst.1 hst.2
      intro v w' hb' hF
      refine ih _ _ _ (hv.set hi hin) ⟨hE i w w' inv.below hb', fun j p d hjn hp hd hlj hdk => ?_, fun t ht => ?_, ?_, ?_⟩ ?_
      · have hdj := hsz j p d hp hd
        cases hod : o.dst with
        | none =>
          by_cases hij : i = j
          · subst hij; rw [ho'] at hp; obtain rfl := Option.some.inj hp; rw [hod] at hd; cases hd
          · have hl' : listed.getD j false = true := by rw [Array.getD_eq_getD_getElem?, Array.getElem?_setIfInBounds, if_neg hij, ← Array.getD_eq_getD_getElem?] at hlj; exact hlj
            exact mono j i _ _ _ (fun e => hij e.symm) (fun hdi => by have := hdk i hdi; rw [hset] at this; cases this) inv.below (inv.facts j p d hjn hp hd hl' (fun k hk => by
              have := hdk k hk
              by_cases hik : i = k
              · subst hik; exact hunl
              · rw [Array.getD_eq_getD_getElem?, Array.getElem?_setIfInBounds, if_neg hik, ← Array.getD_eq_getD_getElem?] at this; exact this)) hb'
        | some d' =>
          rw [put_getD]
          by_cases hij : i = j
          · subst hij; rw [ho'] at hp; obtain rfl := Option.some.inj hp
            rw [hod] at hd; obtain rfl := Option.some.inj hd
            rw [if_pos ⟨rfl, by rw [inv.tsize]; exact hdj⟩]; exact hF
          · have hne : ¬ (d = d' ∧ d' < a.tmps.size) := fun hx => hij (hdist i j o p d hin hjn ho' hp (by rw [hod, hx.1]) hd)
            rw [if_neg hne]
            have hl' : listed.getD j false = true := by rw [Array.getD_eq_getD_getElem?, Array.getElem?_setIfInBounds, if_neg hij, ← Array.getD_eq_getD_getElem?] at hlj; exact hlj
            exact mono j i _ _ _ (fun e => hij e.symm) (fun hdi => by have := hdk i hdi; rw [hset] at this; cases this) inv.below (inv.facts j p d hjn hp hd hl' (fun k hk => by
              have := hdk k hk
              by_cases hik : i = k
              · subst hik; exact hunl
              · rw [Array.getD_eq_getD_getElem?, Array.getElem?_setIfInBounds, if_neg hik, ← Array.getD_eq_getD_getElem?] at this; exact this)) hb'
      · cases hod : o.dst with
        | none => exact inv.same t ht
        | some d' =>
          rw [put_getD, if_neg]
          · exact inv.same t ht
          · intro hx
            have : (dsts (l.take n)).contains t = true := by
              simp only [dsts, List.contains_iff_mem, List.mem_filterMap]
              exact ⟨o, List.mem_of_getElem? hot, by rw [hod, hx.1]⟩
            rw [this] at ht; cases ht
      · cases o.dst <;> simp [Act.put, inv.tsize]
      · cases o.dst <;> simp [Act.put, inv.defers]
      · have hsl : ∀ j, j ≠ i → (listed.setIfInBounds i true).getD j true = listed.getD j true := fun j hj => by
          rw [Array.getD_eq_getD_getElem?, Array.getElem?_setIfInBounds, if_neg (Ne.symm hj), ← Array.getD_eq_getD_getElem?]
        have hsi : (listed.setIfInBounds i true).getD i true = true := by
          rw [Array.getD_eq_getD_getElem?, Array.getElem?_setIfInBounds, if_pos rfl, if_pos (by rw [hv.size]; simpa using hil)]; rfl
        have := filter_drop_one (p := fun i => !listed.getD i true) (q := fun j => !(listed.setIfInBounds i true).getD j true) (i := i) (List.range n) List.nodup_range (List.mem_range.2 hin) (by rw [hun]; rfl) (by rw [hsi]; rfl) (fun j hj => by rw [hsl j hj])
        unfold leftN at hl ⊢
        omega
/-- The check of what is closed. -/
def frBN (l : List Oper) (n m : Nat) : Bool :=
  decide (n < l.length) && Region.sinkB .any l.toArray n && Region.chainB .any l.toArray n && Region.seqB .any l.toArray (l.length - n) n (Array.replicate n true ++ Array.replicate (l.length - n) false) &&
  l.all (fun o => (o.dst.all (fun d => decide (d < m)))) && decide ((dsts (l.take n)).Nodup) && (List.range l.length).all (fun i => (l[i]?).all fun o => o.after.all fun e => !Region.binds .any e || decide (e.on < i))
/-- A region that draws its order: its first n operations in whatever order, the rest behind them in theirs. -/
theorem wp_region_then {P : Program} {id : Nat} {Q : Exit → Act → World → Prop} {a0 : Act} {w0 : World} {l : List Oper} (n : Nat) (F : Nat → Value → World → Prop) (dead : Nat → Option Nat) (E : Nat → World → World → Prop) (C : World → Prop) (hm : P.follows .mixedOrders = true) (hB : frBN l n a0.tmps.size = true)
    (h0 : C w0.drew) (mono : ∀ i k v w w', i ≠ k → dead i ≠ some k → C w → F i v w → E k w w' → F i v w') (hE : ∀ k w w', C w → E k w w' → C w') (steps : StepsHN P l F dead E C n a0 0 (l.take n))
    (fin : ∀ (vs : Tmp → Value) w, C w → (∀ (i : Nat) (d : Tmp), i < n → dstAt l i = some d → (∀ k, dead i = some k → n ≤ k) → F i (vs d) w) → wpList P l.toArray Q (l.drop n) ((dsts (l.take n)).foldl (fun b d => b.put (some d) (vs d)) a0) w) :
    (Code.region id l.toArray true).wp P Q a0 w0 := by
  simp only [frBN, Bool.and_eq_true, decide_eq_true_eq] at hB
  obtain ⟨⟨⟨⟨⟨⟨hn, hs⟩, hc⟩, hseq⟩, h1⟩, h2⟩, h3⟩ := hB
  have hsz : ∀ (i : Nat) (o : Oper) (d : Tmp), l[i]? = some o → o.dst = some d → d < a0.tmps.size := fun i o d ho hd => by
    have := List.all_eq_true.1 h1 o (List.mem_of_getElem? ho)
    simpa [hd] using this
  have hback : ∀ (i : Nat) (o : Oper), l[i]? = some o → ∀ e ∈ o.after, Region.binds .any e = true → e.on < i := fun i o ho e he hb => by
    have := List.all_eq_true.1 h3 i (List.mem_range.2 (List.getElem?_eq_some_iff.1 ho).1)
    rw [ho] at this
    simp only [Option.all_some, Array.all_eq_true_iff_forall_mem] at this
    have := this e he
    simpa [hb] using this
  have hdist : ∀ (i j : Nat) (o p : Oper) (d : Tmp), i < n → j < n → l[i]? = some o → l[j]? = some p → o.dst = some d → p.dst = some d → i = j := fun i j o p d hi hj ho hp hod hpd =>
    dst_inj (l.take n) h2 i j o p d (by rw [List.getElem?_take, if_pos hi]; exact ho) (by rw [List.getElem?_take, if_pos hj]; exact hp) hod hpd
  have inv0 : HeadInv .any l.toArray n (Array.replicate l.toArray.size false) :=
    ⟨by simp, fun j oj _ hl => (by rw [getD_replicate_false] at hl; cases hl), fun t _ ht => getD_in (by simpa using ht) (getD_replicate_false _ _)⟩
  have finv0 : FInvN l F dead C n a0 (Array.replicate l.toArray.size false) a0 w0.drew :=
    ⟨h0, fun i o d _ _ _ hl _ => (by rw [getD_replicate_false] at hl; cases hl), fun _ _ => rfl, rfl, rfl⟩
  have hleft : leftN (Array.replicate l.toArray.size false) n = n := by
    unfold leftN
    have : (List.range n).filter (fun i => !(Array.replicate l.toArray.size false).getD i true) = List.range n := List.filter_eq_self.2 fun i hi => by
      have hi' := List.mem_range.1 hi
      have : i < l.length := by omega
      simp [this]
    rw [this, List.length_range]
  refine wp_region_any hm ?_
  have := wpAny_head (F := F) (dead := dead) (E := E) (C := C) (Q := Q) (g := l.length - n) hn hs hc hdist hsz mono hE (StepsHN.steps _ _ steps) hback (fun listed a w hv inv hl => ?_) n _ a0 w0.drew inv0 finv0 hleft
  · have e : n + (l.length - n) = l.toArray.size := by simp; omega
    rw [e] at this
    exact this
  · have hz := leftN_zero hl
    have hlist : listed = Array.replicate n true ++ Array.replicate (l.length - n) false := by
      have hls := hv.size
      apply Array.ext
      · simp at hls ⊢; omega
      · intro i hi1 hi2
        by_cases hin : i < n
        · have := hz i hin
          rw [Array.getElem_append_left (by simpa using hin)]
          simp [hi1] at this ⊢
          exact this
        · rw [Array.getElem_append_right (by simpa using Nat.le_of_not_lt hin)]
          have := hv.tail i (by omega) (by rw [← hls]; exact hi1)
          simp [hi1] at this ⊢
          exact this
    have hseq' : Region.seqB .any l.toArray (l.drop n).length n listed = true := by rw [hlist, List.length_drop]; exact hseq
    have hgo := wpAny_of_seq (md := .any) (Q' := Q) (P := P) (l.drop n) n listed a w (fun j => by simp [List.getElem?_drop]) hseq' (by
      rw [act_of (l := dsts (l.take n)) inv.tsize inv.defers inv.same]
      refine fin (fun d => a.tmps.getD d undef) w inv.below fun i d hi hid hdk => ?_
      obtain ⟨o, ho, hd⟩ := Option.bind_eq_some_iff.1 hid
      refine inv.facts i o d hi ho hd (getD_in' (hz i hi) (by have := hv.size; simp at this; omega)) (fun k hk => ?_)
      have hkn := hdk k hk
      by_cases hkl : k < l.length
      · exact getD_both (hv.tail k hkn (by simpa using hkl))
      · have := hv.size
        simp at this
        simp [show listed.size ≤ k by omega])
    rw [List.length_drop] at hgo
    exact hgo
end Go.Proofs.YtajnhkkiddeegaaGreat
namespace Go.Proofs.YtajnhkkiddeegaaGreat
open Go.RowKit Go.Sort
structure ES where
  o : Nat
  q : List Int
def eStep (T : Nat → Bool) (s : ES) (f : Nat) : ES := if hasB s.o f = false ∧ T f = true then ⟨s.o ||| 2 ^ f, s.q ++ [(f : Int)]⟩ else s
theorem eStep_yes {T : Nat → Bool} {s : ES} {f : Nat} (h1 : hasB s.o f = false) (h2 : T f = true) : eStep T s f = ⟨s.o ||| 2 ^ f, s.q ++ [(f : Int)]⟩ := by rw [eStep, if_pos ⟨h1, h2⟩]
theorem eStep_no {T : Nat → Bool} {s : ES} {f : Nat} (h : ¬ (hasB s.o f = false ∧ T f = true)) : eStep T s f = s := by rw [eStep, if_neg h]
def eVis (T : Nat → Bool) (L : List Int) (s : ES) : Nat → ES
  | 0 => s
  | k + 1 => eStep T (eVis T L s k) (ia L k).toNat
/-- Both ends of an edge, as far as so many of them. -/
def eEnd (es : List (Int × Int)) (vE : Nat → Int) (T : Nat → Bool) (u : Nat) (s : ES) : Nat → ES
  | 0 => s
  | k + 1 => eVis T (atL es (vE (2 * u + k))) (eEnd es vE T u s k) (atL es (vE (2 * u + k))).length
def eBfs (es : List (Int × Int)) (vE : Nat → Int) (T : Nat → Bool) (s : ES) : Nat → ES
  | 0 => s
  | i + 1 => if i < (eBfs es vE T s i).q.length then eEnd es vE T (ia (eBfs es vE T s i).q i).toNat (eBfs es vE T s i) 2 else eBfs es vE T s i
structure EInv (m : Nat) (s : ES) : Prop where
  nd : s.q.Nodup
  rng : ∀ f, f ∈ s.q → 0 ≤ f ∧ f < (m : Int)
  has : ∀ f, f ∈ s.q → hasB s.o f = true
theorem EInv.step {m : Nat} {T : Nat → Bool} {s : ES} {f : Nat} (h : EInv m s) (hf : f < m) : EInv m (eStep T s f) := by
  by_cases hc : hasB s.o f = false ∧ T f = true
  · rw [eStep_yes hc.1 hc.2]
    refine ⟨?_, fun x hx => ?_, fun x hx => ?_⟩
    · show (s.q ++ [(f : Int)]).Nodup
      rw [List.nodup_append]
      refine ⟨h.nd, by simp, fun x hx y hy e => ?_⟩
      obtain rfl : y = f := by simpa using hy
      subst e
      have := h.has _ hx
      rw [hc.1] at this; cases this
    · rcases List.mem_append.1 hx with hx | hx
      · exact h.rng x hx
      · obtain rfl : x = f := by simpa using hx
        omega
    · have hb : ∀ y : Int, hasB (s.o ||| 2 ^ f) y = (hasB s.o y || decide (f = y.toNat)) := fun y => by
        unfold hasB; rw [Nat.testBit_or, Nat.testBit_two_pow]
      show hasB (s.o ||| 2 ^ f) x = true
      rw [hb]
      rcases List.mem_append.1 hx with hx | hx
      · rw [h.has x hx]; rfl
      · obtain rfl : x = f := by simpa using hx
        simp
  · rw [eStep_no hc]; exact h
theorem EInv.vis {es : List (Int × Int)} {T : Nat → Bool} {v : Int} {s : ES} (h : EInv es.length s) : ∀ k, k ≤ (atL es v).length → EInv es.length (eVis T (atL es v) s k) := by
  intro k
  induction k with
  | zero => intro _; exact h
  | succ k ih =>
    intro hk
    obtain ⟨f, hf, e, hv⟩ := atL_at (es := es) (u := v) (k := k) (by omega)
    simp only [eVis]
    rw [e, Int.toNat_natCast]
    exact (ih (by omega)).step hf
theorem EInv.ends {es : List (Int × Int)} {vE : Nat → Int} {T : Nat → Bool} {u : Nat} {s : ES} (h : EInv es.length s) : ∀ k, EInv es.length (eEnd es vE T u s k) := by
  intro k
  induction k with
  | zero => exact h
  | succ k ih => exact ih.vis _ (Nat.le_refl _)
theorem EInv.bfs {es : List (Int × Int)} {vE : Nat → Int} {T : Nat → Bool} {s : ES} (h : EInv es.length s) : ∀ i, EInv es.length (eBfs es vE T s i) := by
  intro i
  induction i with
  | zero => exact h
  | succ i ih =>
    rw [eBfs]
    split
    · exact ih.ends 2
    · exact ih
theorem EInv.len {m : Nat} {s : ES} (h : EInv m s) : s.q.length ≤ m := by
  refine inj_le m s.q.length (fun i => (ia s.q i).toNat) (fun i hi => ?_) (fun i j hi hj e => ?_)
  · have := h.rng _ (iaMem hi); omega
  · have h1 := h.rng _ (iaMem hi)
    have h2 := h.rng _ (iaMem hj)
    have e2 : ia s.q i = ia s.q j := by omega
    have hp := List.pairwise_iff_getElem.1 h.nd
    have e3 : s.q[i] = s.q[j] := by simpa [ia, hi, hj] using e2
    rcases Nat.lt_trichotomy i j with hlt | heq | hgt
    · exact absurd e3 (hp i j hi hj hlt)
    · exact heq
    · exact absurd e3.symm (hp j i hj hi hgt)
theorem EInv.one {m : Nat} {o e : Nat} (h : e < m) (ho : hasB o e = true) : EInv m ⟨o, [(e : Int)]⟩ :=
  ⟨by simp, fun f hf => by simp at hf; omega, fun f hf => by simp at hf; subst hf; exact ho⟩
end Go.Proofs.YtajnhkkiddeegaaGreat
namespace Go.Proofs.YtajnhkkiddeegaaGreat
open Go.RowKit Go.Sort
end Go.Proofs.YtajnhkkiddeegaaGreat
