import Derived.Test.YtccinfmphkihoaaCv
import Derived.Test.YtccinfmphkihoaaMb
import Derived.Test.YtccinfmphkihoaaLh
import Derived.Test.YtccinfmphkihoaaEc
namespace Go.Proofs.Ytccinfmphkihoaa
open Go.RowKit Go.Sort
/-! ### PartsOf, SidesOf -/
noncomputable def poL (n : Int) (es : List (Int × Int)) : List (List Int) := if B (IsG n es) then sdTo es noSk n.toNat n.toNat else []
theorem sdTo_rows (es : List (Int × Int)) (sk : Nat → Bool) (N k : Nat) : ∀ j, (ra (sdTo es sk N k) j).length ≤ N := by
  induction k with
  | zero => intro j; simp [sdTo, ra]
  | succ k ih =>
    intro j
    by_cases hc : leadF es sk k = k
    · rw [sdTo_yes hc]
      by_cases hj : j < (sdTo es sk N k).length
      · rw [ra_app_lt hj]; exact ih j
      · by_cases hj2 : j = (sdTo es sk N k).length
        · subst hj2; rw [ra_app_at]; exact cmTo_len _ _ _ _
        · simp only [ra, List.getD_eq_getElem?_getD]
          rw [List.getElem?_eq_none (by simp; omega)]; simp
    · rw [sdTo_no hc]; exact ih j
set_option maxRecDepth 100000 in
set_option maxHeartbeats 3200000 in
theorem spPartsOf_any (n : Int) (b o m c : Nat) (es : List (Int × Int)) (w : World) (h : Eds w b o m es) (hm : m ≤ 1048576) :
    Calls Try.prog 26 #[.agg #[.int .i64 n, .slice (some ⟨b, o, none⟩) m c]] w (RetLLC (poL n es) (imC n es) w) := by
  have hbox := Box2.made w (.int .i64 n) (.slice (some ⟨b, o, none⟩) m c) 30
  have hbb := (by go_grown : Below w.heap.size w (w.alloc (.cells #[.int .i64 n, .slice (some ⟨b, o, none⟩) m c] 30)))
  have HSP := Lib.hid (l01Is_any n b o m c es _ (h.alloc (.cells #[.int .i64 n, .slice (some ⟨b, o, none⟩) m c] 30)) hm)
  by_cases hG : IsG n es
  rotate_left
  · have HC : imC n es = 1 := by simp [imC, B_false hG]
    have HR : Hid (poL n es = []) := by simp [Hid, poL, B_false hG]
    rw [HC]
    rw [B_false hG] at HSP
    clear hG hbox HC
    go_enter Try.func26, Try.ntmps26
    go_wp2_with fail
    refine HSP.out.mono ?_
    rintro e w1 ⟨rfl, hb1⟩
    have hB1 := hbb.thenB (by simp) hb1
    clear hb1 hbb
    go_wp2_with fail
    go_ret2
    exact retLLC_nil HR.out hB1
  have HC : imC n es = 0 := by simp [imC, B_true hG]
  have HR : Hid (poL n es = sdTo es noSk n.toNat n.toNat) := by simp [Hid, poL, B_true hG]
  rw [HC]
  have HW := Lib.hid hG.wf
  rw [B_true hG] at HSP
  have hn2 := hG.wf.1
  have hn20 := hG.wf.2.1
  obtain ⟨N, rfl⟩ : ∃ N : Nat, n = N := ⟨n.toNat, by omega⟩
  rw [Int.toNat_natCast] at HR
  clear hG HC
  go_enter Try.func26, Try.ntmps26
  go_wp2_with fail
  refine HSP.out.mono ?_
  rintro e w1 ⟨rfl, hb1⟩
  have hB1 := hbb.thenB (by simp) hb1
  have hbx := hbox.below hb1
  have HBX := Lib.hid hbx.lt
  obtain ⟨s1, p1, q1⟩ := hbox.below hb1
  have HBL := Lib.hid hB1.size
  clear hb1 hbb hbox
  go_wp2_with (go_at_call 65; refine (leaders_any N b o m c es _ (h.below hB1) hm HW.out.inR (by omega) (by omega)).mono ?_; rintro e w2 ⟨AL, cl, rfl, OL, hb2⟩)
  obtain ⟨gl, rfl, hbg, hlg⟩ : ∃ g, AL = some ⟨g, 0, none⟩ ∧ w1.heap.size ≤ g ∧ g < w2.heap.size := by
    rcases OL.cases with ⟨_, h0, _⟩ | h0
    · rw [lsF_len] at h0; omega
    · exact h0
  rw [lsF_len] at OL ⊢
  have HBW := Lib.hid hb2.size
  have OV0 : ∃ top, OwnLL w1.heap.size top (w2.alloc (.cells #[] 34)) (some ⟨w2.heap.size, 0, none⟩) 0 0 [] ∧ w2.heap.size ≤ top := ⟨_, OwnLL.empty _ hb2.size, by omega⟩
  have OL := OL.below ((Below.refl w2.heap.size w2).alloc (Nat.le_refl _) (.cells #[] 34))
  have NE0 : ∀ y, blkOf (some (⟨w2.heap.size, 0, none⟩ : Addr)) = some y → y ≠ gl := fun y hy => by simp [blkOf] at hy; omega
  have HB0 := hb2.andB ((Below.refl w2.heap.size w2).alloc (Nat.le_refl _) (.cells #[] 34))
  clear s1 p1 q1 hb2 hbg
  have hbw : w1.heap.size ≤ w2.heap.size := HBW.out
  go_loopw [5, 6] (fun ov vv wr => ∃ (v : Nat) (A : Option Addr) (c' : Nat), v ≤ N ∧ vv = .int .i64 v ∧ ov = .slice A (sdTo es (noSk) N v).length c' ∧ (∃ top, OwnLL w1.heap.size top wr A (sdTo es (noSk) N v).length c' (sdTo es (noSk) N v) ∧ w2.heap.size ≤ top) ∧ OwnL w1.heap.size wr (some ⟨gl, 0, none⟩) N cl (lsF (leadF es (noSk)) N) ∧ (∀ y, blkOf A = some y → y ≠ gl) ∧ Below w1.heap.size w1 wr) (fun _ v _ => N - (intOf v).toNat)
  case atStart => exact ⟨0, _, _, Nat.zero_le _, rfl, rfl, OV0, OL, NE0, HB0⟩
  case round =>
    clear OV0 OL NE0 HB0
    obtain ⟨v, A, c', hv, rfl, rfl, ⟨top, O, ht⟩, OL, NE, hb1⟩ := hrel
    have hbr := hB1.trans (hb1.mono HBL.out)
    obtain ⟨z1, pp1, qq1⟩ := Box2.upto hbx HBX.out hb1
    have hln : (sdTo es (noSk) N v).length ≤ v := by rw [sdTo_len]; exact ldCnt_le es _ v
    have hsz := O.2.1
    by_cases hlt : v < N
    · have l1 := OL.cell hlt
      rw [lsF_at _ hlt] at l1
      have hgl := (OL.blk gl rfl).2
      by_cases hld : leadF es (noSk) v = v
      · have hne : (leadF es (noSk) v != v) = false := by simp [hld]
        have HLD := Lib.hid hld
        have HE := Lib.hid (sdTo_yes (N := N) hld)
        have HE2 : Hid ((sdTo es (noSk) N (v + 1)).length = (sdTo es (noSk) N v).length + 1) := by show _ = _; rw [HE.out]; simp
        have HLO := Lib.hid (cmTo_low hld)
        clear hld
        go_wp2_with fail
        obtain ⟨w4, rfl⟩ : ∃ w4, w4 = wr := ⟨wr, rfl⟩
        have OP : OwnL w4.heap.size (w4.alloc (.cells #[] 2)) (some ⟨w4.heap.size, 0, none⟩) 0 0 [] := OwnL.empty _ _ _ (Nat.le_refl _) (heap_alloc_new w4 _)
        go_loopw [7, 8] (fun pv uv wv => ∃ (u : Nat) (A2 : Option Addr) (c2' : Nat), v ≤ u ∧ u ≤ N ∧ uv = .int .i64 u ∧ pv = .slice A2 (cmTo es (noSk) v u).length c2' ∧ OwnL w4.heap.size wv A2 (cmTo es (noSk) v u).length c2' (cmTo es (noSk) v u) ∧ Below w4.heap.size w4 wv) (fun _ u _ => N - (intOf u).toNat)
        case atStart => exact ⟨v, _, _, Nat.le_refl _, by omega, rfl, by rw [HLO.out]; rfl, by rw [HLO.out]; exact OP, (Below.refl _ _).alloc (Nat.le_refl _) _⟩
        case round =>
          clear OP
          obtain ⟨u, A2, c2', hvu, hu, rfl, rfl, ho, hbu⟩ := hrel
          have hcl := cmTo_len es (noSk) v u
          have hszu := hbu.size
          obtain ⟨z2, pp2, qq2⟩ := Box2.below ⟨z1, pp1, qq1⟩ hbu
          have OL2 := OL.below hbu
          by_cases hltu : u < N
          · have l2 := OL2.cell hltu
            rw [lsF_at _ hltu] at l2
            have hli := Lib.hid (lead_is (es := es) (sk := noSk) (v := v) (w := u) HLD.out)
            by_cases hr : leadF es (noSk) u = v
            · have hq : (leadF es (noSk) u == v) = true := by simp [hr]
              have e := cmTo_yes (hli.out.1 hr)
              have HC := Lib.hid e
              have HC2 : Hid ((cmTo es (noSk) v (u + 1)).length = (cmTo es (noSk) v u).length + 1) := by show _ = _; rw [e]; simp
              clear hr e
              go_wp2_with (first
                | (at_builtin; refine wp_appL1 rfl rfl rfl rfl rfl ho (by omega) (by omega) ?_; intro A3 c3 w5 ho3 hg5 hat5))
              have hb5 := hbu.grown hg5 hszu (fun y hy => (ho.blk y hy).1)
              go_roundw
              case rel => exact ⟨u + 1, A3, c3, by omega, by omega, by go_num, by rw [HC2.out], by rw [HC2.out, HC.out]; exact ho3, hb5⟩
              case measure => simp [intOf]; omega
            · have hq : (leadF es (noSk) u == v) = false := by simp [hr]
              have HC := Lib.hid (cmTo_no (fun hh => hr (hli.out.2 hh)))
              clear hr
              go_wp2_with fail
              go_roundw
              case rel => exact ⟨u + 1, A2, c2', by omega, by omega, by go_num, by rw [HC.out], by rw [HC.out]; exact ho, hbu⟩
              case measure => simp [intOf]; omega
          · obtain rfl : u = N := by omega
            have O := (O.raise O.2.1 (Nat.le_refl _)).below hbu
            have hb3 := hb1.trans (hbu.mono (by have := hb1.size; have := HBW.out; omega))
            have ho' := ho.mono (show w1.heap.size ≤ w4.heap.size by have := HBW.out; have := hb1.size; omega)
            have hnew : ∀ g, blkOf A2 = some g → w4.heap.size ≤ g := fun g hg => (ho.blk g hg).1
            have hbs : w1.heap.size ≤ wr.heap.size := by have := HBW.out; have := hb1.size; omega
            clear ho
            go_wp2_with (first
              | (at_builtin; refine wp_appR1 rfl rfl rfl rfl rfl rfl O ho' hnew hbs (by omega) ?_; intro A3 c3 w5 O5 hg5 hat5))
            have hb5 := hb3.grown hg5 hbs (fun y hy => (O.blk y hy).1)
            have OL5 := OL2.kept hg5 (.inr (fun e => by
              cases hA : blkOf A with
              | none => rw [hA] at e; cases e
              | some y => rw [hA] at e; exact NE y hA (Option.some.inj e).symm))
            have NE5 : ∀ y, blkOf A3 = some y → y ≠ gl := fun y hy e => by
              rcases hat5 with h1 | ⟨g1, h1, h2⟩
              · exact NE y (by rw [← h1]; exact hy) e
              · rw [h1] at hy; obtain rfl := Option.some.inj hy; omega
            go_roundw
            case rel => exact ⟨v + 1, A3, c3, by omega, by go_num, by rw [HE2.out], ⟨_, by rw [HE2.out, HE.out]; exact O5, by have := hg5.size; omega⟩, OL5, NE5, hb5⟩
            case measure => simp [intOf]; omega
      · have hne : (leadF es (noSk) v != v) = true := by simp [hld]
        have HE := Lib.hid (sdTo_no (N := N) hld)
        clear hld
        go_wp2_with fail
        go_roundw
        case rel => exact ⟨v + 1, A, c', by omega, by go_num, by rw [HE.out], ⟨top, by rw [HE.out]; exact O, ht⟩, OL, NE, hb1⟩
        case measure => simp [intOf]; omega
    · obtain rfl : v = N := by omega
      go_wp2_with fail
      go_ret2
      exact retLLC_of HR.out.symm hB1 (O.raise O.2.1 (Nat.le_refl _)) hb1
set_option maxHeartbeats 400000 in
theorem imPartsOf_any (n : Int) (b o m c : Nat) (es : List (Int × Int)) (w : World) (h : Eds w b o m es) (hm : m ≤ 1048576) :
    Calls Try.prog 27 #[.agg #[.int .i64 n, .slice (some ⟨b, o, none⟩) m c]] w (RetLLC (poL n es) (imC n es) w) := by
  have hbox := Box2.made w (.int .i64 n) (.slice (some ⟨b, o, none⟩) m c) 30
  have hbb := (by go_grown : Below w.heap.size w (w.alloc (.cells #[.int .i64 n, .slice (some ⟨b, o, none⟩) m c] 30)))
  have HGC := Lib.hid (graphCode_any n b o m c es true _ (h.alloc (.cells #[.int .i64 n, .slice (some ⟨b, o, none⟩) m c] 30)) hm)
  by_cases hG : IsG n es
  · have HC : imC n es = 0 := by simp [imC, B_true hG]
    have HR : Hid (poL n es = sdTo es noSk n.toNat n.toNat) := by simp [Hid, poL, B_true hG]
    rw [HC]
    have HS0 := Lib.hid (fun W hE => skS_none ▸ sides_any n b o m c 0 es W hE hm hG.wf (by omega))
    rw [show gcC n es true = 0 by simp [gcC, B_true hG]] at HGC
    clear hG HC
    go_enter Try.func27, Try.ntmps27
    go_wp2_with fail
    refine HGC.out.mono ?_
    rintro e w1 ⟨rfl, hb1⟩
    have hB1 := hbb.thenB (by simp) hb1
    obtain ⟨s1, p1, q1⟩ := hbox.below hb1
    clear hb1 hbb hbox
    go_wp2_with fail
    refine (HS0.out _ (h.below hB1)).mono ?_
    rintro e w2 ⟨A, c', rfl, ho, hb2⟩
    go_wp2_with fail
    go_ret2
    exact retLLC_of HR.out.symm hB1 ho hb2
  · have HC : imC n es = 1 := by simp [imC, B_false hG]
    have HR : Hid (poL n es = []) := by simp [Hid, poL, B_false hG]
    rw [HC]
    rw [show gcC n es true = 1 by simp [gcC, B_false hG]] at HGC
    clear hG hbox HC
    go_enter Try.func27, Try.ntmps27
    go_wp2_with fail
    refine HGC.out.mono ?_
    rintro e w1 ⟨rfl, hb1⟩
    have hB1 := hbb.thenB (by simp) hb1
    clear hb1 hbb
    go_wp2_with fail
    go_ret2
    exact retLLC_nil HR.out hB1
noncomputable def soL (n : Int) (es : List (Int × Int)) (ls : Nat → Int) (l : Nat) : List (List Int) := if ecC n es ls l = 0 then sdTo es (skS (setN ls l)) n.toNat n.toNat else []
set_option maxRecDepth 100000 in
set_option maxHeartbeats 3200000 in
theorem spSidesOf_any (n : Int) (b o m c b2 o2 l c2 : Nat) (es : List (Int × Int)) (ls : Nat → Int) (w : World) (h : Eds w b o m es) (hm : m ≤ 1048576) (h2 : Ints w b2 o2 l ls) (hl2 : l ≤ 1048576) :
    Calls Try.prog 42 #[.agg #[.int .i64 n, .slice (some ⟨b, o, none⟩) m c], .slice (some ⟨b2, o2, none⟩) l c2] w (RetLLC (soL n es ls l) (ecC n es ls l) w) := by
  have hbox := Box2.made w (.int .i64 n) (.slice (some ⟨b, o, none⟩) m c) 30
  have hbb := (by go_grown : Below w.heap.size w (w.alloc (.cells #[.int .i64 n, .slice (some ⟨b, o, none⟩) m c] 30)))
  have HEC := Lib.hid (l03Edges_any n b o m c b2 o2 l c2 es ls _ (h.alloc (.cells #[.int .i64 n, .slice (some ⟨b, o, none⟩) m c] 30)) hm (h2.below hbb) hl2)
  have hc := ec_cases n es ls l
  rcases (show ecC n es ls l = 0 ∨ ecC n es ls l ≠ 0 from Classical.em _) with h0 | h0
  rotate_left
  · have HR : Hid (soL n es ls l = []) := by simp [Hid, soL, h0]
    obtain ⟨K, hK⟩ : ∃ K, ecC n es ls l = K := ⟨_, rfl⟩
    rw [hK] at HEC h0 ⊢
    have hkb : (K != 0) = true := by simpa using h0
    clear hK hc h0
    go_enter Try.func42, Try.ntmps42
    go_wp2_with fail
    refine HEC.out.mono ?_
    rintro e w1 ⟨rfl, hb1⟩
    have hB1 := hbb.thenB (by simp) hb1
    clear hb1 hbb hbox
    go_wp2_with fail
    go_ret2
    exact retLLC_nil HR.out hB1
  have hGS : IsG n es ∧ SetP ls l ((es.length : Int) - 1) := by
    rcases hc with ⟨_, e⟩ | ⟨_, _, e⟩ | ⟨h1, h3, _⟩
    · rw [e] at h0; cases h0
    · rw [e] at h0; cases h0
    · exact ⟨h1, h3⟩
  have HG := Lib.hid hGS
  have hn2 := hGS.1.wf.1
  have hn20 := hGS.1.wf.2.1
  have hl := Lib.hid h.len
  have HR : Hid (soL n es ls l = sdTo es (skS (setN ls l)) n.toNat n.toNat) := by simp [Hid, soL, h0]
  rw [h0] at HEC ⊢
  obtain ⟨N, rfl⟩ : ∃ N : Nat, n = N := ⟨n.toNat, by omega⟩
  rw [Int.toNat_natCast] at HR
  have HRE : Hid (∀ W, Eds W b o m es → Ints W b2 o2 l ls → Calls Try.prog 55 #[.agg #[.int .i64 N, .slice (some ⟨b, o, none⟩) m c], .slice (some ⟨b2, o2, none⟩) l c2] W (RetE (restE es (skS (setN ls l))) W)) := fun W hE hI => rest_any N b o m c b2 o2 l c2 es ls _ W hE hm hI hl2 HG.out.2
  have HLE : Hid (∀ W g c2, Eds W g 0 (restE es (skS (setN ls l))).length (restE es (skS (setN ls l))) → Calls Try.prog 65 #[.int .i64 N, .slice (some ⟨g, 0, none⟩) (restE es (skS (setN ls l))).length c2] W (RetL (lsF (leadF es (skS (setN ls l))) N) W)) := fun W g c2 hE => by
    have e : lsF (leadF es (skS (setN ls l))) N = lsF (leadF (restE es (skS (setN ls l))) noSk) N := lsF_congr (fun v _ => (lead_rest _ _ _).symm)
    rw [e]
    exact leaders_any N g 0 _ c2 _ W hE (by have := restTo_len es (skS (setN ls l)) es.length; have := hl.out; show (restTo _ _ _).length ≤ _; omega) (inR_rest HG.out.1.wf.inR) (by omega) (by omega)
  clear hc hGS h0
  go_enter Try.func42, Try.ntmps42
  go_wp2_with fail
  refine HEC.out.mono ?_
  rintro e w1 ⟨rfl, hb1⟩
  have hB1 := hbb.thenB (by simp) hb1
  have hbx := hbox.below hb1
  have HBX := Lib.hid hbx.lt
  have HBL := Lib.hid hB1.size
  obtain ⟨s1, pp1, qq1⟩ := hbox.below hb1
  have E := h.below hB1
  have I := h2.below hB1
  clear hb1 hbb hbox
  obtain ⟨sk, hsk⟩ : ∃ sk, skS (setN ls l) = sk := ⟨_, rfl⟩
  rw [hsk] at HR HRE HLE
  clear hsk
  go_wp2_with fail
  refine wp_region_facts (fun i v W => match i with
    | 0 => v = .pointer (some ⟨w.heap.size, 0, none⟩)
    | 1 => v = .int .i64 N
    | 2 => v = .agg #[.int .i64 N, .slice (some ⟨b, o, none⟩) m c]
    | 3 => v = .slice (some ⟨b2, o2, none⟩) l c2
    | 4 => NewE w1.heap.size (restE es (sk)) v W
    | 5 => NewL w1.heap.size (lsF (leadF es (sk)) N) v W
    | 6 => NewLL w1.heap.size ([]) v W
    | 7 => NewL w1.heap.size (lsF (leadF es (sk)) N) v W
    | _ => NewLL w1.heap.size ([]) v W) (by kernel_rfl) (by kernel_rfl) ?_ ?_ ?_
  · intro i v W W' hf hb
    match i, hf with
    | 0, hf => exact hf
    | 1, hf => exact hf
    | 2, hf => exact hf
    | 3, hf => exact hf
    | 4, hf => exact NewE.below hf hb
    | 5, hf => exact NewL.below hf hb
    | 6, hf => exact NewLL.below hf hb
    | 7, hf => exact NewL.below hf hb
    | (i + 8), hf => exact NewLL.below hf hb
  · refine ⟨?_, ?_, ?_, ?_, ?_, ?_, ?_, ?_, ?_, trivial⟩
    · intro a W hW hs hd
      have e2 : a.tmps[2]?.getD undef = .pointer (some ⟨w.heap.size, 0, none⟩) := hs 2 (by kernel_rfl)
      have k0 := (hW.cell (p := ⟨w.heap.size, 0, none⟩) (s1)).trans (pp1)
      have k1 := (hW.cell (p := ⟨w.heap.size, 1, none⟩) (s1)).trans (qq1)
      clear hs hd
      unfold Grows
      go_simp
      exact Below.refl _ _
    · intro a W hW hs hd
      have e18 : (a.tmps[18]?.getD undef) = .pointer (some ⟨w.heap.size, 0, none⟩) := hd 0 18 (by kernel_rfl) (by kernel_rfl)
      have k0 := (hW.cell (p := ⟨w.heap.size, 0, none⟩) (s1)).trans (pp1)
      have k1 := (hW.cell (p := ⟨w.heap.size, 1, none⟩) (s1)).trans (qq1)
      clear hs hd
      unfold Grows
      go_simp
      exact Below.refl _ _
    · intro a W hW hs hd
      have e2 : a.tmps[2]?.getD undef = .pointer (some ⟨w.heap.size, 0, none⟩) := hs 2 (by kernel_rfl)
      have k0 := (hW.cell (p := ⟨w.heap.size, 0, none⟩) (s1)).trans (pp1)
      have k1 := (hW.cell (p := ⟨w.heap.size, 1, none⟩) (s1)).trans (qq1)
      clear hs hd
      unfold Grows
      go_simp
      exact Below.refl _ _
    · intro a W hW hs hd
      have e1 : a.tmps[1]?.getD undef = .slice (some ⟨b2, o2, none⟩) l c2 := hs 1 (by kernel_rfl)
      clear hs hd
      unfold Grows
      go_simp
      exact Below.refl _ _
    · intro a W hW hs hd
      have e20 : (a.tmps[20]?.getD undef) = .agg #[.int .i64 N, .slice (some ⟨b, o, none⟩) m c] := hd 2 20 (by kernel_rfl) (by kernel_rfl)
      have e21 : (a.tmps[21]?.getD undef) = .slice (some ⟨b2, o2, none⟩) l c2 := hd 3 21 (by kernel_rfl) (by kernel_rfl)
      clear hs hd
      unfold Grows
      go_simp
      refine ⟨Below.refl _ _, (HRE.out W (E.below hW) (I.below hW)).mono ?_⟩
      rintro e w6 ⟨g6, c6, rfl, ho6, hb6⟩
      exact ⟨_, rfl, hb6, g6, c6, rfl, ho6.1, (ho6.mono (hW.size)).2⟩
    · intro a W hW hs hd
      have e19 : (a.tmps[19]?.getD undef) = .int .i64 N := hd 1 19 (by kernel_rfl) (by kernel_rfl)
      have e22 : NewE w1.heap.size (restE es (sk)) (a.tmps[22]?.getD undef) W := hd 4 22 (by kernel_rfl) (by kernel_rfl)
      obtain ⟨g22, c22, e22, O22⟩ := e22
      clear hs hd
      unfold Grows
      go_simp
      refine ⟨Below.refl _ _, (HLE.out W _ _ O22.eds).mono ?_⟩
      rintro e w6 ⟨A6, c6, rfl, ho6, hb6⟩
      exact ⟨_, rfl, hb6, A6, c6, rfl, ho6.mono (hW.size)⟩
    · intro a W hW hs hd
      clear hs hd
      unfold Grows
      go_simp
      exact ⟨(Below.refl _ _).alloc (Nat.le_refl _) _, _, _, rfl, _, OwnLL.empty _ hW.size⟩
    · intro a W hW hs hd
      have e23 : NewL w1.heap.size (lsF (leadF es (sk)) N) (a.tmps[23]?.getD undef) W := hd 5 23 (by kernel_rfl) (by kernel_rfl)
      obtain ⟨A23, c23, e23, O23⟩ := e23
      clear hs hd
      unfold Grows
      go_simp
      exact ⟨Below.refl _ _, A23, c23, rfl, O23⟩
    · intro a W hW hs hd
      have e24 : NewLL w1.heap.size ([]) (a.tmps[24]?.getD undef) W := hd 6 24 (by kernel_rfl) (by kernel_rfl)
      obtain ⟨A24, c24, e24, T24, O24⟩ := e24
      clear hs hd
      unfold Grows
      go_simp
      exact ⟨Below.refl _ _, A24, c24, rfl, T24, O24⟩
  intro vs W hW hf
  have f7 : NewL w1.heap.size (lsF (leadF es (sk)) N) (vs 7) W := hf 7 7 (by kernel_rfl)
  obtain ⟨A7, c7, f7, O7⟩ := f7
  have f8 : NewLL w1.heap.size ([]) (vs 8) W := hf 8 8 (by kernel_rfl)
  obtain ⟨A8, c8, f8, T8, O8⟩ := f8
  simp only [dsts, List.filterMap_cons, List.filterMap_nil, List.foldl_cons, List.foldl_nil, Act.put, List.setIfInBounds_toArray, List.set_cons_succ, List.set_cons_zero, f7, f8]
  clear hf
  obtain ⟨gl, hgl, hbg, hlg⟩ : ∃ g, A7 = some ⟨g, 0, none⟩ ∧ w1.heap.size ≤ g ∧ g < W.heap.size := by
    rcases O7.cases with ⟨_, h0, _⟩ | h0
    · rw [lsF_len] at h0; omega
    · exact h0
  subst hgl
  rw [lsF_len] at O7 ⊢
  have HBW := Lib.hid hW.size
  have OL := O7
  have NE0 : ∀ y, blkOf A8 = some y → y ≠ gl := O8.neL O7
  have HB0 := hW
  have OV0 : ∃ top, OwnLL w1.heap.size top W A8 0 c8 [] ∧ W.heap.size ≤ top := ⟨W.heap.size, O8.raise O8.2.1 (Nat.le_refl _), Nat.le_refl _⟩
  clear s1 pp1 qq1 hbg O8 O7 E I
  go_wp2_with fail
  have hbw : w1.heap.size ≤ W.heap.size := HBW.out
  go_loopw [8, 9] (fun ov vv wr => ∃ (v : Nat) (A : Option Addr) (c' : Nat), v ≤ N ∧ vv = .int .i64 v ∧ ov = .slice A (sdTo es (sk) N v).length c' ∧ (∃ top, OwnLL w1.heap.size top wr A (sdTo es (sk) N v).length c' (sdTo es (sk) N v) ∧ W.heap.size ≤ top) ∧ OwnL w1.heap.size wr (some ⟨gl, 0, none⟩) N c7 (lsF (leadF es (sk)) N) ∧ (∀ y, blkOf A = some y → y ≠ gl) ∧ Below w1.heap.size w1 wr) (fun _ v _ => N - (intOf v).toNat)
  case atStart => exact ⟨0, _, _, Nat.zero_le _, rfl, rfl, OV0, OL, NE0, HB0⟩
  case round =>
    clear OV0 OL NE0 HB0
    obtain ⟨v, A, c', hv, rfl, rfl, ⟨top, O, ht⟩, OL, NE, hb1⟩ := hrel
    have hbr := hB1.trans (hb1.mono HBL.out)
    obtain ⟨z1, pp1, qq1⟩ := Box2.upto hbx HBX.out hb1
    have hln : (sdTo es (sk) N v).length ≤ v := by rw [sdTo_len]; exact ldCnt_le es _ v
    have hsz := O.2.1
    by_cases hlt : v < N
    · have l1 := OL.cell hlt
      rw [lsF_at _ hlt] at l1
      have hgl := (OL.blk gl rfl).2
      by_cases hld : leadF es (sk) v = v
      · have hne : (leadF es (sk) v != v) = false := by simp [hld]
        have HLD := Lib.hid hld
        have HE := Lib.hid (sdTo_yes (N := N) hld)
        have HE2 : Hid ((sdTo es (sk) N (v + 1)).length = (sdTo es (sk) N v).length + 1) := by show _ = _; rw [HE.out]; simp
        have HLO := Lib.hid (cmTo_low hld)
        clear hld
        go_wp2_with fail
        obtain ⟨w4, rfl⟩ : ∃ w4, w4 = wr := ⟨wr, rfl⟩
        have OP : OwnL w4.heap.size (w4.alloc (.cells #[] 2)) (some ⟨w4.heap.size, 0, none⟩) 0 0 [] := OwnL.empty _ _ _ (Nat.le_refl _) (heap_alloc_new w4 _)
        go_loopw [10, 11] (fun pv uv wv => ∃ (u : Nat) (A2 : Option Addr) (c2' : Nat), v ≤ u ∧ u ≤ N ∧ uv = .int .i64 u ∧ pv = .slice A2 (cmTo es (sk) v u).length c2' ∧ OwnL w4.heap.size wv A2 (cmTo es (sk) v u).length c2' (cmTo es (sk) v u) ∧ Below w4.heap.size w4 wv) (fun _ u _ => N - (intOf u).toNat)
        case atStart => exact ⟨v, _, _, Nat.le_refl _, by omega, rfl, by rw [HLO.out]; rfl, by rw [HLO.out]; exact OP, (Below.refl _ _).alloc (Nat.le_refl _) _⟩
        case round =>
          clear OP
          obtain ⟨u, A2, c2', hvu, hu, rfl, rfl, ho, hbu⟩ := hrel
          have hcl := cmTo_len es (sk) v u
          have hszu := hbu.size
          obtain ⟨z2, pp2, qq2⟩ := Box2.below ⟨z1, pp1, qq1⟩ hbu
          have OL2 := OL.below hbu
          by_cases hltu : u < N
          · have l2 := OL2.cell hltu
            rw [lsF_at _ hltu] at l2
            have hli := Lib.hid (lead_is (es := es) (sk := sk) (v := v) (w := u) HLD.out)
            by_cases hr : leadF es (sk) u = v
            · have hq : (leadF es (sk) u == v) = true := by simp [hr]
              have e := cmTo_yes (hli.out.1 hr)
              have HC := Lib.hid e
              have HC2 : Hid ((cmTo es (sk) v (u + 1)).length = (cmTo es (sk) v u).length + 1) := by show _ = _; rw [e]; simp
              clear hr e
              go_wp2_with (first
                | (at_builtin; refine wp_appL1 rfl rfl rfl rfl rfl ho (by omega) (by omega) ?_; intro A3 c3 w5 ho3 hg5 hat5))
              have hb5 := hbu.grown hg5 hszu (fun y hy => (ho.blk y hy).1)
              go_roundw
              case rel => exact ⟨u + 1, A3, c3, by omega, by omega, by go_num, by rw [HC2.out], by rw [HC2.out, HC.out]; exact ho3, hb5⟩
              case measure => simp [intOf]; omega
            · have hq : (leadF es (sk) u == v) = false := by simp [hr]
              have HC := Lib.hid (cmTo_no (fun hh => hr (hli.out.2 hh)))
              clear hr
              go_wp2_with fail
              go_roundw
              case rel => exact ⟨u + 1, A2, c2', by omega, by omega, by go_num, by rw [HC.out], by rw [HC.out]; exact ho, hbu⟩
              case measure => simp [intOf]; omega
          · obtain rfl : u = N := by omega
            have O := (O.raise O.2.1 (Nat.le_refl _)).below hbu
            have hb3 := hb1.trans (hbu.mono (by have := hb1.size; have := HBW.out; omega))
            have ho' := ho.mono (show w1.heap.size ≤ w4.heap.size by have := HBW.out; have := hb1.size; omega)
            have hnew : ∀ g, blkOf A2 = some g → w4.heap.size ≤ g := fun g hg => (ho.blk g hg).1
            have hbs : w1.heap.size ≤ wr.heap.size := by have := HBW.out; have := hb1.size; omega
            clear ho
            go_wp2_with (first
              | (at_builtin; refine wp_appR1 rfl rfl rfl rfl rfl rfl O ho' hnew hbs (by omega) ?_; intro A3 c3 w5 O5 hg5 hat5))
            have hb5 := hb3.grown hg5 hbs (fun y hy => (O.blk y hy).1)
            have OL5 := OL2.kept hg5 (.inr (fun e => by
              cases hA : blkOf A with
              | none => rw [hA] at e; cases e
              | some y => rw [hA] at e; exact NE y hA (Option.some.inj e).symm))
            have NE5 : ∀ y, blkOf A3 = some y → y ≠ gl := fun y hy e => by
              rcases hat5 with h1 | ⟨g1, h1, h2⟩
              · exact NE y (by rw [← h1]; exact hy) e
              · rw [h1] at hy; obtain rfl := Option.some.inj hy; omega
            go_roundw
            case rel => exact ⟨v + 1, A3, c3, by omega, by go_num, by rw [HE2.out], ⟨_, by rw [HE2.out, HE.out]; exact O5, by have := hg5.size; omega⟩, OL5, NE5, hb5⟩
            case measure => simp [intOf]; omega
      · have hne : (leadF es (sk) v != v) = true := by simp [hld]
        have HE := Lib.hid (sdTo_no (N := N) hld)
        clear hld
        go_wp2_with fail
        go_roundw
        case rel => exact ⟨v + 1, A, c', by omega, by go_num, by rw [HE.out], ⟨top, by rw [HE.out]; exact O, ht⟩, OL, NE, hb1⟩
        case measure => simp [intOf]; omega
    · obtain rfl : v = N := by omega
      go_wp2_with fail
      go_ret2
      exact retLLC_of HR.out.symm hB1 (O.raise O.2.1 (Nat.le_refl _)) hb1
set_option maxRecDepth 100000 in
set_option maxHeartbeats 1600000 in
theorem imSidesOf_any (n : Int) (b o m c b2 o2 l c2 : Nat) (es : List (Int × Int)) (ls : Nat → Int) (w : World) (h : Eds w b o m es) (hm : m ≤ 1048576) (h2 : Ints w b2 o2 l ls) (hl2 : l ≤ 1048576) :
    Calls Try.prog 43 #[.agg #[.int .i64 n, .slice (some ⟨b, o, none⟩) m c], .slice (some ⟨b2, o2, none⟩) l c2] w (RetLLC (soL n es ls l) (ecC n es ls l) w) := by
  have hbox := Box2.made w (.int .i64 n) (.slice (some ⟨b, o, none⟩) m c) 30
  have hbb := (by go_grown : Below w.heap.size w (w.alloc (.cells #[.int .i64 n, .slice (some ⟨b, o, none⟩) m c] 30)))
  have HEC := Lib.hid (edgesCode_any n b o m c b2 o2 l c2 es ls _ (h.alloc (.cells #[.int .i64 n, .slice (some ⟨b, o, none⟩) m c] 30)) hm (h2.below hbb) hl2)
  have hc := ec_cases n es ls l
  rcases (show ecC n es ls l = 0 ∨ ecC n es ls l ≠ 0 from Classical.em _) with h0 | h0
  rotate_left
  · have HR : Hid (soL n es ls l = []) := by simp [Hid, soL, h0]
    obtain ⟨K, hK⟩ : ∃ K, ecC n es ls l = K := ⟨_, rfl⟩
    rw [hK] at HEC h0 ⊢
    have hkb : (K != 0) = true := by simpa using h0
    clear hK hc h0
    go_enter Try.func43, Try.ntmps43
    go_wp2_with fail
    refine HEC.out.mono ?_
    rintro e w1 ⟨rfl, hb1⟩
    have hB1 := hbb.thenB (by simp) hb1
    clear hb1 hbb hbox
    go_wp2_with fail
    go_ret2
    exact retLLC_nil HR.out hB1
  have hGS : IsG n es ∧ SetP ls l ((es.length : Int) - 1) := by
    rcases hc with ⟨_, e⟩ | ⟨_, _, e⟩ | ⟨h1, h3, _⟩
    · rw [e] at h0; cases h0
    · rw [e] at h0; cases h0
    · exact ⟨h1, h3⟩
  have HG := Lib.hid hGS
  have hm30 : es.length ≤ 30 := by have := hGS.1.wf.2.2.2.1; have := hGS.1.wf.2.1; omega
  have HR : Hid (soL n es ls l = sdTo es (skS (setN ls l)) n.toNat n.toNat) := by simp [Hid, soL, h0]
  rw [h0] at HEC ⊢
  have HV : Hid (∀ j, j < l → 0 ≤ ls j ∧ ls j ≤ 63) := fun j hj => by have := (hGS.2 j hj).1; omega
  have hsl := setN_lt (ls := ls) (k := l) (fun j hj => (HV.out j hj).2)
  have HSD := Lib.hid (fun W hE => sides_any n b o m c (setN ls l) es W hE hm HG.out.1.wf hsl)
  obtain ⟨rows, hrows⟩ : ∃ rows, sdTo es (skS (setN ls l)) n.toNat n.toNat = rows := ⟨_, rfl⟩
  rw [hrows] at HR HSD
  clear hc hGS h0 hsl hrows
  go_enter Try.func43, Try.ntmps43
  go_wp2_with fail
  refine HEC.out.mono ?_
  rintro e w1 ⟨rfl, hb1⟩
  have hB1 := hbb.thenB (by simp) hb1
  obtain ⟨s1, pp1, qq1⟩ := hbox.below hb1
  have E := h.below hB1
  have I := h2.below hB1
  clear hb1 hbb hbox
  go_wp2_with fail
  refine wp_region_facts (fun i v W => match i with
    | 0 => v = .agg #[.int .i64 n, .slice (some ⟨b, o, none⟩) m c]
    | 1 => v = .slice (some ⟨b2, o2, none⟩) l c2
    | 2 => v = .int .u64 (setN ls l)
    | 3 => NewLL w1.heap.size (rows) v W
    | 4 => NewLL w1.heap.size (rows) v W
    | _ => v = .int .i64 0) (by kernel_rfl) (by kernel_rfl) ?_ ?_ ?_
  · intro i v W W' hf hb
    match i, hf with
    | 0, hf => exact hf
    | 1, hf => exact hf
    | 2, hf => exact hf
    | 3, hf => exact NewLL.below hf hb
    | 4, hf => exact NewLL.below hf hb
    | (i + 5), hf => exact hf
  · refine ⟨?_, ?_, ?_, ?_, ?_, ?_, trivial⟩
    · intro a W hW hs hd
      have e2 : a.tmps[2]?.getD undef = .pointer (some ⟨w.heap.size, 0, none⟩) := hs 2 (by kernel_rfl)
      have k0 := (hW.cell (p := ⟨w.heap.size, 0, none⟩) (s1)).trans (pp1)
      have k1 := (hW.cell (p := ⟨w.heap.size, 1, none⟩) (s1)).trans (qq1)
      clear hs hd
      unfold Grows
      go_simp
      exact Below.refl _ _
    · intro a W hW hs hd
      have e1 : a.tmps[1]?.getD undef = .slice (some ⟨b2, o2, none⟩) l c2 := hs 1 (by kernel_rfl)
      clear hs hd
      unfold Grows
      go_simp
      exact Below.refl _ _
    · intro a W hW hs hd
      have e14 : (a.tmps[14]?.getD undef) = .slice (some ⟨b2, o2, none⟩) l c2 := hd 1 14 (by kernel_rfl) (by kernel_rfl)
      clear hs hd
      unfold Grows
      go_simp
      refine ⟨Below.refl _ _, (Is.ret (setOf_any b2 o2 l c2 ls _ (I.below hW) hl2 HV.out)).mono ?_⟩
      rintro e w6 ⟨rfl, hb6⟩
      exact ⟨_, rfl, hb6, rfl⟩
    · intro a W hW hs hd
      have e13 : (a.tmps[13]?.getD undef) = .agg #[.int .i64 n, .slice (some ⟨b, o, none⟩) m c] := hd 0 13 (by kernel_rfl) (by kernel_rfl)
      have e15 : (a.tmps[15]?.getD undef) = .int .u64 (setN ls l) := hd 2 15 (by kernel_rfl) (by kernel_rfl)
      clear hs hd
      unfold Grows
      go_simp
      refine ⟨Below.refl _ _, (HSD.out W (E.below hW)).mono ?_⟩
      rintro e w6 ⟨A6, c6, rfl, ho6, hb6⟩
      exact ⟨_, rfl, hb6, A6, c6, rfl, _, ho6.mono (hW.size)⟩
    · intro a W hW hs hd
      have e16 : NewLL w1.heap.size (rows) (a.tmps[16]?.getD undef) W := hd 3 16 (by kernel_rfl) (by kernel_rfl)
      obtain ⟨A16, c16, e16, T16, O16⟩ := e16
      clear hs hd
      unfold Grows
      go_simp
      exact ⟨Below.refl _ _, A16, c16, rfl, T16, O16⟩
    · intro a W hW hs hd
      clear hs hd
      unfold Grows
      go_simp
      exact Below.refl _ _
  intro vs W hW hf
  have f4 : NewLL w1.heap.size (rows) (vs 4) W := hf 4 4 (by kernel_rfl)
  obtain ⟨A4, c4, f4, T4, O4⟩ := f4
  have f5 : vs 5 = .int .i64 0 := hf 5 5 (by kernel_rfl)
  simp only [dsts, List.filterMap_cons, List.filterMap_nil, List.foldl_cons, List.foldl_nil, Act.put, List.setIfInBounds_toArray, List.set_cons_succ, List.set_cons_zero, f4, f5]
  clear hf
  go_wp2_with fail
  go_ret2
  exact retLLC_of HR.out.symm hB1 (O4.raise O4.2.1 (Nat.le_refl _)) hW
theorem poL_len (n : Int) (es : List (Int × Int)) : (poL n es).length ≤ 1024 ∧ ∀ j, j < (poL n es).length → (ra (poL n es) j).length ≤ 1048576 := by
  unfold poL
  by_cases hG : IsG n es
  · rw [B_true hG, if_pos rfl]
    have h20 := hG.wf.2.1
    have h1 := ldCnt_le es noSk n.toNat
    rw [sdTo_len]
    exact ⟨by omega, fun j _ => by have := sdTo_rows es noSk n.toNat n.toNat j; omega⟩
  · rw [B_false hG]; simp
theorem soL_len (n : Int) (es : List (Int × Int)) (ls : Nat → Int) (l : Nat) : (soL n es ls l).length ≤ 1024 ∧ ∀ j, j < (soL n es ls l).length → (ra (soL n es ls l) j).length ≤ 1048576 := by
  unfold soL
  rcases ec_cases n es ls l with ⟨_, e⟩ | ⟨_, _, e⟩ | ⟨hG, _, e⟩
  · rw [e]; simp
  · rw [e]; simp
  · rw [e, if_pos rfl]
    have h20 := hG.wf.2.1
    have h1 := ldCnt_le es (skS (setN ls l)) n.toNat
    rw [sdTo_len]
    exact ⟨by omega, fun j _ => by have := sdTo_rows es (skS (setN ls l)) n.toNat n.toNat j; omega⟩
end Go.Proofs.Ytccinfmphkihoaa
