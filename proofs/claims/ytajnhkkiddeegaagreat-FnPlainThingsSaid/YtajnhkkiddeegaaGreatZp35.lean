import Derived.Deep.Cut
import Derived.Test.YtajnhkkiddeegaaGreatZp29
import Derived.Test.YtajnhkkiddeegaaGreatZp30
import Derived.Test.YtajnhkkiddeegaaGreatZp33
import Derived.Test.YtajnhkkiddeegaaGreatZp34
set_option linter.unusedVariables false
set_option linter.unusedSimpArgs false
namespace Go.Proofs.YtajnhkkiddeegaaGreat
open Go.RowKit Go.Sort
theorem poL_le (n : Int) (es : List (Int × Int)) : (poL n es).length ≤ 20 := by
  unfold poL
  by_cases hG : IsG n es
  · rw [B_true hG, if_pos rfl, sdTo_len]
    have h1 := ldCnt_le es noSk n.toNat
    have h2 := hG.wf.2.1
    omega
  · rw [B_false hG]; simp
theorem poL_rows (n : Int) (es : List (Int × Int)) : ∀ j, j < (poL n es).length → (ra (poL n es) j).length ≤ 1048576 := by
  intro j hj
  unfold poL at hj ⊢
  by_cases hG : IsG n es
  · rw [B_true hG, if_pos rfl] at hj ⊢
    have h1 := sdTo_rows es noSk n.toNat n.toNat j
    have h2 := hG.wf.2.1
    omega
  · rw [B_false hG] at hj; simp at hj
theorem isG_of_im {n : Int} {es : List (Int × Int)} (h : imC n es = 0) : IsG n es := by
  refine Classical.byContradiction fun hG => ?_
  simp [imC, B_false hG] at h
theorem someG_of {base : Nat} {w : World} {A : Option Addr} {m c : Nat} {es : List (Int × Int)} (h : OwnEA base w A m c es) (hm : 0 < m) : ∃ g, A = some ⟨g, 0, none⟩ ∧ Eds w g 0 m es := by
  rcases h.cases with ⟨_, h0, _⟩ | ⟨g, e, ho⟩
  · omega
  · exact ⟨g, e, ho.eds⟩
theorem isG_len {n : Int} {es : List (Int × Int)} (hG : IsG n es) : 0 < es.length ∧ es.length ≤ 60 := by
  have := hG.wf.1; have := hG.wf.2.1; have := hG.wf.2.2.2.1; omega
set_option maxRecDepth 100000 in
set_option maxHeartbeats 8000000 in
theorem law_FnPlainThings (A : Option Addr) (l c : Nat) (w : World) (hB0 : Bys0 w A l) (hl63 : l ≤ 9223372036854775807) : Calls Tryz.prog 4 #[.slice A l c] w (Ret (.bool true) w) := by
  by_cases hl : l ≤ 4096
  rotate_left
  · have hbg : decide ((l : Int) > 4096) = true := by simp; omega
    have HBG := Lib.hid (hbg ▸ big_any A l c w)
    clear hbg
    go_enter Tryz.func4, Tryz.ntmps4
    go_wp2_with fail
    refine HBG.out.mono ?_
    rintro e w1 ⟨rfl, rfl⟩
    go_wp2_with fail
    go_ret
    exact ⟨rfl, Below.refl _ _⟩
  have KC := cell_rg
  have hbg : decide ((l : Int) > 4096) = false := by simp; omega
  have HBG := Lib.hid (hbg ▸ big_any A l c w)
  clear hbg
  have HD1 := Lib.hid (fun W h => drawRenumberGraph_any A l c W h hl)
  have HD2 := Lib.hid (fun W h => drawPutBeside_any A l c W h hl)
  have HD3 := Lib.hid (fun W h => drawDistanceOf_any A l c W h hl)
  have HD4 := Lib.hid (fun W h => drawDiameterOf_any A l c W h hl)
  have HD5 := Lib.hid (fun W h => drawGirthOf_any A l c W h hl)
  have HD6 := Lib.hid (fun W h => drawIsBipartite_any A l c W h hl)
  have HD7 := Lib.hid (fun W h => drawPartsOf_any A l c W h hl)
  have HB0 := Lib.hid hB0
  clear hB0 hl63
  go_enter Tryz.func4, Tryz.ntmps4
  go_wp2_with fail
  refine HBG.out.mono ?_
  rintro e w0 ⟨rfl, rfl⟩
  have BW : Below w.heap.size w w := Below.refl _ _
  clear HBG
  go_wp2_with fail
  refine (HD1.out _ (HB0.out.below BW)).mono ?_
  rintro e w1 ⟨n1, g1, o1, c1, es1, gp, op, mp, cp, pv, rfl, E1, hg1, hl1, hpl, hgp, Ip, hmp, hb1⟩
  replace BW := BW.andB hb1
  go_wp2_with fail
  have X1 := Box2.made w1 (.int .i64 n1) (.slice (some ⟨g1, o1, none⟩) es1.length c1) 26
  have ha1 : Below w1.heap.size w1 (w1.alloc (.cells #[.int .i64 n1, .slice (some ⟨g1, o1, none⟩) es1.length c1] 26)) := (Below.refl _ _).alloc (Nat.le_refl _) _
  obtain ⟨v1, hv1⟩ : ∃ v1, v1 = w1.alloc (.cells #[.int .i64 n1, .slice (some ⟨g1, o1, none⟩) es1.length c1] 26) := ⟨_, rfl⟩
  rw [← hv1] at X1 ha1 ⊢
  obtain ⟨x1, hx1⟩ : ∃ x1, x1 = w1.heap.size := ⟨_, rfl⟩
  rw [← hx1] at X1 ⊢
  clear hv1 hx1
  replace E1 := E1.below ha1
  replace BW := BW.andB ha1
  replace Ip := Ip.below ha1
  clear ha1 hb1 hg1 hgp
  have HRN := Lib.hid (fun h : rgC n1 es1 (ia pv) mp = 0 => rg_law h)
  have HRI := Lib.hid (fun h : rgC n1 es1 (ia pv) mp = 0 => (⟨isG_of_im (rg_law h).1, isG_of_im (rg_law h).2.1⟩ : IsG n1 es1 ∧ IsG (rgN n1 es1 (ia pv) mp) (rgL n1 es1 (ia pv) mp)))
  refine (imRenumberGraph_any n1 g1 o1 es1.length c1 gp op mp cp es1 (ia pv) v1 E1 (by omega) Ip (by omega)).mono ?_
  rintro e w2 ⟨A2, c2, rfl, O2, hb⟩
  replace X1 := X1.below hb
  replace E1 := E1.below hb
  replace Ip := Ip.below hb
  replace BW := BW.andB hb
  clear hb
  have hrl : (rgL n1 es1 (ia pv) mp).length ≤ 60 := Nat.le_trans rgL_len hl1
  have HRS := Lib.hid (spRenumberGraph_any n1 g1 o1 es1.length c1 gp op mp cp es1 (ia pv) )
  obtain ⟨kr, hkr⟩ : ∃ kr, kr = rgC n1 es1 (ia pv) mp := ⟨_, rfl⟩
  obtain ⟨nr, hnr⟩ : ∃ nr, nr = rgN n1 es1 (ia pv) mp := ⟨_, rfl⟩
  obtain ⟨er, her⟩ : ∃ er, er = rgL n1 es1 (ia pv) mp := ⟨_, rfl⟩
  rw [← hkr, ← hnr, ← her] at HRS
  rw [← hkr, ← hnr, ← her] at HRN
  rw [← hkr, ← hnr, ← her] at HRI
  rw [← hkr, ← hnr]
  rw [← her] at O2 hrl ⊢
  clear hkr hnr her
  have XC := X1
  obtain ⟨s_X1, p_X1, q_X1⟩ := XC
  go_wp2_with fail
  clear s_X1 p_X1 q_X1
  have X2 := Box2.made w2 (.int .i64 nr) (.slice A2 er.length c2) 26
  have ha2 : Below w2.heap.size w2 (w2.alloc (.cells #[.int .i64 nr, .slice A2 er.length c2] 26)) := (Below.refl _ _).alloc (Nat.le_refl _) _
  obtain ⟨v2, hv2⟩ : ∃ v2, v2 = w2.alloc (.cells #[.int .i64 nr, .slice A2 er.length c2] 26) := ⟨_, rfl⟩
  rw [← hv2] at X2 ha2 ⊢
  obtain ⟨x2, hx2⟩ : ∃ x2, x2 = w2.heap.size := ⟨_, rfl⟩
  rw [← hx2] at X2 ⊢
  clear hv2 hx2
  replace X1 := X1.below ha2
  replace E1 := E1.below ha2
  replace Ip := Ip.below ha2
  replace O2 := O2.below ha2
  replace BW := BW.andB ha2
  clear ha2
  refine (HRS.out v2 E1 (by omega) Ip (by omega)).mono ?_
  rintro e w3 ⟨A3, c3, rfl, O3, hb⟩
  replace X1 := X1.below hb
  replace E1 := E1.below hb
  replace X2 := X2.below hb
  replace O2 := O2.below hb
  replace BW := BW.andB hb
  clear hb
  clear Ip HRS
  have XC := X2
  obtain ⟨s_X2, p_X2, q_X2⟩ := XC
  go_wp2_with fail
  clear s_X2 p_X2 q_X2
  have X3 := Box2.made w3 (.int .i64 nr) (.slice A3 er.length c3) 26
  have ha3 : Below w3.heap.size w3 (w3.alloc (.cells #[.int .i64 nr, .slice A3 er.length c3] 26)) := (Below.refl _ _).alloc (Nat.le_refl _) _
  obtain ⟨v3, hv3⟩ : ∃ v3, v3 = w3.alloc (.cells #[.int .i64 nr, .slice A3 er.length c3] 26) := ⟨_, rfl⟩
  rw [← hv3] at X3 ha3 ⊢
  obtain ⟨x3, hx3⟩ : ∃ x3, x3 = w3.heap.size := ⟨_, rfl⟩
  rw [← hx3] at X3 ⊢
  clear hv3 hx3
  replace X1 := X1.below ha3
  replace E1 := E1.below ha3
  replace X2 := X2.below ha3
  replace O2 := O2.below ha3
  replace O3 := O3.below ha3
  replace BW := BW.andB ha3
  clear ha3
  refine (graphs5_any nr A2 A3 er.length c2 c3 er v3 O2.src O3.src (by omega)).mono ?_
  rintro e w4 ⟨rfl, hb⟩
  replace X1 := X1.below hb
  replace E1 := E1.below hb
  replace X2 := X2.below hb
  replace O2 := O2.below hb
  replace BW := BW.andB hb
  clear hb
  clear O3 X3
  go_upto_if 93 with fail
  go_cut [] from 64 (fun wx => Below w4.heap.size w4 wx)
  case first =>
    by_cases hk : kr = 0
    · have h1 : (kr == 0) = true := by simp [hk]
      obtain ⟨hi1, hi2, hgi, hpo, hbi, hic, hev, hg0, hg21⟩ := HRN.out hk
      obtain ⟨hG1, hG2⟩ := HRI.out hk
      have hle1 := isG_len hG1
      have hle2 := isG_len hG2
      obtain ⟨g2, rfl, E2⟩ := someG_of O2 hle2.1
      have hK20 := poL_le n1 es1
      have HG1 := Lib.hid (fun W (E : Eds W g1 o1 es1.length es1) => show Calls Tryz.prog 30 #[.agg #[.int .i64 n1, .slice (some ⟨g1, o1, none⟩) es1.length c1]] W (Ret (.tuple #[.int .i64 (giV n1 es1), .int .i64 0]) W) from hi1 ▸ imGirthOf_any n1 g1 o1 es1.length c1 es1 W E (by omega))
      have HG2 := Lib.hid (fun W (E : Eds W g2 0 er.length er) => show Calls Tryz.prog 30 #[.agg #[.int .i64 nr, .slice (some ⟨g2, 0, none⟩) er.length c2]] W (Ret (.tuple #[.int .i64 (giV n1 es1), .int .i64 0]) W) from by
        have := imGirthOf_any nr g2 0 er.length c2 er W E (by omega)
        rwa [hi2, hgi] at this)
      have HP1 := Lib.hid (fun W (E : Eds W g1 o1 es1.length es1) => show Calls Tryz.prog 31 #[.agg #[.int .i64 n1, .slice (some ⟨g1, o1, none⟩) es1.length c1]] W (fun e w' => ∃ A c, e = .returned (.tuple #[.slice A (poL n1 es1).length c, .int .i64 0]) ∧ Below W.heap.size W w') from
        (hi1 ▸ imPartsOf_any n1 g1 o1 es1.length c1 es1 W E (by omega)).mono fun e w' ⟨A, c, h1, _, h2⟩ => ⟨A, c, h1, h2⟩)
      have HP2 := Lib.hid (fun W (E : Eds W g2 0 er.length er) => show Calls Tryz.prog 31 #[.agg #[.int .i64 nr, .slice (some ⟨g2, 0, none⟩) er.length c2]] W (fun e w' => ∃ A c, e = .returned (.tuple #[.slice A (poL n1 es1).length c, .int .i64 0]) ∧ Below W.heap.size W w') from by
        have := imPartsOf_any nr g2 0 er.length c2 er W E (by omega)
        rw [hi2] at this
        exact this.mono fun e w' ⟨A, c, h1, _, h2⟩ => ⟨A, c, by rw [h1, hpo], h2⟩)
      have HB1 := Lib.hid (fun W (E : Eds W g1 o1 es1.length es1) => show Calls Tryz.prog 32 #[.agg #[.int .i64 n1, .slice (some ⟨g1, o1, none⟩) es1.length c1]] W (Ret (.tuple #[.bool (biB n1 es1), .int .i64 0]) W) from hi1 ▸ imIsBipartite_any n1 g1 o1 es1.length c1 es1 W E (by omega))
      have HB2 := Lib.hid (fun W (E : Eds W g2 0 er.length er) => show Calls Tryz.prog 32 #[.agg #[.int .i64 nr, .slice (some ⟨g2, 0, none⟩) er.length c2]] W (Ret (.tuple #[.bool (biB n1 es1), .int .i64 0]) W) from by
        have := imIsBipartite_any nr g2 0 er.length c2 er W E (by omega)
        rw [hi2] at this
        rw [← hbi]
        exact this)
      have HC1 := Lib.hid (fun W (E : Eds W g1 o1 es1.length es1) => show Calls Tryz.prog 33 #[.agg #[.int .i64 n1, .slice (some ⟨g1, o1, none⟩) es1.length c1]] W (Ret (.tuple #[.bool (((poL n1 es1).length : Int) == 1), .int .i64 0]) W) from by
        have := imIsConnected_any n1 g1 o1 es1.length c1 es1 W E (by omega)
        rw [hi1, hic] at this
        have e : decide ((poL n1 es1).length = 1) = (((poL n1 es1).length : Int) == 1) := by
          by_cases h : (poL n1 es1).length = 1
          · simp [h]
          · have : ((poL n1 es1).length : Int) ≠ 1 := by omega
            simp [h, this]
        rwa [e] at this)
      have HEV := Lib.hid (fun h : biB n1 es1 = true => show (giV n1 es1).tmod 2 = 0 from by rw [Int.tmod_eq_emod_of_nonneg hg0]; exact hev h)
      obtain ⟨G, hG⟩ : ∃ G, G = giV n1 es1 := ⟨_, rfl⟩
      obtain ⟨K, hK⟩ : ∃ K, K = (poL n1 es1).length := ⟨_, rfl⟩
      obtain ⟨bb, hbb⟩ : ∃ bb, bb = biB n1 es1 := ⟨_, rfl⟩
      rw [← hG] at HG1 HG2 HEV
      rw [← hK] at HP1 HP2 HC1
      rw [← hbb] at HB1 HB2 HEV
      clear hG hK hbb hi1 hi2 hgi hpo hbi hic hev hg0 hg21 hG1 hG2 hK20 hk HRN HRI
      obtain ⟨s_X1, p_X1, q_X1⟩ := X1
      have X1 : Box2 w4 x1 (.int .i64 n1) (.slice (some ⟨g1, o1, none⟩) es1.length c1) := ⟨s_X1, p_X1, q_X1⟩
      go_wp2_with fail
      clear s_X1 p_X1 q_X1
      have BC : Below w4.heap.size w4 w4 := Below.refl _ _
      refine (HG1.out _ E1).mono ?_
      rintro e u1 ⟨rfl, hb⟩
      replace X1 := X1.below hb
      replace E1 := E1.below hb
      replace X2 := X2.below hb
      replace E2 := E2.below hb
      replace BC := BC.andB hb
      clear hb HG1
      have XC := X2
      obtain ⟨s_X2, p_X2, q_X2⟩ := XC
      go_wp2_with fail
      clear s_X2 p_X2 q_X2
      refine (HG2.out _ E2).mono ?_
      rintro e u2 ⟨rfl, hb⟩
      replace X1 := X1.below hb
      replace E1 := E1.below hb
      replace X2 := X2.below hb
      replace E2 := E2.below hb
      replace BC := BC.andB hb
      clear hb HG2
      have XC := X1
      obtain ⟨s_X1, p_X1, q_X1⟩ := XC
      go_wp2_with fail
      clear s_X1 p_X1 q_X1
      refine (HP1.out _ E1).mono ?_
      rintro e u3 ⟨Aa, cca, rfl, hb⟩
      replace X1 := X1.below hb
      replace E1 := E1.below hb
      replace X2 := X2.below hb
      replace E2 := E2.below hb
      replace BC := BC.andB hb
      clear hb HP1
      have XC := X2
      obtain ⟨s_X2, p_X2, q_X2⟩ := XC
      go_wp2_with fail
      clear s_X2 p_X2 q_X2
      refine (HP2.out _ E2).mono ?_
      rintro e u4 ⟨Ab, ccb, rfl, hb⟩
      replace X1 := X1.below hb
      replace E1 := E1.below hb
      replace X2 := X2.below hb
      replace E2 := E2.below hb
      replace BC := BC.andB hb
      clear hb HP2
      have XC := X1
      obtain ⟨s_X1, p_X1, q_X1⟩ := XC
      go_wp2_with fail
      clear s_X1 p_X1 q_X1
      refine (HB1.out _ E1).mono ?_
      rintro e u5 ⟨rfl, hb⟩
      replace X1 := X1.below hb
      replace E1 := E1.below hb
      replace X2 := X2.below hb
      replace E2 := E2.below hb
      replace BC := BC.andB hb
      clear hb HB1
      have XC := X2
      obtain ⟨s_X2, p_X2, q_X2⟩ := XC
      go_wp2_with fail
      clear s_X2 p_X2 q_X2
      refine (HB2.out _ E2).mono ?_
      rintro e u6 ⟨rfl, hb⟩
      replace X1 := X1.below hb
      replace E1 := E1.below hb
      replace X2 := X2.below hb
      replace E2 := E2.below hb
      replace BC := BC.andB hb
      clear hb HB2
      have XC := X1
      obtain ⟨s_X1, p_X1, q_X1⟩ := XC
      go_wp2_with fail
      clear s_X1 p_X1 q_X1
      refine (HC1.out _ E1).mono ?_
      rintro e u7 ⟨rfl, hb⟩
      replace X1 := X1.below hb
      replace E1 := E1.below hb
      replace X2 := X2.below hb
      replace E2 := E2.below hb
      replace BC := BC.andB hb
      clear hb HC1
      cases bb with
      | true =>
        have hev := HEV.out rfl
        clear HEV X1 X2 E1 E2 O2
        go_wp2_with fail
        go_meet
        case rel => exact BC
      | false =>
        clear HEV X1 X2 E1 E2 O2
        go_wp2_with fail
        go_meet
        case rel => exact BC
    · have h1 : (kr == 0) = false := by simp [hk]
      clear hk HRN HRI
      go_wp2_with fail
      go_meet
      case rel => exact Below.refl _ _
  as_aux_lemma =>
    replace BW := BW.andB hcut
    clear hcut HRN HRI X1 E1 X2 O2 hrl hl1 hpl hmp
    obtain ⟨w5, rfl⟩ : ∃ w5, w5 = wc := ⟨wc, rfl⟩
    go_wp2_with fail
    refine (HD2.out _ (HB0.out.below BW)).mono ?_
    rintro e w6 ⟨n1, g1, o1, c1, es1, n2, g2, o2, c2, es2, rfl, E1, hg1, hl1, E2, hg2, hl2, hb1⟩
    replace BW := BW.andB hb1
    clear hb1 hg1 hg2
    go_wp2_with fail
    have X1 := Box2.made w6 (.int .i64 n1) (.slice (some ⟨g1, o1, none⟩) es1.length c1) 26
    have ha1 : Below w6.heap.size w6 (w6.alloc (.cells #[.int .i64 n1, .slice (some ⟨g1, o1, none⟩) es1.length c1] 26)) := (Below.refl _ _).alloc (Nat.le_refl _) _
    obtain ⟨v1, hv1⟩ : ∃ v1, v1 = w6.alloc (.cells #[.int .i64 n1, .slice (some ⟨g1, o1, none⟩) es1.length c1] 26) := ⟨_, rfl⟩
    rw [← hv1] at X1 ha1 ⊢
    have hs1 : v1.heap.size = w6.heap.size + 1 := by rw [hv1]; simp
    have X2 := Box2.made v1 (.int .i64 n2) (.slice (some ⟨g2, o2, none⟩) es2.length c2) 26
    have ha2 : Below v1.heap.size v1 (v1.alloc (.cells #[.int .i64 n2, .slice (some ⟨g2, o2, none⟩) es2.length c2] 26)) := (Below.refl _ _).alloc (Nat.le_refl _) _
    obtain ⟨v2, hv2⟩ : ∃ v2, v2 = v1.alloc (.cells #[.int .i64 n2, .slice (some ⟨g2, o2, none⟩) es2.length c2] 26) := ⟨_, rfl⟩
    rw [← hv2] at X2 ha2 ⊢
    rw [hs1] at X2
    replace X1 := X1.below ha2
    obtain ⟨x1, hx1⟩ : ∃ x1, x1 = w6.heap.size := ⟨_, rfl⟩
    rw [← hx1] at X1 X2 ⊢
    replace E1 := (E1.below ha1).below ha2
    replace E2 := (E2.below ha1).below ha2
    replace BW := (BW.andB ha1).andB ha2
    clear hv1 hv2 hs1 ha1 ha2 hx1
    have HRN := Lib.hid (fun h : pbC n1 es1 n2 es2 = 0 => pb_law h)
    have HRI := Lib.hid (fun h : pbC n1 es1 n2 es2 = 0 => isG_of_im (pb_law h).2.2.1)
    refine (imPutBeside_any n1 n2 g1 o1 es1.length c1 g2 o2 es2.length c2 es1 es2 v2 E1 E2 (by omega) (by omega)).mono ?_
    rintro e w7 ⟨A5, c5, rfl, O5, hb⟩
    replace X1 := X1.below hb
    replace E1 := E1.below hb
    replace X2 := X2.below hb
    replace E2 := E2.below hb
    replace BW := BW.andB hb
    clear hb
    have hrl : (pbL n1 es1 n2 es2).length ≤ 120 := Nat.le_trans pbL_len (by omega)
    have HRS := Lib.hid (spPutBeside_any n1 n2 g1 o1 es1.length c1 g2 o2 es2.length c2 es1 es2)
    obtain ⟨kb, hkb⟩ : ∃ kb, kb = pbC n1 es1 n2 es2 := ⟨_, rfl⟩
    obtain ⟨nb, hnb⟩ : ∃ nb, nb = pbN n1 es1 n2 es2 := ⟨_, rfl⟩
    obtain ⟨eb, heb⟩ : ∃ eb, eb = pbL n1 es1 n2 es2 := ⟨_, rfl⟩
    rw [← hkb, ← hnb, ← heb] at HRS
    rw [← hkb, ← hnb, ← heb] at HRN
    rw [← hkb, ← hnb, ← heb] at HRI
    rw [← hkb, ← hnb]
    rw [← heb] at O5 hrl ⊢
    clear hkb hnb heb
    have XC := X1
    obtain ⟨s_X1, p_X1, q_X1⟩ := XC
    have XC := X2
    obtain ⟨s_X2, p_X2, q_X2⟩ := XC
    go_wp2_with fail
    clear s_X1 p_X1 q_X1
    clear s_X2 p_X2 q_X2
    have X5 := Box2.made w7 (.int .i64 nb) (.slice A5 eb.length c5) 26
    have ha5 : Below w7.heap.size w7 (w7.alloc (.cells #[.int .i64 nb, .slice A5 eb.length c5] 26)) := (Below.refl _ _).alloc (Nat.le_refl _) _
    obtain ⟨v3, hv5⟩ : ∃ v3, v3 = w7.alloc (.cells #[.int .i64 nb, .slice A5 eb.length c5] 26) := ⟨_, rfl⟩
    rw [← hv5] at X5 ha5 ⊢
    obtain ⟨x5, hx5⟩ : ∃ x5, x5 = w7.heap.size := ⟨_, rfl⟩
    rw [← hx5] at X5 ⊢
    clear hv5 hx5
    replace X1 := X1.below ha5
    replace E1 := E1.below ha5
    replace X2 := X2.below ha5
    replace E2 := E2.below ha5
    replace O5 := O5.below ha5
    replace BW := BW.andB ha5
    clear ha5
    refine (HRS.out v3 E1 E2 (by omega) (by omega)).mono ?_
    rintro e w8 ⟨A7, c7, rfl, O7, hb⟩
    replace X1 := X1.below hb
    replace E1 := E1.below hb
    replace X2 := X2.below hb
    replace E2 := E2.below hb
    replace X5 := X5.below hb
    replace O5 := O5.below hb
    replace BW := BW.andB hb
    clear hb
    clear HRS
    have XC := X5
    obtain ⟨s_X5, p_X5, q_X5⟩ := XC
    go_wp2_with fail
    clear s_X5 p_X5 q_X5
    have X7 := Box2.made w8 (.int .i64 nb) (.slice A7 eb.length c7) 26
    have ha7 : Below w8.heap.size w8 (w8.alloc (.cells #[.int .i64 nb, .slice A7 eb.length c7] 26)) := (Below.refl _ _).alloc (Nat.le_refl _) _
    obtain ⟨v4, hv7⟩ : ∃ v4, v4 = w8.alloc (.cells #[.int .i64 nb, .slice A7 eb.length c7] 26) := ⟨_, rfl⟩
    rw [← hv7] at X7 ha7 ⊢
    obtain ⟨x7, hx7⟩ : ∃ x7, x7 = w8.heap.size := ⟨_, rfl⟩
    rw [← hx7] at X7 ⊢
    clear hv7 hx7
    replace X1 := X1.below ha7
    replace E1 := E1.below ha7
    replace X2 := X2.below ha7
    replace E2 := E2.below ha7
    replace X5 := X5.below ha7
    replace O5 := O5.below ha7
    replace O7 := O7.below ha7
    replace BW := BW.andB ha7
    clear ha7
    refine (graphs5_any nb A5 A7 eb.length c5 c7 eb v4 O5.src O7.src (by omega)).mono ?_
    rintro e w9 ⟨rfl, hb⟩
    replace X1 := X1.below hb
    replace E1 := E1.below hb
    replace X2 := X2.below hb
    replace E2 := E2.below hb
    replace X5 := X5.below hb
    replace O5 := O5.below hb
    replace BW := BW.andB hb
    clear hb
    clear O7 X7
    go_upto_if 214 with fail
    go_cut [] from 64 (fun wx => Below w9.heap.size w9 wx)
    case first =>
      by_cases hk : kb = 0
      · have h1 : (kb == 0) = true := by simp [hk]
        obtain ⟨hi1, hi2, hi3, hpo⟩ := HRN.out hk
        have hle3 := isG_len (HRI.out hk)
        obtain ⟨g5, rfl, E5⟩ := someG_of O5 hle3.1
        have hK1 := poL_le n1 es1
        have hK2 := poL_le n2 es2
        have HP1 := Lib.hid (fun W (E : Eds W g1 o1 es1.length es1) => show Calls Tryz.prog 31 #[.agg #[.int .i64 n1, .slice (some ⟨g1, o1, none⟩) es1.length c1]] W (fun e w' => ∃ A c, e = .returned (.tuple #[.slice A (poL n1 es1).length c, .int .i64 0]) ∧ Below W.heap.size W w') from
          (hi1 ▸ imPartsOf_any n1 g1 o1 es1.length c1 es1 W E (by omega)).mono fun e w' ⟨A, c, h1, _, h2⟩ => ⟨A, c, h1, h2⟩)
        have HP2 := Lib.hid (fun W (E : Eds W g2 o2 es2.length es2) => show Calls Tryz.prog 31 #[.agg #[.int .i64 n2, .slice (some ⟨g2, o2, none⟩) es2.length c2]] W (fun e w' => ∃ A c, e = .returned (.tuple #[.slice A (poL n2 es2).length c, .int .i64 0]) ∧ Below W.heap.size W w') from
          (hi2 ▸ imPartsOf_any n2 g2 o2 es2.length c2 es2 W E (by omega)).mono fun e w' ⟨A, c, h1, _, h2⟩ => ⟨A, c, h1, h2⟩)
        have HP3 := Lib.hid (fun W (E : Eds W g5 0 eb.length eb) => show Calls Tryz.prog 31 #[.agg #[.int .i64 nb, .slice (some ⟨g5, 0, none⟩) eb.length c5]] W (fun e w' => ∃ A c, e = .returned (.tuple #[.slice A ((poL n1 es1).length + (poL n2 es2).length) c, .int .i64 0]) ∧ Below W.heap.size W w') from by
          have := imPartsOf_any nb g5 0 eb.length c5 eb W E (by omega)
          rw [hi3] at this
          exact this.mono fun e w' ⟨A, c, h1, _, h2⟩ => ⟨A, c, by rw [h1, hpo], h2⟩)
        obtain ⟨K1, hKe1⟩ : ∃ K, K = (poL n1 es1).length := ⟨_, rfl⟩
        obtain ⟨K2, hKe2⟩ : ∃ K, K = (poL n2 es2).length := ⟨_, rfl⟩
        rw [← hKe1] at HP1 HP3 hK1
        rw [← hKe2] at HP2 HP3 hK2
        have hwk : IntKind.i64.wrap ((K1 : Int) + (K2 : Int)) = (K1 : Int) + (K2 : Int) := IntWalk.i64_in _ (by omega)
        have BC : Below w9.heap.size w9 w9 := Below.refl _ _
        clear hKe1 hKe2 hi1 hi2 hi3 hpo hk HRN HRI
        have XC := X1
        obtain ⟨s_X1, p_X1, q_X1⟩ := XC
        go_wp2_with fail
        clear s_X1 p_X1 q_X1
        refine (HP1.out _ E1).mono ?_
        rintro e u1 ⟨Aa, cca, rfl, hb⟩
        replace X2 := X2.below hb
        replace E2 := E2.below hb
        replace X5 := X5.below hb
        replace E5 := E5.below hb
        replace BC := BC.andB hb
        clear hb HP1
        have XC := X2
        obtain ⟨s_X2, p_X2, q_X2⟩ := XC
        go_wp2_with fail
        clear s_X2 p_X2 q_X2
        refine (HP2.out _ E2).mono ?_
        rintro e u2 ⟨Ab, ccb, rfl, hb⟩
        replace X5 := X5.below hb
        replace E5 := E5.below hb
        replace BC := BC.andB hb
        clear hb HP2
        have XC := X5
        obtain ⟨s_X5, p_X5, q_X5⟩ := XC
        go_wp2_with fail
        clear s_X5 p_X5 q_X5
        refine (HP3.out _ E5).mono ?_
        rintro e u3 ⟨Ac, ccc, rfl, hb⟩
        replace BC := BC.andB hb
        clear hb HP3
        clear X1 X2 X5 E1 E2 E5 O5
        go_wp2_with fail
        go_meet
        case rel => exact BC
      · have h1 : (kb == 0) = false := by simp [hk]
        clear hk HRN HRI
        go_wp2_with fail
        go_meet
        case rel => exact Below.refl _ _
    as_aux_lemma =>
      replace BW := BW.andB hcut
      clear hcut HRN HRI X1 E1 X2 E2 X5 O5 hrl hl1 hl2
      obtain ⟨w10, rfl⟩ : ∃ w10, w10 = wc := ⟨wc, rfl⟩
      go_wp2_with fail
      refine (HD3.out _ (HB0.out.below BW)).mono ?_
      rintro e w11 ⟨n3, g3, o3, c3, es3, ax, bx, rfl, E3, hg3, hl3, hb3⟩
      replace BW := BW.andB hb3
      go_wp2_with fail
      have X3 := Box2.made w11 (.int .i64 n3) (.slice (some ⟨g3, o3, none⟩) es3.length c3) 26
      have ha3 : Below w11.heap.size w11 (w11.alloc (.cells #[.int .i64 n3, .slice (some ⟨g3, o3, none⟩) es3.length c3] 26)) := (Below.refl _ _).alloc (Nat.le_refl _) _
      obtain ⟨v3, hv3⟩ : ∃ v3, v3 = w11.alloc (.cells #[.int .i64 n3, .slice (some ⟨g3, o3, none⟩) es3.length c3] 26) := ⟨_, rfl⟩
      rw [← hv3] at X3 ha3 ⊢
      obtain ⟨x3, hx3⟩ : ∃ x3, x3 = w11.heap.size := ⟨_, rfl⟩
      rw [← hx3] at X3 ⊢
      clear hv3 hx3
      replace E3 := E3.below ha3
      replace BW := BW.andB ha3
      clear ha3 hb3 hg3
      refine (imDistanceOf_any n3 g3 o3 es3.length c3 es3 ax bx v3 E3 (by omega)).mono ?_
      rintro e w12 ⟨rfl, hb⟩
      replace X3 := X3.below hb
      replace E3 := E3.below hb
      replace BW := BW.andB hb
      clear hb
      have XC := X3
      obtain ⟨s_X3, p_X3, q_X3⟩ := XC
      go_wp2_with fail
      clear s_X3 p_X3 q_X3
      refine (spDistanceOf_any n3 g3 o3 es3.length c3 es3 ax bx w12 E3 (by omega)).mono ?_
      rintro e w13 ⟨rfl, hb⟩
      replace X3 := X3.below hb
      replace E3 := E3.below hb
      replace BW := BW.andB hb
      clear hb
      have HDI := Lib.hid (fun W (E : Eds W g3 o3 es3.length es3) (h : diC n3 es3 ax bx = 0) => show Calls Tryz.prog 38 #[.agg #[.int .i64 n3, .slice (some ⟨g3, o3, none⟩) es3.length c3], .int .i64 bx, .int .i64 ax] W (Ret (.tuple #[.int .i64 (diV n3 es3 ax bx), .int .i64 0]) W) from by
        have := imDistanceOf_any n3 g3 o3 es3.length c3 es3 bx ax W E (by omega)
        rwa [(di_symm h).1, (di_symm h).2] at this)
      obtain ⟨dv, hdv⟩ : ∃ dv, dv = diV n3 es3 ax bx := ⟨_, rfl⟩
      obtain ⟨dc, hdc⟩ : ∃ dc, dc = diC n3 es3 ax bx := ⟨_, rfl⟩
      rw [← hdv, ← hdc] at HDI ⊢
      clear hdv hdc
      go_upto_if 279 with fail
      go_cut [] from 64 (fun wx => Below w13.heap.size w13 wx)
      case first =>
        by_cases hk : dc = 0
        · have h1 : (dc == 0) = true := by simp [hk]
          have H := Lib.hid (HDI.out w13 E3 hk)
          clear hk HDI
          obtain ⟨s_, p_, q_⟩ := X3
          go_wp2_with fail
          refine H.out.mono ?_
          rintro e u1 ⟨rfl, hb⟩
          clear s_ p_ q_
          go_wp2_with fail
          go_meet
          case rel => exact hb
        · have h1 : (dc == 0) = false := by simp [hk]
          clear hk HDI
          go_wp2_with fail
          go_meet
          case rel => exact Below.refl _ _
      as_aux_lemma =>
        replace BW := BW.andB hcut
        clear hcut HDI X3 E3 hl3
        obtain ⟨w14, rfl⟩ : ∃ w14, w14 = wc := ⟨wc, rfl⟩
        go_wp2_with fail
        refine (HD4.out _ (HB0.out.below BW)).mono ?_
        rintro e w15 ⟨n4, g4, o4, c4, es4, rfl, E4, hg4, hl4, hb4⟩
        replace BW := BW.andB hb4
        go_wp2_with fail
        have X4 := Box2.made w15 (.int .i64 n4) (.slice (some ⟨g4, o4, none⟩) es4.length c4) 26
        have ha4 : Below w15.heap.size w15 (w15.alloc (.cells #[.int .i64 n4, .slice (some ⟨g4, o4, none⟩) es4.length c4] 26)) := (Below.refl _ _).alloc (Nat.le_refl _) _
        obtain ⟨v4, hv4⟩ : ∃ v4, v4 = w15.alloc (.cells #[.int .i64 n4, .slice (some ⟨g4, o4, none⟩) es4.length c4] 26) := ⟨_, rfl⟩
        rw [← hv4] at X4 ha4 ⊢
        obtain ⟨x4, hx4⟩ : ∃ x4, x4 = w15.heap.size := ⟨_, rfl⟩
        rw [← hx4] at X4 ⊢
        clear hv4 hx4
        replace E4 := E4.below ha4
        replace BW := BW.andB ha4
        clear ha4 hb4 hg4
        refine (imDiameterOf_any n4 g4 o4 es4.length c4 es4 v4 E4 (by omega)).mono ?_
        rintro e w16 ⟨rfl, hb⟩
        replace X4 := X4.below hb
        replace E4 := E4.below hb
        replace BW := BW.andB hb
        clear hb
        have XC := X4
        obtain ⟨s_X4, p_X4, q_X4⟩ := XC
        go_wp2_with fail
        clear s_X4 p_X4 q_X4
        refine (spDiameterOf_any n4 g4 o4 es4.length c4 es4 w16 E4 (by omega)).mono ?_
        rintro e w17 ⟨rfl, hb⟩
        replace BW := BW.andB hb
        clear hb
        clear X4 E4 hl4
        go_wp2_with fail
        as_aux_lemma =>
          refine (HD5.out _ (HB0.out.below BW)).mono ?_
          rintro e w18 ⟨n5, g5, o5, c5, es5, rfl, E5, hg5, hl5, hb5⟩
          replace BW := BW.andB hb5
          go_wp2_with fail
          have X5 := Box2.made w18 (.int .i64 n5) (.slice (some ⟨g5, o5, none⟩) es5.length c5) 26
          have ha5 : Below w18.heap.size w18 (w18.alloc (.cells #[.int .i64 n5, .slice (some ⟨g5, o5, none⟩) es5.length c5] 26)) := (Below.refl _ _).alloc (Nat.le_refl _) _
          obtain ⟨v5, hv5⟩ : ∃ v5, v5 = w18.alloc (.cells #[.int .i64 n5, .slice (some ⟨g5, o5, none⟩) es5.length c5] 26) := ⟨_, rfl⟩
          rw [← hv5] at X5 ha5 ⊢
          obtain ⟨x5, hx5⟩ : ∃ x5, x5 = w18.heap.size := ⟨_, rfl⟩
          rw [← hx5] at X5 ⊢
          clear hv5 hx5
          replace E5 := E5.below ha5
          replace BW := BW.andB ha5
          clear ha5 hb5 hg5
          refine (imGirthOf_any n5 g5 o5 es5.length c5 es5 v5 E5 (by omega)).mono ?_
          rintro e w19 ⟨rfl, hb⟩
          replace X5 := X5.below hb
          replace E5 := E5.below hb
          replace BW := BW.andB hb
          clear hb
          have XC := X5
          obtain ⟨s_X5, p_X5, q_X5⟩ := XC
          go_wp2_with fail
          clear s_X5 p_X5 q_X5
          refine (spGirthOf_any n5 g5 o5 es5.length c5 es5 w19 E5 (by omega)).mono ?_
          rintro e w20 ⟨rfl, hb⟩
          replace BW := BW.andB hb
          clear hb
          clear X5 E5 hl5
          go_wp2_with fail
          refine (HD6.out _ (HB0.out.below BW)).mono ?_
          rintro e w21 ⟨n6, g6, o6, c6, es6, rfl, E6, hg6, hl6, hb6⟩
          replace BW := BW.andB hb6
          go_wp2_with fail
          have X6 := Box2.made w21 (.int .i64 n6) (.slice (some ⟨g6, o6, none⟩) es6.length c6) 26
          have ha6 : Below w21.heap.size w21 (w21.alloc (.cells #[.int .i64 n6, .slice (some ⟨g6, o6, none⟩) es6.length c6] 26)) := (Below.refl _ _).alloc (Nat.le_refl _) _
          obtain ⟨v6, hv6⟩ : ∃ v6, v6 = w21.alloc (.cells #[.int .i64 n6, .slice (some ⟨g6, o6, none⟩) es6.length c6] 26) := ⟨_, rfl⟩
          rw [← hv6] at X6 ha6 ⊢
          obtain ⟨x6, hx6⟩ : ∃ x6, x6 = w21.heap.size := ⟨_, rfl⟩
          rw [← hx6] at X6 ⊢
          clear hv6 hx6
          replace E6 := E6.below ha6
          replace BW := BW.andB ha6
          clear ha6 hb6 hg6
          refine (imIsBipartite_any n6 g6 o6 es6.length c6 es6 v6 E6 (by omega)).mono ?_
          rintro e w22 ⟨rfl, hb⟩
          replace X6 := X6.below hb
          replace E6 := E6.below hb
          replace BW := BW.andB hb
          clear hb
          have XC := X6
          obtain ⟨s_X6, p_X6, q_X6⟩ := XC
          go_wp2_with fail
          clear s_X6 p_X6 q_X6
          refine (spIsBipartite_any n6 g6 o6 es6.length c6 es6 w22 E6 (by omega)).mono ?_
          rintro e w23 ⟨rfl, hb⟩
          replace BW := BW.andB hb
          clear hb
          clear X6 E6 hl6
          go_wp2_with fail
          as_aux_lemma =>
            refine (HD7.out _ (HB0.out.below BW)).mono ?_
            rintro e w24 ⟨n7, g7, o7, c7, es7, rfl, E7, hg7, hl7, hb7⟩
            replace BW := BW.andB hb7
            go_wp2_with fail
            have X7 := Box2.made w24 (.int .i64 n7) (.slice (some ⟨g7, o7, none⟩) es7.length c7) 26
            have ha7 : Below w24.heap.size w24 (w24.alloc (.cells #[.int .i64 n7, .slice (some ⟨g7, o7, none⟩) es7.length c7] 26)) := (Below.refl _ _).alloc (Nat.le_refl _) _
            obtain ⟨v7, hv7⟩ : ∃ v7, v7 = w24.alloc (.cells #[.int .i64 n7, .slice (some ⟨g7, o7, none⟩) es7.length c7] 26) := ⟨_, rfl⟩
            rw [← hv7] at X7 ha7 ⊢
            obtain ⟨x7, hx7⟩ : ∃ x7, x7 = w24.heap.size := ⟨_, rfl⟩
            rw [← hx7] at X7 ⊢
            clear hv7 hx7
            replace E7 := E7.below ha7
            replace BW := BW.andB ha7
            clear ha7 hb7 hg7
            refine (imPartsOf_any n7 g7 o7 es7.length c7 es7 v7 E7 (by omega)).mono ?_
            rintro e w25 ⟨Aa, cca, rfl, OL1, hb⟩
            replace X7 := X7.below hb
            replace E7 := E7.below hb
            replace BW := BW.andB hb
            clear hb
            have XC := X7
            obtain ⟨s_X7, p_X7, q_X7⟩ := XC
            go_wp2_with fail
            clear s_X7 p_X7 q_X7
            refine (spPartsOf_any n7 g7 o7 es7.length c7 es7 w25 E7 (by omega)).mono ?_
            rintro e w26 ⟨Ab, ccb, rfl, OL2, hb⟩
            replace OL1 := OL1.below hb
            replace BW := BW.andB hb
            clear hb
            have L1 := OL1.src
            have L2 := OL2.src
            have HR1 := Lib.hid (poL_rows n7 es7)
            have HR2 := Lib.hid (poL_le n7 es7)
            obtain ⟨rows, hrows⟩ : ∃ rows, rows = poL n7 es7 := ⟨_, rfl⟩
            rw [← hrows] at L1 L2 HR1 HR2 ⊢
            obtain ⟨R, hR⟩ : ∃ R, R = rows.length := ⟨_, rfl⟩
            rw [← hR] at HR1 HR2 ⊢
            have HRL := Lib.hid hR.symm
            clear OL1 OL2 hrows hR X7 E7 hl7
            go_wp2_with fail
            refine (rows5_any Aa Ab R cca ccb rows w26 HRL.out L1 L2 (by have := HR2.out; omega) HR1.out).mono ?_
            rintro e w27 ⟨rfl, hb⟩
            replace BW := BW.andB hb
            clear hb L1 L2 HR1
            go_wp2_with fail
            go_ret
            exact ⟨rfl, BW⟩
end Go.Proofs.YtajnhkkiddeegaaGreat
