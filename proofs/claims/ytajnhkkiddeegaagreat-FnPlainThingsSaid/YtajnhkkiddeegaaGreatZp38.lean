import Derived.Test.YtajnhkkiddeegaaGreatZp37
set_option linter.unusedVariables false
set_option linter.unusedSimpArgs false
namespace Go.Proofs.YtajnhkkiddeegaaGreat
open Go.RowKit Go.Sort
set_option maxRecDepth 100000 in
set_option maxHeartbeats 8000000 in
theorem law_FnPlainThings (A : Option Addr) (l c : Nat) (w : World) (hB0 : Bys0 w A l) (hl63 : l ≤ 9223372036854775807) : Calls Tryz.prog 4 #[.slice A l c] w (Ret (.bool true) w) := by
  by_cases hl : l ≤ 4096
  rotate_left
  · have hbg : decide ((l : Int) > 4096) = true := by simp; omega
    have HBG := Lib.hid (hbg ▸ big_any A l c w)
    clear hbg
    go_enter Tryz.func4, Tryz.ntmps4
    go_wp2_with fail
    refine HBG.out.mono ?_
    rintro e w1 ⟨rfl, rfl⟩
    go_wp2_with fail
    go_ret
    exact ⟨rfl, Below.refl _ _⟩
  have KC := cell_rg
  have hbg : decide ((l : Int) > 4096) = false := by simp; omega
  have HBG := Lib.hid (hbg ▸ big_any A l c w)
  clear hbg
  have HD1 := Lib.hid (fun W h => drawRenumberGraph_any A l c W h hl)
  have HB0 := Lib.hid hB0
  clear hB0 hl63
  go_enter Tryz.func4, Tryz.ntmps4
  go_wp2_with fail
  refine HBG.out.mono ?_
  rintro e w0 ⟨rfl, rfl⟩
  have BW : Below w.heap.size w w := Below.refl _ _
  clear HBG
  go_wp2_with fail
  refine (HD1.out _ (HB0.out.below BW)).mono ?_
  rintro e w1 ⟨n1, g1, o1, c1, es1, gp, op, mp, cp, pv, rfl, E1, hg1, hl1, hpl, hgp, Ip, hmp, hb1⟩
  replace BW := BW.andB hb1
  go_wp2_with fail
  have X1 := Box2.made w1 (.int .i64 n1) (.slice (some ⟨g1, o1, none⟩) es1.length c1) 26
  have ha1 : Below w1.heap.size w1 (w1.alloc (.cells #[.int .i64 n1, .slice (some ⟨g1, o1, none⟩) es1.length c1] 26)) := (Below.refl _ _).alloc (Nat.le_refl _) _
  obtain ⟨v1, hv1⟩ : ∃ v1, v1 = w1.alloc (.cells #[.int .i64 n1, .slice (some ⟨g1, o1, none⟩) es1.length c1] 26) := ⟨_, rfl⟩
  rw [← hv1] at X1 ha1 ⊢
  obtain ⟨x1, hx1⟩ : ∃ x1, x1 = w1.heap.size := ⟨_, rfl⟩
  rw [← hx1] at X1 ⊢
  clear hv1 hx1
  replace E1 := E1.below ha1
  replace BW := BW.andB ha1
  replace Ip := Ip.below ha1
  clear ha1 hb1 hg1 hgp
  have HRN := Lib.hid (fun h : rgC n1 es1 (ia pv) mp = 0 => rg_law h)
  have HRI := Lib.hid (fun h : rgC n1 es1 (ia pv) mp = 0 => (⟨isG_of_im (rg_law h).1, isG_of_im (rg_law h).2.1⟩ : IsG n1 es1 ∧ IsG (rgN n1 es1 (ia pv) mp) (rgL n1 es1 (ia pv) mp)))
  refine (imRenumberGraph_any n1 g1 o1 es1.length c1 gp op mp cp es1 (ia pv) v1 E1 (by omega) Ip (by omega)).mono ?_
  rintro e w2 ⟨A2, c2, rfl, O2, hb⟩
  replace X1 := X1.below hb
  replace E1 := E1.below hb
  replace Ip := Ip.below hb
  replace BW := BW.andB hb
  clear hb
  have hrl : (rgL n1 es1 (ia pv) mp).length ≤ 60 := Nat.le_trans rgL_len hl1
  have HRS := Lib.hid (spRenumberGraph_any n1 g1 o1 es1.length c1 gp op mp cp es1 (ia pv) )
  obtain ⟨kr, hkr⟩ : ∃ kr, kr = rgC n1 es1 (ia pv) mp := ⟨_, rfl⟩
  obtain ⟨nr, hnr⟩ : ∃ nr, nr = rgN n1 es1 (ia pv) mp := ⟨_, rfl⟩
  obtain ⟨er, her⟩ : ∃ er, er = rgL n1 es1 (ia pv) mp := ⟨_, rfl⟩
  rw [← hkr, ← hnr, ← her] at HRS
  rw [← hkr, ← hnr, ← her] at HRN
  rw [← hkr, ← hnr, ← her] at HRI
  rw [← hkr, ← hnr]
  rw [← her] at O2 hrl ⊢
  clear hkr hnr her
  have XC := X1
  obtain ⟨s_X1, p_X1, q_X1⟩ := XC
  go_wp2_with fail
  clear s_X1 p_X1 q_X1
  have X2 := Box2.made w2 (.int .i64 nr) (.slice A2 er.length c2) 26
  have ha2 : Below w2.heap.size w2 (w2.alloc (.cells #[.int .i64 nr, .slice A2 er.length c2] 26)) := (Below.refl _ _).alloc (Nat.le_refl _) _
  obtain ⟨v2, hv2⟩ : ∃ v2, v2 = w2.alloc (.cells #[.int .i64 nr, .slice A2 er.length c2] 26) := ⟨_, rfl⟩
  rw [← hv2] at X2 ha2 ⊢
  obtain ⟨x2, hx2⟩ : ∃ x2, x2 = w2.heap.size := ⟨_, rfl⟩
  rw [← hx2] at X2 ⊢
  clear hv2 hx2
  replace X1 := X1.below ha2
  replace E1 := E1.below ha2
  replace Ip := Ip.below ha2
  replace O2 := O2.below ha2
  replace BW := BW.andB ha2
  clear ha2
  refine (HRS.out v2 E1 (by omega) Ip (by omega)).mono ?_
  rintro e w3 ⟨A3, c3, rfl, O3, hb⟩
  replace X1 := X1.below hb
  replace E1 := E1.below hb
  replace X2 := X2.below hb
  replace O2 := O2.below hb
  replace BW := BW.andB hb
  clear hb
  clear Ip HRS
  have XC := X2
  obtain ⟨s_X2, p_X2, q_X2⟩ := XC
  go_wp2_with fail
  clear s_X2 p_X2 q_X2
  have X3 := Box2.made w3 (.int .i64 nr) (.slice A3 er.length c3) 26
  have ha3 : Below w3.heap.size w3 (w3.alloc (.cells #[.int .i64 nr, .slice A3 er.length c3] 26)) := (Below.refl _ _).alloc (Nat.le_refl _) _
  obtain ⟨v3, hv3⟩ : ∃ v3, v3 = w3.alloc (.cells #[.int .i64 nr, .slice A3 er.length c3] 26) := ⟨_, rfl⟩
  rw [← hv3] at X3 ha3 ⊢
  obtain ⟨x3, hx3⟩ : ∃ x3, x3 = w3.heap.size := ⟨_, rfl⟩
  rw [← hx3] at X3 ⊢
  clear hv3 hx3
  replace X1 := X1.below ha3
  replace E1 := E1.below ha3
  replace X2 := X2.below ha3
  replace O2 := O2.below ha3
  replace O3 := O3.below ha3
  replace BW := BW.andB ha3
  clear ha3
  refine (graphs5_any nr A2 A3 er.length c2 c3 er v3 O2.src O3.src (by omega)).mono ?_
  rintro e w4 ⟨rfl, hb⟩
  replace X1 := X1.below hb
  replace E1 := E1.below hb
  replace X2 := X2.below hb
  replace O2 := O2.below hb
  replace BW := BW.andB hb
  clear hb
  clear O3 X3
  go_upto_if 93 with fail
  go_cut [] from 64 (fun wx => Below w4.heap.size w4 wx)
  case first =>
    by_cases hk : kr = 0
    · have h1 : (kr == 0) = true := by simp [hk]
      obtain ⟨hi1, hi2, hgi, hpo, hbi, hic, hev, hg0, hg21⟩ := HRN.out hk
      obtain ⟨hG1, hG2⟩ := HRI.out hk
      have hle1 := isG_len hG1
      have hle2 := isG_len hG2
      obtain ⟨g2, rfl, E2⟩ := someG_of O2 hle2.1
      have hK20 := poL_le n1 es1
      have HG1 := Lib.hid (fun W (E : Eds W g1 o1 es1.length es1) => show Calls Tryz.prog 30 #[.agg #[.int .i64 n1, .slice (some ⟨g1, o1, none⟩) es1.length c1]] W (Ret (.tuple #[.int .i64 (giV n1 es1), .int .i64 0]) W) from hi1 ▸ imGirthOf_any n1 g1 o1 es1.length c1 es1 W E (by omega))
      have HG2 := Lib.hid (fun W (E : Eds W g2 0 er.length er) => show Calls Tryz.prog 30 #[.agg #[.int .i64 nr, .slice (some ⟨g2, 0, none⟩) er.length c2]] W (Ret (.tuple #[.int .i64 (giV n1 es1), .int .i64 0]) W) from by
        have := imGirthOf_any nr g2 0 er.length c2 er W E (by omega)
        rwa [hi2, hgi] at this)
      have HP1 := Lib.hid (fun W (E : Eds W g1 o1 es1.length es1) => show Calls Tryz.prog 31 #[.agg #[.int .i64 n1, .slice (some ⟨g1, o1, none⟩) es1.length c1]] W (fun e w' => ∃ A c, e = .returned (.tuple #[.slice A (poL n1 es1).length c, .int .i64 0]) ∧ Below W.heap.size W w') from
        (hi1 ▸ imPartsOf_any n1 g1 o1 es1.length c1 es1 W E (by omega)).mono fun e w' ⟨A, c, h1, _, h2⟩ => ⟨A, c, h1, h2⟩)
      have HP2 := Lib.hid (fun W (E : Eds W g2 0 er.length er) => show Calls Tryz.prog 31 #[.agg #[.int .i64 nr, .slice (some ⟨g2, 0, none⟩) er.length c2]] W (fun e w' => ∃ A c, e = .returned (.tuple #[.slice A (poL n1 es1).length c, .int .i64 0]) ∧ Below W.heap.size W w') from by
        have := imPartsOf_any nr g2 0 er.length c2 er W E (by omega)
        rw [hi2] at this
        exact this.mono fun e w' ⟨A, c, h1, _, h2⟩ => ⟨A, c, by rw [h1, hpo], h2⟩)
      have HB1 := Lib.hid (fun W (E : Eds W g1 o1 es1.length es1) => show Calls Tryz.prog 32 #[.agg #[.int .i64 n1, .slice (some ⟨g1, o1, none⟩) es1.length c1]] W (Ret (.tuple #[.bool (biB n1 es1), .int .i64 0]) W) from hi1 ▸ imIsBipartite_any n1 g1 o1 es1.length c1 es1 W E (by omega))
      have HB2 := Lib.hid (fun W (E : Eds W g2 0 er.length er) => show Calls Tryz.prog 32 #[.agg #[.int .i64 nr, .slice (some ⟨g2, 0, none⟩) er.length c2]] W (Ret (.tuple #[.bool (biB n1 es1), .int .i64 0]) W) from by
        have := imIsBipartite_any nr g2 0 er.length c2 er W E (by omega)
        rw [hi2] at this
        rw [← hbi]
        exact this)
      have HC1 := Lib.hid (fun W (E : Eds W g1 o1 es1.length es1) => show Calls Tryz.prog 33 #[.agg #[.int .i64 n1, .slice (some ⟨g1, o1, none⟩) es1.length c1]] W (Ret (.tuple #[.bool (((poL n1 es1).length : Int) == 1), .int .i64 0]) W) from by
        have := imIsConnected_any n1 g1 o1 es1.length c1 es1 W E (by omega)
        rw [hi1, hic] at this
        have e : decide ((poL n1 es1).length = 1) = (((poL n1 es1).length : Int) == 1) := by
          by_cases h : (poL n1 es1).length = 1
          · simp [h]
          · have : ((poL n1 es1).length : Int) ≠ 1 := by omega
            simp [h, this]
        rwa [e] at this)
      have HEV := Lib.hid (fun h : biB n1 es1 = true => show (giV n1 es1).tmod 2 = 0 from by rw [Int.tmod_eq_emod_of_nonneg hg0]; exact hev h)
      obtain ⟨G, hG⟩ : ∃ G, G = giV n1 es1 := ⟨_, rfl⟩
      obtain ⟨K, hK⟩ : ∃ K, K = (poL n1 es1).length := ⟨_, rfl⟩
      obtain ⟨bb, hbb⟩ : ∃ bb, bb = biB n1 es1 := ⟨_, rfl⟩
      rw [← hG] at HG1 HG2 HEV
      rw [← hK] at HP1 HP2 HC1
      rw [← hbb] at HB1 HB2 HEV
      clear hG hK hbb hi1 hi2 hgi hpo hbi hic hev hg0 hg21 hG1 hG2 hK20 hk HRN HRI
      obtain ⟨s_X1, p_X1, q_X1⟩ := X1
      have X1 : Box2 w4 x1 (.int .i64 n1) (.slice (some ⟨g1, o1, none⟩) es1.length c1) := ⟨s_X1, p_X1, q_X1⟩
      go_wp2_with fail
      clear s_X1 p_X1 q_X1
      have BC : Below w4.heap.size w4 w4 := Below.refl _ _
      refine (HG1.out _ E1).mono ?_
      rintro e u1 ⟨rfl, hb⟩
      replace X1 := X1.below hb
      replace E1 := E1.below hb
      replace X2 := X2.below hb
      replace E2 := E2.below hb
      replace BC := BC.andB hb
      clear hb HG1
      have XC := X2
      obtain ⟨s_X2, p_X2, q_X2⟩ := XC
      go_wp2_with fail
      clear s_X2 p_X2 q_X2
      refine (HG2.out _ E2).mono ?_
      rintro e u2 ⟨rfl, hb⟩
      replace X1 := X1.below hb
      replace E1 := E1.below hb
      replace X2 := X2.below hb
      replace E2 := E2.below hb
      replace BC := BC.andB hb
      clear hb HG2
      have XC := X1
      obtain ⟨s_X1, p_X1, q_X1⟩ := XC
      go_wp2_with fail
      clear s_X1 p_X1 q_X1
      refine (HP1.out _ E1).mono ?_
      rintro e u3 ⟨Aa, cca, rfl, hb⟩
      replace X1 := X1.below hb
      replace E1 := E1.below hb
      replace X2 := X2.below hb
      replace E2 := E2.below hb
      replace BC := BC.andB hb
      clear hb HP1
      have XC := X2
      obtain ⟨s_X2, p_X2, q_X2⟩ := XC
      go_wp2_with fail
      clear s_X2 p_X2 q_X2
      refine (HP2.out _ E2).mono ?_
      rintro e u4 ⟨Ab, ccb, rfl, hb⟩
      replace X1 := X1.below hb
      replace E1 := E1.below hb
      replace X2 := X2.below hb
      replace E2 := E2.below hb
      replace BC := BC.andB hb
      clear hb HP2
      have XC := X1
      obtain ⟨s_X1, p_X1, q_X1⟩ := XC
      go_wp2_with fail
      clear s_X1 p_X1 q_X1
      refine (HB1.out _ E1).mono ?_
      rintro e u5 ⟨rfl, hb⟩
      replace X1 := X1.below hb
      replace E1 := E1.below hb
      replace X2 := X2.below hb
      replace E2 := E2.below hb
      replace BC := BC.andB hb
      clear hb HB1
      have XC := X2
      obtain ⟨s_X2, p_X2, q_X2⟩ := XC
      go_wp2_with fail
      clear s_X2 p_X2 q_X2
      refine (HB2.out _ E2).mono ?_
      rintro e u6 ⟨rfl, hb⟩
      replace X1 := X1.below hb
      replace E1 := E1.below hb
      replace X2 := X2.below hb
      replace E2 := E2.below hb
      replace BC := BC.andB hb
      clear hb HB2
      have XC := X1
      obtain ⟨s_X1, p_X1, q_X1⟩ := XC
      go_wp2_with fail
      clear s_X1 p_X1 q_X1
      refine (HC1.out _ E1).mono ?_
      rintro e u7 ⟨rfl, hb⟩
      replace X1 := X1.below hb
      replace E1 := E1.below hb
      replace X2 := X2.below hb
      replace E2 := E2.below hb
      replace BC := BC.andB hb
      clear hb HC1
      cases bb with
      | true =>
        have hev := HEV.out rfl
        clear HEV X1 X2 E1 E2 O2
        go_wp2_with fail
        go_meet
        case rel => exact BC
      | false =>
        clear HEV X1 X2 E1 E2 O2
        go_wp2_with fail
        go_meet
        case rel => exact BC
    · have h1 : (kr == 0) = false := by simp [hk]
      clear hk HRN HRI
      go_wp2_with fail
      go_meet
      case rel => exact Below.refl _ _
  replace BW := BW.andB hcut
  go_step
  exact law_fp2 A l c w _ HB0.out hl BW
end Go.Proofs.YtajnhkkiddeegaaGreat
