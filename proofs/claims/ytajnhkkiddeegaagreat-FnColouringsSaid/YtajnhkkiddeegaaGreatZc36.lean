import Derived.Deep.Cut
import Derived.Test.YtajnhkkiddeegaaGreatZc30
import Derived.Test.YtajnhkkiddeegaaGreatZc31
import Derived.Test.YtajnhkkiddeegaaGreatZc35
set_option linter.unusedVariables false
set_option linter.unusedSimpArgs false
namespace Go.Proofs.YtajnhkkiddeegaaGreat
open Go.RowKit Go.Sort
theorem ncL_200 (n : Int) (es : List (Int × Int)) : (ncL n es).length ≤ 200 := by
  unfold ncL
  split
  · split
    · rw [List.length_map]; assumption
    · simp
  · simp
theorem ncL_rows (n : Int) (es : List (Int × Int)) (hl : es.length ≤ 60) : ∀ j, j < (ncL n es).length → (ra (ncL n es) j).length ≤ 1048576 := by
  intro j hj
  unfold ncL at hj ⊢
  split at hj
  · rename_i h1
    rw [if_pos h1]
    split at hj
    · rename_i h2
      rw [if_pos h2]
      have := tk_rows (m := es.length) (most := (allC es (ia [])).length) (allC es (ia [])) (j := j) (by unfold tkL; rw [List.length_take, List.length_map] at *; omega)
      unfold tkL at this
      rw [List.take_of_length_le (by rw [List.length_map]; omega)] at this
      omega
    · simp at hj
  · simp at hj
set_option maxRecDepth 100000 in
set_option maxHeartbeats 8000000 in
theorem law_FnColourings (A : Option Addr) (l c : Nat) (w : World) (hB0 : Bys0 w A l) (hl63 : l ≤ 9223372036854775807) : Calls Tryz.prog 3 #[.slice A l c] w (Ret (.bool true) w) := by
  by_cases hl : l ≤ 4096
  rotate_left
  · have hbg : decide ((l : Int) > 4096) = true := by simp; omega
    have HBG := Lib.hid (hbg ▸ big_any A l c w)
    clear hbg
    go_enter Tryz.func3, Tryz.ntmps3
    go_wp2_with fail
    refine HBG.out.mono ?_
    rintro e w1 ⟨rfl, rfl⟩
    go_wp2_with fail
    go_ret
    exact ⟨rfl, Below.refl _ _⟩
  have KC := cell_rg
  have hbg : decide ((l : Int) > 4096) = false := by simp; omega
  have HBG := Lib.hid (hbg ▸ big_any A l c w)
  clear hbg
  have HD1 := Lib.hid (fun W h => drawNormalColourings_any A l c W h hl)
  have HD2 := Lib.hid (fun W h => drawCountColourings_any A l c W h hl)
  have HD3 := Lib.hid (fun W h => drawFirstColouring_any A l c W h hl)
  have HD4 := Lib.hid (fun W h => drawAreAlike_any A l c W h hl)
  have HD5 := Lib.hid (fun W h => drawIsColouring_any A l c W h hl)
  have HB0 := Lib.hid hB0
  clear hB0 hl63
  go_enter Tryz.func3, Tryz.ntmps3
  go_wp2_with fail
  refine HBG.out.mono ?_
  rintro e w0 ⟨rfl, rfl⟩
  have BW : Below w.heap.size w w := Below.refl _ _
  clear HBG
  go_wp2_with fail
  refine (HD1.out _ (HB0.out.below BW)).mono ?_
  rintro e w1 ⟨n1, g1, o1, c1, es1, rfl, E1, hg1, hl1, hb1⟩
  replace BW := BW.andB hb1
  go_wp2_with fail
  have X1 := Box2.made w1 (.int .i64 n1) (.slice (some ⟨g1, o1, none⟩) es1.length c1) 26
  have ha1 : Below w1.heap.size w1 (w1.alloc (.cells #[.int .i64 n1, .slice (some ⟨g1, o1, none⟩) es1.length c1] 26)) := (Below.refl _ _).alloc (Nat.le_refl _) _
  obtain ⟨v1, hv1⟩ : ∃ v1, v1 = w1.alloc (.cells #[.int .i64 n1, .slice (some ⟨g1, o1, none⟩) es1.length c1] 26) := ⟨_, rfl⟩
  rw [← hv1] at X1 ha1 ⊢
  obtain ⟨x1, hx1⟩ : ∃ x1, x1 = w1.heap.size := ⟨_, rfl⟩
  rw [← hx1] at X1 ⊢
  replace E1 := E1.below ha1
  replace BW := BW.andB ha1
  clear hv1 hx1 ha1 hb1
  refine (imNormalColourings_any n1 g1 o1 es1.length c1 es1 v1 E1 (by omega)).mono ?_
  rintro e w2 ⟨A1, ca1, rfl, OL1, hb⟩
  replace X1 := X1.below hb
  replace E1 := E1.below hb
  replace BW := BW.andB hb
  clear hb
  have XC := X1
  obtain ⟨s_, p_, q_⟩ := XC
  go_wp2_with fail
  clear s_ p_ q_
  refine (spNormalColourings_any n1 g1 o1 es1.length c1 es1 w2 E1 (by omega)).mono ?_
  rintro e w3 ⟨A2, ca2, rfl, OL2, hb⟩
  replace X1 := X1.below hb
  replace E1 := E1.below hb
  replace OL1 := OL1.below hb
  replace BW := BW.andB hb
  clear hb
  have L1 := OL1.src
  have L2 := OL2.src
  have HR1 := Lib.hid (ncL_rows n1 es1 hl1)
  have HR2 := Lib.hid (ncL_200 n1 es1)
  have HC0 := Lib.hid (fun h : ncC n1 es1 = 0 => (⟨(nc_0 h).1, nc_six h, bridge_cc (nc_0 h).1, fun i hi => nc_row h (i := i) hi⟩ : imC n1 es1 = 0 ∧ ccV n1 es1 = 6 * ((ncL n1 es1).length : Int) ∧ (0 < (bgL n1 es1).length → ccV n1 es1 = 0) ∧ ∀ i, i < (ncL n1 es1).length → icR n1 es1 (ia (ra (ncL n1 es1) i)) (ra (ncL n1 es1) i).length = true ∧ (ra (ncL n1 es1) i).length = es1.length))
  have HC1 := Lib.hid (fun h : ncC n1 es1 ≠ 0 => nc_not h)
  obtain ⟨rows, hrows⟩ : ∃ rows, rows = ncL n1 es1 := ⟨_, rfl⟩
  rw [← hrows] at L1 L2 HR1 HR2 HC0 HC1 ⊢
  obtain ⟨R, hR⟩ : ∃ R, R = rows.length := ⟨_, rfl⟩
  rw [← hR] at HR1 HR2 HC0 ⊢
  have HRL := Lib.hid hR.symm
  obtain ⟨kc, hkc⟩ : ∃ kc, kc = ncC n1 es1 := ⟨_, rfl⟩
  rw [← hkc] at HC0 HC1 ⊢
  clear OL1 OL2 hrows hR hkc
  go_wp2_with fail
  refine (rows9_any A1 A2 R ca1 ca2 rows w3 HRL.out L1 L2 (by have := HR2.out; omega) HR1.out).mono ?_
  rintro e w4 ⟨rfl, hb⟩
  replace X1 := X1.below hb
  replace E1 := E1.below hb
  replace L1 := L1.below hb
  replace BW := BW.andB hb
  clear hb
  clear L2 HR1
  go_wp2_with fail
  as_aux_lemma =>
    refine (HD2.out _ (HB0.out.below BW)).mono ?_
    rintro e w5 ⟨n2, g2, o2, c2, es2, rfl, E2, hg2, hl2, hb2⟩
    replace BW := BW.andB hb2
    go_wp2_with fail
    have X2 := Box2.made w5 (.int .i64 n2) (.slice (some ⟨g2, o2, none⟩) es2.length c2) 26
    have ha2 : Below w5.heap.size w5 (w5.alloc (.cells #[.int .i64 n2, .slice (some ⟨g2, o2, none⟩) es2.length c2] 26)) := (Below.refl _ _).alloc (Nat.le_refl _) _
    obtain ⟨v2, hv2⟩ : ∃ v2, v2 = w5.alloc (.cells #[.int .i64 n2, .slice (some ⟨g2, o2, none⟩) es2.length c2] 26) := ⟨_, rfl⟩
    rw [← hv2] at X2 ha2 ⊢
    obtain ⟨x2, hx2⟩ : ∃ x2, x2 = w5.heap.size := ⟨_, rfl⟩
    rw [← hx2] at X2 ⊢
    replace E2 := E2.below ha2
    replace BW := BW.andB ha2
    replace X1 := (X1.below hb2).below ha2
    replace E1 := (E1.below hb2).below ha2
    replace L1 := (L1.below hb2).below ha2
    clear hv2 hx2 ha2 hb2
    refine (imCountColourings_any n2 g2 o2 es2.length c2 es2 v2 E2 (by omega)).mono ?_
    rintro e w6 ⟨rfl, hb⟩
    replace X1 := X1.below hb
    replace E1 := E1.below hb
    replace L1 := L1.below hb
    replace X2 := X2.below hb
    replace E2 := E2.below hb
    replace BW := BW.andB hb
    clear hb
    have XC := X2
    obtain ⟨s_, p_, q_⟩ := XC
    go_wp2_with fail
    clear s_ p_ q_
    refine (spCountColourings_any n2 g2 o2 es2.length c2 es2 w6 E2 (by omega)).mono ?_
    rintro e w7 ⟨rfl, hb⟩
    replace X1 := X1.below hb
    replace E1 := E1.below hb
    replace L1 := L1.below hb
    replace X2 := X2.below hb
    replace E2 := E2.below hb
    replace BW := BW.andB hb
    clear hb
    go_wp2_with fail
    as_aux_lemma =>
      refine (HD3.out _ (HB0.out.below BW)).mono ?_
      rintro e w8 ⟨n3, g3, o3, c3, es3, rfl, E3, hg3, hl3, hb3⟩
      replace BW := BW.andB hb3
      go_wp2_with fail
      have X3 := Box2.made w8 (.int .i64 n3) (.slice (some ⟨g3, o3, none⟩) es3.length c3) 26
      have ha3 : Below w8.heap.size w8 (w8.alloc (.cells #[.int .i64 n3, .slice (some ⟨g3, o3, none⟩) es3.length c3] 26)) := (Below.refl _ _).alloc (Nat.le_refl _) _
      obtain ⟨v3, hv3⟩ : ∃ v3, v3 = w8.alloc (.cells #[.int .i64 n3, .slice (some ⟨g3, o3, none⟩) es3.length c3] 26) := ⟨_, rfl⟩
      rw [← hv3] at X3 ha3 ⊢
      obtain ⟨x3, hx3⟩ : ∃ x3, x3 = w8.heap.size := ⟨_, rfl⟩
      rw [← hx3] at X3 ⊢
      replace E3 := E3.below ha3
      replace BW := BW.andB ha3
      replace X1 := (X1.below hb3).below ha3
      replace E1 := (E1.below hb3).below ha3
      replace L1 := (L1.below hb3).below ha3
      replace X2 := (X2.below hb3).below ha3
      replace E2 := (E2.below hb3).below ha3
      clear hv3 hx3 ha3 hb3
      refine (imFirstColouring_any n3 g3 o3 es3.length c3 es3 v3 E3 (by omega)).mono ?_
      rintro e w9 ⟨A3, ca3, rfl, O3, hb⟩
      replace X1 := X1.below hb
      replace E1 := E1.below hb
      replace L1 := L1.below hb
      replace X2 := X2.below hb
      replace E2 := E2.below hb
      replace X3 := X3.below hb
      replace E3 := E3.below hb
      replace BW := BW.andB hb
      clear hb
      have XC := X3
      obtain ⟨s_, p_, q_⟩ := XC
      go_wp2_with fail
      clear s_ p_ q_
      refine (spFirstColouring_any n3 g3 o3 es3.length c3 es3 w9 E3 (by omega)).mono ?_
      rintro e w10 ⟨A4, ca4, rfl, O4, hb⟩
      replace X1 := X1.below hb
      replace E1 := E1.below hb
      replace L1 := L1.below hb
      replace X2 := X2.below hb
      replace E2 := E2.below hb
      replace X3 := X3.below hb
      replace E3 := E3.below hb
      replace O3 := O3.below hb
      replace BW := BW.andB hb
      clear hb
      have hfl : (fcL n3 es3).length ≤ 1048576 := by
        unfold fcL
        split
        · split
          · simp
          · rw [lsN_len]; omega
        · simp
      have S3 := O3.src
      have S4 := O4.src
      have HF3 := Lib.hid (fun h : imC n3 es3 = 0 => has_first h)
      obtain ⟨fl, hfl2⟩ : ∃ fl, fl = fcL n3 es3 := ⟨_, rfl⟩
      rw [← hfl2] at hfl S3 S4 ⊢
      obtain ⟨fn, hfn⟩ : ∃ fn, fn = fl.length := ⟨_, rfl⟩
      rw [← hfn] at hfl S3 S4 ⊢
      obtain ⟨fc, hfc⟩ : ∃ fc, fc = fcC n3 es3 := ⟨_, rfl⟩
      rw [← hfc] at HF3 ⊢
      clear O3 O4 hfl2 hfn hfc
      go_wp2_with fail
      refine (likeInts_any A3 A4 fn ca3 ca4 (ia fl) w10 S3 S4 hfl).mono ?_
      rintro e w11 ⟨rfl, hb⟩
      replace X1 := X1.below hb
      replace E1 := E1.below hb
      replace L1 := L1.below hb
      replace X2 := X2.below hb
      replace E2 := E2.below hb
      replace X3 := X3.below hb
      replace E3 := E3.below hb
      replace BW := BW.andB hb
      clear hb
      clear S3 S4 hfl
      have XC := X3
      obtain ⟨s_, p_, q_⟩ := XC
      go_wp2_with fail
      clear s_ p_ q_
      refine (imHasColouring_any n3 g3 o3 es3.length c3 es3 w11 E3 (by omega)).mono ?_
      rintro e w12 ⟨rfl, hb⟩
      replace X1 := X1.below hb
      replace E1 := E1.below hb
      replace L1 := L1.below hb
      replace X2 := X2.below hb
      replace E2 := E2.below hb
      replace X3 := X3.below hb
      replace E3 := E3.below hb
      replace BW := BW.andB hb
      clear hb
      have XC := X3
      obtain ⟨s_, p_, q_⟩ := XC
      go_wp2_with fail
      clear s_ p_ q_
      refine (spHasColouring_any n3 g3 o3 es3.length c3 es3 w12 E3 (by omega)).mono ?_
      rintro e w13 ⟨rfl, hb⟩
      replace X1 := X1.below hb
      replace E1 := E1.below hb
      replace L1 := L1.below hb
      replace X2 := X2.below hb
      replace E2 := E2.below hb
      replace X3 := X3.below hb
      replace E3 := E3.below hb
      replace BW := BW.andB hb
      clear hb
      obtain ⟨hk3, hhk3⟩ : ∃ hk3, hk3 = imC n3 es3 := ⟨_, rfl⟩
      obtain ⟨hb3, hhb3⟩ : ∃ hb3, hb3 = hcR n3 es3 := ⟨_, rfl⟩
      rw [← hhk3, ← hhb3] at HF3 ⊢
      clear hhk3 hhb3 X3 E3
      go_wp2_with fail
      as_aux_lemma =>
        refine (HD4.out _ (HB0.out.below BW)).mono ?_
        rintro e w14 ⟨n4, g4, o4, c4, es4, ga, oa, ma, ca, av, gb, ob, mb, cb, bv, rfl, E4, hg4, hl4, hal, hga, Ia, hma, hbl, hgb, Ib, hmb, hb4⟩
        replace BW := BW.andB hb4
        go_wp2_with fail
        have X4 := Box2.made w14 (.int .i64 n4) (.slice (some ⟨g4, o4, none⟩) es4.length c4) 26
        have ha4 : Below w14.heap.size w14 (w14.alloc (.cells #[.int .i64 n4, .slice (some ⟨g4, o4, none⟩) es4.length c4] 26)) := (Below.refl _ _).alloc (Nat.le_refl _) _
        obtain ⟨v4, hv4⟩ : ∃ v4, v4 = w14.alloc (.cells #[.int .i64 n4, .slice (some ⟨g4, o4, none⟩) es4.length c4] 26) := ⟨_, rfl⟩
        rw [← hv4] at X4 ha4 ⊢
        obtain ⟨x4, hx4⟩ : ∃ x4, x4 = w14.heap.size := ⟨_, rfl⟩
        rw [← hx4] at X4 ⊢
        replace E4 := E4.below ha4
        replace BW := BW.andB ha4
        replace X1 := (X1.below hb4).below ha4
        replace E1 := (E1.below hb4).below ha4
        replace L1 := (L1.below hb4).below ha4
        replace X2 := (X2.below hb4).below ha4
        replace E2 := (E2.below hb4).below ha4
        replace Ia := Ia.below ha4
        replace Ib := Ib.below ha4
        clear hv4 hx4 ha4 hb4 hga hgb hg4
        refine (imAreAlike_any n4 g4 o4 es4.length c4 es4 ga oa ma ca (ia av) gb ob mb cb (ia bv) v4 E4 (by omega) Ia (by omega) Ib (by omega)).mono ?_
        rintro e w15 ⟨rfl, hb⟩
        replace X1 := X1.below hb
        replace E1 := E1.below hb
        replace L1 := L1.below hb
        replace X2 := X2.below hb
        replace E2 := E2.below hb
        replace X4 := X4.below hb
        replace E4 := E4.below hb
        replace Ia := Ia.below hb
        replace Ib := Ib.below hb
        replace BW := BW.andB hb
        clear hb
        have XC := X4
        obtain ⟨s_, p_, q_⟩ := XC
        go_wp2_with fail
        clear s_ p_ q_
        refine (spAreAlike_any n4 g4 o4 es4.length c4 es4 ga oa ma ca (ia av) gb ob mb cb (ia bv) w15 E4 (by omega) Ia (by omega) Ib (by omega)).mono ?_
        rintro e w16 ⟨rfl, hb⟩
        replace X1 := X1.below hb
        replace E1 := E1.below hb
        replace L1 := L1.below hb
        replace X2 := X2.below hb
        replace E2 := E2.below hb
        replace X4 := X4.below hb
        replace E4 := E4.below hb
        replace Ia := Ia.below hb
        replace Ib := Ib.below hb
        replace BW := BW.andB hb
        clear hb
        go_wp2_with fail
        as_aux_lemma =>
          refine (HD5.out _ (HB0.out.below BW)).mono ?_
          rintro e w17 ⟨n5, g5, o5, c5, es5, gc, oc, mc, cc, cv, rfl, E5, hg5, hl5, hcl, hgc, Ic, hmc, hb5⟩
          replace BW := BW.andB hb5
          go_wp2_with fail
          have X5 := Box2.made w17 (.int .i64 n5) (.slice (some ⟨g5, o5, none⟩) es5.length c5) 26
          have ha5 : Below w17.heap.size w17 (w17.alloc (.cells #[.int .i64 n5, .slice (some ⟨g5, o5, none⟩) es5.length c5] 26)) := (Below.refl _ _).alloc (Nat.le_refl _) _
          obtain ⟨v5, hv5⟩ : ∃ v5, v5 = w17.alloc (.cells #[.int .i64 n5, .slice (some ⟨g5, o5, none⟩) es5.length c5] 26) := ⟨_, rfl⟩
          rw [← hv5] at X5 ha5 ⊢
          obtain ⟨x5, hx5⟩ : ∃ x5, x5 = w17.heap.size := ⟨_, rfl⟩
          rw [← hx5] at X5 ⊢
          replace E5 := E5.below ha5
          replace BW := BW.andB ha5
          replace X1 := (X1.below hb5).below ha5
          replace E1 := (E1.below hb5).below ha5
          replace L1 := (L1.below hb5).below ha5
          replace X2 := (X2.below hb5).below ha5
          replace E2 := (E2.below hb5).below ha5
          replace X4 := (X4.below hb5).below ha5
          replace E4 := (E4.below hb5).below ha5
          replace Ia := (Ia.below hb5).below ha5
          replace Ib := (Ib.below hb5).below ha5
          replace Ic := Ic.below ha5
          clear hv5 hx5 ha5 hb5 hgc hg5
          refine (imIsColouring_any n5 g5 o5 es5.length c5 gc oc mc cc es5 (ia cv) v5 E5 (by omega) Ic (by omega)).mono ?_
          rintro e w18 ⟨rfl, hb⟩
          replace X1 := X1.below hb
          replace E1 := E1.below hb
          replace L1 := L1.below hb
          replace X2 := X2.below hb
          replace E2 := E2.below hb
          replace X4 := X4.below hb
          replace E4 := E4.below hb
          replace Ia := Ia.below hb
          replace Ib := Ib.below hb
          replace X5 := X5.below hb
          replace E5 := E5.below hb
          replace Ic := Ic.below hb
          replace BW := BW.andB hb
          clear hb
          have XC := X5
          obtain ⟨s_, p_, q_⟩ := XC
          go_wp2_with fail
          clear s_ p_ q_
          refine (spIsColouring_any n5 g5 o5 es5.length c5 gc oc mc cc es5 (ia cv) w18 E5 (by omega) Ic (by omega)).mono ?_
          rintro e w19 ⟨rfl, hb⟩
          replace X1 := X1.below hb
          replace E1 := E1.below hb
          replace L1 := L1.below hb
          replace X2 := X2.below hb
          replace E2 := E2.below hb
          replace X4 := X4.below hb
          replace E4 := E4.below hb
          replace Ia := Ia.below hb
          replace Ib := Ib.below hb
          replace X5 := X5.below hb
          replace E5 := E5.below hb
          replace Ic := Ic.below hb
          replace BW := BW.andB hb
          clear hb
          clear X5 E5 Ic hcl hmc
          go_upto_region 32 with fail
          go_cut [188] from 46 (fun s wx => s = .bool false ∧ wx = w19)
          case first =>
            by_cases hk : hk3 = 0
            · have h1 : (hk3 == 0) = true := by simp [hk]
              have h2 : (hb3 != (fc == 0)) = false := by
                have := HF3.out hk
                rw [this]
                by_cases h : fc = 0 <;> simp [h]
              clear hk HF3
              go_wp2_with fail
              go_meet
              case rel => exact ⟨by revert h2; cases hb3 <;> cases (fc == 0) <;> simp, rfl⟩
            · have h1 : (hk3 == 0) = false := by simp [hk]
              clear hk HF3
              go_wp2_with fail
              go_meet
              case rel => exact ⟨rfl, rfl⟩
          as_aux_lemma =>
            obtain ⟨rfl, rfl⟩ := hcut
            clear HF3
            have HA := Lib.hid (fun W (E : Eds W g4 o4 es4.length es4) (Ia : Ints W ga oa ma (ia av)) (Ib : Ints W gb ob mb (ia bv)) (h : aaC n4 es4 (ia av) ma (ia bv) mb = 0) => show Calls Tryz.prog 20 #[.agg #[.int .i64 n4, .slice (some ⟨g4, o4, none⟩) es4.length c4], .slice (some ⟨gb, ob, none⟩) mb cb, .slice (some ⟨ga, oa, none⟩) ma ca] W (Ret (.tuple #[.bool (aaV n4 es4 (ia av) ma (ia bv) mb), .int .i64 0]) W) from by
              have := imAreAlike_any n4 g4 o4 es4.length c4 es4 gb ob mb cb (ia bv) ga oa ma ca (ia av) W E (by omega) Ib (by omega) Ia (by omega)
              rw [aaV_symm h, aaC_symm, h] at this
              exact this)
            obtain ⟨ac, hac⟩ : ∃ ac, ac = aaC n4 es4 (ia av) ma (ia bv) mb := ⟨_, rfl⟩
            obtain ⟨ax, hax⟩ : ∃ ax, ax = aaV n4 es4 (ia av) ma (ia bv) mb := ⟨_, rfl⟩
            rw [← hac, ← hax] at HA ⊢
            clear hac hax
            obtain ⟨w20, rfl⟩ : ∃ w20, w20 = wc := ⟨wc, rfl⟩
            go_upto_if 190 with fail
            go_cut [] from 46 (fun wx => Below w20.heap.size w20 wx)
            case first =>
              by_cases hk : ac = 0
              · have h1 : (ac == 0) = true := by simp [hk]
                have HA2 := Lib.hid (HA.out w20 E4 Ia Ib hk)
                obtain ⟨s_, p_, q_⟩ := X4
                clear hk HA
                go_wp2_with fail
                refine HA2.out.mono ?_
                rintro e w21 ⟨rfl, hb⟩
                clear s_ p_ q_
                go_wp2_with fail
                go_meet
                case rel => exact hb
              · have h1 : (ac == 0) = false := by simp [hk]
                clear hk HA
                go_wp2_with fail
                go_meet
                case rel => exact Below.refl _ _
            as_aux_lemma =>
              replace X1 := X1.below hcut
              replace E1 := E1.below hcut
              replace L1 := L1.below hcut
              replace X2 := X2.below hcut
              replace E2 := E2.below hcut
              replace BW := BW.andB hcut
              clear hcut HA X4 E4 Ia Ib
              have HH := Lib.hid (fun W (E : Eds W g2 o2 es2.length es2) (h : imC n2 es2 = 0) => show Calls Tryz.prog 17 #[.agg #[.int .i64 n2, .slice (some ⟨g2, o2, none⟩) es2.length c2]] W (Ret (.tuple #[.bool (decide (0 < ccV n2 es2)), .int .i64 0]) W) from by
                have := imHasColouring_any n2 g2 o2 es2.length c2 es2 W E (by omega)
                rw [has_count h, h] at this
                exact this)
              have H6 := Lib.hid (fun h : imC n2 es2 = 0 => show (ccV n2 es2).tmod 6 = 0 from by rw [cc_six h]; exact Int.mul_tmod_right _ _)
              obtain ⟨cc2, hcc2⟩ : ∃ cc2, cc2 = ccV n2 es2 := ⟨_, rfl⟩
              obtain ⟨ck2, hck2⟩ : ∃ ck2, ck2 = imC n2 es2 := ⟨_, rfl⟩
              rw [← hcc2, ← hck2] at HH H6 ⊢
              clear hcc2 hck2
              obtain ⟨w21, rfl⟩ : ∃ w21, w21 = wc := ⟨wc, rfl⟩
              go_upto_if 206 with fail
              go_cut [] from 46 (fun wx => Below w21.heap.size w21 wx)
              case first =>
                by_cases hk : ck2 = 0
                · have h1 : (ck2 == 0) = true := by simp [hk]
                  have h6 := H6.out hk
                  have HA2 := Lib.hid (HH.out w21 E2 hk)
                  obtain ⟨s_, p_, q_⟩ := X2
                  clear hk HH H6
                  go_wp2_with fail
                  refine HA2.out.mono ?_
                  rintro e w22 ⟨rfl, hb⟩
                  clear s_ p_ q_
                  go_wp2_with fail
                  go_meet
                  case rel => exact hb
                · have h1 : (ck2 == 0) = false := by simp [hk]
                  clear hk HH H6
                  go_wp2_with fail
                  go_meet
                  case rel => exact Below.refl _ _
              as_aux_lemma =>
                replace X1 := X1.below hcut
                replace E1 := E1.below hcut
                replace L1 := L1.below hcut
                replace BW := BW.andB hcut
                clear hcut HH H6 X2 E2
                obtain ⟨w22, rfl⟩ : ∃ w22, w22 = wc := ⟨wc, rfl⟩
                by_cases hk : kc = 0
                rotate_left
                · have h1 : (kc != 0) = true := by simp [hk]
                  have h2 : R = 0 := by have := HC1.out hk; rw [← HRL.out, this]; rfl
                  subst h2
                  clear hk HC0 HC1
                  go_wp2_with fail
                  go_ret
                  exact ⟨rfl, BW⟩
                as_aux_lemma =>
                  obtain ⟨hi0, hc6, hbr, hrow⟩ := HC0.out hk
                  have h1 : (kc != 0) = false := by simp [hk]
                  have hR := HR2.out
                  have hw6 : IntKind.i64.wrap (6 * (R : Int)) = 6 * (R : Int) := IntWalk.i64_in _ (by omega)
                  have HCC := Lib.hid (fun W (E : Eds W g1 o1 es1.length es1) => show Calls Tryz.prog 11 #[.agg #[.int .i64 n1, .slice (some ⟨g1, o1, none⟩) es1.length c1]] W (Ret (.tuple #[.int .i64 (6 * (R : Int)), .int .i64 0]) W) from by
                    have := imCountColourings_any n1 g1 o1 es1.length c1 es1 W E (by omega)
                    rw [hc6, hi0] at this
                    exact this)
                  have HBG := Lib.hid (fun W (E : Eds W g1 o1 es1.length es1) => show Calls Tryz.prog 25 #[.agg #[.int .i64 n1, .slice (some ⟨g1, o1, none⟩) es1.length c1]] W (RetLC (bgL n1 es1) 0 W) from by
                    have := imBridgesOf_any n1 g1 o1 es1.length c1 es1 W E (by omega)
                    rw [hi0] at this
                    exact this)
                  have HIC := Lib.hid (fun i (hi : i < R) W (E : Eds W g1 o1 es1.length es1) (b2 o2 c2 : Nat) (I : Ints W b2 o2 (ra rows i).length (ia (ra rows i))) => show Calls Tryz.prog 23 #[.agg #[.int .i64 n1, .slice (some ⟨g1, o1, none⟩) es1.length c1], .slice (some ⟨b2, o2, none⟩) (ra rows i).length c2] W (Ret (.tuple #[.bool true, .int .i64 0]) W) from by
                    have := imIsColouring_any n1 g1 o1 es1.length c1 b2 o2 (ra rows i).length c2 es1 (ia (ra rows i)) W E (by omega) I (by rw [(hrow i hi).2]; omega)
                    rw [hi0, (hrow i hi).1] at this
                    exact this)
                  have HRW := Lib.hid (fun i (hi : i < R) => (hrow i hi).2)
                  have HG1 := Lib.hid (im0 hi0)
                  have HBR := Lib.hid (show 0 < (bgL n1 es1).length → R = 0 from fun h => by have := hbr h; omega)
                  have hes3 : 0 < es1.length := by have := HG1.out.wf.1; have := HG1.out.wf.2.2.2.1; omega
                  clear hk hi0 hc6 hbr hrow HC0 HC1
                  obtain ⟨s_, p_, q_⟩ := X1
                  go_wp2_with fail
                  refine (HCC.out _ E1).mono ?_
                  rintro e w23 ⟨rfl, hb⟩
                  have X1 := Box2.below ⟨s_, p_, q_⟩ hb
                  replace E1 := E1.below hb
                  replace L1 := L1.below hb
                  replace BW := BW.andB hb
                  clear s_ p_ q_ hb
                  have XC := X1
                  obtain ⟨s_, p_, q_⟩ := XC
                  go_wp2_with fail
                  refine (HBG.out _ E1).mono ?_
                  rintro e w24 ⟨A5, ca5, rfl, _, hb⟩
                  replace X1 := X1.below hb
                  replace E1 := E1.below hb
                  replace L1 := L1.below hb
                  replace BW := BW.andB hb
                  clear s_ p_ q_ hb HCC HBG
                  obtain ⟨bl, hbl2⟩ : ∃ bl, bl = (bgL n1 es1).length := ⟨_, rfl⟩
                  rw [← hbl2] at HBR ⊢
                  clear hbl2
                  go_upto_region 46 with fail
                  go_cut [261] from 46 (fun s wx => s = .bool false ∧ wx = w24)
                  case first =>
                    by_cases hb0 : 0 < bl
                    · have hR0 := HBR.out hb0
                      subst hR0
                      clear HBR
                      go_wp2_with fail
                      go_meet
                      case rel => exact ⟨rfl, rfl⟩
                    · have hb3 : bl = 0 := by omega
                      subst hb3
                      clear hb0 HBR
                      go_wp2_with fail
                      go_meet
                      case rel => exact ⟨rfl, rfl⟩
                  as_aux_lemma =>
                    obtain ⟨rfl, rfl⟩ := hcut
                    obtain ⟨w25, rfl⟩ : ∃ w25, w25 = wc := ⟨wc, rfl⟩
                    clear HBR
                    go_wp2_with fail
                    go_loopw [43] (fun iv wv => ∃ i : Nat, i ≤ R ∧ i ≤ 3 ∧ iv = .int .i64 i ∧ Below w25.heap.size w25 wv) (fun iv _ => 3 - (intOf iv).toNat)
                    case atStart => exact ⟨0, Nat.zero_le _, Nat.zero_le _, rfl, Below.refl _ _⟩
                    case round =>
                      obtain ⟨i, hiR, hi3, rfl, hbv⟩ := hrel
                      by_cases h3 : i < 3
                      rotate_left
                      · have h3b : ¬ ((i : Int) < 3) := by omega
                        have hBF := BW.andB hbv
                        by_cases h4 : i < R
                        · go_wp2_with fail
                          go_ret
                          exact ⟨rfl, hBF⟩
                        · go_wp2_with fail
                          go_ret
                          exact ⟨rfl, hBF⟩
                      by_cases h4 : i < R
                      · have h3b : (i : Int) < 3 := by omega
                        have hwi : IntKind.i64.wrap ((i : Int) + 1) = (i : Int) + 1 := IntWalk.i64_in _ (by omega)
                        obtain ⟨s_, p_, q_⟩ := X1.below hbv
                        obtain ⟨gr, orr, Aj, cj, hA1, zr, cr, sr⟩ := L1.below hbv i (by rw [HRL.out]; exact h4)
                        have hrl := HRW.out i h4
                        obtain ⟨b2, o2, rfl, I⟩ := sr (by rw [hrl]; exact hes3)
                        subst hA1
                        have HE : Hid (∀ d os, Calls Tryz.prog 23 #[.agg #[.int .i64 n1, .slice (some ⟨g1, o1, none⟩) es1.length c1], .slice (some ⟨b2, o2, none⟩) (ra rows i).length cj] (grow (redrawn wr d) os) fun e w'' => e = .returned (.tuple #[.bool true, .int .i64 0]) ∧ ∃ p : Regrown, w'' = grow (redrawn wr p.d) p.os) := fun d os =>
                          Ret.rg (HIC.out i h4 _ ((E1.below hbv).below (below_regrown _ _ _)) b2 o2 cj (I.below (below_regrown _ _ _)))
                        clear hrl I sr
                        go_wp2_with fail
                        (refine wp_region_quiet_below (by kernel_rfl) (by kernel_rfl) ?_
                         repeat (any_goals (go_big_quiet_step (first | (go_at_call 23; exact HE.out _ _))))
                         all_goals (refine wpQuiet_nil ?_; intro wq1 hq1; replace hq1 := below_of_rg hq1))
                        have hbv := hbv.andB hq1
                        clear s_ p_ q_ cr zr
                        go_wp2_with fail
                        go_roundw
                        case rel => exact ⟨i + 1, by omega, by omega, by go_num, hbv⟩
                        case measure => simp [intOf]; omega
                      · have hBF := BW.andB hbv
                        go_wp2_with fail
                        go_ret
                        exact ⟨rfl, hBF⟩
end Go.Proofs.YtajnhkkiddeegaaGreat
