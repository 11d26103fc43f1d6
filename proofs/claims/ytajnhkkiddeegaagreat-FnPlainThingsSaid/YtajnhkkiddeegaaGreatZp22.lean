import Derived.Test.YtajnhkkiddeegaaGreatZp21
set_option linter.unusedVariables false
set_option linter.unusedSimpArgs false
namespace Go.Proofs.YtajnhkkiddeegaaGreat
open Go.RowKit Go.Sort
def DrwP (n : Int) (es : List (Int × Int)) : Prop := ∃ N : Nat, n = N ∧ 2 ≤ N ∧ N ≤ 40 ∧ 0 < es.length ∧ es.length ≤ 60
set_option maxRecDepth 100000 in
set_option maxHeartbeats 4000000 in
theorem l01Draw_any (A : Option Addr) (l c p : Nat) (w : World) (S : SR A l c p w) (hl : l ≤ 4096) :
    Calls Tryz.prog 74 #[.pointer (some ⟨p, 0, none⟩)] w (RetD (DrwP) A l c p w) := by
  have KC := cell_rg
  have hpw := S.lt
  have HS0 := Lib.hid S
  have HB := Lib.hid (Box2F.made w (.int .i64 0) (.slice none 0 0) 26)
  have D1 : DR A l c p w (w.alloc (.cells #[.int .i64 0, .slice none 0 0] 26)) := DR.ofB S ((Below.refl _ _).alloc (Nat.le_refl _) _)
  have HNX := Lib.hid (fun (k : Int) W (hS : SR A l c p W) => l01Next_any A l c p k W hS hl)
  have HDOR := Lib.hid (fun (N : Nat) W (hS : SR A l c p W) (hN : N ≤ 100) => l01DrawOrder_any A l c p N W hS hl hN)
  have HDOF := Lib.hid (fun (N : Nat) W (hS : SR A l c p W) (hN : 2 ≤ N ∧ N ≤ 20 ∧ N % 2 = 0) => l01DrawOf_any A l c p N W hS hl hN)
  have HSM := Lib.hid (fun W (hS : SR A l c p W) => l01Small_any A l c p W hS hl)
  clear S
  go_enter Tryz.func74, Tryz.ntmps74
  go_wp2_with fail
  obtain ⟨w1, hw1⟩ : ∃ w1, w1 = w.alloc (.cells #[.int .i64 0, .slice none 0 0] 26) := ⟨_, rfl⟩
  rw [← hw1] at HB D1 ⊢
  obtain ⟨b4, hb4⟩ : ∃ b4, b4 = w.heap.size := ⟨_, rfl⟩
  have HB4 := Lib.hid hb4
  rw [← hb4] at HB ⊢
  have hpb : p < b4 := by omega
  clear hw1 hb4
  refine (HNX.out 3 _ D1.2).mono ?_
  rintro e w2 ⟨x, rfl, hx, D2⟩
  have PB := HB.out.keptP D2.1 (by omega)
  have D := D1.trans D2
  clear HB D1 D2
  by_cases hx0 : x = 0
  · subst hx0
    clear hx
    go_wp2_with fail
    refine (l01Names_any w2).mono ?_
    rintro e w3 ⟨rfl, hw3⟩
    subst hw3
    have D3 : DR A l c p w (w2.alloc (.cells (nmL.map Value.string).toArray 9)) := D.thenB ((Below.refl _ _).alloc (Nat.le_refl _) _)
    have PB3 : Box2F (w2.alloc (.cells (nmL.map Value.string).toArray 9)) b4 (.int .i64 0) (.slice none 0 0) := PB.below ((Below.refl _ _).alloc (Nat.le_refl _) _)
    have HNC := Lib.hid (fun x hx => nm_cell w2 nmL 9 x hx)
    have hz3 : w2.heap.size < (w2.alloc (.cells (nmL.map Value.string).toArray 9)).heap.size := by simp
    go_wp2_with fail
    refine (HNX.out 9 (w2.alloc (.cells (nmL.map Value.string).toArray 9)) D3.2).mono ?_
    rintro e w4 ⟨y, rfl, hy, D4⟩
    obtain ⟨yn, rfl⟩ : ∃ yn : Nat, y = yn := ⟨y.toNat, by have := hy.1; omega⟩
    have hy9 : yn < 9 := by have := hy.2.1 (by omega); omega
    have hz2 := D.1.size
    have cy := (D4.cell (a := ⟨w2.heap.size, yn, none⟩) hz3 (by simp only; omega) rfl).trans (HNC.out yn (by show yn < 9; omega))
    have zb : w2.heap.size < w4.heap.size := Nat.lt_of_lt_of_le hz3 D4.1.size
    have PB4 := PB3.keptP D4.1 (by omega)
    have D := D3.trans D4
    have hz4 := D.1.size
    obtain ⟨s, hs⟩ : ∃ s, s = nmL.getD yn ⟨#[]⟩ := ⟨_, rfl⟩
    rw [← hs] at cy
    have HNM := Lib.hid (fun W => named_any W s yn (by omega) hs)
    clear hy hs D3 D4 PB PB3 HNC hz3
    go_wp2_with fail
    refine (HNM.out w4).mono ?_
    rintro e w5 ⟨N, es, ⟨A5, c5, rfl, O5, hb5⟩, hwf⟩
    have hlen : (es.length : Int) = 3 * N / 2 := hwf.2.2.2.1
    have hN2 : 2 ≤ N ∧ N ≤ 20 := by have := hwf.1; have := hwf.2.1; omega
    obtain ⟨g, rfl, E5⟩ := O5.some (by omega)
    have hg := (O5.blk g rfl).1
    have D := D.thenB hb5
    have PB5 := PB4.below hb5
    clear O5 PB4 cy zb
    go_wp2_with fail
    have PG := Box2.made w5 (.int .i64 N) (.slice (some ⟨g, 0, none⟩) es.length c5) 26
    have hb6 : Below w5.heap.size w5 (w5.alloc (.cells #[.int .i64 N, .slice (some ⟨g, 0, none⟩) es.length c5] 26)) := (Below.refl _ _).alloc (Nat.le_refl _) _
    obtain ⟨w6, hw6⟩ : ∃ w6, w6 = w5.alloc (.cells #[.int .i64 N, .slice (some ⟨g, 0, none⟩) es.length c5] 26) := ⟨_, rfl⟩
    rw [← hw6] at PG hb6 ⊢
    clear hw6
    have hz5 := D.1.size
    obtain ⟨b5, hb5e⟩ : ∃ b5, b5 = w5.heap.size := ⟨_, rfl⟩
    rw [← hb5e] at PG ⊢
    have hb5p : p < b5 := by omega
    have E6 := E5.below hb6
    have PB6 := PB5.below hb6
    have D6 := D.thenB hb6
    have HSR := Lib.hid D6.2
    have HDO := Lib.hid (fun W (hS : SR A l c p W) => HDOR.out N W hS (by omega))
    have hgp : g ≠ p := by omega
    clear hb6 hb5 hb5e E5 PB5 D
    obtain ⟨s5, p5, q5⟩ := PG
    refine wp_region_then 5 (fun i9 v W => match i9 with
      | 0 => v = .agg #[.int .i64 (N : Int), .slice (some ⟨g, 0, none⟩) es.length c5]
      | 1 => v = .pointer (some ⟨p, 0, none⟩)
      | 2 => v = .pointer (some ⟨b5, 0, none⟩)
      | 3 => v = .int .i64 (N : Int)
      | _ => OrdV p N v W)
      (fun i => match i with
      | _ => none)
      (fun _ W W' => DR A l c p W W')  (fun W => DR A l c p w6 W) (by kernel_rfl) (by kernel_rfl) ?_ ?_ ?_ ?_ ?_
    · exact DR.ofB HSR.out ((Below.refl _ _).drew)
    · intro i k v W W' hne hd hC hf hE
      match i, hf with
      | 0, hf => exact hf
      | 1, hf => exact hf
      | 2, hf => exact hf
      | 3, hf => exact hf
      | _ + 4, hf => exact OrdV.dr hf hE
    · intro k W W' hC hE
      exact DR.trans hC hE
    · simp only [List.take_succ_cons, List.take_zero]
      refine ⟨?_, ?_, ?_, ?_, ?_, trivial⟩
      · intro a W hC hs hd
        have hW : DR A l c p w6 W := hC
        have e4 : a.tmps[4]?.getD undef = .pointer (some ⟨b5, 0, none⟩) := hs 4 (by kernel_rfl)
        refine growsG_none (E := fun W W' => DR A l c p W W') rfl ?_
        have k0 := (hW.cell (a := ⟨b5, 0, none⟩) (s5) (by simp only; omega) rfl).trans (p5)
        have k1 := (hW.cell (a := ⟨b5, 1, none⟩) (s5) (by simp only; omega) rfl).trans (q5)
        clear hs hd
        unfold GrowsE
        go_simp
        exact DR.refl hW.2
      · intro a W hC hs hd
        have hW : DR A l c p w6 W := hC
        have e0 : a.tmps[0]?.getD undef = .pointer (some ⟨p, 0, none⟩) := hs 0 (by kernel_rfl)
        refine growsG_none (E := fun W W' => DR A l c p W W') rfl ?_
        clear hs hd
        unfold GrowsE
        go_simp
        exact DR.refl hW.2
      · intro a W hC hs hd
        have hW : DR A l c p w6 W := hC
        have e4 : a.tmps[4]?.getD undef = .pointer (some ⟨b5, 0, none⟩) := hs 4 (by kernel_rfl)
        refine growsG_none (E := fun W W' => DR A l c p W W') rfl ?_
        have k0 := (hW.cell (a := ⟨b5, 0, none⟩) (s5) (by simp only; omega) rfl).trans (p5)
        have k1 := (hW.cell (a := ⟨b5, 1, none⟩) (s5) (by simp only; omega) rfl).trans (q5)
        clear hs hd
        unfold GrowsE
        go_simp
        exact DR.refl hW.2
      · intro a W hC hs hd
        have hW : DR A l c p w6 W := hC
        have e23 : (a.tmps[23]?.getD undef) = .pointer (some ⟨b5, 0, none⟩) := hd 2 23 (by kernel_rfl) (by kernel_rfl) (by kernel_rfl)
        refine growsG_none (E := fun W W' => DR A l c p W W') rfl ?_
        have k0 := (hW.cell (a := ⟨b5, 0, none⟩) (s5) (by simp only; omega) rfl).trans (p5)
        have k1 := (hW.cell (a := ⟨b5, 1, none⟩) (s5) (by simp only; omega) rfl).trans (q5)
        clear hs hd
        unfold GrowsE
        go_simp
        exact DR.refl hW.2
      · intro a W hC hs hd
        have hW : DR A l c p w6 W := hC
        have e22 : (a.tmps[22]?.getD undef) = .pointer (some ⟨p, 0, none⟩) := hd 1 22 (by kernel_rfl) (by kernel_rfl) (by kernel_rfl)
        have e24 : (a.tmps[24]?.getD undef) = .int .i64 (N : Int) := hd 3 24 (by kernel_rfl) (by kernel_rfl) (by kernel_rfl)
        refine growsG_none (E := fun W W' => DR A l c p W W') rfl ?_
        clear hs hd
        unfold GrowsE
        go_simp
        refine ⟨Below.refl _ _, (HDO.out W hW.2).mono ?_⟩
        rintro e w9 ⟨g9, c9, xs9, rfl, O9, HO9, D9⟩
        obtain ⟨bb, oo, e0, I9⟩ := O9.src (by omega)
        injection e0 with e0
        injection e0 with e1 e2
        subst e1 e2
        exact ⟨_, rfl, D9, g9, c9, xs9, rfl, (by have h1 := (O9.blk g9 rfl).1; have h2 := hW.2.lt; omega), I9, HO9⟩
    intro vs W hW hf
    have f21 : (vs 21) = .agg #[.int .i64 (N : Int), .slice (some ⟨g, 0, none⟩) es.length c5] := hf 0 21 (by decide) (by kernel_rfl) (fun _ hk => by cases hk)
    have f22 : (vs 22) = .pointer (some ⟨p, 0, none⟩) := hf 1 22 (by decide) (by kernel_rfl) (fun _ hk => by cases hk)
    have f23 : (vs 23) = .pointer (some ⟨b5, 0, none⟩) := hf 2 23 (by decide) (by kernel_rfl) (fun _ hk => by cases hk)
    have f24 : (vs 24) = .int .i64 (N : Int) := hf 3 24 (by decide) (by kernel_rfl) (fun _ hk => by cases hk)
    have f25 : OrdV p N (vs 25) W := hf 4 25 (by decide) (by kernel_rfl) (fun _ hk => by cases hk)
    obtain ⟨g25, c25, xs, f25, hg25, I25, HO25⟩ := f25
    simp only [dsts, List.take_succ_cons, List.take_zero, List.drop_succ_cons, List.drop_zero, List.filterMap_cons, List.filterMap_nil, List.foldl_cons, List.foldl_nil, Act.put, List.setIfInBounds_toArray, List.set_cons_succ, List.set_cons_zero, f21, f22, f23, f24, f25]
    clear hf
    have hW : DR A l c p w6 W := hW
    have E7 := hW.1.eds E6 hgp
    have PB7 := PB6.keptP hW.1 (by omega)
    have DV := D6.trans hW
    have hwz := DV.1.size
    have hbw4 : w.heap.size = b4 := HB4.out.symm
    have HRN := Lib.hid (l01Renamed_any N g 0 es.length c5 g25 0 N c25 es (ia xs) W E7 I25 hwf rfl)
    have hwf2 := Lib.hid (wfP_ren hwf HO25)
    obtain ⟨SL, hSL⟩ : ∃ SL, SL = srtE (es.map (rnE (ia xs))) := ⟨_, rfl⟩
    rw [← hSL] at HRN hwf2
    have hSLl : Hid (SL.length = es.length) := by show _ = _; rw [hSL, srt_len, List.length_map]
    clear hW E6 PB6 D6 I25 HO25 hSL E7 s5 p5 q5
    go_wp2_with fail
    refine HRN.out.mono ?_
    rintro e w8 ⟨g6, c6, rfl, O8, hb8⟩
    have PW := PB7.below hb8
    have DW := DV.thenB hb8
    have hgO := O8.ge
    have hb4l := PB7.box.lt
    have O9 := (O8.setOther (a := ⟨b4, 0, none⟩) (by simp; omega) (.int .i64 N)).setOther (a := ⟨b4, 1, none⟩) (by simp; omega) (.slice (some ⟨g6, 0, none⟩) SL.length c6)
    have P9 := PW.set2 (.int .i64 N) (.slice (some ⟨g6, 0, none⟩) SL.length c6)
    have D9 := DR.set2 HS0.out DW (b := b4) (by omega) (.int .i64 N) (.slice (some ⟨g6, 0, none⟩) SL.length c6)
    obtain ⟨⟨sW, pW, qW⟩, fW, gW⟩ := PW
    clear O8 DW DV PB7
    go_wp2_with fail
    generalize hw9 : (World.setCell (World.setCell _ ⟨b4, 0, none⟩ (.int .i64 N)) ⟨b4, 1, none⟩ (.slice (some ⟨g6, 0, none⟩) SL.length c6)) = w9 at O9 P9 D9 ⊢
    clear hw9 pW qW
    obtain ⟨⟨k0, k1, k2⟩, _, _⟩ := P9
    refine bodyPost_ret (v := .agg #[.int .i64 N, .slice (some ⟨g6, 0, none⟩) SL.length c6]) ?_ rfl ⟨N, g6, 0, c6, SL, rfl, O9.eds, by omega, ⟨N, rfl, by have := hwf.1; omega, by have := hwf.2.1; omega, by rw [hSLl.out]; omega, by rw [hSLl.out]; omega⟩, D9⟩
    simp [results, Tryz.results74, go_sem, k1, k2]
  · go_wp2_with fail
    refine (HNX.out 8 _ D.2).mono ?_
    rintro e w22 ⟨x2, rfl, hx2, D22⟩
    have PB := PB.keptP D22.1 (by omega)
    have D := D.trans D22
    clear D22 hx
    obtain ⟨w2, rfl⟩ : ∃ w2, w2 = w22 := ⟨w22, rfl⟩
    by_cases hx20 : x2 = 0
    · subst hx20
      clear hx2
      have hz2 := D.1.size
      go_wp2_with fail
      refine (HSM.out _ D.2).mono ?_
      rintro e w3 ⟨n1, g1, o1, c1, es, rfl, E1, hg1, hwf1, D3⟩
      have PB := PB.keptP D3.1 (by omega)
      have D := D.trans D3
      go_wp2_with fail
      refine (HSM.out _ D.2).mono ?_
      rintro e w4 ⟨n2, g3, o3, c3, fs, rfl, E2, hg3, hwf2, D4⟩
      have PB7 := PB.keptP D4.1 (by omega)
      have E1 := D4.1.eds E1 (show ¬ g1 = p by omega)
      have DV := D.trans D4
      have HBS := Lib.hid (l01Beside_any n1 n2 g1 o1 es.length c1 g3 o3 fs.length c3 es fs w4 E1 E2 hwf1 hwf2)
      have hwz := DV.1.size
      have hbw4 : w.heap.size = b4 := HB4.out.symm
      have hP : DrwP (n1 + n2) (srtE (besL n1 es fs)) := by
        have h1 := hwf1.1; have h2 := hwf1.2.1; have h3 := hwf2.1; have h4 := hwf2.2.1; have h5 := hwf1.2.2.2.1; have h6 := hwf2.2.2.2.1
        have hl : (srtE (besL n1 es fs)).length = es.length + fs.length := by rw [srt_len, besL, List.length_append, List.length_map]
        exact ⟨(n1 + n2).toNat, by omega, by omega, by omega, by rw [hl]; omega, by rw [hl]; omega⟩
      obtain ⟨SL, hSL⟩ : ∃ SL, SL = srtE (besL n1 es fs) := ⟨_, rfl⟩
      rw [← hSL] at HBS hP
      obtain ⟨n9, hn9⟩ : ∃ n9, n9 = n1 + n2 := ⟨_, rfl⟩
      rw [← hn9] at HBS hP
      clear hSL hn9 D D3 D4 E1 E2 hg1 hg3 PB
      go_wp2_with fail
      refine HBS.out.mono ?_
      rintro e w8 ⟨g6, c6, rfl, O8, hb8⟩
      have PW := PB7.below hb8
      have DW := DV.thenB hb8
      have hgO := O8.ge
      have hb4l := PB7.box.lt
      have O9 := (O8.setOther (a := ⟨b4, 0, none⟩) (by simp; omega) (.int .i64 n9)).setOther (a := ⟨b4, 1, none⟩) (by simp; omega) (.slice (some ⟨g6, 0, none⟩) SL.length c6)
      have P9 := PW.set2 (.int .i64 n9) (.slice (some ⟨g6, 0, none⟩) SL.length c6)
      have D9 := DR.set2 HS0.out DW (b := b4) (by omega) (.int .i64 n9) (.slice (some ⟨g6, 0, none⟩) SL.length c6)
      obtain ⟨⟨sW, pW, qW⟩, fW, gW⟩ := PW
      clear O8 DW DV PB7
      go_wp2_with fail
      generalize hw9 : (World.setCell (World.setCell _ ⟨b4, 0, none⟩ (.int .i64 n9)) ⟨b4, 1, none⟩ (.slice (some ⟨g6, 0, none⟩) SL.length c6)) = w9 at O9 P9 D9 ⊢
      clear hw9 pW qW
      obtain ⟨⟨k0, k1, k2⟩, _, _⟩ := P9
      refine bodyPost_ret (v := .agg #[.int .i64 n9, .slice (some ⟨g6, 0, none⟩) SL.length c6]) ?_ rfl ⟨n9, g6, 0, c6, SL, rfl, O9.eds, by omega, hP, D9⟩
      simp [results, Tryz.results74, go_sem, k1, k2]
    · go_wp2_with fail
      have D3 : DR A l c p w (w2.alloc (.cells (([2, 4, 6, 8, 10, 12, 14, 20] : List Int).map (Value.int .i64)).toArray 2)) := D.thenB ((Below.refl _ _).alloc (Nat.le_refl _) _)
      have PB3 : Box2F (w2.alloc (.cells (([2, 4, 6, 8, 10, 12, 14, 20] : List Int).map (Value.int .i64)).toArray 2)) b4 (.int .i64 0) (.slice none 0 0) := PB.below ((Below.refl _ _).alloc (Nat.le_refl _) _)
      have hz2 := D.1.size
      have HPK := Lib.hid (l01Pick_any A l c p w2.heap.size 0 8 8 (ia [2, 4, 6, 8, 10, 12, 14, 20]) _ D3.2 hl (ints_of9 w2 [2, 4, 6, 8, 10, 12, 14, 20] 2) (by omega) (by omega) (by omega))
      clear D PB
      go_wp2_with fail
      refine HPK.out.mono ?_
      rintro e w4 ⟨y, rfl, ⟨k, hk, hyk⟩, D4⟩
      obtain ⟨N, hN, hN2⟩ := even_lit (xs := [2, 4, 6, 8, 10, 12, 14, 20]) (by decide) (k := k) hk
      rw [hN] at hyk
      subst hyk
      have PB7 := PB3.keptP D4.1 (by omega)
      have DV := D3.trans D4
      have HOF := Lib.hid (HDOF.out N w4 DV.2 hN2)
      clear hN hk D3 D4 PB3 HPK
      go_wp2_with fail
      refine HOF.out.mono ?_
      rintro e w8 ⟨n8, g6, o6, c6, SL, rfl, E8, hg8, ⟨rfl, hwf⟩, D8⟩
      have PW := PB7.keptP D8.1 (by omega)
      have hwz := DV.1.size
      have DW := DV.trans D8
      have hb4l := PB7.box.lt
      have hbw4 : w.heap.size = b4 := HB4.out.symm
      have P9 := PW.set2 (.int .i64 N) (.slice (some ⟨g6, o6, none⟩) SL.length c6)
      have D9 := DR.set2 HS0.out DW (b := b4) (by omega) (.int .i64 N) (.slice (some ⟨g6, o6, none⟩) SL.length c6)
      have E9 := (E8.setOther (a := ⟨b4, 0, none⟩) (by simp only; omega) (.int .i64 N)).setOther (a := ⟨b4, 1, none⟩) (by simp only; omega) (.slice (some ⟨g6, o6, none⟩) SL.length c6)
      obtain ⟨⟨sW, pW, qW⟩, fW, gW⟩ := PW
      clear E8 DW DV PB7
      go_wp2_with fail
      generalize hw9 : (World.setCell (World.setCell _ ⟨b4, 0, none⟩ (.int .i64 N)) ⟨b4, 1, none⟩ (.slice (some ⟨g6, o6, none⟩) SL.length c6)) = w9 at E9 P9 D9 ⊢
      clear hw9 pW qW
      obtain ⟨⟨k0, k1, k2⟩, _, _⟩ := P9
      refine bodyPost_ret (v := .agg #[.int .i64 N, .slice (some ⟨g6, o6, none⟩) SL.length c6]) ?_ rfl ⟨N, g6, o6, c6, SL, rfl, E9, by omega, ⟨N, rfl, by have := hwf.1; omega, by have := hwf.2.1; omega, by have := hwf.2.2.2.1; omega, by have := hwf.2.2.2.1; omega⟩, D9⟩
      simp [results, Tryz.results74, go_sem, k1, k2]
end Go.Proofs.YtajnhkkiddeegaaGreat
namespace Go.Proofs.YtajnhkkiddeegaaGreat
open Go.RowKit Go.Sort
def NatV (m : Nat) (v : Value) : Prop := ∃ x : Nat, x < m ∧ v = .int .i64 x
def IntV (v : Value) : Prop := ∃ x : Int, v = .int .i64 x
def PairV (v : Value) : Prop := ∃ x y : Int, v = .agg #[.int .i64 x, .int .i64 y]
def PtrE (g m : Nat) (v : Value) : Prop := ∃ x : Nat, x < m ∧ v = .pointer (some ⟨g, x * 2, none⟩)
def LstV (p : Nat) (xs : List Int) (v : Value) (W : World) : Prop := ∃ g : Nat, v = .slice (some ⟨g, 0, none⟩) xs.length xs.length ∧ g ≠ p ∧ Ints W g 0 xs.length (ia xs)
theorem LstV.dr {A : Option Addr} {l c p : Nat} {xs : List Int} {v : Value} {W W' : World} (h : LstV p xs v W) (hb : DR A l c p W W') : LstV p xs v W' := by
  obtain ⟨g, e, hg, I⟩ := h
  exact ⟨g, e, hg, hb.1.ints I hg⟩
/-- The call returns a graph, whatever it is. -/
def RetX (A : Option Addr) (l c p b : Nat) (w : World) (e : Ending) (w' : World) : Prop := ∃ (n : Int) (g o c' : Nat) (es : List (Int × Int)), e = .returned (.agg #[.int .i64 n, .slice (some ⟨g, o, none⟩) es.length c']) ∧ Eds w' g o es.length es ∧ (g = b ∨ w.heap.size ≤ g) ∧ es.length ≤ 60 ∧ DR A l c p w w'
theorem retX_of {A : Option Addr} {l c p b : Nat} {w w' : World} {n : Int} {g o m c' : Nat} {es : List (Int × Int)} (E : Eds w' g o m es) (hm : es.length = m) (hg : g = b ∨ w.heap.size ≤ g) (hl : m ≤ 60) (D : DR A l c p w w') :
    RetX A l c p b w (.returned (.agg #[.int .i64 n, .slice (some ⟨g, o, none⟩) m c'])) w' := by
  subst hm; exact ⟨n, g, o, c', es, rfl, E, hg, hl, D⟩
theorem DR.set {A : Option Addr} {l c p b o : Nat} {w W : World} (S : SR A l c p w) (D : DR A l c p w W) (hb : w.heap.size ≤ b) (v : Value) : DR A l c p w (W.setCell ⟨b, o, none⟩ v) :=
  (DR.grown S D (row := some b) ⟨rfl, rfl, rfl, by simp, fun k _ hk => Below.heap_setCell _ _ _ _ (fun e => hk (by rw [e]))⟩ (fun g hg => by injection hg with hg; omega))
set_option maxRecDepth 100000 in
set_option maxHeartbeats 4000000 in
theorem l01Bad_any (A : Option Addr) (l c p N b o m ce : Nat) (es : List (Int × Int)) (w : World) (S : SR A l c p w) (hl : l ≤ 4096) (hN : N ≤ 40) (E : Eds w b o m es) (hbp : b ≠ p) (hm : 0 < m ∧ m ≤ 60) :
    Calls Tryz.prog 77 #[.pointer (some ⟨p, 0, none⟩), .agg #[.int .i64 N, .slice (some ⟨b, o, none⟩) m ce]] w (RetX A l c p b w) := by
  have KC := cell_rg
  have hpw := S.lt
  have HS0 := Lib.hid S
  have HNX := Lib.hid (fun (k : Int) W (hS : SR A l c p W) => l01Next_any A l c p k W hS hl)
  have hel := Lib.hid E.len
  have hbw := E.blk
  -- the two boxes
  have X1 := Box2.made w (.int .i64 N) (.slice (some ⟨b, o, none⟩) m ce) 26
  have hb1 : Below w.heap.size w (w.alloc (.cells #[.int .i64 N, .slice (some ⟨b, o, none⟩) m ce] 26)) := (Below.refl _ _).alloc (Nat.le_refl _) _
  obtain ⟨w1, hw1⟩ : ∃ w1, w1 = w.alloc (.cells #[.int .i64 N, .slice (some ⟨b, o, none⟩) m ce] 26) := ⟨_, rfl⟩
  rw [← hw1] at X1 hb1
  have hs1 : w1.heap.size = w.heap.size + 1 := by rw [hw1]; simp
  have X2 := Box2F.made w1 (.int .i64 0) (.slice none 0 0) 26
  have hb2 : Below w1.heap.size w1 (w1.alloc (.cells #[.int .i64 0, .slice none 0 0] 26)) := (Below.refl _ _).alloc (Nat.le_refl _) _
  obtain ⟨w2, hw2⟩ : ∃ w2, w2 = w1.alloc (.cells #[.int .i64 0, .slice none 0 0] 26) := ⟨_, rfl⟩
  rw [← hw2] at X2 hb2
  have hs2 : w2.heap.size = w1.heap.size + 1 := by rw [hw2]; simp
  have X1 := X1.below hb2
  have hB2 := hb1.andB hb2
  obtain ⟨b3, hb3⟩ : ∃ b3, b3 = w.heap.size := ⟨_, rfl⟩
  obtain ⟨b4, hb4⟩ : ∃ b4, b4 = w1.heap.size := ⟨_, rfl⟩
  rw [← hb3] at X1
  rw [← hb4] at X2
  have HW : Hid (w2 = (w.alloc (.cells #[.int .i64 N, .slice (some ⟨b, o, none⟩) m ce] 26)).alloc (.cells #[.int .i64 0, .slice none 0 0] 26) ∧ w.heap.size = b3 ∧ w.heap.size + 1 = b4) := by rw [← hw1]; exact ⟨hw2, hb3.symm, by omega⟩
  have hpb : p < b3 ∧ b3 < b4 ∧ b4 < w2.heap.size := by omega
  have E2 := E.below hB2
  have D2 : DR A l c p w w2 := DR.ofB S hB2
  clear S E hw1 hw2 hs1 hs2 hb1 hb2 hB2 hb3 hb4
  obtain ⟨z3, p3, q3⟩ := X1
  go_enter Tryz.func77, Tryz.ntmps77
  go_wp2_with (at_builtin; refine wp_appE0 rfl rfl rfl rfl (by simp) (by rw [← HW.out.1]; exact E2) hm.1 (by omega) ?_; intro A5 c5 w3 O3 hb3; rw [← HW.out.1] at O3 hb3)
  rw [HW.out.2.2, HW.out.2.1]
  have D3 := D2.thenB hb3
  have X2 := X2.below hb3
  have z3 := Nat.lt_of_lt_of_le z3 hb3.size
  have p3 := (hb3.cell (p := ⟨b3, 0, none⟩) (by omega)).trans p3
  have q3 := (hb3.cell (p := ⟨b3, 1, none⟩) (by omega)).trans q3
  have E3 := E2.below hb3
  have hw2s : w.heap.size + 2 = w2.heap.size := by rw [HW.out.1]; simp
  have hb3w := HW.out.2.1
  clear E2 D2 hb3
  refine (HNX.out 50 w3 D3.2).mono ?_
  rintro e w4 ⟨x, rfl, hx, D4⟩
  obtain ⟨g, rfl, O4⟩ : ∃ g, A5 = some ⟨g, 0, none⟩ ∧ OwnE w2.heap.size w4 g m c5 es := by
    rcases O3.cases with ⟨_, h0, _⟩ | ⟨g, e, O⟩
    · omega
    · exact ⟨g, e, O.any.kept D4.1.grown (by right; have := O.ge.1; simp [blkOf]; omega)⟩
  have hg := O4.ge
  have X2 := X2.keptP D4.1 (by omega)
  have p3 := (D4.cell (a := ⟨b3, 0, none⟩) (by simp only; omega) (by simp only; omega) rfl).trans p3
  have q3 := (D4.cell (a := ⟨b3, 1, none⟩) (by simp only; omega) (by simp only; omega) rfl).trans q3
  have E4 := D4.1.eds E3 hbp
  have D := D3.trans D4
  have hz4 := D4.1.size
  have s3 : b3 < w4.heap.size := by omega
  clear O3 D3 D4 E3 z3
  have hgp : g ≠ p := by omega
  by_cases hx0 : x = 0
  · subst hx0
    clear hx
    have hwn : IntKind.i64.wrap ((N : Int) + 2) = (N : Int) + 2 := IntWalk.i64_in _ (by omega)
    have D5 : DR A l c p w (w4.alloc (.cells (([0, 3, 22, -2, (N : Int) + 2] : List Int).map (Value.int .i64)).toArray 2)) := D.thenB ((Below.refl _ _).alloc (Nat.le_refl _) _)
    have X5 : Box2F (w4.alloc (.cells (([0, 3, 22, -2, (N : Int) + 2] : List Int).map (Value.int .i64)).toArray 2)) b4 (.int .i64 0) (.slice none 0 0) := X2.below ((Below.refl _ _).alloc (Nat.le_refl _) _)
    have O5 : OwnE w2.heap.size (w4.alloc (.cells (([0, 3, 22, -2, (N : Int) + 2] : List Int).map (Value.int .i64)).toArray 2)) g m c5 es := O4.below ((Below.refl _ _).alloc (Nat.le_refl _) _)
    have HPK := Lib.hid (l01Pick_any A l c p w4.heap.size 0 5 5 (ia [0, 3, 22, -2, (N : Int) + 2]) _ D5.2 hl (ints_of9 w4 [0, 3, 22, -2, (N : Int) + 2] 2) (by omega) (by omega) (by omega))
    clear D X2 O4 E4 q3
    go_wp2_with fail
    refine HPK.out.mono ?_
    rintro e w6 ⟨y, rfl, _, D6⟩
    have X2 := X5.keptP D6.1 (by omega)
    have D := D5.trans D6
    have E8 : Eds w6 g 0 m es := D6.1.eds O5.eds hgp
    clear D5 D6 X5 O5 HPK p3
    have PW := X2
    have hb4l := X2.box.lt
    have P9 := PW.set2 (.int .i64 y) (.slice (some ⟨g, 0, none⟩) m c5)
    have D9 := DR.set2 HS0.out D (b := b4) (by omega) (.int .i64 y) (.slice (some ⟨g, 0, none⟩) m c5)
    have E9 := (E8.setOther (a := ⟨b4, 0, none⟩) (by simp only; omega) (.int .i64 y)).setOther (a := ⟨b4, 1, none⟩) (by simp only; omega) (.slice (some ⟨g, 0, none⟩) m c5)
    obtain ⟨⟨sW, pW, qW⟩, fW, gW⟩ := PW
    clear E8 D X2
    go_wp2_with fail
    generalize hw9 : (World.setCell (World.setCell _ ⟨b4, 0, none⟩ (.int .i64 y)) ⟨b4, 1, none⟩ (.slice (some ⟨g, 0, none⟩) m c5)) = w9 at E9 P9 D9 ⊢
    clear hw9 pW qW
    obtain ⟨⟨k0, k1, k2⟩, _, _⟩ := P9
    refine bodyPost_ret (v := .agg #[.int .i64 y, .slice (some ⟨g, 0, none⟩) m c5]) ?_ rfl (retX_of E9 hel.out (.inr (by omega)) (by omega) D9)
    simp [results, Tryz.results77, go_sem, k1, k2]
  by_cases hx1 : x = 1
  · subst hx1
    clear hx hx0
    have HPK := Lib.hid (fun W (hS : SR A l c p W) (g8 : Nat) (I : Ints W g8 0 3 (ia [-1, (N : Int), 0])) (hg8 : g8 ≠ p) => l01Pick_any A l c p g8 0 3 3 (ia [-1, (N : Int), 0]) W hS hl I hg8 (by omega) (by omega))
    have HSR := Lib.hid D.2
    clear q3 E4
    go_wp2_with fail
    refine wp_region_then 16 (fun i9 v W => match i9 with
      | 0 => v = .slice (some ⟨g, 0, none⟩) m c5
      | 1 => v = .pointer (some ⟨p, 0, none⟩)
      | 2 => v = .slice (some ⟨g, 0, none⟩) m c5
      | 3 => v = .int .i64 (m : Int)
      | 4 => NatV m v
      | 5 => v = .pointer (some ⟨p, 0, none⟩)
      | 6 => v = .pointer (some ⟨b3, 0, none⟩)
      | 7 => v = .int .i64 (N : Int)
      | 8 => IntV v
      | 9 => v = .pointer (some ⟨p, 0, none⟩)
      | 10 => v = .pointer (some ⟨b3, 0, none⟩)
      | 11 => v = .int .i64 (N : Int)
      | 12 => LstV p [-1, (N : Int), 0] v W
      | 13 => IntV v
      | 14 => PairV v
      | _ => PtrE g m v)
      (fun i => match i with
      | _ => none)
      (fun _ W W' => DR A l c p W W')  (fun W => DR A l c p w4 W) (by kernel_rfl) (by kernel_rfl) ?_ ?_ ?_ ?_ ?_
    · exact DR.ofB HSR.out ((Below.refl _ _).drew)
    · intro i k v W W' hne hd hC hf hE
      match i, hf with
      | 0, hf => exact hf
      | 1, hf => exact hf
      | 2, hf => exact hf
      | 3, hf => exact hf
      | 4, hf => exact hf
      | 5, hf => exact hf
      | 6, hf => exact hf
      | 7, hf => exact hf
      | 8, hf => exact hf
      | 9, hf => exact hf
      | 10, hf => exact hf
      | 11, hf => exact hf
      | 12, hf => exact LstV.dr hf hE
      | 13, hf => exact hf
      | 14, hf => exact hf
      | _ + 15, hf => exact hf
    · intro k W W' hC hE
      exact DR.trans hC hE
    · simp only [List.take_succ_cons, List.take_zero]
      refine ⟨?_, ?_, ?_, ?_, ?_, ?_, ?_, ?_, ?_, ?_, ?_, ?_, ?_, ?_, ?_, ?_, trivial⟩
      · intro a W hC hs hd
        have hW : DR A l c p w4 W := hC
        have e5 : a.tmps[5]?.getD undef = .slice (some ⟨g, 0, none⟩) m c5 := hs 5 (by kernel_rfl)
        refine growsG_none (E := fun W W' => DR A l c p W W') rfl ?_
        clear hs hd
        unfold GrowsE
        go_simp
        exact DR.refl hW.2
      · intro a W hC hs hd
        have hW : DR A l c p w4 W := hC
        have e0 : a.tmps[0]?.getD undef = .pointer (some ⟨p, 0, none⟩) := hs 0 (by kernel_rfl)
        refine growsG_none (E := fun W W' => DR A l c p W W') rfl ?_
        clear hs hd
        unfold GrowsE
        go_simp
        exact DR.refl hW.2
      · intro a W hC hs hd
        have hW : DR A l c p w4 W := hC
        have e5 : a.tmps[5]?.getD undef = .slice (some ⟨g, 0, none⟩) m c5 := hs 5 (by kernel_rfl)
        refine growsG_none (E := fun W W' => DR A l c p W W') rfl ?_
        clear hs hd
        unfold GrowsE
        go_simp
        exact DR.refl hW.2
      · intro a W hC hs hd
        have hW : DR A l c p w4 W := hC
        have e28 : (a.tmps[28]?.getD undef) = .slice (some ⟨g, 0, none⟩) m c5 := hd 2 28 (by kernel_rfl) (by kernel_rfl) (by kernel_rfl)
        refine growsG_none (E := fun W W' => DR A l c p W W') rfl ?_
        clear hs hd
        unfold GrowsE
        go_simp
        exact DR.refl hW.2
      · intro a W hC hs hd
        have hW : DR A l c p w4 W := hC
        have e27 : (a.tmps[27]?.getD undef) = .pointer (some ⟨p, 0, none⟩) := hd 1 27 (by kernel_rfl) (by kernel_rfl) (by kernel_rfl)
        have e29 : (a.tmps[29]?.getD undef) = .int .i64 (m : Int) := hd 3 29 (by kernel_rfl) (by kernel_rfl) (by kernel_rfl)
        refine growsG_none (E := fun W W' => DR A l c p W W') rfl ?_
        clear hs hd
        unfold GrowsE
        go_simp
        refine ⟨Below.refl _ _, (HNX.out m W hW.2).mono ?_⟩
        rintro e w9 ⟨x9, rfl, hx9, D9⟩
        exact ⟨_, rfl, D9, x9.toNat, by have := hx9.2.1 (by omega); have := hx9.1; omega, by have := hx9.1; rw [Int.toNat_of_nonneg this]⟩
      · intro a W hC hs hd
        have hW : DR A l c p w4 W := hC
        have e0 : a.tmps[0]?.getD undef = .pointer (some ⟨p, 0, none⟩) := hs 0 (by kernel_rfl)
        refine growsG_none (E := fun W W' => DR A l c p W W') rfl ?_
        clear hs hd
        unfold GrowsE
        go_simp
        exact DR.refl hW.2
      · intro a W hC hs hd
        have hW : DR A l c p w4 W := hC
        have e3 : a.tmps[3]?.getD undef = .pointer (some ⟨b3, 0, none⟩) := hs 3 (by kernel_rfl)
        refine growsG_none (E := fun W W' => DR A l c p W W') rfl ?_
        have k0 := (hW.cell (a := ⟨b3, 0, none⟩) (s3) (by simp only; omega) rfl).trans (p3)
        clear hs hd
        unfold GrowsE
        go_simp
        exact DR.refl hW.2
      · intro a W hC hs hd
        have hW : DR A l c p w4 W := hC
        have e32 : (a.tmps[32]?.getD undef) = .pointer (some ⟨b3, 0, none⟩) := hd 6 32 (by kernel_rfl) (by kernel_rfl) (by kernel_rfl)
        refine growsG_none (E := fun W W' => DR A l c p W W') rfl ?_
        have k0 := (hW.cell (a := ⟨b3, 0, none⟩) (s3) (by simp only; omega) rfl).trans (p3)
        clear hs hd
        unfold GrowsE
        go_simp
        exact DR.refl hW.2
      · intro a W hC hs hd
        have hW : DR A l c p w4 W := hC
        have e31 : (a.tmps[31]?.getD undef) = .pointer (some ⟨p, 0, none⟩) := hd 5 31 (by kernel_rfl) (by kernel_rfl) (by kernel_rfl)
        have e33 : (a.tmps[33]?.getD undef) = .int .i64 (N : Int) := hd 7 33 (by kernel_rfl) (by kernel_rfl) (by kernel_rfl)
        refine growsG_none (E := fun W W' => DR A l c p W W') rfl ?_
        clear hs hd
        unfold GrowsE
        go_simp
        refine ⟨Below.refl _ _, (HNX.out N W hW.2).mono ?_⟩
        rintro e w9 ⟨x9, rfl, hx9, D9⟩
        exact ⟨_, rfl, D9, x9, rfl⟩
      · intro a W hC hs hd
        have hW : DR A l c p w4 W := hC
        have e0 : a.tmps[0]?.getD undef = .pointer (some ⟨p, 0, none⟩) := hs 0 (by kernel_rfl)
        refine growsG_none (E := fun W W' => DR A l c p W W') rfl ?_
        clear hs hd
        unfold GrowsE
        go_simp
        exact DR.refl hW.2
      · intro a W hC hs hd
        have hW : DR A l c p w4 W := hC
        have e3 : a.tmps[3]?.getD undef = .pointer (some ⟨b3, 0, none⟩) := hs 3 (by kernel_rfl)
        refine growsG_none (E := fun W W' => DR A l c p W W') rfl ?_
        have k0 := (hW.cell (a := ⟨b3, 0, none⟩) (s3) (by simp only; omega) rfl).trans (p3)
        clear hs hd
        unfold GrowsE
        go_simp
        exact DR.refl hW.2
      · intro a W hC hs hd
        have hW : DR A l c p w4 W := hC
        have e36 : (a.tmps[36]?.getD undef) = .pointer (some ⟨b3, 0, none⟩) := hd 10 36 (by kernel_rfl) (by kernel_rfl) (by kernel_rfl)
        refine growsG_none (E := fun W W' => DR A l c p W W') rfl ?_
        have k0 := (hW.cell (a := ⟨b3, 0, none⟩) (s3) (by simp only; omega) rfl).trans (p3)
        clear hs hd
        unfold GrowsE
        go_simp
        exact DR.refl hW.2
      · intro a W hC hs hd
        have hW : DR A l c p w4 W := hC
        have e37 : (a.tmps[37]?.getD undef) = .int .i64 (N : Int) := hd 11 37 (by kernel_rfl) (by kernel_rfl) (by kernel_rfl)
        refine growsG_none (E := fun W W' => DR A l c p W W') rfl ?_
        clear hs hd
        unfold GrowsE
        go_simp
        exact ⟨DR.ofB hW.2 ((Below.refl _ _).alloc (Nat.le_refl _) _), _, rfl, by have := hW.2.lt; omega, ints_of9 W [-1, (N : Int), 0] _⟩
      · intro a W hC hs hd
        have hW : DR A l c p w4 W := hC
        have e35 : (a.tmps[35]?.getD undef) = .pointer (some ⟨p, 0, none⟩) := hd 9 35 (by kernel_rfl) (by kernel_rfl) (by kernel_rfl)
        have e38 : LstV p [-1, (N : Int), 0] (a.tmps[38]?.getD undef) W := hd 12 38 (by kernel_rfl) (by kernel_rfl) (by kernel_rfl)
        obtain ⟨g38, e38, hg38, I38⟩ := e38
        refine growsG_none (E := fun W W' => DR A l c p W W') rfl ?_
        clear hs hd
        unfold GrowsE
        go_simp
        refine ⟨Below.refl _ _, (HPK.out W hW.2 g38 I38 hg38).mono ?_⟩
        rintro e w9 ⟨x9, rfl, hx9, D9⟩
        exact ⟨_, rfl, D9, x9, rfl⟩
      · intro a W hC hs hd
        have hW : DR A l c p w4 W := hC
        have e34 : IntV (a.tmps[34]?.getD undef) := hd 8 34 (by kernel_rfl) (by kernel_rfl) (by kernel_rfl)
        obtain ⟨x34, e34⟩ := e34
        have e39 : IntV (a.tmps[39]?.getD undef) := hd 13 39 (by kernel_rfl) (by kernel_rfl) (by kernel_rfl)
        obtain ⟨x39, e39⟩ := e39
        refine growsG_none (E := fun W W' => DR A l c p W W') rfl ?_
        clear hs hd
        unfold GrowsE
        go_simp
        exact ⟨DR.refl hW.2, _, _, rfl⟩
      · intro a W hC hs hd
        have hW : DR A l c p w4 W := hC
        have e26 : (a.tmps[26]?.getD undef) = .slice (some ⟨g, 0, none⟩) m c5 := hd 0 26 (by kernel_rfl) (by kernel_rfl) (by kernel_rfl)
        have e30 : NatV m (a.tmps[30]?.getD undef) := hd 4 30 (by kernel_rfl) (by kernel_rfl) (by kernel_rfl)
        obtain ⟨x30, hx30, e30⟩ := e30
        refine growsG_none (E := fun W W' => DR A l c p W W') rfl ?_
        have k0 := (hW.cell (a := ⟨b3, 0, none⟩) (s3) (by simp only; omega) rfl).trans (p3)
        clear hs hd
        unfold GrowsE
        go_simp
        exact ⟨DR.refl hW.2, x30, hx30, rfl⟩
    intro vs W hW hf
    have f26 : (vs 26) = .slice (some ⟨g, 0, none⟩) m c5 := hf 0 26 (by decide) (by kernel_rfl) (fun _ hk => by cases hk)
    have f27 : (vs 27) = .pointer (some ⟨p, 0, none⟩) := hf 1 27 (by decide) (by kernel_rfl) (fun _ hk => by cases hk)
    have f28 : (vs 28) = .slice (some ⟨g, 0, none⟩) m c5 := hf 2 28 (by decide) (by kernel_rfl) (fun _ hk => by cases hk)
    have f29 : (vs 29) = .int .i64 (m : Int) := hf 3 29 (by decide) (by kernel_rfl) (fun _ hk => by cases hk)
    have f30 : NatV m (vs 30) := hf 4 30 (by decide) (by kernel_rfl) (fun _ hk => by cases hk)
    obtain ⟨x30, hx30, f30⟩ := f30
    have f31 : (vs 31) = .pointer (some ⟨p, 0, none⟩) := hf 5 31 (by decide) (by kernel_rfl) (fun _ hk => by cases hk)
    have f32 : (vs 32) = .pointer (some ⟨b3, 0, none⟩) := hf 6 32 (by decide) (by kernel_rfl) (fun _ hk => by cases hk)
    have f33 : (vs 33) = .int .i64 (N : Int) := hf 7 33 (by decide) (by kernel_rfl) (fun _ hk => by cases hk)
    have f34 : IntV (vs 34) := hf 8 34 (by decide) (by kernel_rfl) (fun _ hk => by cases hk)
    obtain ⟨x34, f34⟩ := f34
    have f35 : (vs 35) = .pointer (some ⟨p, 0, none⟩) := hf 9 35 (by decide) (by kernel_rfl) (fun _ hk => by cases hk)
    have f36 : (vs 36) = .pointer (some ⟨b3, 0, none⟩) := hf 10 36 (by decide) (by kernel_rfl) (fun _ hk => by cases hk)
    have f37 : (vs 37) = .int .i64 (N : Int) := hf 11 37 (by decide) (by kernel_rfl) (fun _ hk => by cases hk)
    have f38 : LstV p [-1, (N : Int), 0] (vs 38) W := hf 12 38 (by decide) (by kernel_rfl) (fun _ hk => by cases hk)
    obtain ⟨g38, f38, hg38, I38⟩ := f38
    have f39 : IntV (vs 39) := hf 13 39 (by decide) (by kernel_rfl) (fun _ hk => by cases hk)
    obtain ⟨x39, f39⟩ := f39
    have f40 : PairV (vs 40) := hf 14 40 (by decide) (by kernel_rfl) (fun _ hk => by cases hk)
    obtain ⟨x40, y40, f40⟩ := f40
    have f41 : PtrE g m (vs 41) := hf 15 41 (by decide) (by kernel_rfl) (fun _ hk => by cases hk)
    obtain ⟨x41, hx41, f41⟩ := f41
    simp only [dsts, List.take_succ_cons, List.take_zero, List.drop_succ_cons, List.drop_zero, List.filterMap_cons, List.filterMap_nil, List.foldl_cons, List.foldl_nil, Act.put, List.setIfInBounds_toArray, List.set_cons_succ, List.set_cons_zero, f26, f27, f28, f29, f30, f31, f32, f33, f34, f35, f36, f37, f38, f39, f40, f41]
    clear hf
    have hW : DR A l c p w4 W := hW
    have O7 : OwnE w2.heap.size W g m c5 es := O4.any.kept hW.1.grown (by right; simp [blkOf]; exact fun e => hgp e)
    have X7 := X2.keptP hW.1 (by omega)
    have D7 := D.trans hW
    have p3 := (hW.cell (a := ⟨b3, 0, none⟩) (by simp only; omega) (by simp only; omega) rfl).trans p3
    have s3 := Nat.lt_of_lt_of_le s3 hW.1.size
    have fz1 := O7.2.frozenAt (x41 * 2)
    have fz2 := O7.2.frozenAt (x41 * 2 + 1)
    have d3 := O7.eds.ca x41 hx41
    have d4 := O7.eds.cb x41 hx41
    rw [Nat.zero_add] at d3 d4
    have zg := O7.ge.2
    clear hW O4 X2 D I38
    go_upto_region 14 with fail
    have O9 := O7.store x41 x40 y40
    have X9 := (X7.setOther (a := ⟨g, x41 * 2, none⟩) (by simp only; omega) (.int .i64 x40)).setOther (a := ⟨g, x41 * 2 + 1, none⟩) (by simp only; omega) (.int .i64 y40)
    have D9 := DR.set (o := x41 * 2 + 1) HS0.out (DR.set (o := x41 * 2) HS0.out D7 (b := g) (by omega) (.int .i64 x40)) (b := g) (by omega) (.int .i64 y40)
    have p3 : ((W.setCell ⟨g, x41 * 2, none⟩ (.int .i64 x40)).setCell ⟨g, x41 * 2 + 1, none⟩ (.int .i64 y40)).cell? ⟨b3, 0, none⟩ = some (.int .i64 N) := by
      rw [World.cell?_setCell_far _ _ _ _ (by simp only; omega), World.cell?_setCell_far _ _ _ _ (by simp only; omega)]; exact p3
    generalize hw7 : (World.setCell (World.setCell W ⟨g, x41 * 2, none⟩ (.int .i64 x40)) ⟨g, x41 * 2 + 1, none⟩ (.int .i64 y40)) = w7 at O9 X9 D9 p3 ⊢
    clear hw7 d3 d4 X7 D7 O7 fz1 fz2
    have E8 := O9.eds
    have X2 := X9
    have D := D9
    clear X9 D9
    have PW := X2
    have hb4l := X2.box.lt
    have P9 := PW.set2 (.int .i64 N) (.slice (some ⟨g, 0, none⟩) m c5)
    have D9 := DR.set2 HS0.out D (b := b4) (by omega) (.int .i64 N) (.slice (some ⟨g, 0, none⟩) m c5)
    have E9 := (E8.setOther (a := ⟨b4, 0, none⟩) (by simp only; omega) (.int .i64 N)).setOther (a := ⟨b4, 1, none⟩) (by simp only; omega) (.slice (some ⟨g, 0, none⟩) m c5)
    obtain ⟨⟨sW, pW, qW⟩, fW, gW⟩ := PW
    clear E8 D X2
    go_wp2_with fail
    generalize hw9 : (World.setCell (World.setCell _ ⟨b4, 0, none⟩ (.int .i64 N)) ⟨b4, 1, none⟩ (.slice (some ⟨g, 0, none⟩) m c5)) = w9 at E9 P9 D9 ⊢
    clear hw9 pW qW
    obtain ⟨⟨k0, k1, k2⟩, _, _⟩ := P9
    refine bodyPost_ret (v := .agg #[.int .i64 N, .slice (some ⟨g, 0, none⟩) m c5]) ?_ rfl (retX_of E9 O9.1 (.inr (by omega)) (by omega) D9)
    simp [results, Tryz.results77, go_sem, k1, k2]
  by_cases hx2 : x = 2
  · subst hx2
    clear hx hx0 hx1
    have hwm : IntKind.i64.wrap ((m : Int) - 1) = ((m - 1 : Nat) : Int) := by rw [IntWalk.i64_in _ (by omega)]; omega
    obtain ⟨m1, hm1⟩ : ∃ m1, m1 = m - 1 := ⟨_, rfl⟩
    rw [← hm1] at hwm
    have hm1m : m1 < m := by omega
    have d1 := O4.eds.ca 0 hm.1
    have d2 := O4.eds.cb 0 hm.1
    have d3 := O4.eds.ca m1 hm1m
    have d4 := O4.eds.cb m1 hm1m
    simp only [Nat.zero_mul, Nat.zero_add] at d1 d2 d3 d4
    clear q3 E4 hm1
    obtain ⟨a1, ha1⟩ : ∃ a1, a1 = ea es 0 := ⟨_, rfl⟩
    obtain ⟨a2, ha2⟩ : ∃ a2, a2 = eb es 0 := ⟨_, rfl⟩
    obtain ⟨a3, ha3⟩ : ∃ a3, a3 = ea es m1 := ⟨_, rfl⟩
    obtain ⟨a4, ha4⟩ : ∃ a4, a4 = eb es m1 := ⟨_, rfl⟩
    rw [← ha1] at d1
    rw [← ha2] at d2
    rw [← ha3] at d3
    rw [← ha4] at d4
    clear ha1 ha2 ha3 ha4
    have zg := hg.2
    have fz1 := O4.2.frozenAt 0
    have fz2 := O4.2.frozenAt 1
    have hA : Below w4.heap.size w4 (w4.alloc (.cells #[.int .i64 a1, .int .i64 a2] 78)) := (Below.refl _ _).alloc (Nat.le_refl _) _
    have PG := Box2.made w4 (.int .i64 a1) (.int .i64 a2) 78
    go_upto_region 10 with fail
    obtain ⟨b6, hb6⟩ : ∃ b6, b6 = w4.heap.size := ⟨_, rfl⟩
    obtain ⟨w5, hw5⟩ : ∃ w5, w5 = w4.alloc (.cells #[.int .i64 a1, .int .i64 a2] 78) := ⟨_, rfl⟩
    rw [← hw5] at hA PG ⊢
    rw [← hb6] at PG ⊢
    clear hw5
    have O5 := O4.below hA
    have X5 := X2.below hA
    have D5 := D.thenB hA
    have d3 := (hA.cell (p := ⟨g, m1 * 2, none⟩) zg).trans d3
    have d4 := (hA.cell (p := ⟨g, m1 * 2 + 1, none⟩) zg).trans d4
    have d1 := (hA.cell (p := ⟨g, 0, none⟩) zg).trans d1
    have d2 := (hA.cell (p := ⟨g, 1, none⟩) zg).trans d2
    have p3 := (hA.cell (p := ⟨b3, 0, none⟩) s3).trans p3
    have zg := Nat.lt_of_lt_of_le zg hA.size
    have s3 := Nat.lt_of_lt_of_le s3 hA.size
    have hgb : g ≠ b6 ∧ g ≠ b3 ∧ g ≠ b4 := by omega
    have fz1 := O5.2.frozenAt 0
    have fz2 := O5.2.frozenAt 1
    clear O4 X2 D hA hb6
    obtain ⟨y1, y2, y3⟩ := PG
    go_upto_region 11 with fail
    have O6 := O5.store 0 a3 a4
    simp only [Nat.zero_mul, Nat.zero_add] at O6
    have X6 := (X5.setOther (a := ⟨g, 0, none⟩) (by simp only; omega) (.int .i64 a3)).setOther (a := ⟨g, 1, none⟩) (by simp only; omega) (.int .i64 a4)
    have D6 := DR.set2 HS0.out D5 (b := g) (by omega) (.int .i64 a3) (.int .i64 a4)
    have far : ∀ (bx ox : Nat), bx ≠ g → ((w5.setCell ⟨g, 0, none⟩ (.int .i64 a3)).setCell ⟨g, 1, none⟩ (.int .i64 a4)).cell? ⟨bx, ox, none⟩ = w5.cell? ⟨bx, ox, none⟩ := fun bx ox hne => by
      rw [World.cell?_setCell_far _ _ _ _ (fun e => hne e.symm), World.cell?_setCell_far _ _ _ _ (fun e => hne e.symm)]
    have p3 := (far b3 0 (by omega)).trans p3
    have y2 := (far b6 0 (by omega)).trans y2
    have y3 := (far b6 1 (by omega)).trans y3
    have hsz6 : ((w5.setCell ⟨g, 0, none⟩ (.int .i64 a3)).setCell ⟨g, 1, none⟩ (.int .i64 a4)).heap.size = w5.heap.size := by simp
    generalize hw6 : (World.setCell (World.setCell w5 ⟨g, 0, none⟩ (.int .i64 a3)) ⟨g, 1, none⟩ (.int .i64 a4)) = w6 at O6 X6 D6 p3 y2 y3 hsz6 ⊢
    clear hw6 far d1 d2 d3 d4 X5 D5 O5 fz1 fz2
    have fz1 := O6.2.frozenAt (m1 * 2)
    have fz2 := O6.2.frozenAt (m1 * 2 + 1)
    have d3 := O6.eds.ca m1 hm1m
    have d4 := O6.eds.cb m1 hm1m
    rw [Nat.zero_add] at d3 d4
    go_upto_region 14 with fail
    have O7 := O6.store m1 a1 a2
    have X7 := (X6.setOther (a := ⟨g, m1 * 2, none⟩) (by simp only; omega) (.int .i64 a1)).setOther (a := ⟨g, m1 * 2 + 1, none⟩) (by simp only; omega) (.int .i64 a2)
    have D7 := DR.set (o := m1 * 2 + 1) HS0.out (DR.set (o := m1 * 2) HS0.out D6 (b := g) (by omega) (.int .i64 a1)) (b := g) (by omega) (.int .i64 a2)
    have p3 : ((w6.setCell ⟨g, m1 * 2, none⟩ (.int .i64 a1)).setCell ⟨g, m1 * 2 + 1, none⟩ (.int .i64 a2)).cell? ⟨b3, 0, none⟩ = some (.int .i64 N) := by
      rw [World.cell?_setCell_far _ _ _ _ (by simp only; omega), World.cell?_setCell_far _ _ _ _ (by simp only; omega)]; exact p3
    generalize hw7 : (World.setCell (World.setCell w6 ⟨g, m1 * 2, none⟩ (.int .i64 a1)) ⟨g, m1 * 2 + 1, none⟩ (.int .i64 a2)) = w7 at O7 X7 D7 p3 ⊢
    clear hw7 d3 d4 X6 D6 O6 fz1 fz2 y1 y2 y3
    have E8 := O7.eds
    have X2 := X7
    have D := D7
    clear X7 D7
    have PW := X2
    have hb4l := X2.box.lt
    have P9 := PW.set2 (.int .i64 N) (.slice (some ⟨g, 0, none⟩) m c5)
    have D9 := DR.set2 HS0.out D (b := b4) (by omega) (.int .i64 N) (.slice (some ⟨g, 0, none⟩) m c5)
    have E9 := (E8.setOther (a := ⟨b4, 0, none⟩) (by simp only; omega) (.int .i64 N)).setOther (a := ⟨b4, 1, none⟩) (by simp only; omega) (.slice (some ⟨g, 0, none⟩) m c5)
    obtain ⟨⟨sW, pW, qW⟩, fW, gW⟩ := PW
    clear E8 D X2
    go_wp2_with fail
    generalize hw9 : (World.setCell (World.setCell _ ⟨b4, 0, none⟩ (.int .i64 N)) ⟨b4, 1, none⟩ (.slice (some ⟨g, 0, none⟩) m c5)) = w9 at E9 P9 D9 ⊢
    clear hw9 pW qW
    obtain ⟨⟨k0, k1, k2⟩, _, _⟩ := P9
    refine bodyPost_ret (v := .agg #[.int .i64 N, .slice (some ⟨g, 0, none⟩) m c5]) ?_ rfl (retX_of E9 O7.1 (.inr (by omega)) (by omega) D9)
    simp [results, Tryz.results77, go_sem, k1, k2]
  by_cases hx3 : x = 3
  · subst hx3
    clear hx hx0 hx1 hx2
    have hmc : m ≤ c5 := by
      rcases O4.2.2 with ⟨e, e2⟩ | ⟨g', cap, cur, e, hb, hg2, hle, _⟩
      · injection e with e1 e2 e3; cases e1
      · injection e with e1 e2 e3; omega
    have h1c : 1 ≤ c5 := by omega
    have h1m : 1 ≤ m := by omega
    have hdl : (es.drop 1).length = m - 1 := by rw [List.length_drop, hel.out]
    by_cases hc1 : c5 = 1
    · have hm1 : m = 1 := by omega
      have E8 : Eds w4 g 0 0 (es.drop 1) := ⟨by rw [hdl]; omega, hg.2, fun j hj => by omega, fun j hj => by omega⟩
      subst hc1
      subst hm1
      have PW := X2
      have hb4l := X2.box.lt
      have P9 := PW.set2 (.int .i64 N) (.slice (some ⟨g, 0, none⟩) 0 0)
      have D9 := DR.set2 HS0.out D (b := b4) (by omega) (.int .i64 N) (.slice (some ⟨g, 0, none⟩) 0 0)
      have E9 := (E8.setOther (a := ⟨b4, 0, none⟩) (by simp only; omega) (.int .i64 N)).setOther (a := ⟨b4, 1, none⟩) (by simp only; omega) (.slice (some ⟨g, 0, none⟩) 0 0)
      obtain ⟨⟨sW, pW, qW⟩, fW, gW⟩ := PW
      clear E8 D X2
      go_wp2_with fail
      generalize hw9 : (World.setCell (World.setCell _ ⟨b4, 0, none⟩ (.int .i64 N)) ⟨b4, 1, none⟩ (.slice (some ⟨g, 0, none⟩) 0 0)) = w9 at E9 P9 D9 ⊢
      clear hw9 pW qW
      obtain ⟨⟨k0, k1, k2⟩, _, _⟩ := P9
      refine bodyPost_ret (v := .agg #[.int .i64 N, .slice (some ⟨g, 0, none⟩) 0 0]) ?_ rfl (retX_of E9 (by rw [List.length_drop, hel.out]) (.inr (by omega)) (by omega) D9)
      simp [results, Tryz.results77, go_sem, k1, k2]
    · have E8 : Eds w4 g 2 (m - 1) (es.drop 1) := by
        refine ⟨hdl, hg.2, fun j hj => ?_, fun j hj => ?_⟩
        · have h1 := O4.eds.ca (j + 1) (by omega)
          have e1 : ea (es.drop 1) j = ea es (j + 1) := by simp [ea, List.getD_eq_getElem?_getD, Nat.add_comm]
          rw [e1, ← h1]; congr 1; congr 1; omega
        · have h1 := O4.eds.cb (j + 1) (by omega)
          have e1 : eb (es.drop 1) j = eb es (j + 1) := by simp [eb, List.getD_eq_getElem?_getD, Nat.add_comm]
          rw [e1, ← h1]; congr 1; congr 1; omega
      have PW := X2
      have hb4l := X2.box.lt
      have P9 := PW.set2 (.int .i64 N) (.slice (some ⟨g, 2, none⟩) (m - 1) (c5 - 1))
      have D9 := DR.set2 HS0.out D (b := b4) (by omega) (.int .i64 N) (.slice (some ⟨g, 2, none⟩) (m - 1) (c5 - 1))
      have E9 := (E8.setOther (a := ⟨b4, 0, none⟩) (by simp only; omega) (.int .i64 N)).setOther (a := ⟨b4, 1, none⟩) (by simp only; omega) (.slice (some ⟨g, 2, none⟩) (m - 1) (c5 - 1))
      obtain ⟨⟨sW, pW, qW⟩, fW, gW⟩ := PW
      clear E8 D X2
      go_wp2_with fail
      generalize hw9 : (World.setCell (World.setCell _ ⟨b4, 0, none⟩ (.int .i64 N)) ⟨b4, 1, none⟩ (.slice (some ⟨g, 2, none⟩) (m - 1) (c5 - 1))) = w9 at E9 P9 D9 ⊢
      clear hw9 pW qW
      obtain ⟨⟨k0, k1, k2⟩, _, _⟩ := P9
      refine bodyPost_ret (v := .agg #[.int .i64 N, .slice (some ⟨g, 2, none⟩) (m - 1) (c5 - 1)]) ?_ rfl (retX_of E9 (by rw [List.length_drop, hel.out]) (.inr (by omega)) (by omega) D9)
      simp [results, Tryz.results77, go_sem, k1, k2]
  · have hb4b : b4 ≠ b := by omega
    have E8 := E4
    have PW := X2
    have hb4l := X2.box.lt
    have P9 := PW.set2 (.int .i64 N) (.slice (some ⟨b, o, none⟩) m ce)
    have D9 := DR.set2 HS0.out D (b := b4) (by omega) (.int .i64 N) (.slice (some ⟨b, o, none⟩) m ce)
    have E9 := (E8.setOther (a := ⟨b4, 0, none⟩) (by simp only; exact hb4b) (.int .i64 N)).setOther (a := ⟨b4, 1, none⟩) (by simp only; exact hb4b) (.slice (some ⟨b, o, none⟩) m ce)
    obtain ⟨⟨sW, pW, qW⟩, fW, gW⟩ := PW
    clear E8 D X2
    go_wp2_with fail
    generalize hw9 : (World.setCell (World.setCell _ ⟨b4, 0, none⟩ (.int .i64 N)) ⟨b4, 1, none⟩ (.slice (some ⟨b, o, none⟩) m ce)) = w9 at E9 P9 D9 ⊢
    clear hw9 pW qW
    obtain ⟨⟨k0, k1, k2⟩, _, _⟩ := P9
    refine bodyPost_ret (v := .agg #[.int .i64 N, .slice (some ⟨b, o, none⟩) m ce]) ?_ rfl (retX_of E9 hel.out (.inl rfl) (by omega) D9)
    simp [results, Tryz.results77, go_sem, k1, k2]
end Go.Proofs.YtajnhkkiddeegaaGreat
