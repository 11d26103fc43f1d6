import Derived.Test.YtajnhkkiddeegaaGreatZp18
set_option linter.unusedVariables false
set_option linter.unusedSimpArgs false
namespace Go.Proofs.YtajnhkkiddeegaaGreat
open Go.RowKit Go.Sort
noncomputable def rgC (n : Int) (es : List (Int × Int)) (ls : Nat → Int) (l : Nat) : Int := gcC n es (B (OrdP ls l n))
noncomputable def rgN (n : Int) (es : List (Int × Int)) (ls : Nat → Int) (l : Nat) : Int := if rgC n es ls l = 0 then n else 0
noncomputable def rgL (n : Int) (es : List (Int × Int)) (ls : Nat → Int) (l : Nat) : List (Int × Int) := if rgC n es ls l = 0 then srtE (es.map (rnE ls)) else []
theorem rg_k {n : Int} {es : List (Int × Int)} {ls : Nat → Int} {l : Nat} {k : Int} (h : rgC n es ls l = k) (hk : k ≠ 0) : rgC n es ls l = k ∧ rgN n es ls l = 0 ∧ rgL n es ls l = [] := by
  subst h; simp [rgN, rgL, hk]
theorem rg_0 {n : Int} {es : List (Int × Int)} {ls : Nat → Int} {l : Nat} (h : rgC n es ls l = 0) : rgC n es ls l = 0 ∧ rgN n es ls l = n ∧ rgL n es ls l = srtE (es.map (rnE ls)) := by
  simp [rgN, rgL, h]
theorem rgL_len {n : Int} {es : List (Int × Int)} {ls : Nat → Int} {l : Nat} : (rgL n es ls l).length ≤ es.length := by
  unfold rgL; split
  · rw [srt_len]; simp
  · simp
set_option maxRecDepth 100000 in
set_option maxHeartbeats 8000000 in
theorem spRenumberGraph_any (n : Int) (b o m c pb po pl pc : Nat) (es : List (Int × Int)) (ls : Nat → Int) (w : World) (h : Eds w b o m es) (hm : m ≤ 1048576) (h2 : Ints w pb po pl ls) (hl : pl ≤ 1048576) :
    Calls Tryz.prog 28 #[.agg #[.int .i64 n, .slice (some ⟨b, o, none⟩) m c], .slice (some ⟨pb, po, none⟩) pl pc] w (RetGC (rgN n es ls pl) (rgL n es ls pl) (rgC n es ls pl) w) := by
  have KC := cell_rg
  have hlm := Lib.hid h.len
  obtain ⟨w1, hw1⟩ : ∃ w1, w1 = w.alloc (.cells #[.int .i64 n, .slice (some ⟨b, o, none⟩) m c] 26) := ⟨_, rfl⟩
  have X2 := Box2.made w (.int .i64 n) (.slice (some ⟨b, o, none⟩) m c) 26
  have hb1 : Below w.heap.size w (w.alloc (.cells #[.int .i64 n, .slice (some ⟨b, o, none⟩) m c] 26)) := (Below.refl _ _).alloc (Nat.le_refl _) _
  rw [← hw1] at X2 hb1
  have hs1 : w1.heap.size = w.heap.size + 1 := by rw [hw1]; simp
  obtain ⟨w3, hw3⟩ : ∃ w3, w3 = w1.alloc (.cells #[.int .i64 0, .slice none 0 0] 26) := ⟨_, rfl⟩
  have X4 := Box2F.made w1 (.int .i64 0) (.slice none 0 0) 26
  have ha3 : Below w1.heap.size w1 (w1.alloc (.cells #[.int .i64 0, .slice none 0 0] 26)) := (Below.refl _ _).alloc (Nat.le_refl _) _
  rw [← hw3] at X4 ha3
  have X2 := X2.below ha3
  have hb3 := hb1.andB ha3
  have hs3 : w3.heap.size = w1.heap.size + 1 := by rw [hw3]; simp
  obtain ⟨b2, hB2⟩ : ∃ b2, b2 = w.heap.size := ⟨_, rfl⟩
  obtain ⟨b4, hB4⟩ : ∃ b4, b4 = w1.heap.size := ⟨_, rfl⟩
  rw [← hB2] at X2
  rw [← hB4] at X4
  have HW : Hid (w3 = (w.alloc (.cells #[.int .i64 n, .slice (some ⟨b, o, none⟩) m c] 26)).alloc (.cells #[.int .i64 0, .slice none 0 0] 26) ∧ w.heap.size = b2 ∧ w.heap.size + 1 = b4) := by rw [← hw1]; exact ⟨hw3, hB2.symm, by omega⟩
  have hww : w.heap.size ≤ w3.heap.size ∧ b2 < b4 ∧ b4 < w3.heap.size ∧ w.heap.size ≤ b4 := by omega
  clear hw1 hw3 ha3 hs1 hs3 hb1 hB2 hB4
  have E3 := h.below hb3
  have I3 := h2.below hb3
  have X2c := X2
  obtain ⟨s2, p2, q2⟩ := X2c
  cases hg1 : B (IsG n es) with
  | false =>
    obtain ⟨hC, hN, hL⟩ := rg_k (k := 1) (show rgC n es ls pl = 1 by simp [rgC, gcC, hg1]) (by decide)
    have HC := Lib.hid hC
    have HN := Lib.hid hN
    have HL := Lib.hid hL
    have HG1 := Lib.hid hg1
    clear hC hN hL hg1
    go_enter Tryz.func28, Tryz.ntmps28
    go_wp2_with fail
    rw [← HW.out.1, HW.out.2.2, HW.out.2.1]
    refine (l01Is_any n _ _ _ _ es _ E3 hm).mono ?_
    rintro e w4 ⟨rfl, hb4⟩
    rw [HG1.out]
    have PW := X4.below hb4
    have hBW := hb3.andB hb4
    clear X2 X4 s2 p2 q2
    have P8 := PW.set2 (.int .i64 0) (.slice none 0 0)
    have hB8 := (hBW.setCell (p := ⟨b4, 0, none⟩) hww.2.2.2 (.int .i64 0)).setCell (p := ⟨b4, 1, none⟩) hww.2.2.2 (.slice none 0 0)
    have PWx := PW
    obtain ⟨⟨sW, pW, qW⟩, fW, gW⟩ := PWx
    go_wp2_with fail
    generalize hw9 : (World.setCell (World.setCell _ ⟨b4, 0, none⟩ (.int .i64 0)) ⟨b4, 1, none⟩ (.slice none 0 0)) = w9 at P8 hB8 ⊢
    clear hw9 pW qW
    obtain ⟨⟨k0, k1, k2⟩, _, _⟩ := P8
    rw [HN.out, HL.out, HC.out]
    refine bodyPost_ret (v := .tuple #[.agg #[.int .i64 0, .slice none 0 0], .int .i64 1]) ?_ rfl ⟨none, 0, rfl, OwnEA.nil _ _, hB8⟩
    simp [results, Tryz.results28, go_sem, k1, k2]
  | true =>
  have HG1 := Lib.hid hg1
  have hG := B_iff.1 hg1
  have hr1 : 2 ≤ n ∧ n ≤ 20 := ⟨hG.wf.1, hG.wf.2.1⟩
  have HWF := Lib.hid hG.wf
  obtain ⟨N, rfl⟩ : ∃ N : Nat, n = N := ⟨n.toNat, by omega⟩
  cases hg2 : B (OrdP ls pl N) with
  | false =>
    obtain ⟨hC, hN, hL⟩ := rg_k (k := 2) (show rgC N es ls pl = 2 by simp [rgC, gcC, hg1, hg2]) (by decide)
    have HC := Lib.hid hC
    have HN := Lib.hid hN
    have HL := Lib.hid hL
    have HG2 := Lib.hid hg2
    clear hC hN hL hg1 hg2 hG
    go_enter Tryz.func28, Tryz.ntmps28
    go_wp2_with fail
    rw [← HW.out.1, HW.out.2.2, HW.out.2.1]
    refine (l01Is_any N _ _ _ _ es _ E3 hm).mono ?_
    rintro e w4 ⟨rfl, hb4⟩
    rw [HG1.out]
    have X2 := X2.below hb4
    have X4 := X4.below hb4
    have E4 := E3.below hb4
    have I4 := I3.below hb4
    have hb5 := hb3.andB hb4
    have hz4 := hb4.size
    clear s2 p2 q2 hb4
    have X2c := X2
    obtain ⟨s2, p2, q2⟩ := X2c
    go_wp2_with fail
    refine (l01Order_any N pb po pl pc ls _ I4 hl (by omega)).mono ?_
    rintro e w5 ⟨rfl, hb4⟩
    rw [HG2.out]
    have X2 := X2.below hb4
    have PW := X4.below hb4
    have E5 := E4.below hb4
    have I5 := I4.below hb4
    have hBW := hb5.andB hb4
    have hz5 : w3.heap.size ≤ w5.heap.size := by have := hb4.size; omega
    clear X4 E4 I4 E3 I3 hb5 hb4 hz4 s2 p2 q2
    have P8 := PW.set2 (.int .i64 0) (.slice none 0 0)
    have hB8 := (hBW.setCell (p := ⟨b4, 0, none⟩) hww.2.2.2 (.int .i64 0)).setCell (p := ⟨b4, 1, none⟩) hww.2.2.2 (.slice none 0 0)
    have PWx := PW
    obtain ⟨⟨sW, pW, qW⟩, fW, gW⟩ := PWx
    go_wp2_with fail
    generalize hw9 : (World.setCell (World.setCell _ ⟨b4, 0, none⟩ (.int .i64 0)) ⟨b4, 1, none⟩ (.slice none 0 0)) = w9 at P8 hB8 ⊢
    clear hw9 pW qW
    obtain ⟨⟨k0, k1, k2⟩, _, _⟩ := P8
    rw [HN.out, HL.out, HC.out]
    refine bodyPost_ret (v := .tuple #[.agg #[.int .i64 0, .slice none 0 0], .int .i64 2]) ?_ rfl ⟨none, 0, rfl, OwnEA.nil _ _, hB8⟩
    simp [results, Tryz.results28, go_sem, k1, k2]
  | true =>
    obtain ⟨hC, hN, hL⟩ := rg_0 (show rgC N es ls pl = 0 by simp [rgC, gcC, hg1, hg2])
    have HC := Lib.hid hC
    have HN := Lib.hid hN
    have HL := Lib.hid hL
    have HG2 := Lib.hid hg2
    have HPL := Lib.hid (B_iff.1 hg2).1
    clear hC hN hL hg1 hg2 hG
    go_enter Tryz.func28, Tryz.ntmps28
    go_wp2_with fail
    rw [← HW.out.1, HW.out.2.2, HW.out.2.1]
    refine (l01Is_any N _ _ _ _ es _ E3 hm).mono ?_
    rintro e w4 ⟨rfl, hb4⟩
    rw [HG1.out]
    have X2 := X2.below hb4
    have X4 := X4.below hb4
    have E4 := E3.below hb4
    have I4 := I3.below hb4
    have hb5 := hb3.andB hb4
    have hz4 := hb4.size
    clear s2 p2 q2 hb4
    have X2c := X2
    obtain ⟨s2, p2, q2⟩ := X2c
    go_wp2_with fail
    refine (l01Order_any N pb po pl pc ls _ I4 hl (by omega)).mono ?_
    rintro e w5 ⟨rfl, hb4⟩
    rw [HG2.out]
    have X2 := X2.below hb4
    have PW := X4.below hb4
    have E5 := E4.below hb4
    have I5 := I4.below hb4
    have hBW := hb5.andB hb4
    have hz5 : w3.heap.size ≤ w5.heap.size := by have := hb4.size; omega
    clear X4 E4 I4 E3 I3 hb5 hb4 hz4 s2 p2 q2
    have X2c := X2
    obtain ⟨s2, p2, q2⟩ := X2c
    go_wp2_with fail
    refine (l01Renamed_any N b o m c pb po pl pc es ls w5 E5 I5 HWF.out HPL.out).mono ?_
    rintro e w6 ⟨g, c2, rfl, O, hb6⟩
    have PW := PW.below hb6
    have hBW := hBW.andB hb6
    have hgO := O.ge
    have hz6 : w.heap.size ≤ w5.heap.size := by omega
    clear s2 p2 q2 X2
    have O8 := (O.setOther (a := ⟨b4, 0, none⟩) (by simp; omega) (.int .i64 N)).setOther (a := ⟨b4, 1, none⟩) (by simp; omega) (.slice (some ⟨g, 0, none⟩) (srtE (es.map (rnE ls))).length c2)
    have P8 := PW.set2 (.int .i64 N) (.slice (some ⟨g, 0, none⟩) (srtE (es.map (rnE ls))).length c2)
    have hB8 := (hBW.setCell (p := ⟨b4, 0, none⟩) hww.2.2.2 (.int .i64 N)).setCell (p := ⟨b4, 1, none⟩) hww.2.2.2 (.slice (some ⟨g, 0, none⟩) (srtE (es.map (rnE ls))).length c2)
    have PWx := PW
    obtain ⟨⟨sW, pW, qW⟩, fW, gW⟩ := PWx
    clear O
    go_wp2_with fail
    generalize hw9 : (World.setCell (World.setCell _ ⟨b4, 0, none⟩ (.int .i64 N)) ⟨b4, 1, none⟩ (.slice (some ⟨g, 0, none⟩) (srtE (es.map (rnE ls))).length c2)) = w9 at O8 P8 hB8 ⊢
    clear hw9 pW qW
    obtain ⟨⟨k0, k1, k2⟩, _, _⟩ := P8
    rw [HN.out, HL.out, HC.out]
    refine bodyPost_ret (v := .tuple #[.agg #[.int .i64 N, .slice (some ⟨g, 0, none⟩) (srtE (es.map (rnE ls))).length c2], .int .i64 0]) ?_ rfl ⟨some ⟨g, 0, none⟩, c2, rfl, O8.any.mono hz6, hB8⟩
    simp [results, Tryz.results28, go_sem, k1, k2]
set_option maxRecDepth 100000 in
set_option maxHeartbeats 8000000 in
theorem imRenumberGraph_any (n : Int) (b o m c pb po pl pc : Nat) (es : List (Int × Int)) (ls : Nat → Int) (w : World) (h : Eds w b o m es) (hm : m ≤ 1048576) (h2 : Ints w pb po pl ls) (hl : pl ≤ 1048576) :
    Calls Tryz.prog 27 #[.agg #[.int .i64 n, .slice (some ⟨b, o, none⟩) m c], .slice (some ⟨pb, po, none⟩) pl pc] w (RetGC (rgN n es ls pl) (rgL n es ls pl) (rgC n es ls pl) w) := by
  have KC := cell_rg
  have hlm := Lib.hid h.len
  obtain ⟨w1, hw1⟩ : ∃ w1, w1 = w.alloc (.cells #[.int .i64 n, .slice (some ⟨b, o, none⟩) m c] 26) := ⟨_, rfl⟩
  have X2 := Box2.made w (.int .i64 n) (.slice (some ⟨b, o, none⟩) m c) 26
  have hb1 : Below w.heap.size w (w.alloc (.cells #[.int .i64 n, .slice (some ⟨b, o, none⟩) m c] 26)) := (Below.refl _ _).alloc (Nat.le_refl _) _
  rw [← hw1] at X2 hb1
  have hs1 : w1.heap.size = w.heap.size + 1 := by rw [hw1]; simp
  obtain ⟨w3, hw3⟩ : ∃ w3, w3 = w1.alloc (.cells #[.int .i64 0, .slice none 0 0] 26) := ⟨_, rfl⟩
  have X4 := Box2F.made w1 (.int .i64 0) (.slice none 0 0) 26
  have ha3 : Below w1.heap.size w1 (w1.alloc (.cells #[.int .i64 0, .slice none 0 0] 26)) := (Below.refl _ _).alloc (Nat.le_refl _) _
  rw [← hw3] at X4 ha3
  have X2 := X2.below ha3
  have hb3 := hb1.andB ha3
  have hs3 : w3.heap.size = w1.heap.size + 1 := by rw [hw3]; simp
  obtain ⟨b2, hB2⟩ : ∃ b2, b2 = w.heap.size := ⟨_, rfl⟩
  obtain ⟨b4, hB4⟩ : ∃ b4, b4 = w1.heap.size := ⟨_, rfl⟩
  rw [← hB2] at X2
  rw [← hB4] at X4
  have HW : Hid (w3 = (w.alloc (.cells #[.int .i64 n, .slice (some ⟨b, o, none⟩) m c] 26)).alloc (.cells #[.int .i64 0, .slice none 0 0] 26) ∧ w.heap.size = b2 ∧ w.heap.size + 1 = b4) := by rw [← hw1]; exact ⟨hw3, hB2.symm, by omega⟩
  have hww : w.heap.size ≤ w3.heap.size ∧ b2 < b4 ∧ b4 < w3.heap.size ∧ w.heap.size ≤ b4 := by omega
  clear hw1 hw3 ha3 hs1 hs3 hb1 hB2 hB4
  have E3 := h.below hb3
  have I3 := h2.below hb3
  have X2c := X2
  obtain ⟨s2, p2, q2⟩ := X2c
  have HIO := Lib.hid (fun d os => Ret.rg (isOrder_any pb po pl pc ls n (grow (redrawn w3 d) os) (I3.below (below_regrown _ _ _)) hl))
  obtain ⟨r, hr⟩ : ∃ r, r = ordB ls pl n := ⟨_, rfl⟩
  have hgc : gcC n es r = rgC n es ls pl := by
    rw [hr]; unfold rgC gcC
    cases hg1 : B (IsG n es) with
    | false => simp
    | true =>
      have hG := B_iff.1 hg1
      rw [ordB_eq hG.wf.2.1]
  have HGC := Lib.hid (fun d os => Ret.rg (graphCode_any n b o m c es r (grow (redrawn w3 d) os) (E3.below (below_regrown _ _ _)) hm))
  rw [hgc] at HGC
  rw [← hr] at HIO
  obtain ⟨kc, hkc⟩ : ∃ kc, kc = rgC n es ls pl := ⟨_, rfl⟩
  rw [← hkc] at HGC
  by_cases hz : kc = 0
  rotate_left
  · obtain ⟨hC, hN, hL⟩ := rg_k (k := kc) hkc.symm hz
    have HC := Lib.hid hC
    have HN := Lib.hid hN
    have HL := Lib.hid hL
    have hne : (kc != 0) = true := by simpa using hz
    clear hC hN hL hz hkc hgc hr E3 I3
    go_enter Tryz.func27, Tryz.ntmps27
    go_wp2_with fail
    rw [← HW.out.1, HW.out.2.2, HW.out.2.1]
    (refine wp_region_quiet_below (by kernel_rfl) (by kernel_rfl) ?_
     repeat (any_goals (go_big_quiet_step (first | (go_at_call 78; exact HIO.out _ _) | (go_at_call 52; exact HGC.out _ _))))
     all_goals (refine wpQuiet_nil ?_; intro wq1 hq1; replace hq1 := below_of_rg hq1))
    have PW := X4.below hq1
    have hBW := hb3.andB hq1
    clear X2 X4 s2 p2 q2 hq1
    have P8 := PW.set2 (.int .i64 0) (.slice none 0 0)
    have hB8 := (hBW.setCell (p := ⟨b4, 0, none⟩) hww.2.2.2 (.int .i64 0)).setCell (p := ⟨b4, 1, none⟩) hww.2.2.2 (.slice none 0 0)
    have PWx := PW
    obtain ⟨⟨sW, pW, qW⟩, fW, gW⟩ := PWx
    go_wp2_with fail
    generalize hw9 : (World.setCell (World.setCell _ ⟨b4, 0, none⟩ (.int .i64 0)) ⟨b4, 1, none⟩ (.slice none 0 0)) = w9 at P8 hB8 ⊢
    clear hw9 pW qW
    obtain ⟨⟨k0, k1, k2⟩, _, _⟩ := P8
    rw [HN.out, HL.out, HC.out]
    refine bodyPost_ret (v := .tuple #[.agg #[.int .i64 0, .slice none 0 0], .int .i64 kc]) ?_ rfl ⟨none, 0, rfl, OwnEA.nil _ _, hB8⟩
    simp [results, Tryz.results27, go_sem, k1, k2]
  · have hgz : gcC n es r = 0 := by rw [hgc, ← hkc]; exact hz
    have hG : IsG n es := by
      by_cases h1 : IsG n es
      · exact h1
      · simp [gcC, B_false h1] at hgz
    have hrt : r = true := by
      cases hq : r with
      | true => rfl
      | false => rw [hq] at hgz; simp [gcC, B_true hG] at hgz
    have hO : OrdP ls pl n := by rw [ordB_eq hG.wf.2.1, hrt] at hr; exact B_iff.1 hr.symm
    obtain ⟨hC, hN, hL⟩ := rg_0 (hkc.symm.trans hz)
    have HC := Lib.hid hC
    have HN := Lib.hid hN
    have HL := Lib.hid hL
    have HWF := Lib.hid hG.wf
    have HPL := Lib.hid hO.1
    subst hz
    clear hC hN hL hkc hgc hr hgz hG hrt hO
    go_enter Tryz.func27, Tryz.ntmps27
    go_wp2_with fail
    rw [← HW.out.1, HW.out.2.2, HW.out.2.1]
    (refine wp_region_quiet_below (by kernel_rfl) (by kernel_rfl) ?_
     repeat (any_goals (go_big_quiet_step (first | (go_at_call 78; exact HIO.out _ _) | (go_at_call 52; exact HGC.out _ _))))
     all_goals (refine wpQuiet_nil ?_; intro wq1 hq1; replace hq1 := below_of_rg hq1))
    have PW := X4.below hq1
    have X2 := X2.below hq1
    have hBW := hb3.andB hq1
    have E5 := E3.below hq1
    have I5 := I3.below hq1
    have hzq := hq1.size
    clear X4 s2 p2 q2 hq1 E3 I3
    have X2c := X2
    obtain ⟨s2, p2, q2⟩ := X2c
    go_wp2_with fail
    refine (renumbered_any n b o m c pb po pl pc es ls wq1 E5 I5 HWF.out HPL.out).mono ?_
    rintro e w6 ⟨g, c2, rfl, O, hb6⟩
    have PW := PW.below hb6
    have hBW := hBW.andB hb6
    have hgO := O.ge
    have hz6 : w.heap.size ≤ wq1.heap.size := by omega
    clear s2 p2 q2 X2
    have O8 := (O.setOther (a := ⟨b4, 0, none⟩) (by simp; omega) (.int .i64 n)).setOther (a := ⟨b4, 1, none⟩) (by simp; omega) (.slice (some ⟨g, 0, none⟩) (srtE (es.map (rnE ls))).length c2)
    have P8 := PW.set2 (.int .i64 n) (.slice (some ⟨g, 0, none⟩) (srtE (es.map (rnE ls))).length c2)
    have hB8 := (hBW.setCell (p := ⟨b4, 0, none⟩) hww.2.2.2 (.int .i64 n)).setCell (p := ⟨b4, 1, none⟩) hww.2.2.2 (.slice (some ⟨g, 0, none⟩) (srtE (es.map (rnE ls))).length c2)
    have PWx := PW
    obtain ⟨⟨sW, pW, qW⟩, fW, gW⟩ := PWx
    clear O
    go_wp2_with fail
    generalize hw9 : (World.setCell (World.setCell _ ⟨b4, 0, none⟩ (.int .i64 n)) ⟨b4, 1, none⟩ (.slice (some ⟨g, 0, none⟩) (srtE (es.map (rnE ls))).length c2)) = w9 at O8 P8 hB8 ⊢
    clear hw9 pW qW
    obtain ⟨⟨k0, k1, k2⟩, _, _⟩ := P8
    rw [HN.out, HL.out, HC.out]
    refine bodyPost_ret (v := .tuple #[.agg #[.int .i64 n, .slice (some ⟨g, 0, none⟩) (srtE (es.map (rnE ls))).length c2], .int .i64 0]) ?_ rfl ⟨some ⟨g, 0, none⟩, c2, rfl, O8.any.mono hz6, hB8⟩
    simp [results, Tryz.results27, go_sem, k1, k2]
end Go.Proofs.YtajnhkkiddeegaaGreat
namespace Go.Proofs.YtajnhkkiddeegaaGreat
open Go.RowKit Go.Sort
noncomputable def pbC (n1 : Int) (es : List (Int × Int)) (n2 : Int) (fs : List (Int × Int)) : Int := if B (IsG n1 es) && B (IsG n2 fs) then (if 20 < n1 + n2 then 3 else 0) else 1
noncomputable def pbN (n1 : Int) (es : List (Int × Int)) (n2 : Int) (fs : List (Int × Int)) : Int := if pbC n1 es n2 fs = 0 then n1 + n2 else 0
noncomputable def pbL (n1 : Int) (es : List (Int × Int)) (n2 : Int) (fs : List (Int × Int)) : List (Int × Int) := if pbC n1 es n2 fs = 0 then srtE (besL n1 es fs) else []
theorem pb_k {n1 n2 : Int} {es fs : List (Int × Int)} {k : Int} (h : pbC n1 es n2 fs = k) (hk : k ≠ 0) : pbC n1 es n2 fs = k ∧ pbN n1 es n2 fs = 0 ∧ pbL n1 es n2 fs = [] := by
  subst h; simp [pbN, pbL, hk]
theorem pb_0 {n1 n2 : Int} {es fs : List (Int × Int)} (h : pbC n1 es n2 fs = 0) : pbC n1 es n2 fs = 0 ∧ pbN n1 es n2 fs = n1 + n2 ∧ pbL n1 es n2 fs = srtE (besL n1 es fs) := by
  simp [pbN, pbL, h]
theorem pbL_len {n1 n2 : Int} {es fs : List (Int × Int)} : (pbL n1 es n2 fs).length ≤ es.length + fs.length := by
  unfold pbL; split
  · rw [srt_len]; simp [besL]
  · simp
set_option maxRecDepth 100000 in
set_option maxHeartbeats 8000000 in
theorem spPutBeside_any (n1 n2 : Int) (eb0 eo m ec fb fo l fc : Nat) (es fs : List (Int × Int)) (w : World) (h : Eds w eb0 eo m es) (h2 : Eds w fb fo l fs) (hm : m ≤ 1048576) (hl : l ≤ 1048576) :
    Calls Tryz.prog 36 #[.agg #[.int .i64 n1, .slice (some ⟨eb0, eo, none⟩) m ec], .agg #[.int .i64 n2, .slice (some ⟨fb, fo, none⟩) l fc]] w (RetGC (pbN n1 es n2 fs) (pbL n1 es n2 fs) (pbC n1 es n2 fs) w) := by
  have hlm := Lib.hid h.len
  have hll := Lib.hid h2.len
  obtain ⟨w1, hw1⟩ : ∃ w1, w1 = w.alloc (.cells #[.int .i64 n1, .slice (some ⟨eb0, eo, none⟩) m ec] 26) := ⟨_, rfl⟩
  have X2 := Box2.made w (.int .i64 n1) (.slice (some ⟨eb0, eo, none⟩) m ec) 26
  have hb1 : Below w.heap.size w (w.alloc (.cells #[.int .i64 n1, .slice (some ⟨eb0, eo, none⟩) m ec] 26)) := (Below.refl _ _).alloc (Nat.le_refl _) _
  rw [← hw1] at X2 hb1
  have hs1 : w1.heap.size = w.heap.size + 1 := by rw [hw1]; simp
  obtain ⟨w2, hw2⟩ : ∃ w2, w2 = w1.alloc (.cells #[.int .i64 n2, .slice (some ⟨fb, fo, none⟩) l fc] 26) := ⟨_, rfl⟩
  have X3 := Box2.made w1 (.int .i64 n2) (.slice (some ⟨fb, fo, none⟩) l fc) 26
  have ha2 : Below w1.heap.size w1 (w1.alloc (.cells #[.int .i64 n2, .slice (some ⟨fb, fo, none⟩) l fc] 26)) := (Below.refl _ _).alloc (Nat.le_refl _) _
  rw [← hw2] at X3 ha2
  have X2 := X2.below ha2
  have hb2 := hb1.andB ha2
  have hs2 : w2.heap.size = w1.heap.size + 1 := by rw [hw2]; simp
  obtain ⟨w3, hw3⟩ : ∃ w3, w3 = w2.alloc (.cells #[.int .i64 0, .slice none 0 0] 26) := ⟨_, rfl⟩
  have X4 := Box2F.made w2 (.int .i64 0) (.slice none 0 0) 26
  have ha3 : Below w2.heap.size w2 (w2.alloc (.cells #[.int .i64 0, .slice none 0 0] 26)) := (Below.refl _ _).alloc (Nat.le_refl _) _
  rw [← hw3] at X4 ha3
  have X2 := X2.below ha3
  have X3 := X3.below ha3
  have hb3 := hb2.andB ha3
  have hs3 : w3.heap.size = w2.heap.size + 1 := by rw [hw3]; simp
  obtain ⟨b2, hB2⟩ : ∃ b2, b2 = w.heap.size := ⟨_, rfl⟩
  obtain ⟨b3, hB3⟩ : ∃ b3, b3 = w1.heap.size := ⟨_, rfl⟩
  obtain ⟨b4, hB4⟩ : ∃ b4, b4 = w2.heap.size := ⟨_, rfl⟩
  rw [← hB2] at X2
  rw [← hB3] at X3
  rw [← hB4] at X4
  have HW : Hid (w3 = ((w.alloc (.cells #[.int .i64 n1, .slice (some ⟨eb0, eo, none⟩) m ec] 26)).alloc (.cells #[.int .i64 n2, .slice (some ⟨fb, fo, none⟩) l fc] 26)).alloc (.cells #[.int .i64 0, .slice none 0 0] 26) ∧ w.heap.size = b2 ∧ w.heap.size + 1 = b3 ∧ w.heap.size + 1 + 1 = b4) := by rw [← hw1, ← hw2]; exact ⟨hw3, hB2.symm, by omega, by omega⟩
  have hww : w.heap.size ≤ w3.heap.size ∧ b2 < b3 ∧ b3 < b4 ∧ b4 < w3.heap.size ∧ w.heap.size ≤ b4 := by omega
  clear hw1 hw2 hw3 ha2 ha3 hs1 hs2 hs3 hb1 hb2 hB2 hB3 hB4
  have E3 := h.below hb3
  have F3 := h2.below hb3
  have X2c := X2
  obtain ⟨s2, p2, q2⟩ := X2c
  cases hg1 : B (IsG n1 es) with
  | false =>
    obtain ⟨hC, hN, hL⟩ := pb_k (k := 1) (show pbC n1 es n2 fs = 1 by simp [pbC, hg1]) (by decide)
    have HC := Lib.hid hC
    have HN := Lib.hid hN
    have HL := Lib.hid hL
    have HG1 := Lib.hid hg1
    clear hC hN hL hg1
    go_enter Tryz.func36, Tryz.ntmps36
    go_wp2_with fail
    rw [← HW.out.1, HW.out.2.2.2, HW.out.2.2.1, HW.out.2.1]
    refine (l01Is_any n1 _ _ _ _ es _ E3 hm).mono ?_
    rintro e w4 ⟨rfl, hb4⟩
    rw [HG1.out]
    have PW := X4.below hb4
    have hBW := hb3.andB hb4
    clear X2 X3 X4 s2 p2 q2
    have P8 := PW.set2 (.int .i64 0) (.slice none 0 0)
    have hB8 := (hBW.setCell (p := ⟨b4, 0, none⟩) hww.2.2.2.2 (.int .i64 0)).setCell (p := ⟨b4, 1, none⟩) hww.2.2.2.2 (.slice none 0 0)
    have PWx := PW
    obtain ⟨⟨sW, pW, qW⟩, fW, gW⟩ := PWx
    go_wp2_with fail
    generalize hw9 : (World.setCell (World.setCell _ ⟨b4, 0, none⟩ (.int .i64 0)) ⟨b4, 1, none⟩ (.slice none 0 0)) = w9 at P8 hB8 ⊢
    clear hw9 pW qW
    obtain ⟨⟨k0, k1, k2⟩, _, _⟩ := P8
    rw [HN.out, HL.out, HC.out]
    refine bodyPost_ret (v := .tuple #[.agg #[.int .i64 0, .slice none 0 0], .int .i64 1]) ?_ rfl ⟨none, 0, rfl, OwnEA.nil _ _, hB8⟩
    simp [results, Tryz.results36, go_sem, k1, k2]
  | true =>
  have HG1 := Lib.hid hg1
  cases hg2 : B (IsG n2 fs) with
  | false =>
    obtain ⟨hC, hN, hL⟩ := pb_k (k := 1) (show pbC n1 es n2 fs = 1 by simp [pbC, hg2]) (by decide)
    have HC := Lib.hid hC
    have HN := Lib.hid hN
    have HL := Lib.hid hL
    have HG2 := Lib.hid hg2
    clear hC hN hL hg1 hg2
    go_enter Tryz.func36, Tryz.ntmps36
    go_wp2_with fail
    rw [← HW.out.1, HW.out.2.2.2, HW.out.2.2.1, HW.out.2.1]
    refine (l01Is_any n1 _ _ _ _ es _ E3 hm).mono ?_
    rintro e w4 ⟨rfl, hb4⟩
    rw [HG1.out]
    have X2 := X2.below hb4
    have X3 := X3.below hb4
    have X4 := X4.below hb4
    have E4 := E3.below hb4
    have F4 := F3.below hb4
    have hb5 := hb3.andB hb4
    have hz4 := hb4.size
    clear s2 p2 q2 hb4
    have X3c := X3
    obtain ⟨s3, p3, q3⟩ := X3c
    go_wp2_with fail
    refine (l01Is_any n2 _ _ _ _ fs _ F4 hl).mono ?_
    rintro e w5 ⟨rfl, hb4⟩
    rw [HG2.out]
    have X2 := X2.below hb4
    have X3 := X3.below hb4
    have PW := X4.below hb4
    have E5 := E4.below hb4
    have F5 := F4.below hb4
    have hBW := hb5.andB hb4
    have hz5 : w3.heap.size ≤ w5.heap.size := by have := hb4.size; omega
    clear X4 E4 F4 E3 F3 hb5 hb4 hz4 s3 p3 q3
    have P8 := PW.set2 (.int .i64 0) (.slice none 0 0)
    have hB8 := (hBW.setCell (p := ⟨b4, 0, none⟩) hww.2.2.2.2 (.int .i64 0)).setCell (p := ⟨b4, 1, none⟩) hww.2.2.2.2 (.slice none 0 0)
    have PWx := PW
    obtain ⟨⟨sW, pW, qW⟩, fW, gW⟩ := PWx
    go_wp2_with fail
    generalize hw9 : (World.setCell (World.setCell _ ⟨b4, 0, none⟩ (.int .i64 0)) ⟨b4, 1, none⟩ (.slice none 0 0)) = w9 at P8 hB8 ⊢
    clear hw9 pW qW
    obtain ⟨⟨k0, k1, k2⟩, _, _⟩ := P8
    rw [HN.out, HL.out, HC.out]
    refine bodyPost_ret (v := .tuple #[.agg #[.int .i64 0, .slice none 0 0], .int .i64 1]) ?_ rfl ⟨none, 0, rfl, OwnEA.nil _ _, hB8⟩
    simp [results, Tryz.results36, go_sem, k1, k2]
  | true =>
  have HG2 := Lib.hid hg2
  have hn1 := (B_iff.1 hg1).wf
  have hn2 := (B_iff.1 hg2).wf
  have hr1 : 2 ≤ n1 ∧ n1 ≤ 20 := ⟨hn1.1, hn1.2.1⟩
  have hr2 : 2 ≤ n2 ∧ n2 ≤ 20 := ⟨hn2.1, hn2.2.1⟩
  have hwn : IntKind.i64.wrap (n1 + n2) = n1 + n2 := IntWalk.i64_in _ (by omega)
  by_cases hbig : 20 < n1 + n2
  · obtain ⟨hC, hN, hL⟩ := pb_k (k := 3) (show pbC n1 es n2 fs = 3 by simp [pbC, hg1, hg2, hbig]) (by decide)
    have HC := Lib.hid hC
    have HN := Lib.hid hN
    have HL := Lib.hid hL
    clear hC hN hL hg1 hg2 hn1 hn2
    go_enter Tryz.func36, Tryz.ntmps36
    go_wp2_with fail
    rw [← HW.out.1, HW.out.2.2.2, HW.out.2.2.1, HW.out.2.1]
    refine (l01Is_any n1 _ _ _ _ es _ E3 hm).mono ?_
    rintro e w4 ⟨rfl, hb4⟩
    rw [HG1.out]
    have X2 := X2.below hb4
    have X3 := X3.below hb4
    have X4 := X4.below hb4
    have E4 := E3.below hb4
    have F4 := F3.below hb4
    have hb5 := hb3.andB hb4
    have hz4 := hb4.size
    clear s2 p2 q2 hb4
    have X3c := X3
    obtain ⟨s3, p3, q3⟩ := X3c
    go_wp2_with fail
    refine (l01Is_any n2 _ _ _ _ fs _ F4 hl).mono ?_
    rintro e w5 ⟨rfl, hb4⟩
    rw [HG2.out]
    have X2 := X2.below hb4
    have X3 := X3.below hb4
    have PW := X4.below hb4
    have E5 := E4.below hb4
    have F5 := F4.below hb4
    have hBW := hb5.andB hb4
    have hz5 : w3.heap.size ≤ w5.heap.size := by have := hb4.size; omega
    clear X4 E4 F4 E3 F3 hb5 hb4 hz4 s3 p3 q3
    obtain ⟨s2, p2, q2⟩ := X2
    obtain ⟨s3, p3, q3⟩ := X3
    have P8 := PW.set2 (.int .i64 0) (.slice none 0 0)
    have hB8 := (hBW.setCell (p := ⟨b4, 0, none⟩) hww.2.2.2.2 (.int .i64 0)).setCell (p := ⟨b4, 1, none⟩) hww.2.2.2.2 (.slice none 0 0)
    have PWx := PW
    obtain ⟨⟨sW, pW, qW⟩, fW, gW⟩ := PWx
    go_wp2_with fail
    generalize hw9 : (World.setCell (World.setCell _ ⟨b4, 0, none⟩ (.int .i64 0)) ⟨b4, 1, none⟩ (.slice none 0 0)) = w9 at P8 hB8 ⊢
    clear hw9 pW qW
    obtain ⟨⟨k0, k1, k2⟩, _, _⟩ := P8
    rw [HN.out, HL.out, HC.out]
    refine bodyPost_ret (v := .tuple #[.agg #[.int .i64 0, .slice none 0 0], .int .i64 3]) ?_ rfl ⟨none, 0, rfl, OwnEA.nil _ _, hB8⟩
    simp [results, Tryz.results36, go_sem, k1, k2]
  · obtain ⟨hC, hN, hL⟩ := pb_0 (show pbC n1 es n2 fs = 0 by simp [pbC, hg1, hg2, hbig])
    have HC := Lib.hid hC
    have HN := Lib.hid hN
    have HL := Lib.hid hL
    have H1 := Lib.hid hn1
    have H2 := Lib.hid hn2
    clear hC hN hL hg1 hg2 hn1 hn2
    go_enter Tryz.func36, Tryz.ntmps36
    go_wp2_with fail
    rw [← HW.out.1, HW.out.2.2.2, HW.out.2.2.1, HW.out.2.1]
    refine (l01Is_any n1 _ _ _ _ es _ E3 hm).mono ?_
    rintro e w4 ⟨rfl, hb4⟩
    rw [HG1.out]
    have X2 := X2.below hb4
    have X3 := X3.below hb4
    have X4 := X4.below hb4
    have E4 := E3.below hb4
    have F4 := F3.below hb4
    have hb5 := hb3.andB hb4
    have hz4 := hb4.size
    clear s2 p2 q2 hb4
    have X3c := X3
    obtain ⟨s3, p3, q3⟩ := X3c
    go_wp2_with fail
    refine (l01Is_any n2 _ _ _ _ fs _ F4 hl).mono ?_
    rintro e w5 ⟨rfl, hb4⟩
    rw [HG2.out]
    have X2 := X2.below hb4
    have X3 := X3.below hb4
    have PW := X4.below hb4
    have E5 := E4.below hb4
    have F5 := F4.below hb4
    have hBW := hb5.andB hb4
    have hz5 : w3.heap.size ≤ w5.heap.size := by have := hb4.size; omega
    clear X4 E4 F4 E3 F3 hb5 hb4 hz4 s3 p3 q3
    have X2c := X2
    obtain ⟨s2, p2, q2⟩ := X2c
    have X3c := X3
    obtain ⟨s3, p3, q3⟩ := X3c
    go_wp2_with fail
    refine (l01Beside_any n1 n2 eb0 eo m ec fb fo l fc es fs w5 E5 F5 H1.out H2.out).mono ?_
    rintro e w6 ⟨g, c2, rfl, O, hb6⟩
    have PW := PW.below hb6
    have hBW := hBW.andB hb6
    have hgO := O.ge
    have hz6 : w.heap.size ≤ w5.heap.size := by omega
    clear s2 p2 q2 s3 p3 q3 X2 X3
    have O8 := (O.setOther (a := ⟨b4, 0, none⟩) (by simp; omega) (.int .i64 (n1 + n2))).setOther (a := ⟨b4, 1, none⟩) (by simp; omega) (.slice (some ⟨g, 0, none⟩) (srtE (besL n1 es fs)).length c2)
    have P8 := PW.set2 (.int .i64 (n1 + n2)) (.slice (some ⟨g, 0, none⟩) (srtE (besL n1 es fs)).length c2)
    have hB8 := (hBW.setCell (p := ⟨b4, 0, none⟩) hww.2.2.2.2 (.int .i64 (n1 + n2))).setCell (p := ⟨b4, 1, none⟩) hww.2.2.2.2 (.slice (some ⟨g, 0, none⟩) (srtE (besL n1 es fs)).length c2)
    have PWx := PW
    obtain ⟨⟨sW, pW, qW⟩, fW, gW⟩ := PWx
    clear O
    go_wp2_with fail
    generalize hw9 : (World.setCell (World.setCell _ ⟨b4, 0, none⟩ (.int .i64 (n1 + n2))) ⟨b4, 1, none⟩ (.slice (some ⟨g, 0, none⟩) (srtE (besL n1 es fs)).length c2)) = w9 at O8 P8 hB8 ⊢
    clear hw9 pW qW
    obtain ⟨⟨k0, k1, k2⟩, _, _⟩ := P8
    rw [HN.out, HL.out, HC.out]
    refine bodyPost_ret (v := .tuple #[.agg #[.int .i64 (n1 + n2), .slice (some ⟨g, 0, none⟩) (srtE (besL n1 es fs)).length c2], .int .i64 0]) ?_ rfl ⟨some ⟨g, 0, none⟩, c2, rfl, O8.any.mono hz6, hB8⟩
    simp [results, Tryz.results36, go_sem, k1, k2]
set_option maxRecDepth 100000 in
set_option maxHeartbeats 8000000 in
theorem imPutBeside_any (n1 n2 : Int) (eb0 eo m ec fb fo l fc : Nat) (es fs : List (Int × Int)) (w : World) (h : Eds w eb0 eo m es) (h2 : Eds w fb fo l fs) (hm : m ≤ 1048576) (hl : l ≤ 1048576) :
    Calls Tryz.prog 35 #[.agg #[.int .i64 n1, .slice (some ⟨eb0, eo, none⟩) m ec], .agg #[.int .i64 n2, .slice (some ⟨fb, fo, none⟩) l fc]] w (RetGC (pbN n1 es n2 fs) (pbL n1 es n2 fs) (pbC n1 es n2 fs) w) := by
  have hlm := Lib.hid h.len
  have hll := Lib.hid h2.len
  obtain ⟨w1, hw1⟩ : ∃ w1, w1 = w.alloc (.cells #[.int .i64 n1, .slice (some ⟨eb0, eo, none⟩) m ec] 26) := ⟨_, rfl⟩
  have X2 := Box2.made w (.int .i64 n1) (.slice (some ⟨eb0, eo, none⟩) m ec) 26
  have hb1 : Below w.heap.size w (w.alloc (.cells #[.int .i64 n1, .slice (some ⟨eb0, eo, none⟩) m ec] 26)) := (Below.refl _ _).alloc (Nat.le_refl _) _
  rw [← hw1] at X2 hb1
  have hs1 : w1.heap.size = w.heap.size + 1 := by rw [hw1]; simp
  obtain ⟨w2, hw2⟩ : ∃ w2, w2 = w1.alloc (.cells #[.int .i64 n2, .slice (some ⟨fb, fo, none⟩) l fc] 26) := ⟨_, rfl⟩
  have X3 := Box2.made w1 (.int .i64 n2) (.slice (some ⟨fb, fo, none⟩) l fc) 26
  have ha2 : Below w1.heap.size w1 (w1.alloc (.cells #[.int .i64 n2, .slice (some ⟨fb, fo, none⟩) l fc] 26)) := (Below.refl _ _).alloc (Nat.le_refl _) _
  rw [← hw2] at X3 ha2
  have X2 := X2.below ha2
  have hb2 := hb1.andB ha2
  have hs2 : w2.heap.size = w1.heap.size + 1 := by rw [hw2]; simp
  obtain ⟨w3, hw3⟩ : ∃ w3, w3 = w2.alloc (.cells #[.int .i64 0, .slice none 0 0] 26) := ⟨_, rfl⟩
  have X4 := Box2F.made w2 (.int .i64 0) (.slice none 0 0) 26
  have ha3 : Below w2.heap.size w2 (w2.alloc (.cells #[.int .i64 0, .slice none 0 0] 26)) := (Below.refl _ _).alloc (Nat.le_refl _) _
  rw [← hw3] at X4 ha3
  have X2 := X2.below ha3
  have X3 := X3.below ha3
  have hb3 := hb2.andB ha3
  have hs3 : w3.heap.size = w2.heap.size + 1 := by rw [hw3]; simp
  obtain ⟨b2, hB2⟩ : ∃ b2, b2 = w.heap.size := ⟨_, rfl⟩
  obtain ⟨b3, hB3⟩ : ∃ b3, b3 = w1.heap.size := ⟨_, rfl⟩
  obtain ⟨b4, hB4⟩ : ∃ b4, b4 = w2.heap.size := ⟨_, rfl⟩
  rw [← hB2] at X2
  rw [← hB3] at X3
  rw [← hB4] at X4
  have HW : Hid (w3 = ((w.alloc (.cells #[.int .i64 n1, .slice (some ⟨eb0, eo, none⟩) m ec] 26)).alloc (.cells #[.int .i64 n2, .slice (some ⟨fb, fo, none⟩) l fc] 26)).alloc (.cells #[.int .i64 0, .slice none 0 0] 26) ∧ w.heap.size = b2 ∧ w.heap.size + 1 = b3 ∧ w.heap.size + 1 + 1 = b4) := by rw [← hw1, ← hw2]; exact ⟨hw3, hB2.symm, by omega, by omega⟩
  have hww : w.heap.size ≤ w3.heap.size ∧ b2 < b3 ∧ b3 < b4 ∧ b4 < w3.heap.size ∧ w.heap.size ≤ b4 := by omega
  clear hw1 hw2 hw3 ha2 ha3 hs1 hs2 hs3 hb1 hb2 hB2 hB3 hB4
  have E3 := h.below hb3
  have F3 := h2.below hb3
  have X2c := X2
  obtain ⟨s2, p2, q2⟩ := X2c
  cases hg1 : B (IsG n1 es) with
  | false =>
    obtain ⟨hC, hN, hL⟩ := pb_k (k := 1) (show pbC n1 es n2 fs = 1 by simp [pbC, hg1]) (by decide)
    have HC := Lib.hid hC
    have HN := Lib.hid hN
    have HL := Lib.hid hL
    have HG1 := Lib.hid hg1
    clear hC hN hL hg1
    go_enter Tryz.func35, Tryz.ntmps35
    go_wp2_with fail
    rw [← HW.out.1, HW.out.2.2.2, HW.out.2.2.1, HW.out.2.1]
    refine (implIs_any n1 _ _ _ _ es _ E3 hm).mono ?_
    rintro e w4 ⟨rfl, hb4⟩
    rw [HG1.out]
    have PW := X4.below hb4
    have hBW := hb3.andB hb4
    clear X2 X3 X4 s2 p2 q2
    have P8 := PW.set2 (.int .i64 0) (.slice none 0 0)
    have hB8 := (hBW.setCell (p := ⟨b4, 0, none⟩) hww.2.2.2.2 (.int .i64 0)).setCell (p := ⟨b4, 1, none⟩) hww.2.2.2.2 (.slice none 0 0)
    have PWx := PW
    obtain ⟨⟨sW, pW, qW⟩, fW, gW⟩ := PWx
    go_wp2_with fail
    generalize hw9 : (World.setCell (World.setCell _ ⟨b4, 0, none⟩ (.int .i64 0)) ⟨b4, 1, none⟩ (.slice none 0 0)) = w9 at P8 hB8 ⊢
    clear hw9 pW qW
    obtain ⟨⟨k0, k1, k2⟩, _, _⟩ := P8
    rw [HN.out, HL.out, HC.out]
    refine bodyPost_ret (v := .tuple #[.agg #[.int .i64 0, .slice none 0 0], .int .i64 1]) ?_ rfl ⟨none, 0, rfl, OwnEA.nil _ _, hB8⟩
    simp [results, Tryz.results35, go_sem, k1, k2]
  | true =>
  have HG1 := Lib.hid hg1
  cases hg2 : B (IsG n2 fs) with
  | false =>
    obtain ⟨hC, hN, hL⟩ := pb_k (k := 1) (show pbC n1 es n2 fs = 1 by simp [pbC, hg2]) (by decide)
    have HC := Lib.hid hC
    have HN := Lib.hid hN
    have HL := Lib.hid hL
    have HG2 := Lib.hid hg2
    clear hC hN hL hg1 hg2
    go_enter Tryz.func35, Tryz.ntmps35
    go_wp2_with fail
    rw [← HW.out.1, HW.out.2.2.2, HW.out.2.2.1, HW.out.2.1]
    refine (implIs_any n1 _ _ _ _ es _ E3 hm).mono ?_
    rintro e w4 ⟨rfl, hb4⟩
    rw [HG1.out]
    have X2 := X2.below hb4
    have X3 := X3.below hb4
    have X4 := X4.below hb4
    have E4 := E3.below hb4
    have F4 := F3.below hb4
    have hb5 := hb3.andB hb4
    have hz4 := hb4.size
    clear s2 p2 q2 hb4
    have X3c := X3
    obtain ⟨s3, p3, q3⟩ := X3c
    go_wp2_with fail
    refine (implIs_any n2 _ _ _ _ fs _ F4 hl).mono ?_
    rintro e w5 ⟨rfl, hb4⟩
    rw [HG2.out]
    have X2 := X2.below hb4
    have X3 := X3.below hb4
    have PW := X4.below hb4
    have E5 := E4.below hb4
    have F5 := F4.below hb4
    have hBW := hb5.andB hb4
    have hz5 : w3.heap.size ≤ w5.heap.size := by have := hb4.size; omega
    clear X4 E4 F4 E3 F3 hb5 hb4 hz4 s3 p3 q3
    have P8 := PW.set2 (.int .i64 0) (.slice none 0 0)
    have hB8 := (hBW.setCell (p := ⟨b4, 0, none⟩) hww.2.2.2.2 (.int .i64 0)).setCell (p := ⟨b4, 1, none⟩) hww.2.2.2.2 (.slice none 0 0)
    have PWx := PW
    obtain ⟨⟨sW, pW, qW⟩, fW, gW⟩ := PWx
    go_wp2_with fail
    generalize hw9 : (World.setCell (World.setCell _ ⟨b4, 0, none⟩ (.int .i64 0)) ⟨b4, 1, none⟩ (.slice none 0 0)) = w9 at P8 hB8 ⊢
    clear hw9 pW qW
    obtain ⟨⟨k0, k1, k2⟩, _, _⟩ := P8
    rw [HN.out, HL.out, HC.out]
    refine bodyPost_ret (v := .tuple #[.agg #[.int .i64 0, .slice none 0 0], .int .i64 1]) ?_ rfl ⟨none, 0, rfl, OwnEA.nil _ _, hB8⟩
    simp [results, Tryz.results35, go_sem, k1, k2]
  | true =>
  have HG2 := Lib.hid hg2
  have hn1 := (B_iff.1 hg1).wf
  have hn2 := (B_iff.1 hg2).wf
  have hr1 : 2 ≤ n1 ∧ n1 ≤ 20 := ⟨hn1.1, hn1.2.1⟩
  have hr2 : 2 ≤ n2 ∧ n2 ≤ 20 := ⟨hn2.1, hn2.2.1⟩
  have hwn : IntKind.i64.wrap (n1 + n2) = n1 + n2 := IntWalk.i64_in _ (by omega)
  by_cases hbig : 20 < n1 + n2
  · obtain ⟨hC, hN, hL⟩ := pb_k (k := 3) (show pbC n1 es n2 fs = 3 by simp [pbC, hg1, hg2, hbig]) (by decide)
    have HC := Lib.hid hC
    have HN := Lib.hid hN
    have HL := Lib.hid hL
    clear hC hN hL hg1 hg2 hn1 hn2
    go_enter Tryz.func35, Tryz.ntmps35
    go_wp2_with fail
    rw [← HW.out.1, HW.out.2.2.2, HW.out.2.2.1, HW.out.2.1]
    refine (implIs_any n1 _ _ _ _ es _ E3 hm).mono ?_
    rintro e w4 ⟨rfl, hb4⟩
    rw [HG1.out]
    have X2 := X2.below hb4
    have X3 := X3.below hb4
    have X4 := X4.below hb4
    have E4 := E3.below hb4
    have F4 := F3.below hb4
    have hb5 := hb3.andB hb4
    have hz4 := hb4.size
    clear s2 p2 q2 hb4
    have X3c := X3
    obtain ⟨s3, p3, q3⟩ := X3c
    go_wp2_with fail
    refine (implIs_any n2 _ _ _ _ fs _ F4 hl).mono ?_
    rintro e w5 ⟨rfl, hb4⟩
    rw [HG2.out]
    have X2 := X2.below hb4
    have X3 := X3.below hb4
    have PW := X4.below hb4
    have E5 := E4.below hb4
    have F5 := F4.below hb4
    have hBW := hb5.andB hb4
    have hz5 : w3.heap.size ≤ w5.heap.size := by have := hb4.size; omega
    clear X4 E4 F4 E3 F3 hb5 hb4 hz4 s3 p3 q3
    obtain ⟨s2, p2, q2⟩ := X2
    obtain ⟨s3, p3, q3⟩ := X3
    have P8 := PW.set2 (.int .i64 0) (.slice none 0 0)
    have hB8 := (hBW.setCell (p := ⟨b4, 0, none⟩) hww.2.2.2.2 (.int .i64 0)).setCell (p := ⟨b4, 1, none⟩) hww.2.2.2.2 (.slice none 0 0)
    have PWx := PW
    obtain ⟨⟨sW, pW, qW⟩, fW, gW⟩ := PWx
    go_wp2_with fail
    generalize hw9 : (World.setCell (World.setCell _ ⟨b4, 0, none⟩ (.int .i64 0)) ⟨b4, 1, none⟩ (.slice none 0 0)) = w9 at P8 hB8 ⊢
    clear hw9 pW qW
    obtain ⟨⟨k0, k1, k2⟩, _, _⟩ := P8
    rw [HN.out, HL.out, HC.out]
    refine bodyPost_ret (v := .tuple #[.agg #[.int .i64 0, .slice none 0 0], .int .i64 3]) ?_ rfl ⟨none, 0, rfl, OwnEA.nil _ _, hB8⟩
    simp [results, Tryz.results35, go_sem, k1, k2]
  · obtain ⟨hC, hN, hL⟩ := pb_0 (show pbC n1 es n2 fs = 0 by simp [pbC, hg1, hg2, hbig])
    have HC := Lib.hid hC
    have HN := Lib.hid hN
    have HL := Lib.hid hL
    have H1 := Lib.hid hn1
    have H2 := Lib.hid hn2
    clear hC hN hL hg1 hg2 hn1 hn2
    go_enter Tryz.func35, Tryz.ntmps35
    go_wp2_with fail
    rw [← HW.out.1, HW.out.2.2.2, HW.out.2.2.1, HW.out.2.1]
    refine (implIs_any n1 _ _ _ _ es _ E3 hm).mono ?_
    rintro e w4 ⟨rfl, hb4⟩
    rw [HG1.out]
    have X2 := X2.below hb4
    have X3 := X3.below hb4
    have X4 := X4.below hb4
    have E4 := E3.below hb4
    have F4 := F3.below hb4
    have hb5 := hb3.andB hb4
    have hz4 := hb4.size
    clear s2 p2 q2 hb4
    have X3c := X3
    obtain ⟨s3, p3, q3⟩ := X3c
    go_wp2_with fail
    refine (implIs_any n2 _ _ _ _ fs _ F4 hl).mono ?_
    rintro e w5 ⟨rfl, hb4⟩
    rw [HG2.out]
    have X2 := X2.below hb4
    have X3 := X3.below hb4
    have PW := X4.below hb4
    have E5 := E4.below hb4
    have F5 := F4.below hb4
    have hBW := hb5.andB hb4
    have hz5 : w3.heap.size ≤ w5.heap.size := by have := hb4.size; omega
    clear X4 E4 F4 E3 F3 hb5 hb4 hz4 s3 p3 q3
    have hm0 : 0 < m ∧ m ≤ 30 := by have := H1.out.2.2.2.1; have := hlm.out; omega
    have hl0 : 0 < l ∧ l ≤ 30 := by have := H2.out.2.2.2.1; have := hll.out; omega
    have HF := Lib.hid H2.out.2.2.2.2
    have X2c := X2
    obtain ⟨s2, p2, q2⟩ := X2c
    have X3c := X3
    obtain ⟨s3, p3, q3⟩ := X3c
    go_wp2_with fail
    refine (cloneE_any eb0 eo m ec es w5 E5 hm0.1 (by omega)).mono ?_
    rintro e w6 ⟨A0, c0, rfl, O0, hb6⟩
    have X2 := X2.below hb6
    have X3 := X3.below hb6
    have PW := PW.below hb6
    have F6 := F5.below hb6
    have hB6 := hBW.andB hb6
    have hz56 := hb6.size
    have hz6 : w3.heap.size ≤ w6.heap.size := by have := hb6.size; omega
    clear s2 p2 q2 s3 p3 q3 hBW hb6 E5
    have X3c := X3
    obtain ⟨s3, p3, q3⟩ := X3c
    go_wp2_with fail
    clear s3 p3 q3
    go_loopw [6, 33] (fun lv iv wr => ∃ (j : Nat) (A : Option Addr) (c' : Nat), j ≤ l ∧ iv = .int .i64 j ∧ lv = .slice A (m + j) c' ∧ OwnEA w5.heap.size wr A (m + j) c' (es ++ (fs.take j).map (shE n1)) ∧ Box2 wr b2 (.int .i64 n1) (.slice (some ⟨eb0, eo, none⟩) m ec) ∧ Box2 wr b3 (.int .i64 n2) (.slice (some ⟨fb, fo, none⟩) l fc) ∧ Box2F wr b4 (.int .i64 0) (.slice none 0 0) ∧ Below w.heap.size w wr ∧ w5.heap.size ≤ wr.heap.size) (fun _ i _ => l - (intOf i).toNat)
    case atStart => exact ⟨0, A0, c0, Nat.zero_le _, rfl, rfl, by simpa using O0, X2, X3, PW, hB6, by omega⟩
    case round =>
      clear O0 X2 X3 PW hB6 hz6 F6
      obtain ⟨j, A, c', hj, rfl, rfl, OX, X2, X3, X4, hbr, hzr⟩ := hrel
      have X2c := X2
      obtain ⟨s2, p2, q2⟩ := X2c
      by_cases hlt : j < l
      · obtain ⟨w7, rfl⟩ : ∃ w7, w7 = wr := ⟨wr, rfl⟩
        have F := h2.below hbr
        have d1 := F.ca j hlt
        have d2 := F.cb j hlt
        have zF := F.blk
        have hfr := HF.out j (by rw [hll.out]; exact hlt)
        have hwa : IntKind.i64.wrap (ea fs j + n1) = ea fs j + n1 := IntWalk.i64_in _ (by omega)
        have hwb : IntKind.i64.wrap (eb fs j + n1) = eb fs j + n1 := IntWalk.i64_in _ (by omega)
        have HST := Lib.hid (bes_step n1 es fs (j := j) (by rw [hll.out]; exact hlt))
        have ha : Below w7.heap.size w7 (w7.alloc (.cells #[.int .i64 (ea fs j), .int .i64 (eb fs j)] 78)) := (Below.refl _ _).alloc (Nat.le_refl _) _
        have OX6 := OX.below ha
        have X2 := X2.below ha
        have X3 := X3.below ha
        have X4 := X4.below ha
        have hb6 := hbr.andB ha
        have hsz6 : w5.heap.size ≤ (w7.alloc (.cells #[.int .i64 (ea fs j), .int .i64 (eb fs j)] 78)).heap.size := by simp [go_sem]; omega
        have hR : ∀ g', blkOf A = some g' → w5.heap.size ≤ g' := fun g' hg' => (OX.blk g' hg').1
        have hA2 : some b2 ≠ blkOf A := fun e => by have := hR b2 e.symm; omega
        have hA3 : some b3 ≠ blkOf A := fun e => by have := hR b3 e.symm; omega
        have hA4 : some b4 ≠ blkOf A := fun e => by have := hR b4 e.symm; omega
        clear hfr F OX ha hbr hR
        go_wp2_with (first
          | (at_builtin; refine wp_appEA1 rfl rfl rfl rfl (by simp [go_sem]) OX6 hsz6 (by omega) ?_; intro A6 c6 w8 OX7 hg6 hat6;
             have X2 := X2.kept hg6 hA2; have X3 := X3.kept hg6 hA3; have X4 := X4.kept hg6 hA4; have hb7 := hb6.grown hg6 (by omega) (fun y hy => by have := (OX6.blk y hy).1; omega); have hsz7 := hg6.size;
             clear OX6 hb6 hg6 hat6 hA2 hA3 hA4 d1 d2 zF s2 p2 q2))
        go_roundw
        case rel => exact ⟨j + 1, A6, c6, by omega, by go_num, by rw [← Nat.add_assoc], by rw [HST.out, ← Nat.add_assoc]; exact OX7, X2, X3, X4, hb7, by omega⟩
        case measure => simp [intOf]; omega
      · obtain rfl : j = l := by omega
        obtain ⟨g0, rfl, OG⟩ : ∃ g, A = some ⟨g, 0, none⟩ ∧ OwnE w5.heap.size wr g (m + j) c' (es ++ (fs.take j).map (shE n1)) := by
          rcases OX.cases with ⟨_, h0, _⟩ | h0
          · omega
          · exact h0
        have HBL : Hid (es ++ (fs.take j).map (shE n1) = besL n1 es fs) := by show _ = _; rw [List.take_of_length_le (by rw [hll.out]; exact Nat.le_refl _)]; rfl
        have HMD := Lib.hid (graphOf_any (n1 + n2) g0 0 (m + j) c' _ wr OG.eds (by omega) (by omega))
        have X3c := X3
        obtain ⟨s3, p3, q3⟩ := X3c
        clear OX OG
        go_wp2_with fail
        refine HMD.out.mono ?_
        rw [HBL.out]
        rintro e w9 ⟨g, c2, rfl, O, hb6⟩
        have PW := X4.below hb6
        have hBW := hbr.andB hb6
        have hgO := O.ge
        have hz6 : w.heap.size ≤ wr.heap.size := hbr.size
        clear s2 p2 q2 s3 p3 q3 X2 X3 HBL
        have O8 := (O.setOther (a := ⟨b4, 0, none⟩) (by simp; omega) (.int .i64 (n1 + n2))).setOther (a := ⟨b4, 1, none⟩) (by simp; omega) (.slice (some ⟨g, 0, none⟩) (srtE (besL n1 es fs)).length c2)
        have P8 := PW.set2 (.int .i64 (n1 + n2)) (.slice (some ⟨g, 0, none⟩) (srtE (besL n1 es fs)).length c2)
        have hB8 := (hBW.setCell (p := ⟨b4, 0, none⟩) hww.2.2.2.2 (.int .i64 (n1 + n2))).setCell (p := ⟨b4, 1, none⟩) hww.2.2.2.2 (.slice (some ⟨g, 0, none⟩) (srtE (besL n1 es fs)).length c2)
        have PWx := PW
        obtain ⟨⟨sW, pW, qW⟩, fW, gW⟩ := PWx
        clear O
        go_wp2_with fail
        generalize hw9 : (World.setCell (World.setCell _ ⟨b4, 0, none⟩ (.int .i64 (n1 + n2))) ⟨b4, 1, none⟩ (.slice (some ⟨g, 0, none⟩) (srtE (besL n1 es fs)).length c2)) = w10 at O8 P8 hB8 ⊢
        clear hw9 pW qW
        obtain ⟨⟨k0, k1, k2⟩, _, _⟩ := P8
        rw [HN.out, HL.out, HC.out]
        refine bodyPost_ret (v := .tuple #[.agg #[.int .i64 (n1 + n2), .slice (some ⟨g, 0, none⟩) (srtE (besL n1 es fs)).length c2], .int .i64 0]) ?_ rfl ⟨some ⟨g, 0, none⟩, c2, rfl, O8.any.mono hz6, hB8⟩
        simp [results, Tryz.results35, go_sem, k1, k2]
end Go.Proofs.YtajnhkkiddeegaaGreat
