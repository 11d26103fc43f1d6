import Derived.Test.YtppfplhbfgjjhaaRn
namespace Go.Proofs.Ytppfplhbfgjjhaa
open Go.RowKit Go.Sort
/-! ### RenumberGraph -/
noncomputable def rgC (n : Int) (es : List (Int × Int)) (ls : Nat → Int) (l : Nat) : Int := gcC n es (B (OrdP ls l n))
noncomputable def rgN (n : Int) (es : List (Int × Int)) (ls : Nat → Int) (l : Nat) : Int := if rgC n es ls l = 0 then n else 0
noncomputable def rgL (n : Int) (es : List (Int × Int)) (ls : Nat → Int) (l : Nat) : List (Int × Int) := if rgC n es ls l = 0 then srtE (es.map (rnE ls)) else []
theorem rg_k {n : Int} {es : List (Int × Int)} {ls : Nat → Int} {l : Nat} {k : Int} (h : rgC n es ls l = k) (hk : k ≠ 0) : rgC n es ls l = k ∧ rgN n es ls l = 0 ∧ rgL n es ls l = [] := by
  subst h; simp [rgN, rgL, hk]
theorem rg_0 {n : Int} {es : List (Int × Int)} {ls : Nat → Int} {l : Nat} (h : rgC n es ls l = 0) : rgC n es ls l = 0 ∧ rgN n es ls l = n ∧ rgL n es ls l = srtE (es.map (rnE ls)) := by
  simp [rgN, rgL, h]
theorem rgL_len {n : Int} {es : List (Int × Int)} {ls : Nat → Int} {l : Nat} : (rgL n es ls l).length ≤ es.length := by
  unfold rgL; split
  · rw [srt_len]; simp
  · simp
set_option maxRecDepth 100000 in
set_option maxHeartbeats 8000000 in
theorem spRenumberGraph_any (n : Int) (b o m c pb po pl pc : Nat) (es : List (Int × Int)) (ls : Nat → Int) (w : World) (h : Eds w b o m es) (hm : m ≤ 1048576) (h2 : Ints w pb po pl ls) (hl : pl ≤ 1048576) :
    Calls Try.prog 53 #[.agg #[.int .i64 n, .slice (some ⟨b, o, none⟩) m c], .slice (some ⟨pb, po, none⟩) pl pc] w (RetGC (rgN n es ls pl) (rgL n es ls pl) (rgC n es ls pl) w) := by
  have KC := cell_rg
  have hlm := Lib.hid h.len
  obtain ⟨w1, hw1⟩ : ∃ w1, w1 = w.alloc (.cells #[.int .i64 n, .slice (some ⟨b, o, none⟩) m c] 30) := ⟨_, rfl⟩
  have X2 := Box2.made w (.int .i64 n) (.slice (some ⟨b, o, none⟩) m c) 30
  have hb1 : Below w.heap.size w (w.alloc (.cells #[.int .i64 n, .slice (some ⟨b, o, none⟩) m c] 30)) := (Below.refl _ _).alloc (Nat.le_refl _) _
  rw [← hw1] at X2 hb1
  have hs1 : w1.heap.size = w.heap.size + 1 := by rw [hw1]; simp
  obtain ⟨w3, hw3⟩ : ∃ w3, w3 = w1.alloc (.cells #[.int .i64 0, .slice none 0 0] 30) := ⟨_, rfl⟩
  have X4 := Box2F.made w1 (.int .i64 0) (.slice none 0 0) 30
  have ha3 : Below w1.heap.size w1 (w1.alloc (.cells #[.int .i64 0, .slice none 0 0] 30)) := (Below.refl _ _).alloc (Nat.le_refl _) _
  rw [← hw3] at X4 ha3
  have X2 := X2.below ha3
  have hb3 := hb1.andB ha3
  have hs3 : w3.heap.size = w1.heap.size + 1 := by rw [hw3]; simp
  obtain ⟨b2, hB2⟩ : ∃ b2, b2 = w.heap.size := ⟨_, rfl⟩
  obtain ⟨b4, hB4⟩ : ∃ b4, b4 = w1.heap.size := ⟨_, rfl⟩
  rw [← hB2] at X2
  rw [← hB4] at X4
  have HW : Hid (w3 = (w.alloc (.cells #[.int .i64 n, .slice (some ⟨b, o, none⟩) m c] 30)).alloc (.cells #[.int .i64 0, .slice none 0 0] 30) ∧ w.heap.size = b2 ∧ w.heap.size + 1 = b4) := by rw [← hw1]; exact ⟨hw3, hB2.symm, by omega⟩
  have hww : w.heap.size ≤ w3.heap.size ∧ b2 < b4 ∧ b4 < w3.heap.size ∧ w.heap.size ≤ b4 := by omega
  clear hw1 hw3 ha3 hs1 hs3 hb1 hB2 hB4
  have E3 := h.below hb3
  have I3 := h2.below hb3
  have X2c := X2
  obtain ⟨s2, p2, q2⟩ := X2c
  cases hg1 : B (IsG n es) with
  | false =>
    obtain ⟨hC, hN, hL⟩ := rg_k (k := 1) (show rgC n es ls pl = 1 by simp [rgC, gcC, hg1]) (by decide)
    have HC := Lib.hid hC
    have HN := Lib.hid hN
    have HL := Lib.hid hL
    have HG1 := Lib.hid hg1
    clear hC hN hL hg1
    go_enter Try.func53, Try.ntmps53
    go_wp2_with fail
    rw [← HW.out.1, HW.out.2.2, HW.out.2.1]
    refine (l01Is_any n _ _ _ _ es _ E3 hm).mono ?_
    rintro e w4 ⟨rfl, hb4⟩
    rw [HG1.out]
    have PW := X4.below hb4
    have hBW := hb3.andB hb4
    clear X2 X4 s2 p2 q2
    have P8 := PW.set2 (.int .i64 0) (.slice none 0 0)
    have hB8 := (hBW.setCell (p := ⟨b4, 0, none⟩) hww.2.2.2 (.int .i64 0)).setCell (p := ⟨b4, 1, none⟩) hww.2.2.2 (.slice none 0 0)
    have PWx := PW
    obtain ⟨⟨sW, pW, qW⟩, fW, gW⟩ := PWx
    go_wp2_with fail
    generalize hw9 : (World.setCell (World.setCell _ ⟨b4, 0, none⟩ (.int .i64 0)) ⟨b4, 1, none⟩ (.slice none 0 0)) = w9 at P8 hB8 ⊢
    clear hw9 pW qW
    obtain ⟨⟨k0, k1, k2⟩, _, _⟩ := P8
    rw [HN.out, HL.out, HC.out]
    refine bodyPost_ret (v := .tuple #[.agg #[.int .i64 0, .slice none 0 0], .int .i64 1]) ?_ rfl ⟨none, 0, rfl, OwnEA.nil _ _, hB8⟩
    simp [results, Try.results53, go_sem, k1, k2]
  | true =>
  have HG1 := Lib.hid hg1
  have hG := B_iff.1 hg1
  have hr1 : 2 ≤ n ∧ n ≤ 20 := ⟨hG.wf.1, hG.wf.2.1⟩
  have HWF := Lib.hid hG.wf
  obtain ⟨N, rfl⟩ : ∃ N : Nat, n = N := ⟨n.toNat, by omega⟩
  cases hg2 : B (OrdP ls pl N) with
  | false =>
    obtain ⟨hC, hN, hL⟩ := rg_k (k := 2) (show rgC N es ls pl = 2 by simp [rgC, gcC, hg1, hg2]) (by decide)
    have HC := Lib.hid hC
    have HN := Lib.hid hN
    have HL := Lib.hid hL
    have HG2 := Lib.hid hg2
    clear hC hN hL hg1 hg2 hG
    go_enter Try.func53, Try.ntmps53
    go_wp2_with fail
    rw [← HW.out.1, HW.out.2.2, HW.out.2.1]
    refine (l01Is_any N _ _ _ _ es _ E3 hm).mono ?_
    rintro e w4 ⟨rfl, hb4⟩
    rw [HG1.out]
    have X2 := X2.below hb4
    have X4 := X4.below hb4
    have E4 := E3.below hb4
    have I4 := I3.below hb4
    have hb5 := hb3.andB hb4
    have hz4 := hb4.size
    clear s2 p2 q2 hb4
    have X2c := X2
    obtain ⟨s2, p2, q2⟩ := X2c
    go_wp2_with fail
    refine (l01Order_any N pb po pl pc ls _ I4 hl (by omega)).mono ?_
    rintro e w5 ⟨rfl, hb4⟩
    rw [HG2.out]
    have X2 := X2.below hb4
    have PW := X4.below hb4
    have E5 := E4.below hb4
    have I5 := I4.below hb4
    have hBW := hb5.andB hb4
    have hz5 : w3.heap.size ≤ w5.heap.size := by have := hb4.size; omega
    clear X4 E4 I4 E3 I3 hb5 hb4 hz4 s2 p2 q2
    have P8 := PW.set2 (.int .i64 0) (.slice none 0 0)
    have hB8 := (hBW.setCell (p := ⟨b4, 0, none⟩) hww.2.2.2 (.int .i64 0)).setCell (p := ⟨b4, 1, none⟩) hww.2.2.2 (.slice none 0 0)
    have PWx := PW
    obtain ⟨⟨sW, pW, qW⟩, fW, gW⟩ := PWx
    go_wp2_with fail
    generalize hw9 : (World.setCell (World.setCell _ ⟨b4, 0, none⟩ (.int .i64 0)) ⟨b4, 1, none⟩ (.slice none 0 0)) = w9 at P8 hB8 ⊢
    clear hw9 pW qW
    obtain ⟨⟨k0, k1, k2⟩, _, _⟩ := P8
    rw [HN.out, HL.out, HC.out]
    refine bodyPost_ret (v := .tuple #[.agg #[.int .i64 0, .slice none 0 0], .int .i64 2]) ?_ rfl ⟨none, 0, rfl, OwnEA.nil _ _, hB8⟩
    simp [results, Try.results53, go_sem, k1, k2]
  | true =>
    obtain ⟨hC, hN, hL⟩ := rg_0 (show rgC N es ls pl = 0 by simp [rgC, gcC, hg1, hg2])
    have HC := Lib.hid hC
    have HN := Lib.hid hN
    have HL := Lib.hid hL
    have HG2 := Lib.hid hg2
    have HPL := Lib.hid (B_iff.1 hg2).1
    clear hC hN hL hg1 hg2 hG
    go_enter Try.func53, Try.ntmps53
    go_wp2_with fail
    rw [← HW.out.1, HW.out.2.2, HW.out.2.1]
    refine (l01Is_any N _ _ _ _ es _ E3 hm).mono ?_
    rintro e w4 ⟨rfl, hb4⟩
    rw [HG1.out]
    have X2 := X2.below hb4
    have X4 := X4.below hb4
    have E4 := E3.below hb4
    have I4 := I3.below hb4
    have hb5 := hb3.andB hb4
    have hz4 := hb4.size
    clear s2 p2 q2 hb4
    have X2c := X2
    obtain ⟨s2, p2, q2⟩ := X2c
    go_wp2_with fail
    refine (l01Order_any N pb po pl pc ls _ I4 hl (by omega)).mono ?_
    rintro e w5 ⟨rfl, hb4⟩
    rw [HG2.out]
    have X2 := X2.below hb4
    have PW := X4.below hb4
    have E5 := E4.below hb4
    have I5 := I4.below hb4
    have hBW := hb5.andB hb4
    have hz5 : w3.heap.size ≤ w5.heap.size := by have := hb4.size; omega
    clear X4 E4 I4 E3 I3 hb5 hb4 hz4 s2 p2 q2
    have X2c := X2
    obtain ⟨s2, p2, q2⟩ := X2c
    go_wp2_with fail
    refine (l01Renamed_any N b o m c pb po pl pc es ls w5 E5 I5 HWF.out HPL.out).mono ?_
    rintro e w6 ⟨g, c2, rfl, O, hb6⟩
    have PW := PW.below hb6
    have hBW := hBW.andB hb6
    have hgO := O.ge
    have hz6 : w.heap.size ≤ w5.heap.size := by omega
    clear s2 p2 q2 X2
    have O8 := (O.setOther (a := ⟨b4, 0, none⟩) (by simp; omega) (.int .i64 N)).setOther (a := ⟨b4, 1, none⟩) (by simp; omega) (.slice (some ⟨g, 0, none⟩) (srtE (es.map (rnE ls))).length c2)
    have P8 := PW.set2 (.int .i64 N) (.slice (some ⟨g, 0, none⟩) (srtE (es.map (rnE ls))).length c2)
    have hB8 := (hBW.setCell (p := ⟨b4, 0, none⟩) hww.2.2.2 (.int .i64 N)).setCell (p := ⟨b4, 1, none⟩) hww.2.2.2 (.slice (some ⟨g, 0, none⟩) (srtE (es.map (rnE ls))).length c2)
    have PWx := PW
    obtain ⟨⟨sW, pW, qW⟩, fW, gW⟩ := PWx
    clear O
    go_wp2_with fail
    generalize hw9 : (World.setCell (World.setCell _ ⟨b4, 0, none⟩ (.int .i64 N)) ⟨b4, 1, none⟩ (.slice (some ⟨g, 0, none⟩) (srtE (es.map (rnE ls))).length c2)) = w9 at O8 P8 hB8 ⊢
    clear hw9 pW qW
    obtain ⟨⟨k0, k1, k2⟩, _, _⟩ := P8
    rw [HN.out, HL.out, HC.out]
    refine bodyPost_ret (v := .tuple #[.agg #[.int .i64 N, .slice (some ⟨g, 0, none⟩) (srtE (es.map (rnE ls))).length c2], .int .i64 0]) ?_ rfl ⟨some ⟨g, 0, none⟩, c2, rfl, O8.any.mono hz6, hB8⟩
    simp [results, Try.results53, go_sem, k1, k2]
set_option maxRecDepth 100000 in
set_option maxHeartbeats 8000000 in
theorem imRenumberGraph_any (n : Int) (b o m c pb po pl pc : Nat) (es : List (Int × Int)) (ls : Nat → Int) (w : World) (h : Eds w b o m es) (hm : m ≤ 1048576) (h2 : Ints w pb po pl ls) (hl : pl ≤ 1048576) :
    Calls Try.prog 54 #[.agg #[.int .i64 n, .slice (some ⟨b, o, none⟩) m c], .slice (some ⟨pb, po, none⟩) pl pc] w (RetGC (rgN n es ls pl) (rgL n es ls pl) (rgC n es ls pl) w) := by
  have KC := cell_rg
  have hlm := Lib.hid h.len
  obtain ⟨w1, hw1⟩ : ∃ w1, w1 = w.alloc (.cells #[.int .i64 n, .slice (some ⟨b, o, none⟩) m c] 30) := ⟨_, rfl⟩
  have X2 := Box2.made w (.int .i64 n) (.slice (some ⟨b, o, none⟩) m c) 30
  have hb1 : Below w.heap.size w (w.alloc (.cells #[.int .i64 n, .slice (some ⟨b, o, none⟩) m c] 30)) := (Below.refl _ _).alloc (Nat.le_refl _) _
  rw [← hw1] at X2 hb1
  have hs1 : w1.heap.size = w.heap.size + 1 := by rw [hw1]; simp
  obtain ⟨w3, hw3⟩ : ∃ w3, w3 = w1.alloc (.cells #[.int .i64 0, .slice none 0 0] 30) := ⟨_, rfl⟩
  have X4 := Box2F.made w1 (.int .i64 0) (.slice none 0 0) 30
  have ha3 : Below w1.heap.size w1 (w1.alloc (.cells #[.int .i64 0, .slice none 0 0] 30)) := (Below.refl _ _).alloc (Nat.le_refl _) _
  rw [← hw3] at X4 ha3
  have X2 := X2.below ha3
  have hb3 := hb1.andB ha3
  have hs3 : w3.heap.size = w1.heap.size + 1 := by rw [hw3]; simp
  obtain ⟨b2, hB2⟩ : ∃ b2, b2 = w.heap.size := ⟨_, rfl⟩
  obtain ⟨b4, hB4⟩ : ∃ b4, b4 = w1.heap.size := ⟨_, rfl⟩
  rw [← hB2] at X2
  rw [← hB4] at X4
  have HW : Hid (w3 = (w.alloc (.cells #[.int .i64 n, .slice (some ⟨b, o, none⟩) m c] 30)).alloc (.cells #[.int .i64 0, .slice none 0 0] 30) ∧ w.heap.size = b2 ∧ w.heap.size + 1 = b4) := by rw [← hw1]; exact ⟨hw3, hB2.symm, by omega⟩
  have hww : w.heap.size ≤ w3.heap.size ∧ b2 < b4 ∧ b4 < w3.heap.size ∧ w.heap.size ≤ b4 := by omega
  clear hw1 hw3 ha3 hs1 hs3 hb1 hB2 hB4
  have E3 := h.below hb3
  have I3 := h2.below hb3
  have X2c := X2
  obtain ⟨s2, p2, q2⟩ := X2c
  have HIO := Lib.hid (fun d os => Ret.rg (isOrder_any pb po pl pc ls n (grow (redrawn w3 d) os) (I3.below (below_regrown _ _ _)) hl))
  obtain ⟨r, hr⟩ : ∃ r, r = ordB ls pl n := ⟨_, rfl⟩
  have hgc : gcC n es r = rgC n es ls pl := by
    rw [hr]; unfold rgC gcC
    cases hg1 : B (IsG n es) with
    | false => simp
    | true =>
      have hG := B_iff.1 hg1
      rw [ordB_eq hG.wf.2.1]
  have HGC := Lib.hid (fun d os => Ret.rg (graphCode_any n b o m c es r (grow (redrawn w3 d) os) (E3.below (below_regrown _ _ _)) hm))
  rw [hgc] at HGC
  rw [← hr] at HIO
  obtain ⟨kc, hkc⟩ : ∃ kc, kc = rgC n es ls pl := ⟨_, rfl⟩
  rw [← hkc] at HGC
  by_cases hz : kc = 0
  rotate_left
  · obtain ⟨hC, hN, hL⟩ := rg_k (k := kc) hkc.symm hz
    have HC := Lib.hid hC
    have HN := Lib.hid hN
    have HL := Lib.hid hL
    have hne : (kc != 0) = true := by simpa using hz
    clear hC hN hL hz hkc hgc hr E3 I3
    go_enter Try.func54, Try.ntmps54
    go_wp2_with fail
    rw [← HW.out.1, HW.out.2.2, HW.out.2.1]
    (refine wp_region_quiet_below (by kernel_rfl) (by kernel_rfl) ?_
     repeat (any_goals (go_big_quiet_step (first | (go_at_call 106; exact HIO.out _ _) | (go_at_call 57; exact HGC.out _ _))))
     all_goals (refine wpQuiet_nil ?_; intro wq1 hq1; replace hq1 := below_of_rg hq1))
    have PW := X4.below hq1
    have hBW := hb3.andB hq1
    clear X2 X4 s2 p2 q2 hq1
    have P8 := PW.set2 (.int .i64 0) (.slice none 0 0)
    have hB8 := (hBW.setCell (p := ⟨b4, 0, none⟩) hww.2.2.2 (.int .i64 0)).setCell (p := ⟨b4, 1, none⟩) hww.2.2.2 (.slice none 0 0)
    have PWx := PW
    obtain ⟨⟨sW, pW, qW⟩, fW, gW⟩ := PWx
    go_wp2_with fail
    generalize hw9 : (World.setCell (World.setCell _ ⟨b4, 0, none⟩ (.int .i64 0)) ⟨b4, 1, none⟩ (.slice none 0 0)) = w9 at P8 hB8 ⊢
    clear hw9 pW qW
    obtain ⟨⟨k0, k1, k2⟩, _, _⟩ := P8
    rw [HN.out, HL.out, HC.out]
    refine bodyPost_ret (v := .tuple #[.agg #[.int .i64 0, .slice none 0 0], .int .i64 kc]) ?_ rfl ⟨none, 0, rfl, OwnEA.nil _ _, hB8⟩
    simp [results, Try.results54, go_sem, k1, k2]
  · have hgz : gcC n es r = 0 := by rw [hgc, ← hkc]; exact hz
    have hG : IsG n es := by
      by_cases h1 : IsG n es
      · exact h1
      · simp [gcC, B_false h1] at hgz
    have hrt : r = true := by
      cases hq : r with
      | true => rfl
      | false => rw [hq] at hgz; simp [gcC, B_true hG] at hgz
    have hO : OrdP ls pl n := by rw [ordB_eq hG.wf.2.1, hrt] at hr; exact B_iff.1 hr.symm
    obtain ⟨hC, hN, hL⟩ := rg_0 (hkc.symm.trans hz)
    have HC := Lib.hid hC
    have HN := Lib.hid hN
    have HL := Lib.hid hL
    have HWF := Lib.hid hG.wf
    have HPL := Lib.hid hO.1
    subst hz
    clear hC hN hL hkc hgc hr hgz hG hrt hO
    go_enter Try.func54, Try.ntmps54
    go_wp2_with fail
    rw [← HW.out.1, HW.out.2.2, HW.out.2.1]
    (refine wp_region_quiet_below (by kernel_rfl) (by kernel_rfl) ?_
     repeat (any_goals (go_big_quiet_step (first | (go_at_call 106; exact HIO.out _ _) | (go_at_call 57; exact HGC.out _ _))))
     all_goals (refine wpQuiet_nil ?_; intro wq1 hq1; replace hq1 := below_of_rg hq1))
    have PW := X4.below hq1
    have X2 := X2.below hq1
    have hBW := hb3.andB hq1
    have E5 := E3.below hq1
    have I5 := I3.below hq1
    have hzq := hq1.size
    clear X4 s2 p2 q2 hq1 E3 I3
    have X2c := X2
    obtain ⟨s2, p2, q2⟩ := X2c
    go_wp2_with fail
    refine (renumbered_any n b o m c pb po pl pc es ls wq1 E5 I5 HWF.out HPL.out).mono ?_
    rintro e w6 ⟨g, c2, rfl, O, hb6⟩
    have PW := PW.below hb6
    have hBW := hBW.andB hb6
    have hgO := O.ge
    have hz6 : w.heap.size ≤ wq1.heap.size := by omega
    clear s2 p2 q2 X2
    have O8 := (O.setOther (a := ⟨b4, 0, none⟩) (by simp; omega) (.int .i64 n)).setOther (a := ⟨b4, 1, none⟩) (by simp; omega) (.slice (some ⟨g, 0, none⟩) (srtE (es.map (rnE ls))).length c2)
    have P8 := PW.set2 (.int .i64 n) (.slice (some ⟨g, 0, none⟩) (srtE (es.map (rnE ls))).length c2)
    have hB8 := (hBW.setCell (p := ⟨b4, 0, none⟩) hww.2.2.2 (.int .i64 n)).setCell (p := ⟨b4, 1, none⟩) hww.2.2.2 (.slice (some ⟨g, 0, none⟩) (srtE (es.map (rnE ls))).length c2)
    have PWx := PW
    obtain ⟨⟨sW, pW, qW⟩, fW, gW⟩ := PWx
    clear O
    go_wp2_with fail
    generalize hw9 : (World.setCell (World.setCell _ ⟨b4, 0, none⟩ (.int .i64 n)) ⟨b4, 1, none⟩ (.slice (some ⟨g, 0, none⟩) (srtE (es.map (rnE ls))).length c2)) = w9 at O8 P8 hB8 ⊢
    clear hw9 pW qW
    obtain ⟨⟨k0, k1, k2⟩, _, _⟩ := P8
    rw [HN.out, HL.out, HC.out]
    refine bodyPost_ret (v := .tuple #[.agg #[.int .i64 n, .slice (some ⟨g, 0, none⟩) (srtE (es.map (rnE ls))).length c2], .int .i64 0]) ?_ rfl ⟨some ⟨g, 0, none⟩, c2, rfl, O8.any.mono hz6, hB8⟩
    simp [results, Try.results54, go_sem, k1, k2]
end Go.Proofs.Ytppfplhbfgjjhaa
