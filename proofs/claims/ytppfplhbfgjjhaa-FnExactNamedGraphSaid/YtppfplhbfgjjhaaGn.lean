import Derived.Test.YtppfplhbfgjjhaaGk
namespace Go.Proofs.Ytppfplhbfgjjhaa
open Go.RowKit Go.Sort
/-! ### GraphOf -/
noncomputable def gofC (n : Int) (es : List (Int × Int)) : Int := if B (WfP n es) then (if B (CubP n es) then 0 else 5) else 2
noncomputable def gofN (n : Int) (es : List (Int × Int)) : Int := if gofC n es = 0 then n else 0
noncomputable def gofL (n : Int) (es : List (Int × Int)) : List (Int × Int) := if gofC n es = 0 then srtE es else []
theorem gof_0 {n : Int} {es : List (Int × Int)} (h : WfP n es) (h2 : CubP n es) : gofC n es = 0 ∧ gofN n es = n ∧ gofL n es = srtE es := by
  have : gofC n es = 0 := by simp [gofC, B_true h, B_true h2]
  simp [gofN, gofL, this]
theorem gof_5 {n : Int} {es : List (Int × Int)} (h : WfP n es) (h2 : ¬ CubP n es) : gofC n es = 5 ∧ gofN n es = 0 ∧ gofL n es = [] := by
  have : gofC n es = 5 := by simp [gofC, B_true h, B_false h2]
  simp [gofN, gofL, this]
theorem gof_2 {n : Int} {es : List (Int × Int)} (h : ¬ WfP n es) : gofC n es = 2 ∧ gofN n es = 0 ∧ gofL n es = [] := by
  have : gofC n es = 2 := by simp [gofC, B_false h]
  simp [gofN, gofL, this]
theorem gofL_len {n : Int} {es : List (Int × Int)} : (gofL n es).length ≤ es.length := by
  unfold gofL; split
  · rw [srt_len]; exact Nat.le_refl _
  · simp
set_option maxRecDepth 100000 in
set_option maxHeartbeats 4000000 in
theorem spGraphOf_any (n : Int) (b o m c : Nat) (es : List (Int × Int)) (w : World) (h : Eds w b o m es) (hm : m ≤ 1048576) :
    Calls Try.prog 46 #[.int .i64 n, .slice (some ⟨b, o, none⟩) m c] w (RetGC (gofN n es) (gofL n es) (gofC n es) w) := by
  have hbb := (by go_grown : Below w.heap.size w (w.alloc (.cells #[.int .i64 0, .slice none 0 0] 30)))
  have PB := Box2F.made w (.int .i64 0) (.slice none 0 0) 30
  obtain ⟨w1, hw1⟩ : ∃ w1, w1 = w.alloc (.cells #[.int .i64 0, .slice none 0 0] 30) := ⟨_, rfl⟩
  have HW1 := Lib.hid hw1
  rw [← hw1] at hbb PB
  clear hw1
  have E1 := h.below hbb
  have hlm := Lib.hid h.len
  by_cases hwf : WfP n es
  rotate_left
  · obtain ⟨hC, hN, hL⟩ := gof_2 hwf
    have HC := Lib.hid hC
    have HN := Lib.hid hN
    have HL := Lib.hid hL
    have HE : Hid (endsC n es = 2) := (endsC_no hwf).symm
    clear hC hN hL hwf
    go_enter Try.func46, Try.ntmps46
    go_wp2_with fail
    rw [← HW1.out]
    refine (ends_any _ _ _ _ _ es _ E1 hm).mono ?_
    rintro e w2 ⟨rfl, hb2⟩
    rw [HE.out]
    have PW := PB.below hb2
    have hBW := hbb.thenB (by have := PB.box.lt; omega) hb2
    have P8 := PW.set2 (.int .i64 0) (.slice none 0 0)
    have hB8 := (hBW.setCell (p := ⟨w.heap.size, 0, none⟩) (Nat.le_refl _) (.int .i64 0)).setCell (p := ⟨w.heap.size, 1, none⟩) (Nat.le_refl _) (.slice none 0 0)
    have PWx := PW
    obtain ⟨⟨sW, pW, qW⟩, fW, gW⟩ := PWx
    go_wp2_with fail
    generalize hw9 : (World.setCell (World.setCell _ ⟨w.heap.size, 0, none⟩ (.int .i64 0)) ⟨w.heap.size, 1, none⟩ (.slice none 0 0)) = w9 at P8 hB8 ⊢
    clear hw9 pW qW
    obtain ⟨⟨k0, k1, k2⟩, _, _⟩ := P8
    rw [HN.out, HL.out, HC.out]
    refine bodyPost_ret (v := .tuple #[.agg #[.int .i64 0, .slice none 0 0], .int .i64 2]) ?_ rfl ⟨none, 0, rfl, OwnEA.nil _ _, hB8⟩
    simp [results, Try.results46, go_sem, k1, k2]
  obtain ⟨N, rfl⟩ : ∃ N : Nat, n = N := ⟨n.toNat, by have := hwf.1; omega⟩
  have hm0 : 0 < m := by have := hwf.2.2.2.1; have := hwf.1; have := hlm.out; omega
  have HE : Hid (endsC N es = 0) := (endsC_yes hwf).symm
  have HWF := Lib.hid hwf
  by_cases hcub : CubP N es
  rotate_left
  · obtain ⟨hC, hN, hL⟩ := gof_5 hwf hcub
    have HC := Lib.hid hC
    have HN := Lib.hid hN
    have HL := Lib.hid hL
    have HQ : Hid (B (CubP N es) = false) := B_false hcub
    clear hC hN hL hwf hcub
    go_enter Try.func46, Try.ntmps46
    go_wp2_with fail
    rw [← HW1.out]
    refine (ends_any _ _ _ _ _ es _ E1 hm).mono ?_
    rintro e w2 ⟨rfl, hb2⟩
    rw [HE.out]
    go_wp2_with fail
    refine (cubic_any _ _ _ _ _ es _ (E1.below hb2) hm HWF.out).mono ?_
    rintro e w3 ⟨rfl, hb3⟩
    rw [HQ.out]
    have PW := (PB.below hb2).below hb3
    have hBW := (hbb.thenB (by have := PB.box.lt; omega) hb2).andB hb3
    have P8 := PW.set2 (.int .i64 0) (.slice none 0 0)
    have hB8 := (hBW.setCell (p := ⟨w.heap.size, 0, none⟩) (Nat.le_refl _) (.int .i64 0)).setCell (p := ⟨w.heap.size, 1, none⟩) (Nat.le_refl _) (.slice none 0 0)
    have PWx := PW
    obtain ⟨⟨sW, pW, qW⟩, fW, gW⟩ := PWx
    go_wp2_with fail
    generalize hw9 : (World.setCell (World.setCell _ ⟨w.heap.size, 0, none⟩ (.int .i64 0)) ⟨w.heap.size, 1, none⟩ (.slice none 0 0)) = w9 at P8 hB8 ⊢
    clear hw9 pW qW
    obtain ⟨⟨k0, k1, k2⟩, _, _⟩ := P8
    rw [HN.out, HL.out, HC.out]
    refine bodyPost_ret (v := .tuple #[.agg #[.int .i64 0, .slice none 0 0], .int .i64 5]) ?_ rfl ⟨none, 0, rfl, OwnEA.nil _ _, hB8⟩
    simp [results, Try.results46, go_sem, k1, k2]
  · obtain ⟨hC, hN, hL⟩ := gof_0 hwf hcub
    have HC := Lib.hid hC
    have HN := Lib.hid hN
    have HL := Lib.hid hL
    have HQ : Hid (B (CubP N es) = true) := B_true hcub
    clear hC hN hL hwf hcub
    go_enter Try.func46, Try.ntmps46
    go_wp2_with fail
    rw [← HW1.out]
    refine (ends_any _ _ _ _ _ es _ E1 hm).mono ?_
    rintro e w2 ⟨rfl, hb2⟩
    rw [HE.out]
    go_wp2_with fail
    refine (cubic_any _ _ _ _ _ es _ (E1.below hb2) hm HWF.out).mono ?_
    rintro e w3 ⟨rfl, hb3⟩
    rw [HQ.out]
    have P3 := (PB.below hb2).below hb3
    have E3 := (E1.below hb2).below hb3
    have hB3 := (hbb.thenB (by have := PB.box.lt; omega) hb2).andB hb3
    go_wp2_with fail
    refine (l01Made_any N b o m c es _ E3 hm).mono ?_
    rintro e w4 ⟨g, c2, rfl, O, hb4⟩
    have PW := P3.below hb4
    have hBW := hB3.andB hb4
    have hgO := O.ge
    have hOl := P3.box.lt
    have hOb : w.heap.size ≤ w3.heap.size := by omega
    have O8 := (O.setOther (a := ⟨w.heap.size, 0, none⟩) (by simp; omega) (.int .i64 N)).setOther (a := ⟨w.heap.size, 1, none⟩) (by simp; omega) (.slice (some ⟨g, 0, none⟩) (srtE es).length c2)
    have P8 := PW.set2 (.int .i64 N) (.slice (some ⟨g, 0, none⟩) (srtE es).length c2)
    have hB8 := (hBW.setCell (p := ⟨w.heap.size, 0, none⟩) (Nat.le_refl _) (.int .i64 N)).setCell (p := ⟨w.heap.size, 1, none⟩) (Nat.le_refl _) (.slice (some ⟨g, 0, none⟩) (srtE es).length c2)
    have PWx := PW
    obtain ⟨⟨sW, pW, qW⟩, fW, gW⟩ := PWx
    clear O
    go_wp2_with fail
    generalize hw9 : (World.setCell (World.setCell _ ⟨w.heap.size, 0, none⟩ (.int .i64 N)) ⟨w.heap.size, 1, none⟩ (.slice (some ⟨g, 0, none⟩) (srtE es).length c2)) = w9 at O8 P8 hB8 ⊢
    clear hw9 pW qW
    obtain ⟨⟨k0, k1, k2⟩, _, _⟩ := P8
    rw [HN.out, HL.out, HC.out]
    refine bodyPost_ret (v := .tuple #[.agg #[.int .i64 N, .slice (some ⟨g, 0, none⟩) (srtE es).length c2], .int .i64 0]) ?_ rfl ⟨some ⟨g, 0, none⟩, c2, rfl, O8.any.mono hOb, hB8⟩
    simp [results, Try.results46, go_sem, k1, k2]
set_option maxRecDepth 100000 in
set_option maxHeartbeats 4000000 in
theorem imGraphOf_any (n : Int) (b o m c : Nat) (es : List (Int × Int)) (w : World) (h : Eds w b o m es) (hm : m ≤ 1048576) :
    Calls Try.prog 48 #[.int .i64 n, .slice (some ⟨b, o, none⟩) m c] w (RetGC (gofN n es) (gofL n es) (gofC n es) w) := by
  have hbb := (by go_grown : Below w.heap.size w (w.alloc (.cells #[.int .i64 0, .slice none 0 0] 30)))
  have PB := Box2F.made w (.int .i64 0) (.slice none 0 0) 30
  obtain ⟨w1, hw1⟩ : ∃ w1, w1 = w.alloc (.cells #[.int .i64 0, .slice none 0 0] 30) := ⟨_, rfl⟩
  have HW1 := Lib.hid hw1
  rw [← hw1] at hbb PB
  clear hw1
  have E1 := h.below hbb
  have hlm := Lib.hid h.len
  by_cases hwf : WfP n es
  rotate_left
  · obtain ⟨hC, hN, hL⟩ := gof_2 hwf
    have HC := Lib.hid hC
    have HN := Lib.hid hN
    have HL := Lib.hid hL
    have HE : Hid (B (WfP n es) = false) := B_false hwf
    clear hC hN hL hwf
    go_enter Try.func48, Try.ntmps48
    go_wp2_with fail
    rw [← HW1.out]
    refine (areEdges_any _ _ _ _ _ es _ E1 hm).mono ?_
    rintro e w2 ⟨rfl, hb2⟩
    rw [HE.out]
    have PW := PB.below hb2
    have hBW := hbb.thenB (by have := PB.box.lt; omega) hb2
    have P8 := PW.set2 (.int .i64 0) (.slice none 0 0)
    have hB8 := (hBW.setCell (p := ⟨w.heap.size, 0, none⟩) (Nat.le_refl _) (.int .i64 0)).setCell (p := ⟨w.heap.size, 1, none⟩) (Nat.le_refl _) (.slice none 0 0)
    have PWx := PW
    obtain ⟨⟨sW, pW, qW⟩, fW, gW⟩ := PWx
    go_wp2_with fail
    generalize hw9 : (World.setCell (World.setCell _ ⟨w.heap.size, 0, none⟩ (.int .i64 0)) ⟨w.heap.size, 1, none⟩ (.slice none 0 0)) = w9 at P8 hB8 ⊢
    clear hw9 pW qW
    obtain ⟨⟨k0, k1, k2⟩, _, _⟩ := P8
    rw [HN.out, HL.out, HC.out]
    refine bodyPost_ret (v := .tuple #[.agg #[.int .i64 0, .slice none 0 0], .int .i64 2]) ?_ rfl ⟨none, 0, rfl, OwnEA.nil _ _, hB8⟩
    simp [results, Try.results48, go_sem, k1, k2]
  obtain ⟨N, rfl⟩ : ∃ N : Nat, n = N := ⟨n.toNat, by have := hwf.1; omega⟩
  have hm0 : 0 < m := by have := hwf.2.2.2.1; have := hwf.1; have := hlm.out; omega
  have HE : Hid (B (WfP N es) = true) := B_true hwf
  have HWF := Lib.hid hwf
  by_cases hcub : CubP N es
  rotate_left
  · obtain ⟨hC, hN, hL⟩ := gof_5 hwf hcub
    have HC := Lib.hid hC
    have HN := Lib.hid hN
    have HL := Lib.hid hL
    have HQ : Hid (B (CubP N es) = false) := B_false hcub
    clear hC hN hL hwf hcub
    go_enter Try.func48, Try.ntmps48
    go_wp2_with fail
    rw [← HW1.out]
    refine (areEdges_any _ _ _ _ _ es _ E1 hm).mono ?_
    rintro e w2 ⟨rfl, hb2⟩
    rw [HE.out]
    go_wp2_with fail
    refine (isCubic_any _ _ _ _ _ es _ (E1.below hb2) hm HWF.out).mono ?_
    rintro e w3 ⟨rfl, hb3⟩
    rw [HQ.out]
    have PW := (PB.below hb2).below hb3
    have hBW := (hbb.thenB (by have := PB.box.lt; omega) hb2).andB hb3
    have P8 := PW.set2 (.int .i64 0) (.slice none 0 0)
    have hB8 := (hBW.setCell (p := ⟨w.heap.size, 0, none⟩) (Nat.le_refl _) (.int .i64 0)).setCell (p := ⟨w.heap.size, 1, none⟩) (Nat.le_refl _) (.slice none 0 0)
    have PWx := PW
    obtain ⟨⟨sW, pW, qW⟩, fW, gW⟩ := PWx
    go_wp2_with fail
    generalize hw9 : (World.setCell (World.setCell _ ⟨w.heap.size, 0, none⟩ (.int .i64 0)) ⟨w.heap.size, 1, none⟩ (.slice none 0 0)) = w9 at P8 hB8 ⊢
    clear hw9 pW qW
    obtain ⟨⟨k0, k1, k2⟩, _, _⟩ := P8
    rw [HN.out, HL.out, HC.out]
    refine bodyPost_ret (v := .tuple #[.agg #[.int .i64 0, .slice none 0 0], .int .i64 5]) ?_ rfl ⟨none, 0, rfl, OwnEA.nil _ _, hB8⟩
    simp [results, Try.results48, go_sem, k1, k2]
  · obtain ⟨hC, hN, hL⟩ := gof_0 hwf hcub
    have HC := Lib.hid hC
    have HN := Lib.hid hN
    have HL := Lib.hid hL
    have HQ : Hid (B (CubP N es) = true) := B_true hcub
    clear hC hN hL hwf hcub
    go_enter Try.func48, Try.ntmps48
    go_wp2_with fail
    rw [← HW1.out]
    refine (areEdges_any _ _ _ _ _ es _ E1 hm).mono ?_
    rintro e w2 ⟨rfl, hb2⟩
    rw [HE.out]
    go_wp2_with fail
    refine (isCubic_any _ _ _ _ _ es _ (E1.below hb2) hm HWF.out).mono ?_
    rintro e w3 ⟨rfl, hb3⟩
    rw [HQ.out]
    have P3 := (PB.below hb2).below hb3
    have E3 := (E1.below hb2).below hb3
    have hB3 := (hbb.thenB (by have := PB.box.lt; omega) hb2).andB hb3
    go_wp2_with fail
    refine (graphOf_any N b o m c es _ E3 hm hm0).mono ?_
    rintro e w4 ⟨g, c2, rfl, O, hb4⟩
    have PW := P3.below hb4
    have hBW := hB3.andB hb4
    have hgO := O.ge
    have hOl := P3.box.lt
    have hOb : w.heap.size ≤ w3.heap.size := by omega
    have O8 := (O.setOther (a := ⟨w.heap.size, 0, none⟩) (by simp; omega) (.int .i64 N)).setOther (a := ⟨w.heap.size, 1, none⟩) (by simp; omega) (.slice (some ⟨g, 0, none⟩) (srtE es).length c2)
    have P8 := PW.set2 (.int .i64 N) (.slice (some ⟨g, 0, none⟩) (srtE es).length c2)
    have hB8 := (hBW.setCell (p := ⟨w.heap.size, 0, none⟩) (Nat.le_refl _) (.int .i64 N)).setCell (p := ⟨w.heap.size, 1, none⟩) (Nat.le_refl _) (.slice (some ⟨g, 0, none⟩) (srtE es).length c2)
    have PWx := PW
    obtain ⟨⟨sW, pW, qW⟩, fW, gW⟩ := PWx
    clear O
    go_wp2_with fail
    generalize hw9 : (World.setCell (World.setCell _ ⟨w.heap.size, 0, none⟩ (.int .i64 N)) ⟨w.heap.size, 1, none⟩ (.slice (some ⟨g, 0, none⟩) (srtE es).length c2)) = w9 at O8 P8 hB8 ⊢
    clear hw9 pW qW
    obtain ⟨⟨k0, k1, k2⟩, _, _⟩ := P8
    rw [HN.out, HL.out, HC.out]
    refine bodyPost_ret (v := .tuple #[.agg #[.int .i64 N, .slice (some ⟨g, 0, none⟩) (srtE es).length c2], .int .i64 0]) ?_ rfl ⟨some ⟨g, 0, none⟩, c2, rfl, O8.any.mono hOb, hB8⟩
    simp [results, Try.results48, go_sem, k1, k2]
end Go.Proofs.Ytppfplhbfgjjhaa
