import Derived.Test.YtppfplhbfgjjhaaGn
namespace Go.Proofs.Ytppfplhbfgjjhaa
open Go.RowKit Go.Sort
set_option maxRecDepth 100000 in
set_option maxHeartbeats 4000000 in
theorem law_GraphOf (n : Int) (A : Option Addr) (m c : Nat) (es : List (Int × Int)) (w : World) (_hn : -9223372036854775808 ≤ n ∧ n ≤ 9223372036854775807) (h : SrcE w A m es) (hlen : m ≤ 9223372036854775807) :
    Calls Try.prog 12 #[.int .i64 n, .slice A m c] w (Ret (.bool true) w) := by
  by_cases hm : m ≤ 1048576
  rotate_left
  · have hz : szE m 1048576 < 0 := by simp only [szE]; split <;> omega
    go_enter Try.func12, Try.ntmps12
    go_wp2_with fail
    refine (szEdgeS_any _ _ _ _ _ hlen (by omega) (by omega)).mono ?_
    rintro e w1 ⟨rfl, rfl⟩
    go_wp2_with fail
    go_ret
    exact ⟨rfl, Below.refl _ _⟩
  have hz : szE m 1048576 = 1048576 - m := by simp only [szE]; split <;> omega
  have hz2 : 0 ≤ szE m 1048576 := by omega
  have HL := Lib.hid h.1
  obtain ⟨xs, hxs⟩ : ∃ xs, xs = gofL n es := ⟨_, rfl⟩
  obtain ⟨nn, hnn⟩ : ∃ nn, nn = gofN n es := ⟨_, rfl⟩
  obtain ⟨kc, hkc⟩ : ∃ kc, kc = gofC n es := ⟨_, rfl⟩
  have hxl : xs.length ≤ 1048576 := by rw [hxs]; have := gofL_len (n := n) (es := es); have := HL.out; omega
  have HSP : Hid (∀ b d W, Eds W b 0 es.length es → Calls Try.prog 46 #[.int .i64 n, .slice (some ⟨b, 0, none⟩) es.length d] W (RetGC nn xs kc W)) := by
    rw [hxs, hnn, hkc]; exact fun b d W E => spGraphOf_any n b 0 es.length d es W E (by rw [HL.out]; exact hm)
  have HIM : Hid (∀ b d W, Eds W b 0 es.length es → Calls Try.prog 48 #[.int .i64 n, .slice (some ⟨b, 0, none⟩) es.length d] W (RetGC nn xs kc W)) := by
    rw [hxs, hnn, hkc]; exact fun b d W E => imGraphOf_any n b 0 es.length d es W E (by rw [HL.out]; exact hm)
  clear hz hxs hnn hkc
  go_enter Try.func12, Try.ntmps12
  go_wp2_with fail
  refine (szEdgeS_any _ _ _ _ _ hlen (by omega) (by omega)).mono ?_
  rintro e w1 ⟨rfl, rfl⟩
  go_wp2_with fail
  refine (toEdgeS_any A m c es w h hm).mono ?_
  rintro e w2 ⟨g2, k2, rfl, ho, hB⟩
  have E := ho.eds
  clear ho
  go_wp2_with fail
  refine (HSP.out _ _ _ E).mono ?_
  rintro e w3 ⟨AW, cW, rfl, W0, hb⟩
  have RW : ∀ g, blkOf AW = some g → w2.heap.size ≤ g ∧ g < w3.heap.size := W0.blk
  have W0 := W0.mono hB.size
  have hB := hB.andB hb
  clear hb E
  go_wp2_with fail
  have X6 := Box2.made w3 (.int .i64 nn) (.slice AW xs.length cW) 30
  have ha : Below w3.heap.size w3 (w3.alloc (.cells #[.int .i64 nn, .slice AW xs.length cW] 30)) := (Below.refl _ _).alloc (Nat.le_refl _) _
  have zA : (w3.alloc (.cells #[.int .i64 nn, .slice AW xs.length cW] 30)).heap.size = w3.heap.size + 1 := by simp
  generalize (w3.alloc (.cells #[.int .i64 nn, .slice AW xs.length cW] 30)) = wA at X6 ha zA ⊢
  have W0 := W0.below ha
  have hB := hB.andB ha
  obtain ⟨B6, hB6⟩ : ∃ B6, B6 = w3.heap.size := ⟨_, rfl⟩
  have hB6w : w3.heap.size ≤ B6 ∧ B6 < wA.heap.size := by omega
  rw [← hB6] at X6 ⊢
  clear ha hB6 zA
  have hwA : w.heap.size ≤ wA.heap.size := hB.size
  refine (toEdgeS_any A m c es wA (h.below hB) hm).mono ?_
  rintro e w4 ⟨g4, k4, rfl, O4, hb⟩
  have R4 := O4.ge
  have W0 := W0.below hb
  have X6 := X6.below hb
  have hB := hB.andB hb
  clear hb
  go_wp2_with fail
  refine (HIM.out _ _ _ O4.eds).mono ?_
  rintro e w5 ⟨AG, cG, rfl, G0, hb⟩
  have RG : ∀ g, blkOf AG = some g → w4.heap.size ≤ g ∧ g < w5.heap.size := G0.blk
  have G0 := G0.mono hB.size
  have O4 := O4.below hb
  have W0 := W0.below hb
  have X6 := X6.below hb
  have hz5 := hb.size
  have hB := hB.andB hb
  have X6c := X6
  obtain ⟨s6, p6, q6⟩ := X6c
  clear hb
  go_wp2_with fail
  clear s6 p6 q6
  have X9 := Box2.made w5 (.int .i64 nn) (.slice AG xs.length cG) 30
  have ha : Below w5.heap.size w5 (w5.alloc (.cells #[.int .i64 nn, .slice AG xs.length cG] 30)) := (Below.refl _ _).alloc (Nat.le_refl _) _
  have zB : (w5.alloc (.cells #[.int .i64 nn, .slice AG xs.length cG] 30)).heap.size = w5.heap.size + 1 := by simp
  generalize (w5.alloc (.cells #[.int .i64 nn, .slice AG xs.length cG] 30)) = wB at X9 ha zB ⊢
  have W0 := W0.below ha
  have G0 := G0.below ha
  have O4 := O4.below ha
  have X6 := X6.below ha
  have hB := hB.andB ha
  obtain ⟨B9, hB9⟩ : ∃ B9, B9 = w5.heap.size := ⟨_, rfl⟩
  have hB9w : w5.heap.size ≤ B9 := by omega
  rw [← hB9] at X9 ⊢
  clear ha hB9 zB
  have HN : Hid (B6 ≠ g4 ∧ B9 ≠ g4 ∧ (blkOf AW = none ∨ blkOf AW ≠ some g4) ∧ (blkOf AG = none ∨ blkOf AG ≠ some g4) ∧ some B6 ≠ blkOf AG ∧ some B9 ≠ blkOf AG ∧ (blkOf AW = none ∨ blkOf AW ≠ blkOf AG)) := by
    refine ⟨by omega, by omega, ?_, ?_, ?_, ?_, ?_⟩
    · exact blk_apart (A1 := some ⟨g4, 0, none⟩) (s := w3.heap.size) (fun g hg => (RW g hg).2) (fun g hg => by simp [blkOf] at hg; omega)
    · exact blk_apart' (A1 := some ⟨g4, 0, none⟩) (s := w4.heap.size) (fun g hg => (RG g hg).1) (fun g hg => by simp [blkOf] at hg; omega)
    · intro e; have := RG B6 e.symm; omega
    · intro e; have := RG B9 e.symm; omega
    · exact blk_apart (s := w4.heap.size) (fun g hg => by have := RW g hg; omega) (fun g hg => (RG g hg).1)
  clear RW RG R4
  refine (eqGraph_sameA nn AG AW xs.length _ _ xs wB G0.src W0.src hxl).mono ?_
  rintro e w6 ⟨rfl, hb⟩
  have W0 := W0.below hb
  have G0 := G0.below hb
  have O4 := O4.below hb
  have X6 := X6.below hb
  have X9 := X9.below hb
  have hB := hB.andB hb
  clear hb
  go_wp2_with fail
  refine (toEdgeS_any A m c es w6 (h.below hB) hm).mono ?_
  rintro e w7 ⟨g7, k7, rfl, O7, hb⟩
  have W0 := W0.below hb
  have G0 := G0.below hb
  have O4 := O4.below hb
  have X6 := X6.below hb
  have X9 := X9.below hb
  have hB := hB.andB hb
  clear hb
  go_wp2_with fail
  refine (eqEdgeS_sameA (some ⟨g4, 0, none⟩) (some ⟨g7, 0, none⟩) es.length _ _ es w7 O4.any.src O7.any.src (by rw [HL.out]; exact hm)).mono ?_
  rintro e w8 ⟨rfl, hb⟩
  have W0 := W0.below hb
  have G0 := G0.below hb
  have O4 := O4.below hb
  have X6 := X6.below hb
  have X9 := X9.below hb
  have hB := hB.andB hb
  clear hb O7
  go_wp2_with fail
  refine (markEdgeS_m _ (some ⟨g4, 0, none⟩) es.length _ es 1 w8 O4.any (by rw [HL.out]; exact hm) (by omega) (by omega)).mono ?_
  rintro e w9 ⟨rfl, _, hg⟩
  have W0 := W0.kept hg HN.out.2.2.1
  have G0 := G0.kept hg HN.out.2.2.2.1
  have X6 := X6.kept hg (fun e => HN.out.1 (Option.some.inj e))
  have X9 := X9.kept hg (fun e => HN.out.2.1 (Option.some.inj e))
  have hB := hB.grown hg hB.size (fun k hk => by have e := Option.some.inj hk; simp only at e; have := O4.ge.1; omega)
  have X6c := X6
  obtain ⟨s6, p6, q6⟩ := X6c
  have X9c := X9
  obtain ⟨s9, p9, q9⟩ := X9c
  clear hg O4
  go_wp2_with fail
  refine (eqGraph_sameA nn AG AW xs.length _ _ xs w9 G0.src W0.src hxl).mono ?_
  rintro e w10 ⟨rfl, hb⟩
  have W0 := W0.below hb
  have G0 := G0.below hb
  have X6 := X6.below hb
  have X9 := X9.below hb
  have hB := hB.andB hb
  clear hb s6 p6 q6 s9 p9 q9
  have X9c := X9
  obtain ⟨s9, p9, q9⟩ := X9c
  go_wp2_with fail
  refine (markGraph_m _ nn AG xs.length _ xs 1 w10 G0 hxl (by omega) (by omega)).mono ?_
  rintro e w11 ⟨rfl, ⟨ys, G1, hys⟩, hg⟩
  have HY := Lib.hid hys
  have W0 := W0.kept hg HN.out.2.2.2.2.2.2
  have X6 := X6.kept hg HN.out.2.2.2.2.1
  have X9 := X9.kept hg HN.out.2.2.2.2.2.1
  have hB := hB.grown hg hB.size (fun k hk => (G0.blk k hk).1)
  clear hg hys G0 s9 p9 q9
  have X9c := X9
  obtain ⟨s9, p9, q9⟩ := X9c
  go_wp2_with fail
  refine (heldGraph_m nn AG xs.length _ ys 1 w11 G1.src HY.out hxl (by omega) (by omega)).mono ?_
  rintro e w12 ⟨rfl, hb⟩
  have W0 := W0.below hb
  have G1 := G1.below hb
  have X6 := X6.below hb
  have X9 := X9.below hb
  have hB := hB.andB hb
  clear hb s9 p9 q9
  go_wp2_with fail
  refine (toEdgeS_any A m c es w12 (h.below hB) hm).mono ?_
  rintro e w13 ⟨g13, k13, rfl, O13, hb⟩
  have W0 := W0.below hb
  have G1 := G1.below hb
  have X6 := X6.below hb
  have X9 := X9.below hb
  have hB := hB.andB hb
  clear hb
  go_wp2_with fail
  refine (HIM.out _ _ _ O13.eds).mono ?_
  rintro e w14 ⟨AH, cH, rfl, H0, hb⟩
  have W0 := W0.below hb
  have G1 := G1.below hb
  have X6 := X6.below hb
  have X9 := X9.below hb
  have hB := hB.andB hb
  have X6c := X6
  obtain ⟨s6, p6, q6⟩ := X6c
  clear hb O13
  go_wp2_with fail
  have ha : Below w14.heap.size w14 (w14.alloc (.cells #[.int .i64 nn, .slice AH xs.length cH] 30)) := (Below.refl _ _).alloc (Nat.le_refl _) _
  have W0 := W0.below ha
  have G1 := G1.below ha
  have H0 := H0.below ha
  have X6 := X6.below ha
  have X9 := X9.below ha
  have hB := hB.andB ha
  clear ha s6 p6 q6
  refine (eqGraph_sameA nn AH AW xs.length _ _ xs _ H0.src W0.src hxl).mono ?_
  rintro e w15 ⟨rfl, hb⟩
  have G1 := G1.below hb
  have X9 := X9.below hb
  have hB := hB.andB hb
  clear hb W0 H0 X6
  have X9c := X9
  obtain ⟨s9, p9, q9⟩ := X9c
  go_wp2_with fail
  refine (heldGraph_m nn AG xs.length _ ys 1 w15 G1.src HY.out hxl (by omega) (by omega)).mono ?_
  rintro e w16 ⟨rfl, hb⟩
  have hB := hB.andB hb
  clear hb
  go_wp2_with fail
  go_ret
  exact ⟨rfl, hB⟩
end Go.Proofs.Ytppfplhbfgjjhaa
