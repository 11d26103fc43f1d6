import Derived.Test.YtppfplhbfgjjhaaRq
namespace Go.Proofs.Ytppfplhbfgjjhaa
open Go.RowKit Go.Sort
set_option maxRecDepth 100000 in
set_option maxHeartbeats 8000000 in
theorem law_RenumberGraph (n : Int) (A : Option Addr) (m c : Nat) (es : List (Int × Int)) (A1 : Option Addr) (l1 c1 : Nat) (ls1 : Nat → Int) (w : World) (h : SrcE w A m es) (hlen : m ≤ 9223372036854775807) (hs1 : SrcI w A1 l1 ls1) (hl1 : l1 ≤ 9223372036854775807) :
    Calls Try.prog 14 #[.agg #[.int .i64 n, .slice A m c], .slice A1 l1 c1] w (Ret (.bool true) w) := by
  by_cases hq1 : l1 ≤ 1048576
  rotate_left
  · go_enter Try.func14, Try.ntmps14
    go_wp2_with fail
    go_ret
    exact ⟨rfl, by go_grown⟩
  by_cases hm : m ≤ 1048576
  rotate_left
  · have hz : szE m 1048576 < 0 := by simp only [szE]; split <;> omega
    go_enter Try.func14, Try.ntmps14
    go_wp2_with fail
    refine (szGraph_any _ _ _ _ _ _ hlen (by omega) (by omega)).mono ?_
    rintro e w1 ⟨rfl, hb1⟩
    go_wp2_with fail
    go_ret
    exact ⟨rfl, (by go_grown : Below _ _ (w.alloc _)).thenB (by simp) hb1⟩
  have hz : szE m 1048576 = 1048576 - m := by simp only [szE]; split <;> omega
  have hz2 : 0 ≤ szE m 1048576 := by omega
  have HL := Lib.hid h.1
  obtain ⟨xs, hxs⟩ : ∃ xs, xs = rgL n es ls1 l1 := ⟨_, rfl⟩
  obtain ⟨nn, hnn⟩ : ∃ nn, nn = rgN n es ls1 l1 := ⟨_, rfl⟩
  obtain ⟨kc, hkc⟩ : ∃ kc, kc = rgC n es ls1 l1 := ⟨_, rfl⟩
  have hxl : xs.length ≤ 1048576 := by rw [hxs]; have := rgL_len (n := n) (es := es) (ls := ls1) (l := l1); have := HL.out; omega
  have HSP : Hid (∀ b d W, Eds W b 0 es.length es → ∀ b1, Ints W b1 0 l1 ls1 → Calls Try.prog 53 #[.agg #[.int .i64 n, .slice (some ⟨b, 0, none⟩) es.length d], .slice (some ⟨b1, 0, none⟩) l1 l1] W (RetGC nn xs kc W)) := by
    rw [hxs, hnn, hkc]; exact fun b d W E b1 I1 => spRenumberGraph_any n b 0 es.length d b1 0 l1 l1 es ls1 W E (by rw [HL.out]; exact hm) I1 hq1
  have HIM : Hid (∀ b d W, Eds W b 0 es.length es → ∀ b1, Ints W b1 0 l1 ls1 → Calls Try.prog 54 #[.agg #[.int .i64 n, .slice (some ⟨b, 0, none⟩) es.length d], .slice (some ⟨b1, 0, none⟩) l1 l1] W (RetGC nn xs kc W)) := by
    rw [hxs, hnn, hkc]; exact fun b d W E b1 I1 => imRenumberGraph_any n b 0 es.length d b1 0 l1 l1 es ls1 W E (by rw [HL.out]; exact hm) I1 hq1
  clear hz hxs hnn hkc
  go_enter Try.func14, Try.ntmps14
  go_wp2_with fail
  refine (szGraph_any _ _ _ _ _ _ hlen (by omega) (by omega)).mono ?_
  rintro e w1 ⟨rfl, hb⟩
  have X := (Box2.made w (.int .i64 n) (.slice A m c) 24).below hb
  have hB := (by go_grown : Below w.heap.size w (w.alloc (.cells #[.int .i64 n, .slice A m c] 24))).thenB (by simp) hb
  have hzw : w.heap.size < w1.heap.size := X.lt
  clear hb
  have Xc := X
  obtain ⟨sX, pX, qX⟩ := Xc
  go_wp2_with fail
  refine (toGraph_any _ _ _ _ es _ (h.below hB) hm).mono ?_
  rintro e w2 ⟨g2, k2, rfl, ho, hb⟩
  have X := X.below hb
  have hB := hB.andB hb
  have E := ho.eds
  have z2 := Nat.lt_of_lt_of_le hzw hb.size
  clear ho
  clear hb sX pX qX
  go_wp2_with fail
  refine (toInt64S_any _ _ _ ls1 _ (hs1.below hB) hq1).mono ?_
  rintro e w3a ⟨q3, rfl, hq, hr, hb⟩
  have X := X.below hb
  have E := E.below hb
  have hB := hB.andB hb
  have I1 := Ints.of_row hr
  have z3 := Nat.lt_of_lt_of_le z2 hb.size
  clear hr hq
  clear hb 
  go_wp2_with fail
  refine (HSP.out _ _ _ E _ I1).mono ?_
  rintro e w3 ⟨AW, cW, rfl, W0, hb⟩
  have X := X.below hb
  have hB := hB.andB hb
  have RW : ∀ g, blkOf AW = some g → w.heap.size < g ∧ g < w3.heap.size := fun g hg => by have := W0.blk g hg; omega
  have W0 := W0.mono (by have := z3; omega : w.heap.size ≤ w3a.heap.size)
  have z4 := Nat.lt_of_lt_of_le z3 hb.size
  clear E I1
  clear hb 
  have X6 := Box2.made w3 (.int .i64 nn) (.slice AW xs.length cW) 30
  have ha : Below w3.heap.size w3 (w3.alloc (.cells #[.int .i64 nn, .slice AW xs.length cW] 30)) := (Below.refl _ _).alloc (Nat.le_refl _) _
  have zA : (w3.alloc (.cells #[.int .i64 nn, .slice AW xs.length cW] 30)).heap.size = w3.heap.size + 1 := by simp
  have Xc := X
  obtain ⟨sX, pX, qX⟩ := Xc
  go_wp2_with fail
  generalize (w3.alloc (.cells #[.int .i64 nn, .slice AW xs.length cW] 30)) = wA at X6 ha zA ⊢
  have X := X.below ha
  have W0 := W0.below ha
  have hB := hB.andB ha
  obtain ⟨B6, hB6⟩ : ∃ B6, B6 = w3.heap.size := ⟨_, rfl⟩
  have hB6w : w3.heap.size ≤ B6 ∧ B6 < wA.heap.size := by omega
  rw [← hB6] at X6 ⊢
  clear ha hB6 zA sX pX qX
  refine (toGraph_any _ _ _ _ es _ (h.below hB) hm).mono ?_
  rintro e w4 ⟨g4, c4, rfl, O4, hb⟩
  have R4 : wA.heap.size ≤ g4 ∧ g4 < w4.heap.size := O4.ge
  have O4 := O4.mono (by have := z4; omega : w.heap.size ≤ wA.heap.size)
  have X := X.below hb
  have W0 := W0.below hb
  have X6 := X6.below hb
  have hB := hB.andB hb
  clear hb
  go_wp2_with fail
  have Y := Box2.made w4 (.int .i64 n) (.slice (some ⟨g4, 0, none⟩) es.length c4) 30
  have ha : Below w4.heap.size w4 (w4.alloc (.cells #[.int .i64 n, .slice (some ⟨g4, 0, none⟩) es.length c4] 30)) := (Below.refl _ _).alloc (Nat.le_refl _) _
  have zB : (w4.alloc (.cells #[.int .i64 n, .slice (some ⟨g4, 0, none⟩) es.length c4] 30)).heap.size = w4.heap.size + 1 := by simp
  generalize (w4.alloc (.cells #[.int .i64 n, .slice (some ⟨g4, 0, none⟩) es.length c4] 30)) = wC at Y ha zB ⊢
  have X := X.below ha
  have W0 := W0.below ha
  have X6 := X6.below ha
  have O4 := O4.below ha
  have hB := hB.andB ha
  have zC : w4.heap.size < wC.heap.size := by omega
  clear ha zB
  refine (toInt64S_any _ _ _ ls1 _ (hs1.below hB) hq1).mono ?_
  rintro e w5 ⟨x1, rfl, hq, hr, hb⟩
  have J1 := OwnL.ofRow (base := w.heap.size) hr (by omega) hq1
  have I1 := Ints.of_row hr
  have RX : wC.heap.size ≤ x1 ∧ x1 < w5.heap.size := ⟨hq, hr.lt⟩
  have X := X.below hb
  have Y := Y.below hb
  have W0 := W0.below hb
  have X6 := X6.below hb
  have O4 := O4.below hb
  have hB := hB.andB hb
  clear hb hr hq
  have Yc := Y
  obtain ⟨sY, pY, qY⟩ := Yc
  go_wp2_with fail
  refine (HIM.out _ _ _ O4.eds _ I1).mono ?_
  rintro e w6 ⟨AG, cG, rfl, G0, hb⟩
  have X := X.below hb
  have Y := Y.below hb
  have W0 := W0.below hb
  have X6 := X6.below hb
  have O4 := O4.below hb
  have J1 := J1.below hb
  have I1 := I1.below hb
  have hB := hB.andB hb
  have RG : ∀ g, blkOf AG = some g → w5.heap.size ≤ g ∧ g < w6.heap.size := G0.blk
  have G0 := G0.mono (by omega : w.heap.size ≤ w5.heap.size)
  have z6 := hb.size
  clear hb sY pY qY
  have Xc6 := X6
  obtain ⟨s6, p6, q6⟩ := Xc6
  go_wp2_with fail
  clear s6 p6 q6
  have X9 := Box2.made w6 (.int .i64 nn) (.slice AG xs.length cG) 30
  have ha : Below w6.heap.size w6 (w6.alloc (.cells #[.int .i64 nn, .slice AG xs.length cG] 30)) := (Below.refl _ _).alloc (Nat.le_refl _) _
  generalize (w6.alloc (.cells #[.int .i64 nn, .slice AG xs.length cG] 30)) = wD at X9 ha ⊢
  have X := X.below ha
  have Y := Y.below ha
  have W0 := W0.below ha
  have G0 := G0.below ha
  have X6 := X6.below ha
  have O4 := O4.below ha
  have J1 := J1.below ha
  have I1 := I1.below ha
  have hB := hB.andB ha
  obtain ⟨B9, hB9⟩ : ∃ B9, B9 = w6.heap.size := ⟨_, rfl⟩
  have hB9w : w6.heap.size ≤ B9 := by omega
  rw [← hB9] at X9 ⊢
  clear ha hB9
  have HN : Hid (w.heap.size ≠ g4 ∧ B6 ≠ g4 ∧ B9 ≠ g4 ∧ (blkOf AW = none ∨ blkOf AW ≠ some g4) ∧ (blkOf AG = none ∨ blkOf AG ≠ some g4) ∧ x1 ≠ g4
      ∧ w.heap.size ≠ x1 ∧ B6 ≠ x1 ∧ B9 ≠ x1 ∧ (blkOf AW = none ∨ blkOf AW ≠ blkOf (some ⟨x1, 0, none⟩)) ∧ (blkOf AG = none ∨ blkOf AG ≠ blkOf (some ⟨x1, 0, none⟩))
      ∧ some w.heap.size ≠ blkOf AG ∧ some B6 ≠ blkOf AG ∧ some B9 ≠ blkOf AG ∧ (blkOf AW = none ∨ blkOf AW ≠ blkOf AG)) := by
    refine ⟨by omega, by omega, by omega, ?_, ?_, by omega, by omega, by omega, by omega, ?_, ?_, ?_, ?_, ?_, ?_⟩
    · exact blk_apart (A1 := some ⟨g4, 0, none⟩) (s := w3.heap.size) (fun g hg => (RW g hg).2) (fun g hg => by simp [blkOf] at hg; omega)
    · exact blk_apart' (A1 := some ⟨g4, 0, none⟩) (s := w5.heap.size) (fun g hg => (RG g hg).1) (fun g hg => by simp [blkOf] at hg; omega)
    · exact blk_apart (s := w3.heap.size) (fun g hg => (RW g hg).2) (fun g hg => by simp [blkOf] at hg; omega)
    · exact blk_apart' (s := w5.heap.size) (fun g hg => (RG g hg).1) (fun g hg => by simp [blkOf] at hg; omega)
    · intro e; have := RG _ e.symm; omega
    · intro e; have := RG _ e.symm; omega
    · intro e; have := RG _ e.symm; omega
    · exact blk_apart (s := w5.heap.size) (fun g hg => by have := RW g hg; omega) (fun g hg => (RG g hg).1)
  clear RW RG R4 RX
  refine (eqGraph_sameA nn AG AW xs.length _ _ xs wD G0.src W0.src hxl).mono ?_
  rintro e w7 ⟨rfl, hb⟩
  have X := X.below hb
  have Y := Y.below hb
  have W0 := W0.below hb
  have G0 := G0.below hb
  have X6 := X6.below hb
  have X9 := X9.below hb
  have O4 := O4.below hb
  have J1 := J1.below hb
  have I1 := I1.below hb
  have hB := hB.andB hb
  clear hb
  have E5 := O4.eds
  have hB5 := hB
  have Xc := X
  have Yc := Y
  obtain ⟨s1, p1, q1⟩ := Xc
  obtain ⟨s2, p2, q2⟩ := Yc
  go_wp2_with fail
  refine wp_region_facts (fun i v W => match i with
    | 0 => v = .agg #[.int .i64 n, .slice (some ⟨g4, 0, none⟩) es.length c4]
    | 1 => v = .agg #[.int .i64 n, .slice A m c]
    | 2 => AGr n es v W
    | 3 => v = .bool true
    | _ => v = .bool false) (by kernel_rfl) (by kernel_rfl) ?_ ?_ ?_
  · intro i v W W' hf hb
    match i, hf with
    | 0, hf => exact hf
    | 1, hf => exact hf
    | 2, hf => exact AGr.below hf hb
    | 3, hf => exact hf
    | (i + 4), hf => exact hf
  · refine ⟨?_, ?_, ?_, ?_, ?_, trivial⟩
    · intro a W hW hs hd
      have e5 : a.tmps[8]?.getD undef = .pointer (some ⟨w4.heap.size, 0, none⟩) := hs 8 (by kernel_rfl)
      have k0 := (hW.cell (p := ⟨w4.heap.size, 0, none⟩) s2).trans p2
      have k1 := (hW.cell (p := ⟨w4.heap.size, 1, none⟩) s2).trans q2
      clear hs hd
      unfold Grows
      go_simp
      exact Below.refl _ _
    · intro a W hW hs hd
      have e1 : a.tmps[2]?.getD undef = .pointer (some ⟨w.heap.size, 0, none⟩) := hs 2 (by kernel_rfl)
      have k0 := (hW.cell (p := ⟨w.heap.size, 0, none⟩) s1).trans p1
      have k1 := (hW.cell (p := ⟨w.heap.size, 1, none⟩) s1).trans q1
      clear hs hd
      unfold Grows
      go_simp
      exact Below.refl _ _
    · intro a W hW hs hd
      have e23 : a.tmps[53]?.getD undef = .agg #[.int .i64 n, .slice A m c] := hd 1 53 (by kernel_rfl) (by kernel_rfl)
      clear hs hd
      unfold Grows
      go_simp
      refine ⟨Below.refl _ _, (toGraph_any _ _ _ _ es _ (h.below (hB5.andB hW)) hm).mono ?_⟩
      rintro e w6 ⟨g6, c6, rfl, ho6, hb6⟩
      exact ⟨_, rfl, hb6, g6, c6, rfl, ho6.eds⟩
    · intro a W hW hs hd
      have e22 : a.tmps[52]?.getD undef = .agg #[.int .i64 n, .slice (some ⟨g4, 0, none⟩) es.length c4] := hd 0 52 (by kernel_rfl) (by kernel_rfl)
      have e24 : AGr n es (a.tmps[54]?.getD undef) W := hd 2 54 (by kernel_rfl) (by kernel_rfl)
      obtain ⟨g6, c6, e24, E6⟩ := e24
      clear hs hd
      unfold Grows
      go_simp
      refine ⟨Below.refl _ _, (eqGraph_same _ _ _ _ _ _ _ _ _ es _ (E5.below hW) E6 (by rw [HL.out]; exact hm) (by rw [HL.out]; exact hm)).mono ?_⟩
      rintro e w7 ⟨rfl, hb7⟩
      exact ⟨_, rfl, hb7, rfl⟩
    · intro a W hW hs hd
      have e25 : a.tmps[55]?.getD undef = .bool true := hd 3 55 (by kernel_rfl) (by kernel_rfl)
      clear hs hd
      unfold Grows
      go_simp
      exact Below.refl _ _
  intro vs W hW hf
  have f26 : vs 56 = .bool false := hf 4 56 (by kernel_rfl)
  simp only [dsts, List.filterMap_cons, List.filterMap_nil, List.foldl_cons, List.foldl_nil, Act.put, List.setIfInBounds_toArray, List.set_cons_succ, List.set_cons_zero, f26]
  clear hf
  have hB := hB5.andB hW
  have X := X.below hW
  have Y := Y.below hW
  have W0 := W0.below hW
  have G0 := G0.below hW
  have X6 := X6.below hW
  have X9 := X9.below hW
  have O4 := O4.below hW
  have J1 := J1.below hW
  have I1 := I1.below hW
  clear s1 p1 q1 s2 p2 q2 E5 hB5 hW
  go_wp2_with fail
  refine (toInt64S_any _ _ _ ls1 _ (hs1.below hB) hq1).mono ?_
  rintro e w8 ⟨q8, rfl, hq, hr, hb⟩
  have X := X.below hb
  have Y := Y.below hb
  have W0 := W0.below hb
  have G0 := G0.below hb
  have X6 := X6.below hb
  have X9 := X9.below hb
  have O4 := O4.below hb
  have J1 := J1.below hb
  have I1 := I1.below hb
  have hB := hB.andB hb
  have K := Ints.of_row hr
  clear hr hq
  clear hb
  go_wp2_with fail
  refine (eqInt64S_same _ _ _ _ _ _ _ ls1 _ I1 K hq1).mono ?_
  rintro e w9 ⟨rfl, hb⟩
  have X := X.below hb
  have Y := Y.below hb
  have W0 := W0.below hb
  have G0 := G0.below hb
  have X6 := X6.below hb
  have X9 := X9.below hb
  have O4 := O4.below hb
  have J1 := J1.below hb
  have I1 := I1.below hb
  have hB := hB.andB hb
  clear K
  clear hb
  have Yc := Y
  obtain ⟨sY, pY, qY⟩ := Yc
  go_wp2_with fail
  refine (markGraph_m _ n (some ⟨g4, 0, none⟩) es.length _ es 1 _ O4.any (by rw [HL.out]; exact hm) (by omega) (by omega)).mono ?_
  rintro e w10 ⟨rfl, _, hg⟩
  have X := X.kept hg (fun e => HN.out.1 (Option.some.inj e))
  have W0 := W0.kept hg HN.out.2.2.2.1
  have G0 := G0.kept hg HN.out.2.2.2.2.1
  have X6 := X6.kept hg (fun e => HN.out.2.1 (Option.some.inj e))
  have X9 := X9.kept hg (fun e => HN.out.2.2.1 (Option.some.inj e))
  have J1 := J1.kept hg (.inr (fun e => HN.out.2.2.2.2.2.1 (Option.some.inj e)))
  have hB := hB.grown hg hB.size (fun k hk => by have e := Option.some.inj hk; simp only at e; have := O4.ge.1; omega)
  clear hg O4 I1 Y sY pY qY
  go_wp2_with fail
  refine (markInt64S_any _ _ _ _ _ (1 + 2 * (es.length : Int)) _ J1 hq1 (by omega) (by have := HL.out; omega)).mono ?_
  rintro e w11 ⟨rfl, _, hg⟩
  have X := X.kept hg (fun e => HN.out.2.2.2.2.2.2.1 (Option.some.inj e))
  have W0 := W0.kept hg HN.out.2.2.2.2.2.2.2.2.2.1
  have G0 := G0.kept hg HN.out.2.2.2.2.2.2.2.2.2.2.1
  have X6 := X6.kept hg (fun e => HN.out.2.2.2.2.2.2.2.1 (Option.some.inj e))
  have X9 := X9.kept hg (fun e => HN.out.2.2.2.2.2.2.2.2.1 (Option.some.inj e))
  have hB := hB.grown hg hB.size (fun k hk => (J1.blk k hk).1)
  clear hg J1
  have X6c := X6
  obtain ⟨sX6, pX6, qX6⟩ := X6c
  have X9c := X9
  obtain ⟨sX9, pX9, qX9⟩ := X9c
  go_wp2_with fail
  refine (eqGraph_sameA nn AG AW xs.length _ _ xs w11 G0.src W0.src hxl).mono ?_
  rintro e w12 ⟨rfl, hb⟩
  have X := X.below hb
  have W0 := W0.below hb
  have G0 := G0.below hb
  have X6 := X6.below hb
  have X9 := X9.below hb
  have hB := hB.andB hb
  clear hb
  clear sX6 pX6 qX6 sX9 pX9 qX9
  have X9c := X9
  obtain ⟨sX9, pX9, qX9⟩ := X9c
  go_wp2_with fail
  refine (markGraph_m _ nn AG xs.length _ xs 1 w12 G0 hxl (by omega) (by omega)).mono ?_
  rintro e w13 ⟨rfl, ⟨ys, G1, hys⟩, hg⟩
  have HY := Lib.hid hys
  have X := X.kept hg HN.out.2.2.2.2.2.2.2.2.2.2.2.1
  have W0 := W0.kept hg HN.out.2.2.2.2.2.2.2.2.2.2.2.2.2.2
  have X6 := X6.kept hg HN.out.2.2.2.2.2.2.2.2.2.2.2.2.1
  have X9 := X9.kept hg HN.out.2.2.2.2.2.2.2.2.2.2.2.2.2.1
  have hB := hB.grown hg hB.size (fun k hk => (G0.blk k hk).1)
  clear hg hys G0 sX9 pX9 qX9
  have X9c := X9
  obtain ⟨sX9, pX9, qX9⟩ := X9c
  go_wp2_with fail
  refine (heldGraph_m nn AG xs.length _ ys 1 w13 G1.src HY.out hxl (by omega) (by omega)).mono ?_
  rintro e w14 ⟨rfl, hb⟩
  have X := X.below hb
  have W0 := W0.below hb
  have G1 := G1.below hb
  have X6 := X6.below hb
  have X9 := X9.below hb
  have hB := hB.andB hb
  clear hb
  clear sX9 pX9 qX9
  have Xc := X
  obtain ⟨sX, pX, qX⟩ := Xc
  go_wp2_with fail
  refine (toGraph_any _ _ _ _ es _ (h.below hB) hm).mono ?_
  rintro e w15 ⟨g15, k15, rfl, ho, hb⟩
  have X := X.below hb
  have W0 := W0.below hb
  have G1 := G1.below hb
  have X6 := X6.below hb
  have X9 := X9.below hb
  have hB := hB.andB hb
  have E := ho.eds
  clear ho
  clear hb
  clear sX pX qX
  go_wp2_with fail
  refine (toInt64S_any _ _ _ ls1 _ (hs1.below hB) hq1).mono ?_
  rintro e w16 ⟨q16, rfl, hq, hr, hb⟩
  have X := X.below hb
  have W0 := W0.below hb
  have G1 := G1.below hb
  have X6 := X6.below hb
  have X9 := X9.below hb
  have E := E.below hb
  have hB := hB.andB hb
  have I1 := Ints.of_row hr
  clear hr hq
  clear hb
  go_wp2_with fail
  refine (HIM.out _ _ _ E _ I1).mono ?_
  rintro e w17 ⟨AH, cH, rfl, H0, hb⟩
  have X := X.below hb
  have W0 := W0.below hb
  have G1 := G1.below hb
  have X6 := X6.below hb
  have X9 := X9.below hb
  have hB := hB.andB hb
  clear E I1
  clear hb
  have X6c := X6
  obtain ⟨sX6, pX6, qX6⟩ := X6c
  go_wp2_with fail
  have ha : Below w17.heap.size w17 (w17.alloc (.cells #[.int .i64 nn, .slice AH xs.length cH] 30)) := (Below.refl _ _).alloc (Nat.le_refl _) _
  have W0 := W0.below ha
  have G1 := G1.below ha
  have H0 := H0.below ha
  have X9 := X9.below ha
  have hB := hB.andB ha
  clear ha sX6 pX6 qX6
  refine (eqGraph_sameA nn AH AW xs.length _ _ xs _ H0.src W0.src hxl).mono ?_
  rintro e w18 ⟨rfl, hb⟩
  have G1 := G1.below hb
  have X9 := X9.below hb
  have hB := hB.andB hb
  clear W0 H0 X6 X
  clear hb
  have X9c := X9
  obtain ⟨sX9, pX9, qX9⟩ := X9c
  go_wp2_with fail
  refine (heldGraph_m nn AG xs.length _ ys 1 w18 G1.src HY.out hxl (by omega) (by omega)).mono ?_
  rintro e w19 ⟨rfl, hb⟩
  have hB := hB.andB hb
  clear hb
  go_wp2_with fail
  go_ret
  exact ⟨rfl, hB⟩
end Go.Proofs.Ytppfplhbfgjjhaa
