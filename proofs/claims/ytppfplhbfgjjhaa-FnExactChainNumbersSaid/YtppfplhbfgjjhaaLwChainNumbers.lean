import Derived.Test.YtppfplhbfgjjhaaCw
import Derived.Test.YtppfplhbfgjjhaaM13
namespace Go.Proofs.Ytppfplhbfgjjhaa
open Go.RowKit Go.Sort
set_option maxRecDepth 100000 in
set_option maxHeartbeats 2000000 in
theorem law_ChainNumbers (n : Int) (A : Option Addr) (m c : Nat) (es : List (Int × Int)) (A1 : Option Addr) (l1 c1 : Nat) (ls1 : Nat → Int) (w : World) (h : SrcE w A m es) (hlen : m ≤ 9223372036854775807) (hs1 : SrcI w A1 l1 ls1) (hl1 : l1 ≤ 9223372036854775807) : Calls Try.prog 10 #[.agg #[.int .i64 n, .slice A m c], .slice A1 l1 c1] w (Ret (.bool true) w) := by
  by_cases hq1 : l1 ≤ 1048576
  rotate_left
  · go_enter Try.func10, Try.ntmps10
    go_wp2_with fail
    go_ret
    exact ⟨rfl, by go_grown⟩
  by_cases hm : m ≤ 1048576
  rotate_left
  · have hz : szE m 1048576 < 0 := by simp only [szE]; split <;> omega
    go_enter Try.func10, Try.ntmps10
    go_wp2_with fail
    refine (szGraph_any _ _ _ _ _ _ hlen (by omega) (by omega)).mono ?_
    rintro e w1 ⟨rfl, hb1⟩
    go_wp2_with fail
    go_ret
    exact ⟨rfl, (by go_grown : Below _ _ (w.alloc _)).thenB (by simp) hb1⟩
  have hz : szE m 1048576 = 1048576 - m := by simp only [szE]; split <;> omega
  have hz2 : 0 ≤ szE m 1048576 := by omega
  have HL := Lib.hid h.1
  have HS := Lib.hid (show (cnL n es ls1 l1).length ≤ 1048576 from (by have := cnL_len n es ls1 l1; omega))
  obtain ⟨xs, hxs⟩ : ∃ xs, xs = cnL n es ls1 l1 := ⟨_, rfl⟩
  obtain ⟨kc, hkc⟩ : ∃ kc, kc = cnC n es ls1 l1 := ⟨_, rfl⟩
  have HSP : Hid (∀ (b d : Nat) (W : World) (E : Eds W b 0 es.length es) (b1 : Nat) (I1 : Ints W b1 0 l1 ls1), Calls Try.prog 39 #[.agg #[.int .i64 n, .slice (some ⟨b, 0, none⟩) es.length d], .slice (some ⟨b1, 0, none⟩) l1 l1] W (RetLC xs kc W)) := by
    rw [hxs, hkc]
    exact fun b d W E b1 I1 => spChainNumbers_any n b 0 es.length d es b1 0 l1 l1 ls1 W E (by rw [HL.out]; exact hm) I1 hq1
  have HIM : Hid (∀ (b d : Nat) (W : World) (E : Eds W b 0 es.length es) (b1 : Nat) (I1 : Ints W b1 0 l1 ls1), Calls Try.prog 41 #[.agg #[.int .i64 n, .slice (some ⟨b, 0, none⟩) es.length d], .slice (some ⟨b1, 0, none⟩) l1 l1] W (RetLC xs kc W)) := by
    rw [hxs, hkc]
    exact fun b d W E b1 I1 => imChainNumbers_any n b 0 es.length d es b1 0 l1 l1 ls1 W E (by rw [HL.out]; exact hm) I1 hq1
  rw [← hxs] at HS
  clear hz hxs hkc
  go_enter Try.func10, Try.ntmps10
  go_wp2_with fail
  refine (szGraph_any _ _ _ _ _ _ hlen (by omega) (by omega)).mono ?_
  rintro e w1 ⟨rfl, hb⟩
  have X := (Box2.made w (.int .i64 n) (.slice A m c) 24).below hb
  have hB := (by go_grown : Below w.heap.size w (w.alloc (.cells #[.int .i64 n, .slice A m c] 24))).thenB (by simp) hb
  have z1 : w.heap.size < w1.heap.size := X.lt
  obtain ⟨s1, p1, q1⟩ := X
  clear hb
  go_wp2_with fail
  refine (toGraph_any _ _ _ _ es _ (h.below hB) hm).mono ?_
  rintro e w2 ⟨g2, k2, rfl, ho, hb⟩
  have X := Box2.below ⟨s1, p1, q1⟩ hb
  have hB := hB.andB hb
  have E := ho.eds
  have z2 := Nat.lt_of_lt_of_le z1 hb.size
  clear ho
  obtain ⟨s1, p1, q1⟩ := X
  clear hb
  go_wp2_with fail
  refine (toInt64S_any _ _ _ ls1 _ (hs1.below hB) hq1).mono ?_
  rintro e w201 ⟨q21, rfl, hq, hr, hb⟩
  have X := Box2.below ⟨s1, p1, q1⟩ hb
  have hB := hB.andB hb
  have E := E.below hb
  have I1 := Ints.of_row hr
  have z201 := Nat.lt_of_lt_of_le z2 hb.size
  clear hr hq
  obtain ⟨s1, p1, q1⟩ := X
  clear hb
  go_wp2_with fail
  refine (HSP.out _ _ _ E _ I1).mono ?_
  rintro e w202 ⟨AW, d0, rfl, W0, hb⟩
  have X := Box2.below ⟨s1, p1, q1⟩ hb
  have hB := hB.andB hb
  have R0 : ∀ g, blkOf AW = some g → w.heap.size < g ∧ g < w202.heap.size := fun g hg => by have := W0.blk g hg; omega
  have z202 := Nat.lt_of_lt_of_le z201 hb.size
  obtain ⟨s1, p1, q1⟩ := X
  clear hb E I1
  go_wp2_with fail
  refine (toGraph_any _ _ _ _ es _ (h.below hB) hm).mono ?_
  rintro e w4 ⟨g4, c4, rfl, ho, hb⟩
  have X := Box2.below ⟨s1, p1, q1⟩ hb
  have hB := hB.andB hb
  have W0 := W0.below hb
  have R4 : w202.heap.size ≤ g4 ∧ g4 < w4.heap.size := ho.ge
  have E := ho.below ((Below.refl _ _).alloc (Nat.le_refl _) (.cells #[.int .i64 n, .slice (some ⟨g4, 0, none⟩) es.length c4] 30))
  have Y := Box2.made w4 (.int .i64 n) (.slice (some ⟨g4, 0, none⟩) es.length c4) 30
  have hA := (by go_grown : Below w4.heap.size w4 (w4.alloc (.cells #[.int .i64 n, .slice (some ⟨g4, 0, none⟩) es.length c4] 30)))
  have zA : (w4.alloc (.cells #[.int .i64 n, .slice (some ⟨g4, 0, none⟩) es.length c4] 30)).heap.size = w4.heap.size + 1 := by simp
  have X := X.below hA
  have W0 := W0.below hA
  have hB := hB.andB hA
  obtain ⟨s1, p1, q1⟩ := X
  obtain ⟨s2, p2, q2⟩ := Y
  clear ho hb hA
  go_wp2_with fail
  refine (toInt64S_any _ _ _ ls1 _ (hs1.below hB) hq1).mono ?_
  rintro e w204 ⟨x1, rfl, hq, hr, hb⟩
  have X := Box2.below ⟨s1, p1, q1⟩ hb
  have Y := Box2.below ⟨s2, p2, q2⟩ hb
  have hB := hB.andB hb
  have W0 := W0.below hb
  have E := E.below hb
  have J1 := OwnL.ofRow (base := w.heap.size) hr (by have := hB.size; omega) hq1
  have I1 := Ints.of_row hr
  have RX1 : w4.heap.size ≤ x1 ∧ x1 < w204.heap.size := ⟨by omega, hr.lt⟩
  have z204 := (by have := hb.size; omega : w4.heap.size ≤ w204.heap.size)
  clear hr hq
  obtain ⟨s1, p1, q1⟩ := X
  obtain ⟨s2, p2, q2⟩ := Y
  clear hb
  go_wp2_with fail
  refine (HIM.out _ _ _ E.eds _ I1).mono ?_
  rintro e w205 ⟨AG, d1, rfl, G0, hb⟩
  have X := Box2.below ⟨s1, p1, q1⟩ hb
  have Y := Box2.below ⟨s2, p2, q2⟩ hb
  have hB := hB.andB hb
  have W0 := W0.below hb
  have E := E.below hb
  have J1 := J1.below hb
  have I1 := I1.below hb
  have R1 : ∀ g, blkOf AG = some g → w204.heap.size ≤ g ∧ w4.heap.size ≤ g := fun g hg => by have := G0.blk g hg; omega
  obtain ⟨s1, p1, q1⟩ := X
  obtain ⟨s2, p2, q2⟩ := Y
  clear hb
  have HN : Hid (w.heap.size ≠ g4 ∧ (blkOf AW = none ∨ blkOf AW ≠ blkOf (some ⟨g4, 0, none⟩)) ∧ (blkOf AG = none ∨ blkOf AG ≠ blkOf (some ⟨g4, 0, none⟩)) ∧ (blkOf AW = none ∨ blkOf AW ≠ blkOf AG) ∧ some w.heap.size ≠ blkOf AG ∧ w.heap.size ≠ x1 ∧ x1 ≠ g4 ∧ (blkOf AW = none ∨ blkOf AW ≠ blkOf (some ⟨x1, 0, none⟩)) ∧ (blkOf AG = none ∨ blkOf AG ≠ blkOf (some ⟨x1, 0, none⟩))) := ⟨(by have := R4; omega), blk_apart (fun g hg => (R0 g hg).2) (fun g hg => by simp [blkOf] at hg; have := R4; omega), blk_apart' (fun g hg => (R1 g hg).2) (fun g hg => by simp [blkOf] at hg; have := R4; omega), blk_apart (s := w4.heap.size) (fun g hg => by have := R0 g hg; have := R4; omega) (fun g hg => (R1 g hg).2), box_apart (fun g hg => by have := R1 g hg; have := R4; omega), (by have := RX1; have := R4; omega), (by have := RX1; have := R4; omega), blk_apart (s := w4.heap.size) (fun g hg => by have := R0 g hg; have := R4; omega) (fun g hg => by simp [blkOf] at hg; have := RX1; omega), blk_apart' (s := w204.heap.size) (fun g hg => (R1 g hg).1) (fun g hg => by simp [blkOf] at hg; have := RX1; omega)⟩
  clear R0 R1 R4 RX1
  go_wp2_with fail
  refine (eqInt64S_eq _ _ _ _ _ (ia xs) _ G0.src W0.src HS.out).mono ?_
  rintro e w50 ⟨rfl, hb⟩
  have X := Box2.below ⟨s1, p1, q1⟩ hb
  have Y := Box2.below ⟨s2, p2, q2⟩ hb
  have hB := hB.andB hb
  have W0 := W0.below hb
  have E := E.below hb
  have J1 := J1.below hb
  have I1 := I1.below hb
  have G0 := G0.below hb
  obtain ⟨s1, p1, q1⟩ := X
  obtain ⟨s2, p2, q2⟩ := Y
  clear hb
  have E5 := E.eds
  have hB5 := hB
  go_wp2_with fail
  refine wp_region_facts (fun i v W => match i with
    | 0 => v = .agg #[.int .i64 n, .slice (some ⟨g4, 0, none⟩) es.length c4]
    | 1 => v = .agg #[.int .i64 n, .slice A m c]
    | 2 => AGr n es v W
    | 3 => v = .bool true
    | _ => v = .bool false) (by kernel_rfl) (by kernel_rfl) ?_ ?_ ?_
  · intro i v W W' hf hb
    match i, hf with
    | 0, hf => exact hf
    | 1, hf => exact hf
    | 2, hf => exact AGr.below hf hb
    | 3, hf => exact hf
    | (i + 4), hf => exact hf
  · refine ⟨?_, ?_, ?_, ?_, ?_, trivial⟩
    · intro a W hW hs hd
      have e5 : a.tmps[8]?.getD undef = .pointer (some ⟨w4.heap.size, 0, none⟩) := hs 8 (by kernel_rfl)
      have k0 := (hW.cell (p := ⟨w4.heap.size, 0, none⟩) s2).trans p2
      have k1 := (hW.cell (p := ⟨w4.heap.size, 1, none⟩) s2).trans q2
      clear hs hd
      unfold Grows
      go_simp
      exact Below.refl _ _
    · intro a W hW hs hd
      have e1 : a.tmps[2]?.getD undef = .pointer (some ⟨w.heap.size, 0, none⟩) := hs 2 (by kernel_rfl)
      have k0 := (hW.cell (p := ⟨w.heap.size, 0, none⟩) s1).trans p1
      have k1 := (hW.cell (p := ⟨w.heap.size, 1, none⟩) s1).trans q1
      clear hs hd
      unfold Grows
      go_simp
      exact Below.refl _ _
    · intro a W hW hs hd
      have e23 : a.tmps[53]?.getD undef = .agg #[.int .i64 n, .slice A m c] := hd 1 53 (by kernel_rfl) (by kernel_rfl)
      clear hs hd
      unfold Grows
      go_simp
      refine ⟨Below.refl _ _, (toGraph_any _ _ _ _ es _ (h.below (hB5.andB hW)) hm).mono ?_⟩
      rintro e w6 ⟨g6, c6, rfl, ho6, hb6⟩
      exact ⟨_, rfl, hb6, g6, c6, rfl, ho6.eds⟩
    · intro a W hW hs hd
      have e22 : a.tmps[52]?.getD undef = .agg #[.int .i64 n, .slice (some ⟨g4, 0, none⟩) es.length c4] := hd 0 52 (by kernel_rfl) (by kernel_rfl)
      have e24 : AGr n es (a.tmps[54]?.getD undef) W := hd 2 54 (by kernel_rfl) (by kernel_rfl)
      obtain ⟨g6, c6, e24, E6⟩ := e24
      clear hs hd
      unfold Grows
      go_simp
      refine ⟨Below.refl _ _, (eqGraph_same _ _ _ _ _ _ _ _ _ es _ (E5.below hW) E6 (by rw [HL.out]; exact hm) (by rw [HL.out]; exact hm)).mono ?_⟩
      rintro e w7 ⟨rfl, hb7⟩
      exact ⟨_, rfl, hb7, rfl⟩
    · intro a W hW hs hd
      have e25 : a.tmps[55]?.getD undef = .bool true := hd 3 55 (by kernel_rfl) (by kernel_rfl)
      clear hs hd
      unfold Grows
      go_simp
      exact Below.refl _ _
  intro vs W hW hf
  have f26 : vs 56 = .bool false := hf 4 56 (by kernel_rfl)
  simp only [dsts, List.filterMap_cons, List.filterMap_nil, List.foldl_cons, List.foldl_nil, Act.put, List.setIfInBounds_toArray, List.set_cons_succ, List.set_cons_zero, f26]
  clear hf
  have hB := hB5.andB hW
  have X := Box2.below ⟨s1, p1, q1⟩ hW
  have W0 := W0.below hW
  have E := E.below hW
  have J1 := J1.below hW
  have I1 := I1.below hW
  have G0 := G0.below hW
  obtain ⟨s1, p1, q1⟩ := X
  obtain ⟨s2x, p2x, q2x⟩ := (Box2.below ⟨s2, p2, q2⟩ hW : Box2 W _ _ _)
  clear s2 p2 q2 E5 hB5 hW
  have s2 := s2x
  have p2 := p2x
  have q2 := q2x
  clear s2x p2x q2x
  go_wp2_with fail
  refine (toInt64S_any _ _ _ ls1 _ (hs1.below hB) hq1).mono ?_
  rintro e w266 ⟨q41, rfl, hq, hr, hb⟩
  have X := Box2.below ⟨s1, p1, q1⟩ hb
  have Y := Box2.below ⟨s2, p2, q2⟩ hb
  have hB := hB.andB hb
  have W0 := W0.below hb
  have E := E.below hb
  have J1 := J1.below hb
  have I1 := I1.below hb
  have G0 := G0.below hb
  have K := Ints.of_row hr
  clear hr hq
  obtain ⟨s1, p1, q1⟩ := X
  obtain ⟨s2, p2, q2⟩ := Y
  clear hb
  go_wp2_with fail
  refine (eqInt64S_same _ _ _ _ _ _ _ ls1 _ I1 K hq1).mono ?_
  rintro e w276 ⟨rfl, hb⟩
  have X := Box2.below ⟨s1, p1, q1⟩ hb
  have Y := Box2.below ⟨s2, p2, q2⟩ hb
  have hB := hB.andB hb
  have W0 := W0.below hb
  have E := E.below hb
  have J1 := J1.below hb
  have I1 := I1.below hb
  have G0 := G0.below hb
  have K := K.below hb
  clear K
  obtain ⟨s1, p1, q1⟩ := X
  obtain ⟨s2, p2, q2⟩ := Y
  clear hb
  clear I1
  clear s2
  go_wp2_with fail
  refine (markGraph_any _ g4 es.length c4 n 1 _ ⟨_, E⟩ (by rw [HL.out]; exact hm) (by omega) (by omega)).mono ?_
  rintro e w80 ⟨rfl, hg⟩
  have hB := hB.grown hg hB.size (fun k hk => by obtain rfl := Option.some.inj hk; have := E.ge.1; omega)
  have X := Box2.kept ⟨s1, p1, q1⟩ hg (fun e => HN.out.1 (Option.some.inj e))
  have W0 := W0.kept hg HN.out.2.1
  have G0 := G0.kept hg HN.out.2.2.1
  have J1 := J1.kept hg (.inr (fun e => HN.out.2.2.2.2.2.2.1 (Option.some.inj e)))
  obtain ⟨s1, p1, q1⟩ := X
  clear hg E p2 q2
  go_wp2_with fail
  refine (markInt64S_any _ _ _ _ _ (1 + 2 * (es.length : Int)) _ J1 hq1 (by omega) (by have := HL.out; omega)).mono ?_
  rintro e w81 ⟨rfl, _, hg⟩
  have hB := hB.grown hg hB.size (fun k hk => (J1.blk k hk).1)
  have X := Box2.kept ⟨s1, p1, q1⟩ hg (fun e => HN.out.2.2.2.2.2.1 (Option.some.inj e))
  have W0 := W0.kept hg HN.out.2.2.2.2.2.2.2.1
  have G0 := G0.kept hg HN.out.2.2.2.2.2.2.2.2
  obtain ⟨s1, p1, q1⟩ := X
  clear hg J1
  go_wp2_with fail
  refine (eqInt64S_eq _ _ _ _ _ (ia xs) _ G0.src W0.src HS.out).mono ?_
  rintro e w90 ⟨rfl, hb⟩
  have X := Box2.below ⟨s1, p1, q1⟩ hb
  have hB := hB.andB hb
  have W0 := W0.below hb
  have G0 := G0.below hb
  obtain ⟨s1, p1, q1⟩ := X
  clear hb
  go_wp2_with fail
  refine (markInt64S_any _ _ _ _ _ 1 _ G0 HS.out (by omega) (by omega)).mono ?_
  rintro e w91 ⟨rfl, ⟨ys, G1, hys⟩, hg⟩
  have HY := Lib.hid hys
  have hB := hB.grown hg hB.size (fun k hk => by have := G0.blk k hk; have := hB.size; omega)
  have X := Box2.kept ⟨s1, p1, q1⟩ hg HN.out.2.2.2.2.1
  have W0 := W0.kept hg HN.out.2.2.2.1
  obtain ⟨s1, p1, q1⟩ := X
  clear hg hys G0
  go_wp2_with fail
  refine (heldInt64S_any _ _ _ (ia ys) 1 _ G1.src HS.out (by omega) (by omega) HY.out).mono ?_
  rintro e w92 ⟨rfl, rfl⟩
  go_wp2_with fail
  refine (toGraph_any _ _ _ _ es _ (h.below hB) hm).mono ?_
  rintro e w93 ⟨g9, c9, rfl, ho, hb⟩
  have X := Box2.below ⟨s1, p1, q1⟩ hb
  have hB := hB.andB hb
  have W0 := W0.below hb
  have G1 := G1.below hb
  have E := ho.eds
  clear ho
  obtain ⟨s1, p1, q1⟩ := X
  clear hb
  go_wp2_with fail
  refine (toInt64S_any _ _ _ ls1 _ (hs1.below hB) hq1).mono ?_
  rintro e w101 ⟨q101, rfl, hq, hr, hb⟩
  have X := Box2.below ⟨s1, p1, q1⟩ hb
  have hB := hB.andB hb
  have W0 := W0.below hb
  have G1 := G1.below hb
  have E := E.below hb
  have I1 := Ints.of_row hr
  clear hr hq
  obtain ⟨s1, p1, q1⟩ := X
  clear hb
  go_wp2_with fail
  refine (HIM.out _ _ _ E _ I1).mono ?_
  rintro e w94 ⟨A9, d9, rfl, H0, hb⟩
  have X := Box2.below ⟨s1, p1, q1⟩ hb
  have hB := hB.andB hb
  have W0 := W0.below hb
  have G1 := G1.below hb
  clear E I1
  obtain ⟨s1, p1, q1⟩ := X
  clear hb
  go_wp2_with fail
  refine (eqInt64S_eq _ _ _ _ _ (ia xs) _ H0.src W0.src HS.out).mono ?_
  rintro e w95 ⟨rfl, hb⟩
  have X := Box2.below ⟨s1, p1, q1⟩ hb
  have hB := hB.andB hb
  have G1 := G1.below hb
  obtain ⟨s1, p1, q1⟩ := X
  clear hb
  go_wp2_with fail
  refine (heldInt64S_any _ _ _ (ia ys) 1 _ G1.src HS.out (by omega) (by omega) HY.out).mono ?_
  rintro e w96 ⟨rfl, rfl⟩
  go_wp2_with fail
  go_ret
  exact ⟨rfl, hB⟩
end Go.Proofs.Ytppfplhbfgjjhaa
