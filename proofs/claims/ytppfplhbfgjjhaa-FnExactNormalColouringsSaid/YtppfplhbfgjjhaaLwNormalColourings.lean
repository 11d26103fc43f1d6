import Derived.Test.YtppfplhbfgjjhaaNe
import Derived.Test.YtppfplhbfgjjhaaM13
import Derived.Test.YtppfplhbfgjjhaaM16
namespace Go.Proofs.Ytppfplhbfgjjhaa
open Go.RowKit Go.Sort
set_option maxRecDepth 100000 in
set_option maxHeartbeats 2000000 in
theorem law_NormalColourings (n : Int) (A : Option Addr) (m c : Nat) (es : List (Int × Int))  (w : World) (h : SrcE w A m es) (hlen : m ≤ 9223372036854775807) : Calls Try.prog 6 #[.agg #[.int .i64 n, .slice A m c]] w (Ret (.bool true) w) := by
  by_cases hm : m ≤ 1048576
  rotate_left
  · have hz : szE m 1048576 < 0 := by simp only [szE]; split <;> omega
    go_enter Try.func6, Try.ntmps6
    go_wp2_with fail
    refine (szGraph_any _ _ _ _ _ _ hlen (by omega) (by omega)).mono ?_
    rintro e w1 ⟨rfl, hb1⟩
    go_wp2_with fail
    go_ret
    exact ⟨rfl, (by go_grown : Below _ _ (w.alloc _)).thenB (by simp) hb1⟩
  have hz : szE m 1048576 = 1048576 - m := by simp only [szE]; split <;> omega
  have hz2 : 0 ≤ szE m 1048576 := by omega
  have HL := Lib.hid h.1
  have HS := Lib.hid (show (ncL n es).length ≤ 1024 ∧ ∀ j, j < (ncL n es).length → (ra (ncL n es) j).length ≤ 1048576 from (ncL_len n es (by rw [HL.out]; exact hm)))
  obtain ⟨rows, hxs⟩ : ∃ rows, rows = ncL n es := ⟨_, rfl⟩
  obtain ⟨kc, hkc⟩ : ∃ kc, kc = ncC n es := ⟨_, rfl⟩
  have HSP : Hid (∀ (b d : Nat) (W : World) (E : Eds W b 0 es.length es), Calls Try.prog 28 #[.agg #[.int .i64 n, .slice (some ⟨b, 0, none⟩) es.length d]] W (RetLLC rows kc W)) := by
    rw [hxs, hkc]
    exact fun b d W E  => spNormalColourings_any n b 0 es.length d es W E (by rw [HL.out]; exact hm)
  have HIM : Hid (∀ (b d : Nat) (W : World) (E : Eds W b 0 es.length es), Calls Try.prog 29 #[.agg #[.int .i64 n, .slice (some ⟨b, 0, none⟩) es.length d]] W (RetLLC rows kc W)) := by
    rw [hxs, hkc]
    exact fun b d W E  => imNormalColourings_any n b 0 es.length d es W E (by rw [HL.out]; exact hm)
  rw [← hxs] at HS
  clear hz hxs hkc
  go_enter Try.func6, Try.ntmps6
  go_wp2_with fail
  refine (szGraph_any _ _ _ _ _ _ hlen (by omega) (by omega)).mono ?_
  rintro e w1 ⟨rfl, hb⟩
  have X := (Box2.made w (.int .i64 n) (.slice A m c) 24).below hb
  have hB := (by go_grown : Below w.heap.size w (w.alloc (.cells #[.int .i64 n, .slice A m c] 24))).thenB (by simp) hb
  have z1 : w.heap.size < w1.heap.size := X.lt
  obtain ⟨s1, p1, q1⟩ := X
  clear hb
  go_wp2_with fail
  refine (toGraph_any _ _ _ _ es _ (h.below hB) hm).mono ?_
  rintro e w2 ⟨g2, k2, rfl, ho, hb⟩
  have X := Box2.below ⟨s1, p1, q1⟩ hb
  have hB := hB.andB hb
  have E := ho.eds
  have z2 := Nat.lt_of_lt_of_le z1 hb.size
  clear ho
  obtain ⟨s1, p1, q1⟩ := X
  clear hb
  go_wp2_with fail
  refine (HSP.out _ _ _ E ).mono ?_
  rintro e w201 ⟨AW, d0, rfl, W0, hb⟩
  have tw : w201.heap.size ≤ w201.heap.size := Nat.le_refl _
  have X := Box2.below ⟨s1, p1, q1⟩ hb
  have hB := hB.andB hb
  have z201 := Nat.lt_of_lt_of_le z2 hb.size
  obtain ⟨s1, p1, q1⟩ := X
  clear hb E
  go_wp2_with fail
  refine (toGraph_any _ _ _ _ es _ (h.below hB) hm).mono ?_
  rintro e w4 ⟨g4, c4, rfl, ho, hb⟩
  have X := Box2.below ⟨s1, p1, q1⟩ hb
  have hB := hB.andB hb
  have W0 := W0.below hb
  have R4 : w201.heap.size ≤ g4 ∧ g4 < w4.heap.size := ho.ge
  have E := ho.below ((Below.refl _ _).alloc (Nat.le_refl _) (.cells #[.int .i64 n, .slice (some ⟨g4, 0, none⟩) es.length c4] 30))
  have Y := Box2.made w4 (.int .i64 n) (.slice (some ⟨g4, 0, none⟩) es.length c4) 30
  have hA := (by go_grown : Below w4.heap.size w4 (w4.alloc (.cells #[.int .i64 n, .slice (some ⟨g4, 0, none⟩) es.length c4] 30)))
  have zA : (w4.alloc (.cells #[.int .i64 n, .slice (some ⟨g4, 0, none⟩) es.length c4] 30)).heap.size = w4.heap.size + 1 := by simp
  have X := X.below hA
  have W0 := W0.below hA
  have hB := hB.andB hA
  obtain ⟨s1, p1, q1⟩ := X
  obtain ⟨s2, p2, q2⟩ := Y
  clear ho hb hA
  go_wp2_with fail
  refine (HIM.out _ _ _ E.eds ).mono ?_
  rintro e w203 ⟨AG, d1, rfl, G0, hb⟩
  have X := Box2.below ⟨s1, p1, q1⟩ hb
  have Y := Box2.below ⟨s2, p2, q2⟩ hb
  have hB := hB.andB hb
  have W0 := W0.below hb
  have E := E.below hb
  rw [zA] at G0
  obtain ⟨s1, p1, q1⟩ := X
  obtain ⟨s2, p2, q2⟩ := Y
  clear hb
  have HN : Hid (w.heap.size ≠ g4 ∧ w201.heap.size ≤ g4 ∧ g4 < w4.heap.size + 1 ∧ w201.heap.size ≤ w4.heap.size + 1 ∧ w.heap.size < w4.heap.size + 1) := by
    have := R4; 
    refine ⟨?_, ?_, ?_, ?_, ?_⟩ <;> omega
  clear R4 
  go_wp2_with fail
  refine (eqInt64SS_any _ _ _ _ _ rows _ rfl G0.src W0.src (by have := HS.out.1; omega) HS.out.2).mono ?_
  rintro e w50 ⟨rfl, hb⟩
  have X := Box2.below ⟨s1, p1, q1⟩ hb
  have Y := Box2.below ⟨s2, p2, q2⟩ hb
  have hB := hB.andB hb
  have W0 := W0.below hb
  have E := E.below hb
  have G0 := G0.below hb
  obtain ⟨s1, p1, q1⟩ := X
  obtain ⟨s2, p2, q2⟩ := Y
  clear hb
  have E5 := E.eds
  have hB5 := hB
  go_wp2_with fail
  refine wp_region_facts (fun i v W => match i with
    | 0 => v = .agg #[.int .i64 n, .slice (some ⟨g4, 0, none⟩) es.length c4]
    | 1 => v = .agg #[.int .i64 n, .slice A m c]
    | 2 => AGr n es v W
    | 3 => v = .bool true
    | _ => v = .bool false) (by kernel_rfl) (by kernel_rfl) ?_ ?_ ?_
  · intro i v W W' hf hb
    match i, hf with
    | 0, hf => exact hf
    | 1, hf => exact hf
    | 2, hf => exact AGr.below hf hb
    | 3, hf => exact hf
    | (i + 4), hf => exact hf
  · refine ⟨?_, ?_, ?_, ?_, ?_, trivial⟩
    · intro a W hW hs hd
      have e5 : a.tmps[6]?.getD undef = .pointer (some ⟨w4.heap.size, 0, none⟩) := hs 6 (by kernel_rfl)
      have k0 := (hW.cell (p := ⟨w4.heap.size, 0, none⟩) s2).trans p2
      have k1 := (hW.cell (p := ⟨w4.heap.size, 1, none⟩) s2).trans q2
      clear hs hd
      unfold Grows
      go_simp
      exact Below.refl _ _
    · intro a W hW hs hd
      have e1 : a.tmps[1]?.getD undef = .pointer (some ⟨w.heap.size, 0, none⟩) := hs 1 (by kernel_rfl)
      have k0 := (hW.cell (p := ⟨w.heap.size, 0, none⟩) s1).trans p1
      have k1 := (hW.cell (p := ⟨w.heap.size, 1, none⟩) s1).trans q1
      clear hs hd
      unfold Grows
      go_simp
      exact Below.refl _ _
    · intro a W hW hs hd
      have e23 : a.tmps[42]?.getD undef = .agg #[.int .i64 n, .slice A m c] := hd 1 42 (by kernel_rfl) (by kernel_rfl)
      clear hs hd
      unfold Grows
      go_simp
      refine ⟨Below.refl _ _, (toGraph_any _ _ _ _ es _ (h.below (hB5.andB hW)) hm).mono ?_⟩
      rintro e w6 ⟨g6, c6, rfl, ho6, hb6⟩
      exact ⟨_, rfl, hb6, g6, c6, rfl, ho6.eds⟩
    · intro a W hW hs hd
      have e22 : a.tmps[41]?.getD undef = .agg #[.int .i64 n, .slice (some ⟨g4, 0, none⟩) es.length c4] := hd 0 41 (by kernel_rfl) (by kernel_rfl)
      have e24 : AGr n es (a.tmps[43]?.getD undef) W := hd 2 43 (by kernel_rfl) (by kernel_rfl)
      obtain ⟨g6, c6, e24, E6⟩ := e24
      clear hs hd
      unfold Grows
      go_simp
      refine ⟨Below.refl _ _, (eqGraph_same _ _ _ _ _ _ _ _ _ es _ (E5.below hW) E6 (by rw [HL.out]; exact hm) (by rw [HL.out]; exact hm)).mono ?_⟩
      rintro e w7 ⟨rfl, hb7⟩
      exact ⟨_, rfl, hb7, rfl⟩
    · intro a W hW hs hd
      have e25 : a.tmps[44]?.getD undef = .bool true := hd 3 44 (by kernel_rfl) (by kernel_rfl)
      clear hs hd
      unfold Grows
      go_simp
      exact Below.refl _ _
  intro vs W hW hf
  have f26 : vs 45 = .bool false := hf 4 45 (by kernel_rfl)
  simp only [dsts, List.filterMap_cons, List.filterMap_nil, List.foldl_cons, List.foldl_nil, Act.put, List.setIfInBounds_toArray, List.set_cons_succ, List.set_cons_zero, f26]
  clear hf
  have hB := hB5.andB hW
  have X := Box2.below ⟨s1, p1, q1⟩ hW
  have W0 := W0.below hW
  have E := E.below hW
  have G0 := G0.below hW
  obtain ⟨s1, p1, q1⟩ := X
  obtain ⟨s2x, p2x, q2x⟩ := (Box2.below ⟨s2, p2, q2⟩ hW : Box2 W _ _ _)
  clear s2 p2 q2 E5 hB5 hW
  have s2 := s2x
  have p2 := p2x
  have q2 := q2x
  clear s2x p2x q2x
  clear s2
  go_wp2_with fail
  refine (markGraph_any _ g4 es.length c4 n 1 _ ⟨_, E⟩ (by rw [HL.out]; exact hm) (by omega) (by omega)).mono ?_
  rintro e w80 ⟨rfl, hg⟩
  have hB := hB.grown hg hB.size (fun k hk => by obtain rfl := Option.some.inj hk; have := E.ge.1; omega)
  have X := Box2.kept ⟨s1, p1, q1⟩ hg (fun e => HN.out.1 (Option.some.inj e))
  have W0 := W0.kept hg (fun k hk => by obtain rfl := Option.some.inj hk; exact HN.out.2.1)
  have G0 := G0.keptLow hg (fun k hk => by obtain rfl := Option.some.inj hk; exact HN.out.2.2.1)
  obtain ⟨s1, p1, q1⟩ := X
  clear hg E p2 q2
  go_wp2_with fail
  refine (eqInt64SS_any _ _ _ _ _ rows _ rfl G0.src W0.src (by have := HS.out.1; omega) HS.out.2).mono ?_
  rintro e w90 ⟨rfl, hb⟩
  have X := Box2.below ⟨s1, p1, q1⟩ hb
  have hB := hB.andB hb
  have W0 := W0.below hb
  have G0 := G0.below hb
  obtain ⟨s1, p1, q1⟩ := X
  clear hb
  go_wp2_with fail
  refine (markInt64SS_any _ _ _ _ _ rows 1 _ G0 (by have := HS.out.1; omega) HS.out.2 (by omega) (by omega)).mono ?_
  rintro e w91 ⟨rfl, ⟨rs, G1, hys⟩, hb⟩
  have HY := Lib.hid hys
  have hB := hB.trans (hb.mono (by have := HN.out.2.2.2.2; omega))
  have X := Box2.upto ⟨s1, p1, q1⟩ HN.out.2.2.2.2 hb
  have W0 := W0.upto HN.out.2.2.2.1 hb
  obtain ⟨s1, p1, q1⟩ := X
  have hnt : ¬ (1 : Int) + tot rows rows.length < 0 := by omega
  clear hb hys G0
  go_wp2_with fail
  refine (heldInt64SS_any _ _ _ rows rs 1 _ rfl G1.src HY.out (by have := HS.out.1; omega) HS.out.2 (by omega) (by omega)).mono ?_
  rintro e w92 ⟨rfl, rfl⟩
  go_wp2_with fail
  refine (toGraph_any _ _ _ _ es _ (h.below hB) hm).mono ?_
  rintro e w93 ⟨g9, c9, rfl, ho, hb⟩
  have X := Box2.below ⟨s1, p1, q1⟩ hb
  have hB := hB.andB hb
  have W0 := W0.below hb
  have G1 := G1.below hb
  have E := ho.eds
  clear ho
  obtain ⟨s1, p1, q1⟩ := X
  clear hb
  go_wp2_with fail
  refine (HIM.out _ _ _ E ).mono ?_
  rintro e w94 ⟨A9, d9, rfl, H0, hb⟩
  have X := Box2.below ⟨s1, p1, q1⟩ hb
  have hB := hB.andB hb
  have W0 := W0.below hb
  have G1 := G1.below hb
  clear E 
  obtain ⟨s1, p1, q1⟩ := X
  clear hb
  go_wp2_with fail
  refine (eqInt64SS_any _ _ _ _ _ rows _ rfl H0.src W0.src (by have := HS.out.1; omega) HS.out.2).mono ?_
  rintro e w95 ⟨rfl, hb⟩
  have X := Box2.below ⟨s1, p1, q1⟩ hb
  have hB := hB.andB hb
  have G1 := G1.below hb
  obtain ⟨s1, p1, q1⟩ := X
  clear hb
  go_wp2_with fail
  refine (heldInt64SS_any _ _ _ rows rs 1 _ rfl G1.src HY.out (by have := HS.out.1; omega) HS.out.2 (by omega) (by omega)).mono ?_
  rintro e w96 ⟨rfl, rfl⟩
  go_wp2_with fail
  go_ret
  exact ⟨rfl, hB⟩
end Go.Proofs.Ytppfplhbfgjjhaa
