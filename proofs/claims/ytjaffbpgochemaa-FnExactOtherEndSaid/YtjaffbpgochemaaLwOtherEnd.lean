import Derived.Test.YtjaffbpgochemaaOtherEnd
import Derived.Test.YtjaffbpgochemaaLc
namespace Go.Proofs.Ytjaffbpgochemaa
open Go.RowKit Go.Sort
set_option maxRecDepth 100000 in
theorem law_OtherEnd (n : Int) (A : Option Addr) (m c : Nat) (es : List (Int × Int)) (e0 v0 : Int) (w : World) (h : SrcE w A m es) (hlen : m ≤ 9223372036854775807) (_he : -9223372036854775808 ≤ e0 ∧ e0 ≤ 9223372036854775807) (_hv : -9223372036854775808 ≤ v0 ∧ v0 ≤ 9223372036854775807) : Calls Try.prog 5 #[.agg #[.int .i64 n, .slice A m c], .int .i64 e0, .int .i64 v0] w (Ret (.bool true) w) := by
  by_cases hm : m ≤ 1048576
  · have hz : szE m 1048576 = 1048576 - m := by simp only [szE]; split <;> omega
    have hz2 : 0 ≤ szE m 1048576 := by omega
    have HL := Lib.hid h.1
    clear hz
    go_enter Try.func5, Try.ntmps5
    go_wp2_with fail
    refine (szGraph_any _ _ _ _ _ _ hlen (by omega) (by omega)).mono ?_
    rintro e w1 ⟨rfl, hb1⟩
    have X1 := (Box2.made w (.int .i64 n) (.slice A m c) 25).below hb1
    have hB1 := (by go_grown : Below w.heap.size w (w.alloc (.cells #[.int .i64 n, .slice A m c] 25))).thenB (by simp) hb1
    obtain ⟨s1, p1, q1⟩ := X1
    clear hb1
    go_wp2_with fail
    refine (toGraph_any _ _ _ _ es _ (h.below hB1) hm).mono ?_
    rintro e w2 ⟨g2, c2, rfl, ho2, hb2⟩
    have X2 := Box2.below ⟨s1, p1, q1⟩ hb2
    have hB2 := hB1.andB hb2
    have E2 := ho2.eds
    clear ho2 s1 p1 q1 hb2 hB1
    go_wp2_with fail
    refine (spOtherEnd_any _ _ _ _ _ es _ _ _ E2 (by rw [HL.out]; exact hm)).mono ?_
    rintro e w3 ⟨rfl, hb3⟩
    have X3 := X2.below hb3
    have hB3 := hB2.andB hb3
    obtain ⟨s3, p3, q3⟩ := X3
    clear E2 X2 hb3 hB2
    go_wp2_with fail
    refine (toGraph_any _ _ _ _ es _ (h.below hB3) hm).mono ?_
    rintro e w4 ⟨g4, c4, rfl, ho4, hb4⟩
    have X4 := Box2.below ⟨s3, p3, q3⟩ hb4
    have hB4 := hB3.andB hb4
    have E4 := ho4.eds.alloc (.cells #[.int .i64 n, .slice (some ⟨g4, 0, none⟩) es.length c4] 30)
    have Y4 := Box2.made w4 (.int .i64 n) (.slice (some ⟨g4, 0, none⟩) es.length c4) 30
    have hA4 := (by go_grown : Below w4.heap.size w4 (w4.alloc (.cells #[.int .i64 n, .slice (some ⟨g4, 0, none⟩) es.length c4] 30)))
    clear ho4 s3 p3 q3 hb4 hB3
    go_wp2_with fail
    refine (imOtherEnd_any _ _ _ _ _ es _ _ _ E4 (by rw [HL.out]; exact hm)).mono ?_
    rintro e w5 ⟨rfl, hb5⟩
    have X5 := (X4.below hA4).below hb5
    have Y5 := Y4.below hb5
    have E5 := E4.below hb5
    have hB5 := (hB4.andB hA4).thenB (by simp; exact Nat.le_succ_of_le hB4.size) hb5
    obtain ⟨s1, p1, q1⟩ := X5
    obtain ⟨s2, p2, q2⟩ := Y5
    clear X4 Y4 E4 hA4 hb5 hB4 w1 w2 w3
    go_wp2_with fail
    refine wp_region_facts (fun i v W => match i with
      | 0 => v = .agg #[.int .i64 n, .slice (some ⟨g4, 0, none⟩) es.length c4]
      | 1 => v = .agg #[.int .i64 n, .slice A m c]
      | 2 => AGr n es v W
      | 3 => v = .bool true
      | _ => v = .bool false) (by kernel_rfl) (by kernel_rfl) ?_ ?_ ?_
    · intro i v W W' hf hb
      match i, hf with
      | 0, hf => exact hf
      | 1, hf => exact hf
      | 2, hf => exact AGr.below hf hb
      | 3, hf => exact hf
      | (i + 4), hf => exact hf
    · refine ⟨?_, ?_, ?_, ?_, ?_, trivial⟩
      · intro a W hW hs hd
        have e5 : a.tmps[10]?.getD undef = .pointer (some ⟨w4.heap.size, 0, none⟩) := hs 10 (by kernel_rfl)
        have k0 := (hW.cell (p := ⟨w4.heap.size, 0, none⟩) s2).trans p2
        have k1 := (hW.cell (p := ⟨w4.heap.size, 1, none⟩) s2).trans q2
        clear hs hd
        unfold Grows
        go_simp
        exact Below.refl _ _
      · intro a W hW hs hd
        have e1 : a.tmps[3]?.getD undef = .pointer (some ⟨w.heap.size, 0, none⟩) := hs 3 (by kernel_rfl)
        have k0 := (hW.cell (p := ⟨w.heap.size, 0, none⟩) s1).trans p1
        have k1 := (hW.cell (p := ⟨w.heap.size, 1, none⟩) s1).trans q1
        clear hs hd
        unfold Grows
        go_simp
        exact Below.refl _ _
      · intro a W hW hs hd
        have e23 : a.tmps[44]?.getD undef = .agg #[.int .i64 n, .slice A m c] := hd 1 44 (by kernel_rfl) (by kernel_rfl)
        clear hs hd
        unfold Grows
        go_simp
        refine ⟨Below.refl _ _, (toGraph_any _ _ _ _ es _ (h.below (hB5.andB hW)) hm).mono ?_⟩
        rintro e w6 ⟨g6, c6, rfl, ho6, hb6⟩
        exact ⟨_, rfl, hb6, g6, c6, rfl, ho6.eds⟩
      · intro a W hW hs hd
        have e22 : a.tmps[43]?.getD undef = .agg #[.int .i64 n, .slice (some ⟨g4, 0, none⟩) es.length c4] := hd 0 43 (by kernel_rfl) (by kernel_rfl)
        have e24 : AGr n es (a.tmps[45]?.getD undef) W := hd 2 45 (by kernel_rfl) (by kernel_rfl)
        obtain ⟨g6, c6, e24, E6⟩ := e24
        clear hs hd
        unfold Grows
        go_simp
        refine ⟨Below.refl _ _, (eqGraph_same _ _ _ _ _ _ _ _ _ es _ (E5.below hW) E6 (by rw [HL.out]; exact hm) (by rw [HL.out]; exact hm)).mono ?_⟩
        rintro e w7 ⟨rfl, hb7⟩
        exact ⟨_, rfl, hb7, rfl⟩
      · intro a W hW hs hd
        have e25 : a.tmps[46]?.getD undef = .bool true := hd 3 46 (by kernel_rfl) (by kernel_rfl)
        clear hs hd
        unfold Grows
        go_simp
        exact Below.refl _ _
    intro vs W hW hf
    have f26 : vs 47 = .bool false := hf 4 47 (by kernel_rfl)
    simp only [dsts, List.filterMap_cons, List.filterMap_nil, List.foldl_cons, List.foldl_nil, Act.put, List.setIfInBounds_toArray, List.set_cons_succ, List.set_cons_zero, f26]
    clear hf
    go_wp2_with fail
    go_ret
    exact ⟨rfl, hB5.andB hW⟩
  · have hz : szE m 1048576 < 0 := by simp only [szE]; split <;> omega
    go_enter Try.func5, Try.ntmps5
    go_wp2_with fail
    refine (szGraph_any _ _ _ _ _ _ hlen (by omega) (by omega)).mono ?_
    rintro e w1 ⟨rfl, hb1⟩
    go_wp2_with fail
    go_ret
    exact ⟨rfl, (by go_grown : Below _ _ (w.alloc _)).thenB (by simp) hb1⟩
end Go.Proofs.Ytjaffbpgochemaa
