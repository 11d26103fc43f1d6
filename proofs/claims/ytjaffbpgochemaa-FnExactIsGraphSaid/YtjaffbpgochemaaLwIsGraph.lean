import Derived.Test.YtjaffbpgochemaaIm
import Derived.Test.YtjaffbpgochemaaGl
import Derived.Test.YtjaffbpgochemaaFr
namespace Go.Proofs.Ytjaffbpgochemaa
open Go.RowKit Go.Sort
theorem eqGraph_same (n : Int) (b1 o1 m1 c1 b2 o2 m2 c2 : Nat) (es : List (Int × Int)) (w : World) (h1 : Eds w b1 o1 m1 es) (h2 : Eds w b2 o2 m2 es) (hm : m1 ≤ 1048576) (hm2 : m2 ≤ 1048576) :
    Calls Try.prog 18 #[.agg #[.int .i64 n, .slice (some ⟨b1, o1, none⟩) m1 c1], .agg #[.int .i64 n, .slice (some ⟨b2, o2, none⟩) m2 c2]] w (Ret (.bool true) w) := by
  have := eqGraph_any n n b1 o1 m1 c1 b2 o2 m2 c2 es es w h1 h2 hm hm2
  rwa [B_true ⟨rfl, rfl⟩] at this
set_option maxRecDepth 100000 in
theorem law_IsGraph (n : Int) (A : Option Addr) (m c : Nat) (es : List (Int × Int)) (w : World) (h : SrcE w A m es) (hlen : m ≤ 9223372036854775807) : Calls Try.prog 4 #[.agg #[.int .i64 n, .slice A m c]] w (Ret (.bool true) w) := by
  by_cases hm : m ≤ 1048576
  · have hz : szE m 1048576 = 1048576 - m := by simp only [szE]; split <;> omega
    have hz2 : 0 ≤ szE m 1048576 := by omega
    have HL := Lib.hid h.1
    clear hz
    go_enter Try.func4, Try.ntmps4
    go_wp2_with fail
    refine (szGraph_any _ _ _ _ _ _ hlen (by omega) (by omega)).mono ?_
    rintro e w1 ⟨rfl, hb1⟩
    have X1 := (Box2.made w (.int .i64 n) (.slice A m c) 25).below hb1
    have hB1 := (by go_grown : Below w.heap.size w (w.alloc (.cells #[.int .i64 n, .slice A m c] 25))).thenB (by simp) hb1
    obtain ⟨s1, p1, q1⟩ := X1
    clear hb1
    go_wp2_with fail
    refine (toGraph_any _ _ _ _ es _ (h.below hB1) hm).mono ?_
    rintro e w2 ⟨g2, c2, rfl, ho2, hb2⟩
    have X2 := Box2.below ⟨s1, p1, q1⟩ hb2
    have hB2 := hB1.andB hb2
    have E2 := ho2.eds
    clear ho2 s1 p1 q1 hb2 hB1
    go_wp2_with fail
    refine (specIs_any _ _ _ _ _ es _ E2 (by rw [HL.out]; exact hm)).mono ?_
    rintro e w3 ⟨rfl, hb3⟩
    have X3 := X2.below hb3
    have hB3 := hB2.andB hb3
    obtain ⟨s3, p3, q3⟩ := X3
    clear E2 X2 hb3 hB2
    go_wp2_with fail
    refine (toGraph_any _ _ _ _ es _ (h.below hB3) hm).mono ?_
    rintro e w4 ⟨g4, c4, rfl, ho4, hb4⟩
    have X4 := Box2.below ⟨s3, p3, q3⟩ hb4
    have hB4 := hB3.andB hb4
    have E4 := ho4.eds.alloc (.cells #[.int .i64 n, .slice (some ⟨g4, 0, none⟩) es.length c4] 30)
    have Y4 := Box2.made w4 (.int .i64 n) (.slice (some ⟨g4, 0, none⟩) es.length c4) 30
    have hA4 := (by go_grown : Below w4.heap.size w4 (w4.alloc (.cells #[.int .i64 n, .slice (some ⟨g4, 0, none⟩) es.length c4] 30)))
    clear ho4 s3 p3 q3 hb4 hB3
    go_wp2_with fail
    refine (implIs_any _ _ _ _ _ es _ E4 (by rw [HL.out]; exact hm)).mono ?_
    rintro e w5 ⟨rfl, hb5⟩
    have X5 := (X4.below hA4).below hb5
    have Y5 := Y4.below hb5
    have E5 := E4.below hb5
    have hB5 := (hB4.andB hA4).thenB (by simp; exact Nat.le_succ_of_le hB4.size) hb5
    obtain ⟨s1, p1, q1⟩ := X5
    obtain ⟨s2, p2, q2⟩ := Y5
    clear X4 Y4 E4 hA4 hb5 hB4 w1 w2 w3
    go_wp2_with fail
    refine wp_region_facts (fun i v W => match i with
      | 0 => v = .agg #[.int .i64 n, .slice (some ⟨g4, 0, none⟩) es.length c4]
      | 1 => v = .agg #[.int .i64 n, .slice A m c]
      | 2 => AGr n es v W
      | 3 => v = .bool true
      | _ => v = .bool false) (by kernel_rfl) (by kernel_rfl) ?_ ?_ ?_
    · intro i v W W' hf hb
      match i, hf with
      | 0, hf => exact hf
      | 1, hf => exact hf
      | 2, hf => exact AGr.below hf hb
      | 3, hf => exact hf
      | (i + 4), hf => exact hf
    · refine ⟨?_, ?_, ?_, ?_, ?_, trivial⟩
      · intro a W hW hs hd
        have e5 : a.tmps[5]?.getD undef = .pointer (some ⟨w4.heap.size, 0, none⟩) := hs 5 (by kernel_rfl)
        have k0 := (hW.cell (p := ⟨w4.heap.size, 0, none⟩) s2).trans p2
        have k1 := (hW.cell (p := ⟨w4.heap.size, 1, none⟩) s2).trans q2
        clear hs hd
        unfold Grows
        go_simp
        exact Below.refl _ _
      · intro a W hW hs hd
        have e1 : a.tmps[1]?.getD undef = .pointer (some ⟨w.heap.size, 0, none⟩) := hs 1 (by kernel_rfl)
        have k0 := (hW.cell (p := ⟨w.heap.size, 0, none⟩) s1).trans p1
        have k1 := (hW.cell (p := ⟨w.heap.size, 1, none⟩) s1).trans q1
        clear hs hd
        unfold Grows
        go_simp
        exact Below.refl _ _
      · intro a W hW hs hd
        have e23 : a.tmps[23]?.getD undef = .agg #[.int .i64 n, .slice A m c] := hd 1 23 (by kernel_rfl) (by kernel_rfl)
        clear hs hd
        unfold Grows
        go_simp
        refine ⟨Below.refl _ _, (toGraph_any _ _ _ _ es _ (h.below (hB5.andB hW)) hm).mono ?_⟩
        rintro e w6 ⟨g6, c6, rfl, ho6, hb6⟩
        exact ⟨_, rfl, hb6, g6, c6, rfl, ho6.eds⟩
      · intro a W hW hs hd
        have e22 : a.tmps[22]?.getD undef = .agg #[.int .i64 n, .slice (some ⟨g4, 0, none⟩) es.length c4] := hd 0 22 (by kernel_rfl) (by kernel_rfl)
        have e24 : AGr n es (a.tmps[24]?.getD undef) W := hd 2 24 (by kernel_rfl) (by kernel_rfl)
        obtain ⟨g6, c6, e24, E6⟩ := e24
        clear hs hd
        unfold Grows
        go_simp
        refine ⟨Below.refl _ _, (eqGraph_same _ _ _ _ _ _ _ _ _ es _ (E5.below hW) E6 (by rw [HL.out]; exact hm) (by rw [HL.out]; exact hm)).mono ?_⟩
        rintro e w7 ⟨rfl, hb7⟩
        exact ⟨_, rfl, hb7, rfl⟩
      · intro a W hW hs hd
        have e25 : a.tmps[25]?.getD undef = .bool true := hd 3 25 (by kernel_rfl) (by kernel_rfl)
        clear hs hd
        unfold Grows
        go_simp
        exact Below.refl _ _
    · intro vs W hW hf
      have f26 : vs 26 = .bool false := hf 4 26 (by kernel_rfl)
      simp only [dsts, List.filterMap_cons, List.filterMap_nil, List.foldl_cons, List.foldl_nil, Act.put, List.setIfInBounds_toArray, List.set_cons_succ, List.set_cons_zero, f26]
      clear hf
      go_wp2_with fail
      go_ret
      exact ⟨rfl, hB5.andB hW⟩
  · have hz : szE m 1048576 < 0 := by simp only [szE]; split <;> omega
    go_enter Try.func4, Try.ntmps4
    go_wp2_with fail
    refine (szGraph_any _ _ _ _ _ _ hlen (by omega) (by omega)).mono ?_
    rintro e w1 ⟨rfl, hb1⟩
    go_wp2_with fail
    go_ret
    exact ⟨rfl, (by go_grown : Below _ _ (w.alloc _)).thenB (by simp) hb1⟩
end Go.Proofs.Ytjaffbpgochemaa
