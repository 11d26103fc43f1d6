import Derived.Test.YtnoneppmeaeicaaDoorGt5
import Derived.Test.YtnoneppmeaeicaaDoorM3
namespace Go.Proofs.YtnoneppmeaeicaaDoor
open Go.RowKit Go.Sort
set_option maxRecDepth 100000 in
set_option maxHeartbeats 1000000 in
theorem law_GraphText (n : Int) (A : Option Addr) (m c : Nat) (es : List (Int × Int))  (w : World) (h : SrcE w A m es) (hlen : m ≤ 9223372036854775807) : Calls Tryd.prog 3 #[.agg #[.int .i64 n, .slice A m c]] w (Ret (.bool true) w) := by
  by_cases hm : m ≤ 1048576
  rotate_left
  · have hz : szE m 1048576 < 0 := by simp only [szE]; split <;> omega
    go_enter Tryd.func3, Tryd.ntmps3
    go_wp2_with fail
    refine (szGraph_any _ _ _ _ _ _ hlen (by omega) (by omega)).mono ?_
    rintro e w1 ⟨rfl, hb1⟩
    go_wp2_with fail
    go_ret
    exact ⟨rfl, (by go_grown : Below _ _ (w.alloc _)).thenB (by simp) hb1⟩
  have hz : szE m 1048576 = 1048576 - m := by simp only [szE]; split <;> omega
  have hz2 : 0 ≤ szE m 1048576 := by omega
  have HL := Lib.hid h.1
  clear hz
  go_enter Tryd.func3, Tryd.ntmps3
  go_wp2_with fail
  refine (szGraph_any _ _ _ _ _ _ hlen (by omega) (by omega)).mono ?_
  rintro e w1 ⟨rfl, hb⟩
  have X := (Box2.made w (.int .i64 n) (.slice A m c) 24).below hb
  have hB := (by go_grown : Below w.heap.size w (w.alloc (.cells #[.int .i64 n, .slice A m c] 24))).thenB (by simp) hb
  obtain ⟨s1, p1, q1⟩ := X
  clear hb
  go_wp2_with fail
  refine (toGraph_any _ _ _ _ es _ (h.below hB) hm).mono ?_
  rintro e w2 ⟨g2, k2, rfl, ho, hb⟩
  have X := Box2.below ⟨s1, p1, q1⟩ hb
  have hB := hB.andB hb
  have E := ho.eds
  obtain ⟨s1, p1, q1⟩ := X
  clear ho hb
  go_wp2_with fail
  refine (spGraphText_any n _ _ _ _ es _ E (by rw [HL.out]; exact hm)).mono ?_
  rintro e w3 ⟨S, rfl, hS, hb⟩
  have X := Box2.below ⟨s1, p1, q1⟩ hb
  have hB := hB.andB hb
  obtain ⟨s1, p1, q1⟩ := X
  clear hb E
  go_wp2_with fail
  refine (toGraph_any _ _ _ _ es _ (h.below hB) hm).mono ?_
  rintro e w4 ⟨g4, c4, rfl, ho, hb⟩
  have X := Box2.below ⟨s1, p1, q1⟩ hb
  have hB := hB.andB hb
  have E := ho.eds.alloc (.cells #[.int .i64 n, .slice (some ⟨g4, 0, none⟩) es.length c4] 30)
  have Y := Box2.made w4 (.int .i64 n) (.slice (some ⟨g4, 0, none⟩) es.length c4) 30
  have hA := (by go_grown : Below w4.heap.size w4 (w4.alloc (.cells #[.int .i64 n, .slice (some ⟨g4, 0, none⟩) es.length c4] 30)))
  have X := X.below hA
  have hB := hB.andB hA
  clear ho hb hA s1 p1 q1
  obtain ⟨s1, p1, q1⟩ := X
  obtain ⟨s2, p2, q2⟩ := Y
  go_wp2_with fail
  refine (imGraphText_any n _ _ _ _ es _ E (by rw [HL.out]; exact hm)).mono ?_
  rintro e w5 ⟨S2, rfl, hS2, hb⟩
  obtain rfl : S2 = S := by
    have h3 := hS2.trans hS.symm
    cases S2; cases S
    exact congrArg ByteArray.mk (Array.toList_inj.1 h3)
  clear hS2 hS
  have X := Box2.below ⟨s1, p1, q1⟩ hb
  have Y := Box2.below ⟨s2, p2, q2⟩ hb
  have E5 := E.below hb
  have hB5 := hB.andB hb

  clear s1 p1 q1 s2 p2 q2
  obtain ⟨s1, p1, q1⟩ := X
  obtain ⟨s2, p2, q2⟩ := Y
  clear E hb hB
  go_wp2_with fail
  refine wp_region_facts (fun i v W => match i with
    | 0 => v = .agg #[.int .i64 n, .slice (some ⟨g4, 0, none⟩) es.length c4]
    | 1 => v = .agg #[.int .i64 n, .slice A m c]
    | 2 => AGr n es v W
    | 3 => v = .bool true
    | _ => v = .bool false) (by kernel_rfl) (by kernel_rfl) ?_ ?_ ?_
  · intro i v W W' hf hb
    match i, hf with
    | 0, hf => exact hf
    | 1, hf => exact hf
    | 2, hf => exact AGr.below hf hb
    | 3, hf => exact hf
    | (i + 4), hf => exact hf
  · refine ⟨?_, ?_, ?_, ?_, ?_, trivial⟩
    · intro a W hW hs hd
      have e5 : a.tmps[6]?.getD undef = .pointer (some ⟨w4.heap.size, 0, none⟩) := hs 6 (by kernel_rfl)
      have k0 := (hW.cell (p := ⟨w4.heap.size, 0, none⟩) s2).trans p2
      have k1 := (hW.cell (p := ⟨w4.heap.size, 1, none⟩) s2).trans q2
      clear hs hd
      unfold Grows
      go_simp
      exact Below.refl _ _
    · intro a W hW hs hd
      have e1 : a.tmps[1]?.getD undef = .pointer (some ⟨w.heap.size, 0, none⟩) := hs 1 (by kernel_rfl)
      have k0 := (hW.cell (p := ⟨w.heap.size, 0, none⟩) s1).trans p1
      have k1 := (hW.cell (p := ⟨w.heap.size, 1, none⟩) s1).trans q1
      clear hs hd
      unfold Grows
      go_simp
      exact Below.refl _ _
    · intro a W hW hs hd
      have e23 : a.tmps[36]?.getD undef = .agg #[.int .i64 n, .slice A m c] := hd 1 36 (by kernel_rfl) (by kernel_rfl)
      clear hs hd
      unfold Grows
      go_simp
      refine ⟨Below.refl _ _, (toGraph_any _ _ _ _ es _ (h.below (hB5.andB hW)) hm).mono ?_⟩
      rintro e w6 ⟨g6, c6, rfl, ho6, hb6⟩
      exact ⟨_, rfl, hb6, g6, c6, rfl, ho6.eds⟩
    · intro a W hW hs hd
      have e22 : a.tmps[35]?.getD undef = .agg #[.int .i64 n, .slice (some ⟨g4, 0, none⟩) es.length c4] := hd 0 35 (by kernel_rfl) (by kernel_rfl)
      have e24 : AGr n es (a.tmps[37]?.getD undef) W := hd 2 37 (by kernel_rfl) (by kernel_rfl)
      obtain ⟨g6, c6, e24, E6⟩ := e24
      clear hs hd
      unfold Grows
      go_simp
      refine ⟨Below.refl _ _, (eqGraph_same _ _ _ _ _ _ _ _ _ es _ (E5.below hW) E6 (by rw [HL.out]; exact hm) (by rw [HL.out]; exact hm)).mono ?_⟩
      rintro e w7 ⟨rfl, hb7⟩
      exact ⟨_, rfl, hb7, rfl⟩
    · intro a W hW hs hd
      have e25 : a.tmps[38]?.getD undef = .bool true := hd 3 38 (by kernel_rfl) (by kernel_rfl)
      clear hs hd
      unfold Grows
      go_simp
      exact Below.refl _ _
  intro vs W hW hf
  have f26 : vs 39 = .bool false := hf 4 39 (by kernel_rfl)
  simp only [dsts, List.filterMap_cons, List.filterMap_nil, List.foldl_cons, List.foldl_nil, Act.put, List.setIfInBounds_toArray, List.set_cons_succ, List.set_cons_zero, f26]
  clear hf
  have hB5 := hB5.andB hW

  clear E5 hW
  go_wp2_with fail
  go_ret
  exact ⟨rfl, hB5⟩
end Go.Proofs.YtnoneppmeaeicaaDoor
