import Derived.Test.YtppfplhbfgjjhaaNg11
import Derived.Test.YtppfplhbfgjjhaaGn
namespace Go.Proofs.Ytppfplhbfgjjhaa
open Go.RowKit Go.Sort
set_option maxRecDepth 100000 in
set_option maxHeartbeats 4000000 in
theorem law_NamedGraph (s : ByteArray) (w : World) :
    Calls Try.prog 11 #[.string s] w (Ret (.bool true) w) := by
  obtain ⟨nn, xs, kc, hxl, hsp, him⟩ := named_both s
  have HSP := Lib.hid hsp
  have HIM := Lib.hid him
  clear hsp him
  by_cases hm : s.size ≤ 1048576
  rotate_left
  · have hm2 : (1048576 : Int) < s.size := by omega
    go_enter Try.func11, Try.ntmps11
    go_wp2_with fail
    go_ret
    exact ⟨rfl, Below.refl _ _⟩
  have hm2 : ¬ (1048576 : Int) < s.size := by omega
  go_enter Try.func11, Try.ntmps11
  go_wp2_with fail
  refine (HSP.out w).mono ?_
  rintro e w3 ⟨AW, cW, rfl, W0, hB⟩
  have RW : ∀ g, blkOf AW = some g → w.heap.size ≤ g ∧ g < w3.heap.size := W0.blk
  go_wp2_with fail
  have X6 := Box2.made w3 (.int .i64 nn) (.slice AW xs.length cW) 30
  have ha : Below w3.heap.size w3 (w3.alloc (.cells #[.int .i64 nn, .slice AW xs.length cW] 30)) := (Below.refl _ _).alloc (Nat.le_refl _) _
  have zA : (w3.alloc (.cells #[.int .i64 nn, .slice AW xs.length cW] 30)).heap.size = w3.heap.size + 1 := by simp
  generalize (w3.alloc (.cells #[.int .i64 nn, .slice AW xs.length cW] 30)) = wA at X6 ha zA ⊢
  have W0 := W0.below ha
  have hB := hB.andB ha
  obtain ⟨B6, hB6⟩ : ∃ B6, B6 = w3.heap.size := ⟨_, rfl⟩
  have hB6w : w3.heap.size ≤ B6 ∧ B6 < wA.heap.size := by omega
  rw [← hB6] at X6 ⊢
  clear ha hB6 zA
  have hwA : w.heap.size ≤ wA.heap.size := hB.size
  refine (HIM.out wA).mono ?_
  rintro e w5 ⟨AG, cG, rfl, G0, hb⟩
  have RG : ∀ g, blkOf AG = some g → wA.heap.size ≤ g ∧ g < w5.heap.size := G0.blk
  have G0 := G0.mono hB.size
  have W0 := W0.below hb
  have X6 := X6.below hb
  have hz5 := hb.size
  have hB := hB.andB hb
  have X6c := X6
  obtain ⟨s6, p6, q6⟩ := X6c
  clear hb
  go_wp2_with fail
  clear s6 p6 q6
  have X9 := Box2.made w5 (.int .i64 nn) (.slice AG xs.length cG) 30
  have ha : Below w5.heap.size w5 (w5.alloc (.cells #[.int .i64 nn, .slice AG xs.length cG] 30)) := (Below.refl _ _).alloc (Nat.le_refl _) _
  have zB : (w5.alloc (.cells #[.int .i64 nn, .slice AG xs.length cG] 30)).heap.size = w5.heap.size + 1 := by simp
  generalize (w5.alloc (.cells #[.int .i64 nn, .slice AG xs.length cG] 30)) = wB at X9 ha zB ⊢
  have W0 := W0.below ha
  have G0 := G0.below ha
  have X6 := X6.below ha
  have hB := hB.andB ha
  obtain ⟨B9, hB9⟩ : ∃ B9, B9 = w5.heap.size := ⟨_, rfl⟩
  have hB9w : w5.heap.size ≤ B9 := by omega
  rw [← hB9] at X9 ⊢
  clear ha hB9 zB
  have HN : Hid (some B6 ≠ blkOf AG ∧ some B9 ≠ blkOf AG ∧ (blkOf AW = none ∨ blkOf AW ≠ blkOf AG)) := by
    refine ⟨?_, ?_, ?_⟩
    · intro e; have := RG B6 e.symm; omega
    · intro e; have := RG B9 e.symm; omega
    · exact blk_apart (s := wA.heap.size) (fun g hg => by have := RW g hg; omega) (fun g hg => (RG g hg).1)
  clear RW RG
  refine (eqGraph_sameA nn AG AW xs.length _ _ xs wB G0.src W0.src hxl).mono ?_
  rintro e w10 ⟨rfl, hb⟩
  have W0 := W0.below hb
  have G0 := G0.below hb
  have X6 := X6.below hb
  have X9 := X9.below hb
  have hB := hB.andB hb
  clear hb
  have X9c := X9
  obtain ⟨s9, p9, q9⟩ := X9c
  go_wp2_with fail
  refine (markGraph_m _ nn AG xs.length _ xs 1 w10 G0 hxl (by omega) (by omega)).mono ?_
  rintro e w11 ⟨rfl, ⟨ys, G1, hys⟩, hg⟩
  have HY := Lib.hid hys
  have W0 := W0.kept hg HN.out.2.2
  have X6 := X6.kept hg HN.out.1
  have X9 := X9.kept hg HN.out.2.1
  have hB := hB.grown hg hB.size (fun k hk => (G0.blk k hk).1)
  clear hg hys G0 s9 p9 q9
  have X9c := X9
  obtain ⟨s9, p9, q9⟩ := X9c
  go_wp2_with fail
  refine (heldGraph_m nn AG xs.length _ ys 1 w11 G1.src HY.out hxl (by omega) (by omega)).mono ?_
  rintro e w12 ⟨rfl, hb⟩
  have W0 := W0.below hb
  have G1 := G1.below hb
  have X6 := X6.below hb
  have X9 := X9.below hb
  have hB := hB.andB hb
  clear hb s9 p9 q9
  go_wp2_with fail
  refine (HIM.out w12).mono ?_
  rintro e w14 ⟨AH, cH, rfl, H0, hb⟩
  have W0 := W0.below hb
  have G1 := G1.below hb
  have X6 := X6.below hb
  have X9 := X9.below hb
  have hB := hB.andB hb
  have X6c := X6
  obtain ⟨s6, p6, q6⟩ := X6c
  clear hb
  go_wp2_with fail
  have ha : Below w14.heap.size w14 (w14.alloc (.cells #[.int .i64 nn, .slice AH xs.length cH] 30)) := (Below.refl _ _).alloc (Nat.le_refl _) _
  have W0 := W0.below ha
  have G1 := G1.below ha
  have H0 := H0.below ha
  have X6 := X6.below ha
  have X9 := X9.below ha
  have hB := hB.andB ha
  clear ha s6 p6 q6
  refine (eqGraph_sameA nn AH AW xs.length _ _ xs _ H0.src W0.src hxl).mono ?_
  rintro e w15 ⟨rfl, hb⟩
  have G1 := G1.below hb
  have X9 := X9.below hb
  have hB := hB.andB hb
  clear hb W0 H0 X6
  have X9c := X9
  obtain ⟨s9, p9, q9⟩ := X9c
  go_wp2_with fail
  refine (heldGraph_m nn AG xs.length _ ys 1 w15 G1.src HY.out hxl (by omega) (by omega)).mono ?_
  rintro e w16 ⟨rfl, hb⟩
  have hB := hB.andB hb
  clear hb
  go_wp2_with fail
  go_ret
  exact ⟨rfl, hB⟩
end Go.Proofs.Ytppfplhbfgjjhaa
