import Derived.Test.YtppfplhbfgjjhaaNg10
namespace Go.Proofs.Ytppfplhbfgjjhaa
open Go.RowKit Go.Sort
/-! ### NamedGraph, both sides -/
set_option maxRecDepth 100000 in
set_option maxHeartbeats 2000000 in
theorem imN_theta (s : ByteArray) (w : World) (hs : s.toList = [116, 104, 101, 116, 97]) : Calls Try.prog 43 #[.string s] w (RetGC 2 (srtE ([(0, 1), (0, 1), (0, 1)])) 0 w) := by
  have e0 : (s.toList == [116, 104, 101, 116, 97]) = true := by rw [hs]; rfl
  obtain ⟨SL, hSL⟩ : ∃ SL, SL = srtE ([(0, 1), (0, 1), (0, 1)]) := ⟨_, rfl⟩
  have HM : Hid (∀ g c W, Eds W g 0 3 ([(0, 1), (0, 1), (0, 1)]) → Calls Try.prog 91 #[.int .i64 2, .slice (some ⟨g, 0, none⟩) 3 c] W (RetG 2 SL W)) := fun g c W E => by rw [hSL]; exact graphOf_any 2 g 0 3 c _ W E (by decide) (by decide)
  rw [← hSL]
  have PB := Box2F.made w (.int .i64 0) (.slice none 0 0) 30
  obtain ⟨w1, hw1⟩ : ∃ w1, w1 = w.alloc (.cells #[.int .i64 0, .slice none 0 0] 30) := ⟨_, rfl⟩
  have hbb : Below w.heap.size w w1 := by rw [hw1]; exact (Below.refl _ _).alloc (Nat.le_refl _) _
  rw [← hw1] at PB
  have hz1 : w.heap.size + 1 = w1.heap.size := by rw [hw1]; simp
  have HW : Hid (w.alloc (.cells #[.int .i64 0, .slice none 0 0] 30) = w1 ∧ w.heap.size + 1 = w1.heap.size) := ⟨hw1.symm, hz1⟩
  have hzz : w.heap.size < w1.heap.size := by omega
  clear hs hw1 hz1 hSL
  go_enter Try.func43, Try.ntmps43
  go_wp2_with fail
  rw [HW.out.1, HW.out.2]
  have O : OwnEA w1.heap.size (w1.alloc (.cells #[.int .i64 0, .int .i64 1, .int .i64 0, .int .i64 1, .int .i64 0, .int .i64 1] 98)) (some ⟨w1.heap.size, 0, none⟩) 3 3 [(0, 1), (0, 1), (0, 1)] := ownEA_lit _ 3 rfl rfl (by decide)
  have hKA : Below w1.heap.size w1 (w1.alloc (.cells #[.int .i64 0, .int .i64 1, .int .i64 0, .int .i64 1, .int .i64 0, .int .i64 1] 98)) := (Below.refl _ _).alloc (Nat.le_refl _) _
  have EA := (O.some (by decide))
  obtain ⟨gA, eA, EA⟩ := EA
  obtain rfl : w1.heap.size = gA := by injection eA with e1; injection e1
  refine (lengthE_any _ _ _ _ (by decide)).mono ?_
  rintro e w' ⟨rfl, rfl⟩
  clear O
  go_wp2_with fail
  refine (HM.out _ _ _ EA).mono ?_
  rintro e w6 ⟨g6, c6, rfl, O6, hb6⟩
  have hzA := hKA.size
  have hK6 := hKA.andB hb6
  have PW := PB.below hK6
  have hO := O6.ge
  have hB6 := hbb.andB hK6
  have O9 := (O6.setOther (a := ⟨w.heap.size, 0, none⟩) (by simp; omega) (.int .i64 2)).setOther (a := ⟨w.heap.size, 1, none⟩) (by simp; omega) (.slice (some ⟨g6, 0, none⟩) SL.length c6)
  have P8 := PW.set2 (.int .i64 2) (.slice (some ⟨g6, 0, none⟩) SL.length c6)
  have hB8 := (hB6.setCell (p := ⟨w.heap.size, 0, none⟩) (Nat.le_refl _) (.int .i64 2)).setCell (p := ⟨w.heap.size, 1, none⟩) (Nat.le_refl _) (.slice (some ⟨g6, 0, none⟩) SL.length c6)
  obtain ⟨⟨sW, pW, qW⟩, fW, gW⟩ := PW
  clear O6 hb6 hKA hK6 HM
  go_wp2_with fail
  obtain ⟨w9, hw9⟩ : ∃ w9, w9 = ((w6.setCell ⟨w.heap.size, 0, none⟩ (.int .i64 2)).setCell ⟨w.heap.size, 1, none⟩ (.slice (some ⟨g6, 0, none⟩) SL.length c6)) := ⟨_, rfl⟩
  rw [← hw9] at O9 P8 hB8 ⊢
  clear hw9
  obtain ⟨⟨k0, k1, k2⟩, _, _⟩ := P8
  refine bodyPost_ret (v := .tuple #[.agg #[.int .i64 2, .slice (some ⟨g6, 0, none⟩) SL.length c6], .int .i64 0]) ?_ rfl ⟨_, c6, rfl, O9.any.mono (by omega), hB8⟩
  simp [results, Try.results43, go_sem, k1, k2]
set_option maxRecDepth 100000 in
set_option maxHeartbeats 2000000 in
theorem imN_k4 (s : ByteArray) (w : World) (hs : s.toList = [107, 52]) : Calls Try.prog 43 #[.string s] w (RetGC 4 (srtE (starL 0 [1, 2, 3] ++ cycL [1, 2, 3])) 0 w) := by
  have e0 : (s.toList == [116, 104, 101, 116, 97]) = false := by rw [hs]; rfl
  have e1 : (s.toList == [107, 52]) = true := by rw [hs]; rfl
  obtain ⟨SL, hSL⟩ : ∃ SL, SL = srtE (starL 0 [1, 2, 3] ++ cycL [1, 2, 3]) := ⟨_, rfl⟩
  have HM : Hid (∀ g c W, Eds W g 0 6 (starL 0 [1, 2, 3] ++ cycL [1, 2, 3]) → Calls Try.prog 91 #[.int .i64 4, .slice (some ⟨g, 0, none⟩) 6 c] W (RetG 4 SL W)) := fun g c W E => by rw [hSL]; exact graphOf_any 4 g 0 6 c _ W E (by decide) (by decide)
  rw [← hSL]
  have PB := Box2F.made w (.int .i64 0) (.slice none 0 0) 30
  obtain ⟨w1, hw1⟩ : ∃ w1, w1 = w.alloc (.cells #[.int .i64 0, .slice none 0 0] 30) := ⟨_, rfl⟩
  have hbb : Below w.heap.size w w1 := by rw [hw1]; exact (Below.refl _ _).alloc (Nat.le_refl _) _
  rw [← hw1] at PB
  have hz1 : w.heap.size + 1 = w1.heap.size := by rw [hw1]; simp
  have HW : Hid (w.alloc (.cells #[.int .i64 0, .slice none 0 0] 30) = w1 ∧ w.heap.size + 1 = w1.heap.size) := ⟨hw1.symm, hz1⟩
  have hzz : w.heap.size < w1.heap.size := by omega
  clear hs hw1 hz1 hSL
  go_enter Try.func43, Try.ntmps43
  go_wp2_with fail
  rw [HW.out.1, HW.out.2]
  refine (star_lit 0 [1, 2, 3] 3 rfl rfl (by decide)).mono ?_
  rintro e w2 ⟨A2, c2, rfl, O2, hb2⟩
  go_wp2_with fail
  refine (cyc_lit [1, 2, 3] 3 rfl rfl (by decide)).mono ?_
  rintro e w3 ⟨A3, c3, rfl, O3, hb3⟩
  have O2 := O2.below hb3
  have hB3 := hb2.andB hb3
  go_wp2_with fail
  refine (concat2 O2 O3 (by decide) (by decide)).mono ?_
  rintro e wA ⟨A, c', rfl, O, hbA⟩
  have hz3 := hB3.size
  have O := O.mono hz3
  have hKA := hB3.andB hbA
  clear O2 O3 hb2 hb3 hB3 hbA hz3
  rw [show (starL 0 [1, 2, 3] ++ cycL [1, 2, 3]).length = 6 from rfl] at O ⊢
  obtain ⟨gA, rfl, EA⟩ := O.some (by decide)
  clear O
  go_wp2_with (go_at_call 92; refine (lengthE_any _ _ _ _ (by decide)).mono ?_; rintro e w' ⟨rfl, rfl⟩)
  refine (HM.out _ _ _ EA).mono ?_
  rintro e w6 ⟨g6, c6, rfl, O6, hb6⟩
  have hzA := hKA.size
  have hK6 := hKA.andB hb6
  have PW := PB.below hK6
  have hO := O6.ge
  have hB6 := hbb.andB hK6
  have O9 := (O6.setOther (a := ⟨w.heap.size, 0, none⟩) (by simp; omega) (.int .i64 4)).setOther (a := ⟨w.heap.size, 1, none⟩) (by simp; omega) (.slice (some ⟨g6, 0, none⟩) SL.length c6)
  have P8 := PW.set2 (.int .i64 4) (.slice (some ⟨g6, 0, none⟩) SL.length c6)
  have hB8 := (hB6.setCell (p := ⟨w.heap.size, 0, none⟩) (Nat.le_refl _) (.int .i64 4)).setCell (p := ⟨w.heap.size, 1, none⟩) (Nat.le_refl _) (.slice (some ⟨g6, 0, none⟩) SL.length c6)
  obtain ⟨⟨sW, pW, qW⟩, fW, gW⟩ := PW
  clear O6 hb6 hKA hK6 HM
  go_wp2_with fail
  obtain ⟨w9, hw9⟩ : ∃ w9, w9 = ((w6.setCell ⟨w.heap.size, 0, none⟩ (.int .i64 4)).setCell ⟨w.heap.size, 1, none⟩ (.slice (some ⟨g6, 0, none⟩) SL.length c6)) := ⟨_, rfl⟩
  rw [← hw9] at O9 P8 hB8 ⊢
  clear hw9
  obtain ⟨⟨k0, k1, k2⟩, _, _⟩ := P8
  refine bodyPost_ret (v := .tuple #[.agg #[.int .i64 4, .slice (some ⟨g6, 0, none⟩) SL.length c6], .int .i64 0]) ?_ rfl ⟨_, c6, rfl, O9.any.mono (by omega), hB8⟩
  simp [results, Try.results43, go_sem, k1, k2]
set_option maxRecDepth 100000 in
set_option maxHeartbeats 2000000 in
theorem imN_k33 (s : ByteArray) (w : World) (hs : s.toList = [107, 51, 51]) : Calls Try.prog 43 #[.string s] w (RetGC 6 (srtE (starL 0 [3, 4, 5] ++ (starL 1 [3, 4, 5] ++ starL 2 [3, 4, 5]))) 0 w) := by
  have e0 : (s.toList == [116, 104, 101, 116, 97]) = false := by rw [hs]; rfl
  have e1 : (s.toList == [107, 52]) = false := by rw [hs]; rfl
  have e2 : (s.toList == [107, 51, 51]) = true := by rw [hs]; rfl
  obtain ⟨SL, hSL⟩ : ∃ SL, SL = srtE (starL 0 [3, 4, 5] ++ (starL 1 [3, 4, 5] ++ starL 2 [3, 4, 5])) := ⟨_, rfl⟩
  have HM : Hid (∀ g c W, Eds W g 0 9 (starL 0 [3, 4, 5] ++ (starL 1 [3, 4, 5] ++ starL 2 [3, 4, 5])) → Calls Try.prog 91 #[.int .i64 6, .slice (some ⟨g, 0, none⟩) 9 c] W (RetG 6 SL W)) := fun g c W E => by rw [hSL]; exact graphOf_any 6 g 0 9 c _ W E (by decide) (by decide)
  rw [← hSL]
  have PB := Box2F.made w (.int .i64 0) (.slice none 0 0) 30
  obtain ⟨w1, hw1⟩ : ∃ w1, w1 = w.alloc (.cells #[.int .i64 0, .slice none 0 0] 30) := ⟨_, rfl⟩
  have hbb : Below w.heap.size w w1 := by rw [hw1]; exact (Below.refl _ _).alloc (Nat.le_refl _) _
  rw [← hw1] at PB
  have hz1 : w.heap.size + 1 = w1.heap.size := by rw [hw1]; simp
  have HW : Hid (w.alloc (.cells #[.int .i64 0, .slice none 0 0] 30) = w1 ∧ w.heap.size + 1 = w1.heap.size) := ⟨hw1.symm, hz1⟩
  have hzz : w.heap.size < w1.heap.size := by omega
  clear hs hw1 hz1 hSL
  go_enter Try.func43, Try.ntmps43
  go_wp2_with fail
  rw [HW.out.1, HW.out.2]
  refine (star_lit 0 [3, 4, 5] 3 rfl rfl (by decide)).mono ?_
  rintro e w2 ⟨A2, c2, rfl, O2, hb2⟩
  go_wp2_with fail
  refine (star_lit 1 [3, 4, 5] 3 rfl rfl (by decide)).mono ?_
  rintro e w3 ⟨A3, c3, rfl, O3, hb3⟩
  have O2 := O2.below hb3
  have hB3 := hb2.andB hb3
  go_wp2_with fail
  refine (star_lit 2 [3, 4, 5] 3 rfl rfl (by decide)).mono ?_
  rintro e w4 ⟨A4, c4, rfl, O4, hb4⟩
  have O2 := O2.below hb4
  have O3 := O3.below hb4
  have hB4 := hB3.andB hb4
  go_wp2_with fail
  refine (concat3 O2 O3 O4 (by decide) (by decide) (by decide)).mono ?_
  rintro e wA ⟨A, c', rfl, O, hbA⟩
  have hz3 := hB4.size
  have O := O.mono hz3
  have hKA := hB4.andB hbA
  clear O2 O3 O4 hb2 hb3 hb4 hB3 hB4 hbA hz3
  rw [show (starL 0 [3, 4, 5] ++ (starL 1 [3, 4, 5] ++ starL 2 [3, 4, 5]) : List (Int × Int)).length = 9 from rfl] at O ⊢
  obtain ⟨gA, rfl, EA⟩ := O.some (by decide)
  clear O
  go_wp2_with (go_at_call 92; refine (lengthE_any _ _ _ _ (by decide)).mono ?_; rintro e w' ⟨rfl, rfl⟩)
  refine (HM.out _ _ _ EA).mono ?_
  rintro e w6 ⟨g6, c6, rfl, O6, hb6⟩
  have hzA := hKA.size
  have hK6 := hKA.andB hb6
  have PW := PB.below hK6
  have hO := O6.ge
  have hB6 := hbb.andB hK6
  have O9 := (O6.setOther (a := ⟨w.heap.size, 0, none⟩) (by simp; omega) (.int .i64 6)).setOther (a := ⟨w.heap.size, 1, none⟩) (by simp; omega) (.slice (some ⟨g6, 0, none⟩) SL.length c6)
  have P8 := PW.set2 (.int .i64 6) (.slice (some ⟨g6, 0, none⟩) SL.length c6)
  have hB8 := (hB6.setCell (p := ⟨w.heap.size, 0, none⟩) (Nat.le_refl _) (.int .i64 6)).setCell (p := ⟨w.heap.size, 1, none⟩) (Nat.le_refl _) (.slice (some ⟨g6, 0, none⟩) SL.length c6)
  obtain ⟨⟨sW, pW, qW⟩, fW, gW⟩ := PW
  clear O6 hb6 hKA hK6 HM
  go_wp2_with fail
  obtain ⟨w9, hw9⟩ : ∃ w9, w9 = ((w6.setCell ⟨w.heap.size, 0, none⟩ (.int .i64 6)).setCell ⟨w.heap.size, 1, none⟩ (.slice (some ⟨g6, 0, none⟩) SL.length c6)) := ⟨_, rfl⟩
  rw [← hw9] at O9 P8 hB8 ⊢
  clear hw9
  obtain ⟨⟨k0, k1, k2⟩, _, _⟩ := P8
  refine bodyPost_ret (v := .tuple #[.agg #[.int .i64 6, .slice (some ⟨g6, 0, none⟩) SL.length c6], .int .i64 0]) ?_ rfl ⟨_, c6, rfl, O9.any.mono (by omega), hB8⟩
  simp [results, Try.results43, go_sem, k1, k2]
set_option maxRecDepth 100000 in
set_option maxHeartbeats 2000000 in
theorem imN_prism (s : ByteArray) (w : World) (hs : s.toList = [112, 114, 105, 115, 109]) : Calls Try.prog 43 #[.string s] w (RetGC 6 (srtE (cycL [0, 1, 2] ++ (cycL [3, 4, 5] ++ [(0, 3), (1, 4), (2, 5)]))) 0 w) := by
  have e0 : (s.toList == [116, 104, 101, 116, 97]) = false := by rw [hs]; rfl
  have e1 : (s.toList == [107, 52]) = false := by rw [hs]; rfl
  have e2 : (s.toList == [107, 51, 51]) = false := by rw [hs]; rfl
  have e3 : (s.toList == [112, 114, 105, 115, 109]) = true := by rw [hs]; rfl
  obtain ⟨SL, hSL⟩ : ∃ SL, SL = srtE (cycL [0, 1, 2] ++ (cycL [3, 4, 5] ++ [(0, 3), (1, 4), (2, 5)])) := ⟨_, rfl⟩
  have HM : Hid (∀ g c W, Eds W g 0 9 (cycL [0, 1, 2] ++ (cycL [3, 4, 5] ++ [(0, 3), (1, 4), (2, 5)])) → Calls Try.prog 91 #[.int .i64 6, .slice (some ⟨g, 0, none⟩) 9 c] W (RetG 6 SL W)) := fun g c W E => by rw [hSL]; exact graphOf_any 6 g 0 9 c _ W E (by decide) (by decide)
  rw [← hSL]
  have PB := Box2F.made w (.int .i64 0) (.slice none 0 0) 30
  obtain ⟨w1, hw1⟩ : ∃ w1, w1 = w.alloc (.cells #[.int .i64 0, .slice none 0 0] 30) := ⟨_, rfl⟩
  have hbb : Below w.heap.size w w1 := by rw [hw1]; exact (Below.refl _ _).alloc (Nat.le_refl _) _
  rw [← hw1] at PB
  have hz1 : w.heap.size + 1 = w1.heap.size := by rw [hw1]; simp
  have HW : Hid (w.alloc (.cells #[.int .i64 0, .slice none 0 0] 30) = w1 ∧ w.heap.size + 1 = w1.heap.size) := ⟨hw1.symm, hz1⟩
  have hzz : w.heap.size < w1.heap.size := by omega
  clear hs hw1 hz1 hSL
  go_enter Try.func43, Try.ntmps43
  go_wp2_with fail
  rw [HW.out.1, HW.out.2]
  refine (cyc_lit [0, 1, 2] 3 rfl rfl (by decide)).mono ?_
  rintro e w2 ⟨A2, c2, rfl, O2, hb2⟩
  go_wp2_with fail
  refine (cyc_lit [3, 4, 5] 3 rfl rfl (by decide)).mono ?_
  rintro e w3 ⟨A3, c3, rfl, O3, hb3⟩
  have O2 := O2.below hb3
  have hB3 := hb2.andB hb3
  have O4 : OwnEA w3.heap.size (w3.alloc (.cells #[.int .i64 0, .int .i64 3, .int .i64 1, .int .i64 4, .int .i64 2, .int .i64 5] 98)) (some ⟨w3.heap.size, 0, none⟩) 3 3 [(0, 3), (1, 4), (2, 5)] := ownEA_lit _ 3 rfl rfl (by decide)
  obtain ⟨w4, hw4⟩ : ∃ w4, w4 = w3.alloc (.cells #[.int .i64 0, .int .i64 3, .int .i64 1, .int .i64 4, .int .i64 2, .int .i64 5] 98) := ⟨_, rfl⟩
  have hb4 : Below w3.heap.size w3 w4 := by rw [hw4]; exact (Below.refl _ _).alloc (Nat.le_refl _) _
  have hz4 : w3.heap.size + 1 = w4.heap.size := by rw [hw4]; simp
  rw [← hw4] at O4
  have O2 := O2.below hb4
  have O3 := O3.below hb4
  have hB4 := hB3.andB hb4
  have HZ := Lib.hid hz4
  clear hz4
  go_wp2_with fail
  rw [← hw4, HZ.out]
  refine (concat3 O2 O3 O4 (by decide) (by decide) (by decide)).mono ?_
  rintro e wA ⟨A, c', rfl, O, hbA⟩
  have hz3 := hB4.size
  have O := O.mono hz3
  have hKA := hB4.andB hbA
  clear O2 O3 O4 hb2 hb3 hb4 hB3 hB4 hbA hz3 hw4
  rw [show (cycL [0, 1, 2] ++ (cycL [3, 4, 5] ++ [(0, 3), (1, 4), (2, 5)]) : List (Int × Int)).length = 9 from rfl] at O ⊢
  obtain ⟨gA, rfl, EA⟩ := O.some (by decide)
  clear O
  go_wp2_with (go_at_call 92; refine (lengthE_any _ _ _ _ (by decide)).mono ?_; rintro e w' ⟨rfl, rfl⟩)
  refine (HM.out _ _ _ EA).mono ?_
  rintro e w6 ⟨g6, c6, rfl, O6, hb6⟩
  have hzA := hKA.size
  have hK6 := hKA.andB hb6
  have PW := PB.below hK6
  have hO := O6.ge
  have hB6 := hbb.andB hK6
  have O9 := (O6.setOther (a := ⟨w.heap.size, 0, none⟩) (by simp; omega) (.int .i64 6)).setOther (a := ⟨w.heap.size, 1, none⟩) (by simp; omega) (.slice (some ⟨g6, 0, none⟩) SL.length c6)
  have P8 := PW.set2 (.int .i64 6) (.slice (some ⟨g6, 0, none⟩) SL.length c6)
  have hB8 := (hB6.setCell (p := ⟨w.heap.size, 0, none⟩) (Nat.le_refl _) (.int .i64 6)).setCell (p := ⟨w.heap.size, 1, none⟩) (Nat.le_refl _) (.slice (some ⟨g6, 0, none⟩) SL.length c6)
  obtain ⟨⟨sW, pW, qW⟩, fW, gW⟩ := PW
  clear O6 hb6 hKA hK6 HM
  go_wp2_with fail
  obtain ⟨w9, hw9⟩ : ∃ w9, w9 = ((w6.setCell ⟨w.heap.size, 0, none⟩ (.int .i64 6)).setCell ⟨w.heap.size, 1, none⟩ (.slice (some ⟨g6, 0, none⟩) SL.length c6)) := ⟨_, rfl⟩
  rw [← hw9] at O9 P8 hB8 ⊢
  clear hw9
  obtain ⟨⟨k0, k1, k2⟩, _, _⟩ := P8
  refine bodyPost_ret (v := .tuple #[.agg #[.int .i64 6, .slice (some ⟨g6, 0, none⟩) SL.length c6], .int .i64 0]) ?_ rfl ⟨_, c6, rfl, O9.any.mono (by omega), hB8⟩
  simp [results, Try.results43, go_sem, k1, k2]
set_option maxRecDepth 100000 in
set_option maxHeartbeats 2000000 in
theorem imN_cube (s : ByteArray) (w : World) (hs : s.toList = [99, 117, 98, 101]) : Calls Try.prog 43 #[.string s] w (RetGC 8 (srtE (cubT 8)) 0 w) := by
  have e0 : (s.toList == [116, 104, 101, 116, 97]) = false := by rw [hs]; rfl
  have e1 : (s.toList == [107, 52]) = false := by rw [hs]; rfl
  have e2 : (s.toList == [107, 51, 51]) = false := by rw [hs]; rfl
  have e3 : (s.toList == [112, 114, 105, 115, 109]) = false := by rw [hs]; rfl
  have e4 : (s.toList == [99, 117, 98, 101]) = true := by rw [hs]; rfl
  obtain ⟨SL, hSL⟩ : ∃ SL, SL = srtE (cubT 8) := ⟨_, rfl⟩
  have HM : Hid (∀ g c W, Eds W g 0 12 (cubT 8) → Calls Try.prog 91 #[.int .i64 8, .slice (some ⟨g, 0, none⟩) 12 c] W (RetG 8 SL W)) := fun g c W E => by rw [hSL]; exact graphOf_any 8 g 0 12 c _ W E (by decide) (by decide)
  rw [← hSL]
  have PB := Box2F.made w (.int .i64 0) (.slice none 0 0) 30
  obtain ⟨w1, hw1⟩ : ∃ w1, w1 = w.alloc (.cells #[.int .i64 0, .slice none 0 0] 30) := ⟨_, rfl⟩
  have hbb : Below w.heap.size w w1 := by rw [hw1]; exact (Below.refl _ _).alloc (Nat.le_refl _) _
  rw [← hw1] at PB
  have hz1 : w.heap.size + 1 = w1.heap.size := by rw [hw1]; simp
  have HW : Hid (w.alloc (.cells #[.int .i64 0, .slice none 0 0] 30) = w1 ∧ w.heap.size + 1 = w1.heap.size) := ⟨hw1.symm, hz1⟩
  have hzz : w.heap.size < w1.heap.size := by omega
  clear hs hw1 hz1 hSL
  go_enter Try.func43, Try.ntmps43
  go_wp2_with fail
  rw [HW.out.1]
  refine (cube_any w1).mono ?_
  rintro e wA ⟨A, c', rfl, O, hKA⟩
  rw [show (cubT 8).length = 12 from rfl] at O ⊢
  obtain ⟨gA, rfl, EA⟩ := O.some (by decide)
  clear O
  go_wp2_with (go_at_call 92; refine (lengthE_any _ _ _ _ (by decide)).mono ?_; rintro e w' ⟨rfl, rfl⟩)
  refine (HM.out _ _ _ EA).mono ?_
  rintro e w6 ⟨g6, c6, rfl, O6, hb6⟩
  have hzA := hKA.size
  have hK6 := hKA.andB hb6
  have PW := PB.below hK6
  have hO := O6.ge
  have hB6 := hbb.andB hK6
  have O9 := (O6.setOther (a := ⟨w.heap.size, 0, none⟩) (by simp; omega) (.int .i64 8)).setOther (a := ⟨w.heap.size, 1, none⟩) (by simp; omega) (.slice (some ⟨g6, 0, none⟩) SL.length c6)
  have P8 := PW.set2 (.int .i64 8) (.slice (some ⟨g6, 0, none⟩) SL.length c6)
  have hB8 := (hB6.setCell (p := ⟨w.heap.size, 0, none⟩) (Nat.le_refl _) (.int .i64 8)).setCell (p := ⟨w.heap.size, 1, none⟩) (Nat.le_refl _) (.slice (some ⟨g6, 0, none⟩) SL.length c6)
  obtain ⟨⟨sW, pW, qW⟩, fW, gW⟩ := PW
  clear O6 hb6 hKA hK6 HM
  go_wp2_with fail
  obtain ⟨w9, hw9⟩ : ∃ w9, w9 = ((w6.setCell ⟨w.heap.size, 0, none⟩ (.int .i64 8)).setCell ⟨w.heap.size, 1, none⟩ (.slice (some ⟨g6, 0, none⟩) SL.length c6)) := ⟨_, rfl⟩
  rw [← hw9] at O9 P8 hB8 ⊢
  clear hw9
  obtain ⟨⟨k0, k1, k2⟩, _, _⟩ := P8
  refine bodyPost_ret (v := .tuple #[.agg #[.int .i64 8, .slice (some ⟨g6, 0, none⟩) SL.length c6], .int .i64 0]) ?_ rfl ⟨_, c6, rfl, O9.any.mono (by omega), hB8⟩
  simp [results, Try.results43, go_sem, k1, k2]
set_option maxRecDepth 100000 in
set_option maxHeartbeats 2000000 in
theorem imN_petersen (s : ByteArray) (w : World) (hs : s.toList = [112, 101, 116, 101, 114, 115, 101, 110]) : Calls Try.prog 43 #[.string s] w (RetGC 10 (srtE (petT 5)) 0 w) := by
  have e0 : (s.toList == [116, 104, 101, 116, 97]) = false := by rw [hs]; rfl
  have e1 : (s.toList == [107, 52]) = false := by rw [hs]; rfl
  have e2 : (s.toList == [107, 51, 51]) = false := by rw [hs]; rfl
  have e3 : (s.toList == [112, 114, 105, 115, 109]) = false := by rw [hs]; rfl
  have e4 : (s.toList == [99, 117, 98, 101]) = false := by rw [hs]; rfl
  have e5 : (s.toList == [112, 101, 116, 101, 114, 115, 101, 110]) = true := by rw [hs]; rfl
  obtain ⟨SL, hSL⟩ : ∃ SL, SL = srtE (petT 5) := ⟨_, rfl⟩
  have HM : Hid (∀ g c W, Eds W g 0 15 (petT 5) → Calls Try.prog 91 #[.int .i64 10, .slice (some ⟨g, 0, none⟩) 15 c] W (RetG 10 SL W)) := fun g c W E => by rw [hSL]; exact graphOf_any 10 g 0 15 c _ W E (by decide) (by decide)
  rw [← hSL]
  have PB := Box2F.made w (.int .i64 0) (.slice none 0 0) 30
  obtain ⟨w1, hw1⟩ : ∃ w1, w1 = w.alloc (.cells #[.int .i64 0, .slice none 0 0] 30) := ⟨_, rfl⟩
  have hbb : Below w.heap.size w w1 := by rw [hw1]; exact (Below.refl _ _).alloc (Nat.le_refl _) _
  rw [← hw1] at PB
  have hz1 : w.heap.size + 1 = w1.heap.size := by rw [hw1]; simp
  have HW : Hid (w.alloc (.cells #[.int .i64 0, .slice none 0 0] 30) = w1 ∧ w.heap.size + 1 = w1.heap.size) := ⟨hw1.symm, hz1⟩
  have hzz : w.heap.size < w1.heap.size := by omega
  clear hs hw1 hz1 hSL
  go_enter Try.func43, Try.ntmps43
  go_wp2_with fail
  rw [HW.out.1]
  refine (petersen_any w1).mono ?_
  rintro e wA ⟨A, c', rfl, O, hKA⟩
  rw [show (petT 5).length = 15 from rfl] at O ⊢
  obtain ⟨gA, rfl, EA⟩ := O.some (by decide)
  clear O
  go_wp2_with (go_at_call 92; refine (lengthE_any _ _ _ _ (by decide)).mono ?_; rintro e w' ⟨rfl, rfl⟩)
  refine (HM.out _ _ _ EA).mono ?_
  rintro e w6 ⟨g6, c6, rfl, O6, hb6⟩
  have hzA := hKA.size
  have hK6 := hKA.andB hb6
  have PW := PB.below hK6
  have hO := O6.ge
  have hB6 := hbb.andB hK6
  have O9 := (O6.setOther (a := ⟨w.heap.size, 0, none⟩) (by simp; omega) (.int .i64 10)).setOther (a := ⟨w.heap.size, 1, none⟩) (by simp; omega) (.slice (some ⟨g6, 0, none⟩) SL.length c6)
  have P8 := PW.set2 (.int .i64 10) (.slice (some ⟨g6, 0, none⟩) SL.length c6)
  have hB8 := (hB6.setCell (p := ⟨w.heap.size, 0, none⟩) (Nat.le_refl _) (.int .i64 10)).setCell (p := ⟨w.heap.size, 1, none⟩) (Nat.le_refl _) (.slice (some ⟨g6, 0, none⟩) SL.length c6)
  obtain ⟨⟨sW, pW, qW⟩, fW, gW⟩ := PW
  clear O6 hb6 hKA hK6 HM
  go_wp2_with fail
  obtain ⟨w9, hw9⟩ : ∃ w9, w9 = ((w6.setCell ⟨w.heap.size, 0, none⟩ (.int .i64 10)).setCell ⟨w.heap.size, 1, none⟩ (.slice (some ⟨g6, 0, none⟩) SL.length c6)) := ⟨_, rfl⟩
  rw [← hw9] at O9 P8 hB8 ⊢
  clear hw9
  obtain ⟨⟨k0, k1, k2⟩, _, _⟩ := P8
  refine bodyPost_ret (v := .tuple #[.agg #[.int .i64 10, .slice (some ⟨g6, 0, none⟩) SL.length c6], .int .i64 0]) ?_ rfl ⟨_, c6, rfl, O9.any.mono (by omega), hB8⟩
  simp [results, Try.results43, go_sem, k1, k2]
set_option maxRecDepth 100000 in
set_option maxHeartbeats 2000000 in
theorem imN_tietze (s : ByteArray) (w : World) (hs : s.toList = [116, 105, 101, 116, 122, 101]) : Calls Try.prog 43 #[.string s] w (RetGC 12 (srtE (tieL)) 0 w) := by
  have e0 : (s.toList == [116, 104, 101, 116, 97]) = false := by rw [hs]; rfl
  have e1 : (s.toList == [107, 52]) = false := by rw [hs]; rfl
  have e2 : (s.toList == [107, 51, 51]) = false := by rw [hs]; rfl
  have e3 : (s.toList == [112, 114, 105, 115, 109]) = false := by rw [hs]; rfl
  have e4 : (s.toList == [99, 117, 98, 101]) = false := by rw [hs]; rfl
  have e5 : (s.toList == [112, 101, 116, 101, 114, 115, 101, 110]) = false := by rw [hs]; rfl
  have e6 : (s.toList == [116, 105, 101, 116, 122, 101]) = true := by rw [hs]; rfl
  obtain ⟨SL, hSL⟩ : ∃ SL, SL = srtE (tieL) := ⟨_, rfl⟩
  have HM : Hid (∀ g c W, Eds W g 0 18 (tieL) → Calls Try.prog 91 #[.int .i64 12, .slice (some ⟨g, 0, none⟩) 18 c] W (RetG 12 SL W)) := fun g c W E => by rw [hSL]; exact graphOf_any 12 g 0 18 c _ W E (by decide) (by decide)
  rw [← hSL]
  have PB := Box2F.made w (.int .i64 0) (.slice none 0 0) 30
  obtain ⟨w1, hw1⟩ : ∃ w1, w1 = w.alloc (.cells #[.int .i64 0, .slice none 0 0] 30) := ⟨_, rfl⟩
  have hbb : Below w.heap.size w w1 := by rw [hw1]; exact (Below.refl _ _).alloc (Nat.le_refl _) _
  rw [← hw1] at PB
  have hz1 : w.heap.size + 1 = w1.heap.size := by rw [hw1]; simp
  have HW : Hid (w.alloc (.cells #[.int .i64 0, .slice none 0 0] 30) = w1 ∧ w.heap.size + 1 = w1.heap.size) := ⟨hw1.symm, hz1⟩
  have hzz : w.heap.size < w1.heap.size := by omega
  clear hs hw1 hz1 hSL
  go_enter Try.func43, Try.ntmps43
  go_wp2_with fail
  rw [HW.out.1]
  refine (tietze_any w1).mono ?_
  rintro e wA ⟨A, c', rfl, O, hKA⟩
  rw [show (tieL).length = 18 from rfl] at O ⊢
  obtain ⟨gA, rfl, EA⟩ := O.some (by decide)
  clear O
  go_wp2_with (go_at_call 92; refine (lengthE_any _ _ _ _ (by decide)).mono ?_; rintro e w' ⟨rfl, rfl⟩)
  refine (HM.out _ _ _ EA).mono ?_
  rintro e w6 ⟨g6, c6, rfl, O6, hb6⟩
  have hzA := hKA.size
  have hK6 := hKA.andB hb6
  have PW := PB.below hK6
  have hO := O6.ge
  have hB6 := hbb.andB hK6
  have O9 := (O6.setOther (a := ⟨w.heap.size, 0, none⟩) (by simp; omega) (.int .i64 12)).setOther (a := ⟨w.heap.size, 1, none⟩) (by simp; omega) (.slice (some ⟨g6, 0, none⟩) SL.length c6)
  have P8 := PW.set2 (.int .i64 12) (.slice (some ⟨g6, 0, none⟩) SL.length c6)
  have hB8 := (hB6.setCell (p := ⟨w.heap.size, 0, none⟩) (Nat.le_refl _) (.int .i64 12)).setCell (p := ⟨w.heap.size, 1, none⟩) (Nat.le_refl _) (.slice (some ⟨g6, 0, none⟩) SL.length c6)
  obtain ⟨⟨sW, pW, qW⟩, fW, gW⟩ := PW
  clear O6 hb6 hKA hK6 HM
  go_wp2_with fail
  obtain ⟨w9, hw9⟩ : ∃ w9, w9 = ((w6.setCell ⟨w.heap.size, 0, none⟩ (.int .i64 12)).setCell ⟨w.heap.size, 1, none⟩ (.slice (some ⟨g6, 0, none⟩) SL.length c6)) := ⟨_, rfl⟩
  rw [← hw9] at O9 P8 hB8 ⊢
  clear hw9
  obtain ⟨⟨k0, k1, k2⟩, _, _⟩ := P8
  refine bodyPost_ret (v := .tuple #[.agg #[.int .i64 12, .slice (some ⟨g6, 0, none⟩) SL.length c6], .int .i64 0]) ?_ rfl ⟨_, c6, rfl, O9.any.mono (by omega), hB8⟩
  simp [results, Try.results43, go_sem, k1, k2]
set_option maxRecDepth 100000 in
set_option maxHeartbeats 2000000 in
theorem imN_flower5 (s : ByteArray) (w : World) (hs : s.toList = [102, 108, 111, 119, 101, 114, 53]) : Calls Try.prog 43 #[.string s] w (RetGC 20 (srtE (floT 5)) 0 w) := by
  have e0 : (s.toList == [116, 104, 101, 116, 97]) = false := by rw [hs]; rfl
  have e1 : (s.toList == [107, 52]) = false := by rw [hs]; rfl
  have e2 : (s.toList == [107, 51, 51]) = false := by rw [hs]; rfl
  have e3 : (s.toList == [112, 114, 105, 115, 109]) = false := by rw [hs]; rfl
  have e4 : (s.toList == [99, 117, 98, 101]) = false := by rw [hs]; rfl
  have e5 : (s.toList == [112, 101, 116, 101, 114, 115, 101, 110]) = false := by rw [hs]; rfl
  have e6 : (s.toList == [116, 105, 101, 116, 122, 101]) = false := by rw [hs]; rfl
  have e7 : (s.toList == [102, 108, 111, 119, 101, 114, 53]) = true := by rw [hs]; rfl
  obtain ⟨SL, hSL⟩ : ∃ SL, SL = srtE (floT 5) := ⟨_, rfl⟩
  have HM : Hid (∀ g c W, Eds W g 0 30 (floT 5) → Calls Try.prog 91 #[.int .i64 20, .slice (some ⟨g, 0, none⟩) 30 c] W (RetG 20 SL W)) := fun g c W E => by rw [hSL]; exact graphOf_any 20 g 0 30 c _ W E (by decide) (by decide)
  rw [← hSL]
  have PB := Box2F.made w (.int .i64 0) (.slice none 0 0) 30
  obtain ⟨w1, hw1⟩ : ∃ w1, w1 = w.alloc (.cells #[.int .i64 0, .slice none 0 0] 30) := ⟨_, rfl⟩
  have hbb : Below w.heap.size w w1 := by rw [hw1]; exact (Below.refl _ _).alloc (Nat.le_refl _) _
  rw [← hw1] at PB
  have hz1 : w.heap.size + 1 = w1.heap.size := by rw [hw1]; simp
  have HW : Hid (w.alloc (.cells #[.int .i64 0, .slice none 0 0] 30) = w1 ∧ w.heap.size + 1 = w1.heap.size) := ⟨hw1.symm, hz1⟩
  have hzz : w.heap.size < w1.heap.size := by omega
  clear hs hw1 hz1 hSL
  go_enter Try.func43, Try.ntmps43
  go_wp2_with fail
  rw [HW.out.1]
  refine (flower_any w1).mono ?_
  rintro e wA ⟨A, c', rfl, O, hKA⟩
  rw [show (floT 5).length = 30 from rfl] at O ⊢
  obtain ⟨gA, rfl, EA⟩ := O.some (by decide)
  clear O
  go_wp2_with (go_at_call 92; refine (lengthE_any _ _ _ _ (by decide)).mono ?_; rintro e w' ⟨rfl, rfl⟩)
  refine (HM.out _ _ _ EA).mono ?_
  rintro e w6 ⟨g6, c6, rfl, O6, hb6⟩
  have hzA := hKA.size
  have hK6 := hKA.andB hb6
  have PW := PB.below hK6
  have hO := O6.ge
  have hB6 := hbb.andB hK6
  have O9 := (O6.setOther (a := ⟨w.heap.size, 0, none⟩) (by simp; omega) (.int .i64 20)).setOther (a := ⟨w.heap.size, 1, none⟩) (by simp; omega) (.slice (some ⟨g6, 0, none⟩) SL.length c6)
  have P8 := PW.set2 (.int .i64 20) (.slice (some ⟨g6, 0, none⟩) SL.length c6)
  have hB8 := (hB6.setCell (p := ⟨w.heap.size, 0, none⟩) (Nat.le_refl _) (.int .i64 20)).setCell (p := ⟨w.heap.size, 1, none⟩) (Nat.le_refl _) (.slice (some ⟨g6, 0, none⟩) SL.length c6)
  obtain ⟨⟨sW, pW, qW⟩, fW, gW⟩ := PW
  clear O6 hb6 hKA hK6 HM
  go_wp2_with fail
  obtain ⟨w9, hw9⟩ : ∃ w9, w9 = ((w6.setCell ⟨w.heap.size, 0, none⟩ (.int .i64 20)).setCell ⟨w.heap.size, 1, none⟩ (.slice (some ⟨g6, 0, none⟩) SL.length c6)) := ⟨_, rfl⟩
  rw [← hw9] at O9 P8 hB8 ⊢
  clear hw9
  obtain ⟨⟨k0, k1, k2⟩, _, _⟩ := P8
  refine bodyPost_ret (v := .tuple #[.agg #[.int .i64 20, .slice (some ⟨g6, 0, none⟩) SL.length c6], .int .i64 0]) ?_ rfl ⟨_, c6, rfl, O9.any.mono (by omega), hB8⟩
  simp [results, Try.results43, go_sem, k1, k2]
set_option maxRecDepth 100000 in
set_option maxHeartbeats 2000000 in
theorem imN_bridge (s : ByteArray) (w : World) (hs : s.toList = [98, 114, 105, 100, 103, 101]) : Calls Try.prog 43 #[.string s] w (RetGC 10 (srtE (briT 2)) 0 w) := by
  have e0 : (s.toList == [116, 104, 101, 116, 97]) = false := by rw [hs]; rfl
  have e1 : (s.toList == [107, 52]) = false := by rw [hs]; rfl
  have e2 : (s.toList == [107, 51, 51]) = false := by rw [hs]; rfl
  have e3 : (s.toList == [112, 114, 105, 115, 109]) = false := by rw [hs]; rfl
  have e4 : (s.toList == [99, 117, 98, 101]) = false := by rw [hs]; rfl
  have e5 : (s.toList == [112, 101, 116, 101, 114, 115, 101, 110]) = false := by rw [hs]; rfl
  have e6 : (s.toList == [116, 105, 101, 116, 122, 101]) = false := by rw [hs]; rfl
  have e7 : (s.toList == [102, 108, 111, 119, 101, 114, 53]) = false := by rw [hs]; rfl
  have e8 : (s.toList == [98, 114, 105, 100, 103, 101]) = true := by rw [hs]; rfl
  obtain ⟨SL, hSL⟩ : ∃ SL, SL = srtE (briT 2) := ⟨_, rfl⟩
  have HM : Hid (∀ g c W, Eds W g 0 15 (briT 2) → Calls Try.prog 91 #[.int .i64 10, .slice (some ⟨g, 0, none⟩) 15 c] W (RetG 10 SL W)) := fun g c W E => by rw [hSL]; exact graphOf_any 10 g 0 15 c _ W E (by decide) (by decide)
  rw [← hSL]
  have PB := Box2F.made w (.int .i64 0) (.slice none 0 0) 30
  obtain ⟨w1, hw1⟩ : ∃ w1, w1 = w.alloc (.cells #[.int .i64 0, .slice none 0 0] 30) := ⟨_, rfl⟩
  have hbb : Below w.heap.size w w1 := by rw [hw1]; exact (Below.refl _ _).alloc (Nat.le_refl _) _
  rw [← hw1] at PB
  have hz1 : w.heap.size + 1 = w1.heap.size := by rw [hw1]; simp
  have HW : Hid (w.alloc (.cells #[.int .i64 0, .slice none 0 0] 30) = w1 ∧ w.heap.size + 1 = w1.heap.size) := ⟨hw1.symm, hz1⟩
  have hzz : w.heap.size < w1.heap.size := by omega
  clear hs hw1 hz1 hSL
  go_enter Try.func43, Try.ntmps43
  go_wp2_with fail
  rw [HW.out.1]
  refine (bridged_any w1).mono ?_
  rintro e wA ⟨A, c', rfl, O, hKA⟩
  rw [show (briT 2).length = 15 from rfl] at O ⊢
  obtain ⟨gA, rfl, EA⟩ := O.some (by decide)
  clear O
  go_wp2_with (go_at_call 92; refine (lengthE_any _ _ _ _ (by decide)).mono ?_; rintro e w' ⟨rfl, rfl⟩)
  refine (HM.out _ _ _ EA).mono ?_
  rintro e w6 ⟨g6, c6, rfl, O6, hb6⟩
  have hzA := hKA.size
  have hK6 := hKA.andB hb6
  have PW := PB.below hK6
  have hO := O6.ge
  have hB6 := hbb.andB hK6
  have O9 := (O6.setOther (a := ⟨w.heap.size, 0, none⟩) (by simp; omega) (.int .i64 10)).setOther (a := ⟨w.heap.size, 1, none⟩) (by simp; omega) (.slice (some ⟨g6, 0, none⟩) SL.length c6)
  have P8 := PW.set2 (.int .i64 10) (.slice (some ⟨g6, 0, none⟩) SL.length c6)
  have hB8 := (hB6.setCell (p := ⟨w.heap.size, 0, none⟩) (Nat.le_refl _) (.int .i64 10)).setCell (p := ⟨w.heap.size, 1, none⟩) (Nat.le_refl _) (.slice (some ⟨g6, 0, none⟩) SL.length c6)
  obtain ⟨⟨sW, pW, qW⟩, fW, gW⟩ := PW
  clear O6 hb6 hKA hK6 HM
  go_wp2_with fail
  obtain ⟨w9, hw9⟩ : ∃ w9, w9 = ((w6.setCell ⟨w.heap.size, 0, none⟩ (.int .i64 10)).setCell ⟨w.heap.size, 1, none⟩ (.slice (some ⟨g6, 0, none⟩) SL.length c6)) := ⟨_, rfl⟩
  rw [← hw9] at O9 P8 hB8 ⊢
  clear hw9
  obtain ⟨⟨k0, k1, k2⟩, _, _⟩ := P8
  refine bodyPost_ret (v := .tuple #[.agg #[.int .i64 10, .slice (some ⟨g6, 0, none⟩) SL.length c6], .int .i64 0]) ?_ rfl ⟨_, c6, rfl, O9.any.mono (by omega), hB8⟩
  simp [results, Try.results43, go_sem, k1, k2]
set_option maxRecDepth 100000 in
set_option maxHeartbeats 2000000 in
theorem imN_none (s : ByteArray) (w : World) (h0 : s.toList ≠ [116, 104, 101, 116, 97]) (h1 : s.toList ≠ [107, 52]) (h2 : s.toList ≠ [107, 51, 51]) (h3 : s.toList ≠ [112, 114, 105, 115, 109]) (h4 : s.toList ≠ [99, 117, 98, 101]) (h5 : s.toList ≠ [112, 101, 116, 101, 114, 115, 101, 110]) (h6 : s.toList ≠ [116, 105, 101, 116, 122, 101]) (h7 : s.toList ≠ [102, 108, 111, 119, 101, 114, 53]) (h8 : s.toList ≠ [98, 114, 105, 100, 103, 101]) : Calls Try.prog 43 #[.string s] w (RetGC 0 [] 4 w) := by
  have e0 : (s.toList == [116, 104, 101, 116, 97]) = false := by simpa using h0
  have e1 : (s.toList == [107, 52]) = false := by simpa using h1
  have e2 : (s.toList == [107, 51, 51]) = false := by simpa using h2
  have e3 : (s.toList == [112, 114, 105, 115, 109]) = false := by simpa using h3
  have e4 : (s.toList == [99, 117, 98, 101]) = false := by simpa using h4
  have e5 : (s.toList == [112, 101, 116, 101, 114, 115, 101, 110]) = false := by simpa using h5
  have e6 : (s.toList == [116, 105, 101, 116, 122, 101]) = false := by simpa using h6
  have e7 : (s.toList == [102, 108, 111, 119, 101, 114, 53]) = false := by simpa using h7
  have e8 : (s.toList == [98, 114, 105, 100, 103, 101]) = false := by simpa using h8
  have PB := Box2F.made w (.int .i64 0) (.slice none 0 0) 30
  obtain ⟨w1, hw1⟩ : ∃ w1, w1 = w.alloc (.cells #[.int .i64 0, .slice none 0 0] 30) := ⟨_, rfl⟩
  have hbb : Below w.heap.size w w1 := by rw [hw1]; exact (Below.refl _ _).alloc (Nat.le_refl _) _
  rw [← hw1] at PB
  have HW : Hid (w.alloc (.cells #[.int .i64 0, .slice none 0 0] 30) = w1) := hw1.symm
  obtain ⟨⟨sW, pW, qW⟩, fW, gW⟩ := PB
  clear hw1 h0 h1 h2 h3 h4 h5 h6 h7 h8
  have hB8 := Lib.hid hbb
  have k1 := pW
  have k2 := qW
  rw [← HW.out] at pW qW fW gW sW
  go_enter Try.func43, Try.ntmps43
  go_wp2_with fail
  rw [HW.out]
  refine bodyPost_ret (v := .tuple #[.agg #[.int .i64 0, .slice none 0 0], .int .i64 4]) ?_ rfl ⟨none, 0, rfl, OwnEA.nil _ _, hB8.out⟩
  simp [results, Try.results43, go_sem, k1, k2]
set_option maxRecDepth 100000 in
set_option maxHeartbeats 2000000 in
theorem spNamed_any (s : ByteArray) (n : Int) (es : List (Int × Int)) (ok : Bool) (w : World) (HL : ∀ W, Calls Try.prog 82 #[.string s] W (RetGB n es ok W)) (h0 : ok = false → n = 0 ∧ es = []) : Calls Try.prog 42 #[.string s] w (RetGC n es (if ok then 0 else 4) w) := by
  have HL := Lib.hid HL
  have PB := Box2F.made w (.int .i64 0) (.slice none 0 0) 30
  obtain ⟨w1, hw1⟩ : ∃ w1, w1 = w.alloc (.cells #[.int .i64 0, .slice none 0 0] 30) := ⟨_, rfl⟩
  have hbb : Below w.heap.size w w1 := by rw [hw1]; exact (Below.refl _ _).alloc (Nat.le_refl _) _
  rw [← hw1] at PB
  have hz1 : w.heap.size < w1.heap.size := by rw [hw1]; simp
  have HW : Hid (w.alloc (.cells #[.int .i64 0, .slice none 0 0] 30) = w1) := hw1.symm
  have H0 := Lib.hid h0
  clear hw1 h0
  cases ok with
  | true =>
    rw [if_pos rfl]
    go_enter Try.func42, Try.ntmps42
    go_wp2_with fail
    rw [HW.out]
    refine (HL.out w1).mono ?_
    rintro e w2 ⟨A, c, rfl, O, hb2⟩
    obtain ⟨w3, hw3⟩ : ∃ w3, w3 = w2.alloc (.cells #[.int .i64 n, .slice A es.length c] 30) := ⟨_, rfl⟩
    have X3 := Box2.made w2 (.int .i64 n) (.slice A es.length c) 30
    have hb3 : Below w2.heap.size w2 w3 := by rw [hw3]; exact (Below.refl _ _).alloc (Nat.le_refl _) _
    rw [← hw3] at X3
    have O := O.below hb3
    have hK := hb2.andB hb3
    have PW := PB.below hK
    have hB6 := hbb.andB hK
    have hne : ∀ g, blkOf A = some g → g ≠ w.heap.size := fun g hg => by have := (O.blk g hg).1; omega
    have O9 := (O.setOther (a := ⟨w.heap.size, 0, none⟩) (fun hh => hne _ hh rfl) (.int .i64 n)).setOther (a := ⟨w.heap.size, 1, none⟩) (fun hh => hne _ hh rfl) (.slice A es.length c)
    have P8 := PW.set2 (.int .i64 n) (.slice A es.length c)
    have hB8 := (hB6.setCell (p := ⟨w.heap.size, 0, none⟩) (Nat.le_refl _) (.int .i64 n)).setCell (p := ⟨w.heap.size, 1, none⟩) (Nat.le_refl _) (.slice A es.length c)
    obtain ⟨⟨sW, pW, qW⟩, fW, gW⟩ := PW
    obtain ⟨s3, p3, q3⟩ := X3
    have HW3 := Lib.hid hw3
    rw [hw3] at pW qW fW gW sW p3 q3 s3
    clear O hb2 hb3 hK hne hB6 hw3
    go_wp2_with fail
    rw [← HW3.out]
    obtain ⟨w9, hw9⟩ : ∃ w9, w9 = ((w3.setCell ⟨w.heap.size, 0, none⟩ (.int .i64 n)).setCell ⟨w.heap.size, 1, none⟩ (.slice A es.length c)) := ⟨_, rfl⟩
    rw [← hw9] at O9 P8 hB8 ⊢
    clear hw9
    obtain ⟨⟨k0, k1, k2⟩, _, _⟩ := P8
    refine bodyPost_ret (v := .tuple #[.agg #[.int .i64 n, .slice A es.length c], .int .i64 0]) ?_ rfl ⟨_, c, rfl, O9.mono (by omega), hB8⟩
    simp [results, Try.results42, go_sem, k1, k2]
  | false =>
    obtain ⟨rfl, rfl⟩ := H0.out rfl
    rw [if_neg (by decide)]
    go_enter Try.func42, Try.ntmps42
    go_wp2_with fail
    rw [HW.out]
    refine (HL.out w1).mono ?_
    rintro e w2 ⟨A, c, rfl, O, hb2⟩
    have hb3 : Below w2.heap.size w2 (w2.alloc (.cells #[.int .i64 0, .slice A 0 c] 30)) := (Below.refl _ _).alloc (Nat.le_refl _) _
    obtain ⟨w3, hw3⟩ : ∃ w3, w3 = w2.alloc (.cells #[.int .i64 0, .slice A 0 c] 30) := ⟨_, rfl⟩
    rw [← hw3] at hb3
    have hK := hb2.andB hb3
    have PW := PB.below hK
    have hB6 := hbb.andB hK
    have P8 := PW.set2 (.int .i64 0) (.slice none 0 0)
    have hB8 := (hB6.setCell (p := ⟨w.heap.size, 0, none⟩) (Nat.le_refl _) (.int .i64 0)).setCell (p := ⟨w.heap.size, 1, none⟩) (Nat.le_refl _) (.slice none 0 0)
    obtain ⟨⟨sW, pW, qW⟩, fW, gW⟩ := PW
    have HW3 := Lib.hid hw3
    rw [hw3] at pW qW fW gW sW
    clear O hb2 hb3 hK hB6 hw3
    go_wp2_with fail
    rw [← HW3.out]
    generalize hw9 : (World.setCell (World.setCell _ ⟨w.heap.size, 0, none⟩ (.int .i64 0)) ⟨w.heap.size, 1, none⟩ (.slice none 0 0)) = w9 at P8 hB8 ⊢
    obtain ⟨⟨k0, k1, k2⟩, _, _⟩ := P8
    refine bodyPost_ret (v := .tuple #[.agg #[.int .i64 0, .slice none 0 0], .int .i64 4]) ?_ rfl ⟨none, 0, rfl, OwnEA.nil _ _, hB8⟩
    simp [results, Try.results42, go_sem, k1, k2]
theorem named_both (s : ByteArray) : ∃ n es k, es.length ≤ 1048576 ∧ (∀ w, Calls Try.prog 42 #[.string s] w (RetGC n es k w)) ∧ (∀ w, Calls Try.prog 43 #[.string s] w (RetGC n es k w)) := by
  have hlen : ∀ es : List (Int × Int), es.length ≤ 30 → (srtE es).length ≤ 1048576 := fun es h => by unfold srtE; rw [List.length_mergeSort, List.length_map]; omega
  by_cases h0 : s.toList = [116, 104, 101, 116, 97]
  · have e : srtE ([(0, 1), (0, 1), (0, 1)]) = srtE ([(0, 1), (0, 1), (0, 1)]) := srt_perm (by decide +kernel)
    exact ⟨2, srtE ([(0, 1), (0, 1), (0, 1)]), 0, hlen _ (by decide +kernel), fun w => spNamed_any s 2 (srtE ([(0, 1), (0, 1), (0, 1)])) true w (fun W => spN_theta s W h0) (fun h => by cases h), fun w => by rw [e]; exact imN_theta s w h0⟩
  by_cases h1 : s.toList = [107, 52]
  · have e : srtE ([(0, 1), (0, 2), (0, 3), (1, 2), (1, 3), (2, 3)]) = srtE (starL 0 [1, 2, 3] ++ cycL [1, 2, 3]) := srt_perm (by decide +kernel)
    exact ⟨4, srtE ([(0, 1), (0, 2), (0, 3), (1, 2), (1, 3), (2, 3)]), 0, hlen _ (by decide +kernel), fun w => spNamed_any s 4 (srtE ([(0, 1), (0, 2), (0, 3), (1, 2), (1, 3), (2, 3)])) true w (fun W => spN_k4 s W h1) (fun h => by cases h), fun w => by rw [e]; exact imN_k4 s w h1⟩
  by_cases h2 : s.toList = [107, 51, 51]
  · have e : srtE (stars33 3) = srtE (starL 0 [3, 4, 5] ++ (starL 1 [3, 4, 5] ++ starL 2 [3, 4, 5])) := srt_perm (by decide +kernel)
    exact ⟨6, srtE (stars33 3), 0, hlen _ (by decide +kernel), fun w => spNamed_any s 6 (srtE (stars33 3)) true w (fun W => spN_k33 s W h2) (fun h => by cases h), fun w => by rw [e]; exact imN_k33 s w h2⟩
  by_cases h3 : s.toList = [112, 114, 105, 115, 109]
  · have e : srtE (([] ++ cycL [0, 1, 2]) ++ cycL [3, 4, 5] ++ [(0, 3), (1, 4), (2, 5)]) = srtE (cycL [0, 1, 2] ++ (cycL [3, 4, 5] ++ [(0, 3), (1, 4), (2, 5)])) := srt_perm (by decide +kernel)
    exact ⟨6, srtE (([] ++ cycL [0, 1, 2]) ++ cycL [3, 4, 5] ++ [(0, 3), (1, 4), (2, 5)]), 0, hlen _ (by decide +kernel), fun w => spNamed_any s 6 (srtE (([] ++ cycL [0, 1, 2]) ++ cycL [3, 4, 5] ++ [(0, 3), (1, 4), (2, 5)])) true w (fun W => spN_prism s W h3) (fun h => by cases h), fun w => by rw [e]; exact imN_prism s w h3⟩
  by_cases h4 : s.toList = [99, 117, 98, 101]
  · have e : srtE (cubT 8) = srtE (cubT 8) := srt_perm (by decide +kernel)
    exact ⟨8, srtE (cubT 8), 0, hlen _ (by decide +kernel), fun w => spNamed_any s 8 (srtE (cubT 8)) true w (fun W => spN_cube s W h4) (fun h => by cases h), fun w => by rw [e]; exact imN_cube s w h4⟩
  by_cases h5 : s.toList = [112, 101, 116, 101, 114, 115, 101, 110]
  · have e : srtE (petT 5) = srtE (petT 5) := srt_perm (by decide +kernel)
    exact ⟨10, srtE (petT 5), 0, hlen _ (by decide +kernel), fun w => spNamed_any s 10 (srtE (petT 5)) true w (fun W => spN_petersen s W h5) (fun h => by cases h), fun w => by rw [e]; exact imN_petersen s w h5⟩
  by_cases h6 : s.toList = [116, 105, 101, 116, 122, 101]
  · have e : srtE (tie2 15 ++ cycL [0, 10, 11] ++ [(0, 1), (10, 4), (11, 5)]) = srtE (tieL) := srt_perm (by decide +kernel)
    exact ⟨12, srtE (tie2 15 ++ cycL [0, 10, 11] ++ [(0, 1), (10, 4), (11, 5)]), 0, hlen _ (by decide +kernel), fun w => spNamed_any s 12 (srtE (tie2 15 ++ cycL [0, 10, 11] ++ [(0, 1), (10, 4), (11, 5)])) true w (fun W => spN_tietze s W h6) (fun h => by cases h), fun w => by rw [e]; exact imN_tietze s w h6⟩
  by_cases h7 : s.toList = [102, 108, 111, 119, 101, 114, 53]
  · have e : srtE ((flo2 5 ++ cycL [5, 6, 7, 8, 9]) ++ cycL [10, 11, 12, 13, 14, 15, 16, 17, 18, 19]) = srtE (floT 5) := srt_perm (by decide +kernel)
    exact ⟨20, srtE ((flo2 5 ++ cycL [5, 6, 7, 8, 9]) ++ cycL [10, 11, 12, 13, 14, 15, 16, 17, 18, 19]), 0, hlen _ (by decide +kernel), fun w => spNamed_any s 20 (srtE ((flo2 5 ++ cycL [5, 6, 7, 8, 9]) ++ cycL [10, 11, 12, 13, 14, 15, 16, 17, 18, 19])) true w (fun W => spN_flower5 s W h7) (fun h => by cases h), fun w => by rw [e]; exact imN_flower5 s w h7⟩
  by_cases h8 : s.toList = [98, 114, 105, 100, 103, 101]
  · have e : srtE (bri2 2 ++ [(4, 9)]) = srtE (briT 2) := srt_perm (by decide +kernel)
    exact ⟨10, srtE (bri2 2 ++ [(4, 9)]), 0, hlen _ (by decide +kernel), fun w => spNamed_any s 10 (srtE (bri2 2 ++ [(4, 9)])) true w (fun W => spN_bridge s W h8) (fun h => by cases h), fun w => by rw [e]; exact imN_bridge s w h8⟩
  exact ⟨0, [], 4, by decide, fun w => spNamed_any s 0 [] false w (fun W => spN_none s W h0 h1 h2 h3 h4 h5 h6 h7 h8) (fun _ => ⟨rfl, rfl⟩), fun w => imN_none s w h0 h1 h2 h3 h4 h5 h6 h7 h8⟩
end Go.Proofs.Ytppfplhbfgjjhaa
