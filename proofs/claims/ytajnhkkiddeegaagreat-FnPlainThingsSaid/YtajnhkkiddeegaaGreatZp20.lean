import Derived.Test.YtajnhkkiddeegaaGreatZp19
set_option linter.unusedVariables false
set_option linter.unusedSimpArgs false
namespace Go.Proofs.YtajnhkkiddeegaaGreat
open Go.RowKit Go.Sort
/-- A graph and whether there is one. -/
def RetGB (n : Int) (es : List (Int × Int)) (ok : Bool) (w : World) (e : Ending) (w' : World) : Prop := ∃ A c, e = .returned (.tuple #[.agg #[.int .i64 n, .slice A es.length c], .bool ok]) ∧ OwnEA w.heap.size w' A es.length c es ∧ Below w.heap.size w w'
theorem OwnEA.some {base : Nat} {w : World} {A : Option Addr} {m c : Nat} {es : List (Int × Int)} (h : OwnEA base w A m c es) (hm : 0 < m) : ∃ g, A = some ⟨g, 0, none⟩ ∧ Eds w g 0 m es := by
  rcases h.cases with ⟨_, h0, _⟩ | ⟨g, e, O⟩
  · omega
  · exact ⟨g, e, O.eds⟩
def stars33 : Nat → List (Int × Int)
  | 0 => []
  | i + 1 => stars33 i ++ [((i : Int), 3), ((i : Int), 4), ((i : Int), 5)]
def flo2 : Nat → List (Int × Int)
  | 0 => []
  | i + 1 => flo2 i ++ [((i : Int), (i : Int) + 5), ((i : Int), (i : Int) + 10), ((i : Int), (i : Int) + 15)]
def bri2G (i : Int) : List (Int × Int) := [(i, i + 2), (i, i + 3), (i + 1, i + 2), (i + 1, i + 3), (i + 2, i + 3), (i, i + 4), (i + 1, i + 4)]
def bri2 : Nat → List (Int × Int)
  | 0 => []
  | j + 1 => bri2 j ++ bri2G (5 * (j : Int))
theorem stars33_len : ∀ i, (stars33 i).length = 3 * i := by
  intro i
  induction i with
  | zero => rfl
  | succ i ih => simp only [stars33, List.length_append, ih]; simp; omega
theorem flo2_len : ∀ i, (flo2 i).length = 3 * i := by
  intro i
  induction i with
  | zero => rfl
  | succ i ih => simp only [flo2, List.length_append, ih]; simp; omega
theorem bri2_len : ∀ i, (bri2 i).length = 7 * i := by
  intro i
  induction i with
  | zero => rfl
  | succ i ih => simp only [bri2, List.length_append, ih, bri2G]; simp; omega
set_option maxRecDepth 100000 in
set_option maxHeartbeats 2000000 in
theorem spN_theta (s : ByteArray) (w : World) (hs : s.toList = [116, 104, 101, 116, 97]) : Calls Tryz.prog 120 #[.string s] w (RetGB 2 (srtE ([(0, 1), (0, 1), (0, 1)])) true w) := by
  have e0 : (s.toList == [116, 104, 101, 116, 97]) = true := by rw [hs]; rfl
  obtain ⟨SL, hSL⟩ : ∃ SL, SL = srtE ([(0, 1), (0, 1), (0, 1)]) := ⟨_, rfl⟩
  have HM : Hid (∀ g c W, Eds W g 0 3 ([(0, 1), (0, 1), (0, 1)]) → Calls Tryz.prog 98 #[.int .i64 2, .slice (some ⟨g, 0, none⟩) 3 c] W (RetG 2 SL W)) := fun g c W E => by rw [hSL]; exact l01Made_any 2 g 0 3 c _ W E (by decide)
  rw [← hSL]
  have PB := Box2F.made w (.int .i64 0) (.slice none 0 0) 26
  obtain ⟨w1, hw1⟩ : ∃ w1, w1 = w.alloc (.cells #[.int .i64 0, .slice none 0 0] 26) := ⟨_, rfl⟩
  have hbb : Below w.heap.size w w1 := by rw [hw1]; exact (Below.refl _ _).alloc (Nat.le_refl _) _
  rw [← hw1] at PB
  have hz1 : w.heap.size + 1 = w1.heap.size := by rw [hw1]; simp
  have OE := (OwnE.empty w1.heap.size (w1.alloc (.cells #[] 78)) w1.heap.size (Nat.le_refl _) (heap_alloc_new w1 _)).any
  obtain ⟨w2, hw2⟩ : ∃ w2, w2 = w1.alloc (.cells #[] 78) := ⟨_, rfl⟩
  have hK2 : Below w1.heap.size w1 w2 := by rw [hw2]; exact (Below.refl _ _).alloc (Nat.le_refl _) _
  rw [← hw2] at OE
  have hz2 : w1.heap.size + 1 = w2.heap.size := by rw [hw2]; simp
  have HW : Hid ((w.alloc (.cells #[.int .i64 0, .slice none 0 0] 26)).alloc (.cells #[] 78) = w2 ∧ w.heap.size + 1 = w1.heap.size ∧ w1.heap.size + 1 = w2.heap.size) := ⟨by rw [hw2, hw1], hz1, hz2⟩
  have hzz : w.heap.size < w1.heap.size ∧ w1.heap.size < w2.heap.size := by omega
  clear hs hw1 hw2 hz1 hz2 hSL
  go_enter Tryz.func120, Tryz.ntmps120
  go_wp2_with fail
  rw [HW.out.1, HW.out.2.1]
  have hKA : Below w1.heap.size w1 (w2.alloc (.cells #[.int .i64 0, .int .i64 1, .int .i64 0, .int .i64 1, .int .i64 0, .int .i64 1] 78)) := hK2.andB ((Below.refl _ _).alloc (Nat.le_refl _) _)
  rw [HW.out.2.2]
  refine (HM.out _ _ _ (eds_lit (cs := #[.int .i64 0, .int .i64 1, .int .i64 0, .int .i64 1, .int .i64 0, .int .i64 1]) (ys := [(0, 1), (0, 1), (0, 1)]) rfl)).mono ?_
  rintro e w6 ⟨g6, c6, rfl, O6, hb6⟩
  have hzA := hKA.size
  have hK6 := hKA.andB hb6
  have PW := PB.below hK6
  have hO := O6.ge
  have hB6 := hbb.andB hK6
  have O9 := (O6.setOther (a := ⟨w.heap.size, 0, none⟩) (by simp; omega) (.int .i64 2)).setOther (a := ⟨w.heap.size, 1, none⟩) (by simp; omega) (.slice (some ⟨g6, 0, none⟩) SL.length c6)
  have P8 := PW.set2 (.int .i64 2) (.slice (some ⟨g6, 0, none⟩) SL.length c6)
  have hB8 := (hB6.setCell (p := ⟨w.heap.size, 0, none⟩) (Nat.le_refl _) (.int .i64 2)).setCell (p := ⟨w.heap.size, 1, none⟩) (Nat.le_refl _) (.slice (some ⟨g6, 0, none⟩) SL.length c6)
  obtain ⟨⟨sW, pW, qW⟩, fW, gW⟩ := PW
  clear O6 hb6 hKA hK6 HM
  go_wp2_with fail
  obtain ⟨w9, hw9⟩ : ∃ w9, w9 = ((w6.setCell ⟨w.heap.size, 0, none⟩ (.int .i64 2)).setCell ⟨w.heap.size, 1, none⟩ (.slice (some ⟨g6, 0, none⟩) SL.length c6)) := ⟨_, rfl⟩
  rw [← hw9] at O9 P8 hB8 ⊢
  clear hw9
  obtain ⟨⟨k0, k1, k2⟩, _, _⟩ := P8
  refine bodyPost_ret (v := .tuple #[.agg #[.int .i64 2, .slice (some ⟨g6, 0, none⟩) SL.length c6], .bool true]) ?_ rfl ⟨_, c6, rfl, O9.any.mono (by omega), hB8⟩
  simp [results, Tryz.results120, go_sem, k1, k2]
set_option maxRecDepth 100000 in
set_option maxHeartbeats 2000000 in
theorem spN_k4 (s : ByteArray) (w : World) (hs : s.toList = [107, 52]) : Calls Tryz.prog 120 #[.string s] w (RetGB 4 (srtE ([(0, 1), (0, 2), (0, 3), (1, 2), (1, 3), (2, 3)])) true w) := by
  have e0 : (s.toList == [116, 104, 101, 116, 97]) = false := by rw [hs]; rfl
  have e1 : (s.toList == [107, 52]) = true := by rw [hs]; rfl
  obtain ⟨SL, hSL⟩ : ∃ SL, SL = srtE ([(0, 1), (0, 2), (0, 3), (1, 2), (1, 3), (2, 3)]) := ⟨_, rfl⟩
  have HM : Hid (∀ g c W, Eds W g 0 6 ([(0, 1), (0, 2), (0, 3), (1, 2), (1, 3), (2, 3)]) → Calls Tryz.prog 98 #[.int .i64 4, .slice (some ⟨g, 0, none⟩) 6 c] W (RetG 4 SL W)) := fun g c W E => by rw [hSL]; exact l01Made_any 4 g 0 6 c _ W E (by decide)
  rw [← hSL]
  have PB := Box2F.made w (.int .i64 0) (.slice none 0 0) 26
  obtain ⟨w1, hw1⟩ : ∃ w1, w1 = w.alloc (.cells #[.int .i64 0, .slice none 0 0] 26) := ⟨_, rfl⟩
  have hbb : Below w.heap.size w w1 := by rw [hw1]; exact (Below.refl _ _).alloc (Nat.le_refl _) _
  rw [← hw1] at PB
  have hz1 : w.heap.size + 1 = w1.heap.size := by rw [hw1]; simp
  have OE := (OwnE.empty w1.heap.size (w1.alloc (.cells #[] 78)) w1.heap.size (Nat.le_refl _) (heap_alloc_new w1 _)).any
  obtain ⟨w2, hw2⟩ : ∃ w2, w2 = w1.alloc (.cells #[] 78) := ⟨_, rfl⟩
  have hK2 : Below w1.heap.size w1 w2 := by rw [hw2]; exact (Below.refl _ _).alloc (Nat.le_refl _) _
  rw [← hw2] at OE
  have hz2 : w1.heap.size + 1 = w2.heap.size := by rw [hw2]; simp
  have HW : Hid ((w.alloc (.cells #[.int .i64 0, .slice none 0 0] 26)).alloc (.cells #[] 78) = w2 ∧ w.heap.size + 1 = w1.heap.size ∧ w1.heap.size + 1 = w2.heap.size) := ⟨by rw [hw2, hw1], hz1, hz2⟩
  have hzz : w.heap.size < w1.heap.size ∧ w1.heap.size < w2.heap.size := by omega
  clear hs hw1 hw2 hz1 hz2 hSL
  go_enter Tryz.func120, Tryz.ntmps120
  go_wp2_with fail
  rw [HW.out.1, HW.out.2.1]
  have hKA : Below w1.heap.size w1 (w2.alloc (.cells #[.int .i64 0, .int .i64 1, .int .i64 0, .int .i64 2, .int .i64 0, .int .i64 3, .int .i64 1, .int .i64 2, .int .i64 1, .int .i64 3, .int .i64 2, .int .i64 3] 78)) := hK2.andB ((Below.refl _ _).alloc (Nat.le_refl _) _)
  rw [HW.out.2.2]
  refine (HM.out _ _ _ (eds_lit (cs := #[.int .i64 0, .int .i64 1, .int .i64 0, .int .i64 2, .int .i64 0, .int .i64 3, .int .i64 1, .int .i64 2, .int .i64 1, .int .i64 3, .int .i64 2, .int .i64 3]) (ys := [(0, 1), (0, 2), (0, 3), (1, 2), (1, 3), (2, 3)]) rfl)).mono ?_
  rintro e w6 ⟨g6, c6, rfl, O6, hb6⟩
  have hzA := hKA.size
  have hK6 := hKA.andB hb6
  have PW := PB.below hK6
  have hO := O6.ge
  have hB6 := hbb.andB hK6
  have O9 := (O6.setOther (a := ⟨w.heap.size, 0, none⟩) (by simp; omega) (.int .i64 4)).setOther (a := ⟨w.heap.size, 1, none⟩) (by simp; omega) (.slice (some ⟨g6, 0, none⟩) SL.length c6)
  have P8 := PW.set2 (.int .i64 4) (.slice (some ⟨g6, 0, none⟩) SL.length c6)
  have hB8 := (hB6.setCell (p := ⟨w.heap.size, 0, none⟩) (Nat.le_refl _) (.int .i64 4)).setCell (p := ⟨w.heap.size, 1, none⟩) (Nat.le_refl _) (.slice (some ⟨g6, 0, none⟩) SL.length c6)
  obtain ⟨⟨sW, pW, qW⟩, fW, gW⟩ := PW
  clear O6 hb6 hKA hK6 HM
  go_wp2_with fail
  obtain ⟨w9, hw9⟩ : ∃ w9, w9 = ((w6.setCell ⟨w.heap.size, 0, none⟩ (.int .i64 4)).setCell ⟨w.heap.size, 1, none⟩ (.slice (some ⟨g6, 0, none⟩) SL.length c6)) := ⟨_, rfl⟩
  rw [← hw9] at O9 P8 hB8 ⊢
  clear hw9
  obtain ⟨⟨k0, k1, k2⟩, _, _⟩ := P8
  refine bodyPost_ret (v := .tuple #[.agg #[.int .i64 4, .slice (some ⟨g6, 0, none⟩) SL.length c6], .bool true]) ?_ rfl ⟨_, c6, rfl, O9.any.mono (by omega), hB8⟩
  simp [results, Tryz.results120, go_sem, k1, k2]
set_option maxRecDepth 100000 in
set_option maxHeartbeats 2000000 in
theorem spN_k33 (s : ByteArray) (w : World) (hs : s.toList = [107, 51, 51]) : Calls Tryz.prog 120 #[.string s] w (RetGB 6 (srtE (stars33 3)) true w) := by
  have e0 : (s.toList == [116, 104, 101, 116, 97]) = false := by rw [hs]; rfl
  have e1 : (s.toList == [107, 52]) = false := by rw [hs]; rfl
  have e2 : (s.toList == [107, 51, 51]) = true := by rw [hs]; rfl
  obtain ⟨SL, hSL⟩ : ∃ SL, SL = srtE (stars33 3) := ⟨_, rfl⟩
  have HM : Hid (∀ g c W, Eds W g 0 9 (stars33 3) → Calls Tryz.prog 98 #[.int .i64 6, .slice (some ⟨g, 0, none⟩) 9 c] W (RetG 6 SL W)) := fun g c W E => by rw [hSL]; exact l01Made_any 6 g 0 9 c _ W E (by decide)
  rw [← hSL]
  have PB := Box2F.made w (.int .i64 0) (.slice none 0 0) 26
  obtain ⟨w1, hw1⟩ : ∃ w1, w1 = w.alloc (.cells #[.int .i64 0, .slice none 0 0] 26) := ⟨_, rfl⟩
  have hbb : Below w.heap.size w w1 := by rw [hw1]; exact (Below.refl _ _).alloc (Nat.le_refl _) _
  rw [← hw1] at PB
  have hz1 : w.heap.size + 1 = w1.heap.size := by rw [hw1]; simp
  have OE := (OwnE.empty w1.heap.size (w1.alloc (.cells #[] 78)) w1.heap.size (Nat.le_refl _) (heap_alloc_new w1 _)).any
  obtain ⟨w2, hw2⟩ : ∃ w2, w2 = w1.alloc (.cells #[] 78) := ⟨_, rfl⟩
  have hK2 : Below w1.heap.size w1 w2 := by rw [hw2]; exact (Below.refl _ _).alloc (Nat.le_refl _) _
  rw [← hw2] at OE
  have hz2 : w1.heap.size + 1 = w2.heap.size := by rw [hw2]; simp
  have HW : Hid ((w.alloc (.cells #[.int .i64 0, .slice none 0 0] 26)).alloc (.cells #[] 78) = w2 ∧ w.heap.size + 1 = w1.heap.size ∧ w1.heap.size + 1 = w2.heap.size) := ⟨by rw [hw2, hw1], hz1, hz2⟩
  have hzz : w.heap.size < w1.heap.size ∧ w1.heap.size < w2.heap.size := by omega
  clear hs hw1 hw2 hz1 hz2 hSL
  go_enter Tryz.func120, Tryz.ntmps120
  go_wp2_with fail
  rw [HW.out.1, HW.out.2.1]
  go_loopw [4, 5] (fun lv iv wv => ∃ (i : Nat) (A : Option Addr) (c' : Nat), i ≤ 3 ∧ iv = .int .i64 i ∧ lv = .slice A (stars33 i).length c' ∧ OwnEA w1.heap.size wv A (stars33 i).length c' (stars33 i) ∧ Below w1.heap.size w1 wv) (fun _ i _ => 30 - (intOf i).toNat)
  case atStart => exact ⟨0, _, _, by omega, rfl, rfl, OE, hK2⟩
  case round =>
    clear OE hK2
    obtain ⟨i, A, c', hi, rfl, rfl, O, hKA⟩ := hrel
    obtain ⟨wA, rfl⟩ : ∃ wA, wA = wr := ⟨wr, rfl⟩
    by_cases hlt : i < 3
    · have hsz := hKA.size
      have hL2 : Hid ((stars33 (i + 1)).length = (stars33 i).length + 3) := by show _ = _; rw [stars33_len, stars33_len]; omega
      have hl := stars33_len i
      obtain ⟨x, hx⟩ : ∃ x, x = (stars33 i).length := ⟨_, rfl⟩
      rw [← hx] at hL2 O hl ⊢
      have hx30 : x ≤ 30 := by omega
      have wr1 : IntKind.i64.wrap ((i : Int) + 1) = (i : Int) + 1 := IntWalk.i64_in _ (by omega)
      clear hx hl
      go_wp2_with (at_builtin; (refine wp_appB ([((i : Int), 3), ((i : Int), 4), ((i : Int), 5)]) rfl rfl rfl rfl (by simp) rfl rfl (by show 0 < 3; decide) (by show 3 ≤ 1048576; decide) O (by omega) (by omega) ?_; intro A2 c2 wB O2 hg2))
      have hbF := O.grown hKA (Nat.le_refl _) hg2 hsz
      go_roundw
      case rel => exact ⟨i + 1, A2, c2, by omega, by go_num, (by first | (rw [hL2.out]; rfl) | rw [hL2.out]), by rw [hL2.out]; exact O2, hbF⟩
      case measure => simp [intOf]; omega
    · obtain rfl : i = 3 := by omega
      obtain ⟨gA, rfl, EA⟩ := O.some (by decide)
      clear O
      go_wp2_with fail
      refine (HM.out _ _ _ EA).mono ?_
      rintro e w6 ⟨g6, c6, rfl, O6, hb6⟩
      have hzA := hKA.size
      have hK6 := hKA.andB hb6
      have PW := PB.below hK6
      have hO := O6.ge
      have hB6 := hbb.andB hK6
      have O9 := (O6.setOther (a := ⟨w.heap.size, 0, none⟩) (by simp; omega) (.int .i64 6)).setOther (a := ⟨w.heap.size, 1, none⟩) (by simp; omega) (.slice (some ⟨g6, 0, none⟩) SL.length c6)
      have P8 := PW.set2 (.int .i64 6) (.slice (some ⟨g6, 0, none⟩) SL.length c6)
      have hB8 := (hB6.setCell (p := ⟨w.heap.size, 0, none⟩) (Nat.le_refl _) (.int .i64 6)).setCell (p := ⟨w.heap.size, 1, none⟩) (Nat.le_refl _) (.slice (some ⟨g6, 0, none⟩) SL.length c6)
      obtain ⟨⟨sW, pW, qW⟩, fW, gW⟩ := PW
      clear O6 hb6 hKA hK6 HM
      go_wp2_with fail
      obtain ⟨w9, hw9⟩ : ∃ w9, w9 = ((w6.setCell ⟨w.heap.size, 0, none⟩ (.int .i64 6)).setCell ⟨w.heap.size, 1, none⟩ (.slice (some ⟨g6, 0, none⟩) SL.length c6)) := ⟨_, rfl⟩
      rw [← hw9] at O9 P8 hB8 ⊢
      clear hw9
      obtain ⟨⟨k0, k1, k2⟩, _, _⟩ := P8
      refine bodyPost_ret (v := .tuple #[.agg #[.int .i64 6, .slice (some ⟨g6, 0, none⟩) SL.length c6], .bool true]) ?_ rfl ⟨_, c6, rfl, O9.any.mono (by omega), hB8⟩
      simp [results, Tryz.results120, go_sem, k1, k2]
set_option maxRecDepth 100000 in
set_option maxHeartbeats 2000000 in
theorem spN_petersen (s : ByteArray) (w : World) (hs : s.toList = [112, 101, 116, 101, 114, 115, 101, 110]) : Calls Tryz.prog 120 #[.string s] w (RetGB 10 (srtE (petT 5)) true w) := by
  have e0 : (s.toList == [116, 104, 101, 116, 97]) = false := by rw [hs]; rfl
  have e1 : (s.toList == [107, 52]) = false := by rw [hs]; rfl
  have e2 : (s.toList == [107, 51, 51]) = false := by rw [hs]; rfl
  have e3 : (s.toList == [112, 114, 105, 115, 109]) = false := by rw [hs]; rfl
  have e4 : (s.toList == [99, 117, 98, 101]) = false := by rw [hs]; rfl
  have e5 : (s.toList == [112, 101, 116, 101, 114, 115, 101, 110]) = true := by rw [hs]; rfl
  obtain ⟨SL, hSL⟩ : ∃ SL, SL = srtE (petT 5) := ⟨_, rfl⟩
  have HM : Hid (∀ g c W, Eds W g 0 15 (petT 5) → Calls Tryz.prog 98 #[.int .i64 10, .slice (some ⟨g, 0, none⟩) 15 c] W (RetG 10 SL W)) := fun g c W E => by rw [hSL]; exact l01Made_any 10 g 0 15 c _ W E (by decide)
  rw [← hSL]
  have PB := Box2F.made w (.int .i64 0) (.slice none 0 0) 26
  obtain ⟨w1, hw1⟩ : ∃ w1, w1 = w.alloc (.cells #[.int .i64 0, .slice none 0 0] 26) := ⟨_, rfl⟩
  have hbb : Below w.heap.size w w1 := by rw [hw1]; exact (Below.refl _ _).alloc (Nat.le_refl _) _
  rw [← hw1] at PB
  have hz1 : w.heap.size + 1 = w1.heap.size := by rw [hw1]; simp
  have OE := (OwnE.empty w1.heap.size (w1.alloc (.cells #[] 78)) w1.heap.size (Nat.le_refl _) (heap_alloc_new w1 _)).any
  obtain ⟨w2, hw2⟩ : ∃ w2, w2 = w1.alloc (.cells #[] 78) := ⟨_, rfl⟩
  have hK2 : Below w1.heap.size w1 w2 := by rw [hw2]; exact (Below.refl _ _).alloc (Nat.le_refl _) _
  rw [← hw2] at OE
  have hz2 : w1.heap.size + 1 = w2.heap.size := by rw [hw2]; simp
  have HW : Hid ((w.alloc (.cells #[.int .i64 0, .slice none 0 0] 26)).alloc (.cells #[] 78) = w2 ∧ w.heap.size + 1 = w1.heap.size ∧ w1.heap.size + 1 = w2.heap.size) := ⟨by rw [hw2, hw1], hz1, hz2⟩
  have hzz : w.heap.size < w1.heap.size ∧ w1.heap.size < w2.heap.size := by omega
  clear hs hw1 hw2 hz1 hz2 hSL
  go_enter Tryz.func120, Tryz.ntmps120
  go_wp2_with fail
  rw [HW.out.1, HW.out.2.1]
  go_loopw [4, 8] (fun lv iv wv => ∃ (i : Nat) (A : Option Addr) (c' : Nat), i ≤ 5 ∧ iv = .int .i64 i ∧ lv = .slice A (petT i).length c' ∧ OwnEA w1.heap.size wv A (petT i).length c' (petT i) ∧ Below w1.heap.size w1 wv) (fun _ i _ => 30 - (intOf i).toNat)
  case atStart => exact ⟨0, _, _, by omega, rfl, rfl, OE, hK2⟩
  case round =>
    clear OE hK2
    obtain ⟨i, A, c', hi, rfl, rfl, O, hKA⟩ := hrel
    obtain ⟨wA, rfl⟩ : ∃ wA, wA = wr := ⟨wr, rfl⟩
    by_cases hlt : i < 5
    · have hsz := hKA.size
      have hL2 : Hid ((petT (i + 1)).length = (petT i).length + 3) := by show _ = _; rw [petT_len, petT_len]; omega
      have hl := petT_len i
      obtain ⟨x, hx⟩ : ∃ x, x = (petT i).length := ⟨_, rfl⟩
      rw [← hx] at hL2 O hl ⊢
      have hx30 : x ≤ 30 := by omega
      have wr1 : IntKind.i64.wrap ((i : Int) + 1) = (i : Int) + 1 := IntWalk.i64_in _ (by omega)
      have wr2 : IntKind.i64.wrap ((i : Int) + 2) = (i : Int) + 2 := IntWalk.i64_in _ (by omega)
      have wr5 : IntKind.i64.wrap ((i : Int) + 5) = (i : Int) + 5 := IntWalk.i64_in _ (by omega)
      clear hx hl
      go_wp2_with (at_builtin; (refine wp_appB (petG i) rfl rfl rfl rfl (by simp) rfl rfl (by show 0 < 3; decide) (by show 3 ≤ 1048576; decide) O (by omega) (by omega) ?_; intro A2 c2 wB O2 hg2))
      have hbF := O.grown hKA (Nat.le_refl _) hg2 hsz
      go_roundw
      case rel => exact ⟨i + 1, A2, c2, by omega, by go_num, (by first | (rw [hL2.out]; rfl) | rw [hL2.out]), by rw [hL2.out]; exact O2, hbF⟩
      case measure => simp [intOf]; omega
    · obtain rfl : i = 5 := by omega
      obtain ⟨gA, rfl, EA⟩ := O.some (by decide)
      clear O
      go_wp2_with fail
      refine (HM.out _ _ _ EA).mono ?_
      rintro e w6 ⟨g6, c6, rfl, O6, hb6⟩
      have hzA := hKA.size
      have hK6 := hKA.andB hb6
      have PW := PB.below hK6
      have hO := O6.ge
      have hB6 := hbb.andB hK6
      have O9 := (O6.setOther (a := ⟨w.heap.size, 0, none⟩) (by simp; omega) (.int .i64 10)).setOther (a := ⟨w.heap.size, 1, none⟩) (by simp; omega) (.slice (some ⟨g6, 0, none⟩) SL.length c6)
      have P8 := PW.set2 (.int .i64 10) (.slice (some ⟨g6, 0, none⟩) SL.length c6)
      have hB8 := (hB6.setCell (p := ⟨w.heap.size, 0, none⟩) (Nat.le_refl _) (.int .i64 10)).setCell (p := ⟨w.heap.size, 1, none⟩) (Nat.le_refl _) (.slice (some ⟨g6, 0, none⟩) SL.length c6)
      obtain ⟨⟨sW, pW, qW⟩, fW, gW⟩ := PW
      clear O6 hb6 hKA hK6 HM
      go_wp2_with fail
      obtain ⟨w9, hw9⟩ : ∃ w9, w9 = ((w6.setCell ⟨w.heap.size, 0, none⟩ (.int .i64 10)).setCell ⟨w.heap.size, 1, none⟩ (.slice (some ⟨g6, 0, none⟩) SL.length c6)) := ⟨_, rfl⟩
      rw [← hw9] at O9 P8 hB8 ⊢
      clear hw9
      obtain ⟨⟨k0, k1, k2⟩, _, _⟩ := P8
      refine bodyPost_ret (v := .tuple #[.agg #[.int .i64 10, .slice (some ⟨g6, 0, none⟩) SL.length c6], .bool true]) ?_ rfl ⟨_, c6, rfl, O9.any.mono (by omega), hB8⟩
      simp [results, Tryz.results120, go_sem, k1, k2]
set_option maxRecDepth 100000 in
set_option maxHeartbeats 2000000 in
theorem spN_flower5 (s : ByteArray) (w : World) (hs : s.toList = [102, 108, 111, 119, 101, 114, 53]) : Calls Tryz.prog 120 #[.string s] w (RetGB 20 (srtE ((flo2 5 ++ cycL [5, 6, 7, 8, 9]) ++ cycL [10, 11, 12, 13, 14, 15, 16, 17, 18, 19])) true w) := by
  have e0 : (s.toList == [116, 104, 101, 116, 97]) = false := by rw [hs]; rfl
  have e1 : (s.toList == [107, 52]) = false := by rw [hs]; rfl
  have e2 : (s.toList == [107, 51, 51]) = false := by rw [hs]; rfl
  have e3 : (s.toList == [112, 114, 105, 115, 109]) = false := by rw [hs]; rfl
  have e4 : (s.toList == [99, 117, 98, 101]) = false := by rw [hs]; rfl
  have e5 : (s.toList == [112, 101, 116, 101, 114, 115, 101, 110]) = false := by rw [hs]; rfl
  have e6 : (s.toList == [116, 105, 101, 116, 122, 101]) = false := by rw [hs]; rfl
  have e7 : (s.toList == [102, 108, 111, 119, 101, 114, 53]) = true := by rw [hs]; rfl
  obtain ⟨SL, hSL⟩ : ∃ SL, SL = srtE ((flo2 5 ++ cycL [5, 6, 7, 8, 9]) ++ cycL [10, 11, 12, 13, 14, 15, 16, 17, 18, 19]) := ⟨_, rfl⟩
  have HM : Hid (∀ g c W, Eds W g 0 30 ((flo2 5 ++ cycL [5, 6, 7, 8, 9]) ++ cycL [10, 11, 12, 13, 14, 15, 16, 17, 18, 19]) → Calls Tryz.prog 98 #[.int .i64 20, .slice (some ⟨g, 0, none⟩) 30 c] W (RetG 20 SL W)) := fun g c W E => by rw [hSL]; exact l01Made_any 20 g 0 30 c _ W E (by decide)
  rw [← hSL]
  have PB := Box2F.made w (.int .i64 0) (.slice none 0 0) 26
  obtain ⟨w1, hw1⟩ : ∃ w1, w1 = w.alloc (.cells #[.int .i64 0, .slice none 0 0] 26) := ⟨_, rfl⟩
  have hbb : Below w.heap.size w w1 := by rw [hw1]; exact (Below.refl _ _).alloc (Nat.le_refl _) _
  rw [← hw1] at PB
  have hz1 : w.heap.size + 1 = w1.heap.size := by rw [hw1]; simp
  have OE := (OwnE.empty w1.heap.size (w1.alloc (.cells #[] 78)) w1.heap.size (Nat.le_refl _) (heap_alloc_new w1 _)).any
  obtain ⟨w2, hw2⟩ : ∃ w2, w2 = w1.alloc (.cells #[] 78) := ⟨_, rfl⟩
  have hK2 : Below w1.heap.size w1 w2 := by rw [hw2]; exact (Below.refl _ _).alloc (Nat.le_refl _) _
  rw [← hw2] at OE
  have hz2 : w1.heap.size + 1 = w2.heap.size := by rw [hw2]; simp
  have HW : Hid ((w.alloc (.cells #[.int .i64 0, .slice none 0 0] 26)).alloc (.cells #[] 78) = w2 ∧ w.heap.size + 1 = w1.heap.size ∧ w1.heap.size + 1 = w2.heap.size) := ⟨by rw [hw2, hw1], hz1, hz2⟩
  have hzz : w.heap.size < w1.heap.size ∧ w1.heap.size < w2.heap.size := by omega
  clear hs hw1 hw2 hz1 hz2 hSL
  go_enter Tryz.func120, Tryz.ntmps120
  go_wp2_with fail
  rw [HW.out.1, HW.out.2.1]
  go_loopw [4, 12] (fun lv iv wv => ∃ (i : Nat) (A : Option Addr) (c' : Nat), i ≤ 5 ∧ iv = .int .i64 i ∧ lv = .slice A (flo2 i).length c' ∧ OwnEA w1.heap.size wv A (flo2 i).length c' (flo2 i) ∧ Below w1.heap.size w1 wv) (fun _ i _ => 30 - (intOf i).toNat)
  case atStart => exact ⟨0, _, _, by omega, rfl, rfl, OE, hK2⟩
  case round =>
    clear OE hK2
    obtain ⟨i, A, c', hi, rfl, rfl, O, hKA⟩ := hrel
    obtain ⟨wA, rfl⟩ : ∃ wA, wA = wr := ⟨wr, rfl⟩
    by_cases hlt : i < 5
    · have hsz := hKA.size
      have hL2 : Hid ((flo2 (i + 1)).length = (flo2 i).length + 3) := by show _ = _; rw [flo2_len, flo2_len]; omega
      have hl := flo2_len i
      obtain ⟨x, hx⟩ : ∃ x, x = (flo2 i).length := ⟨_, rfl⟩
      rw [← hx] at hL2 O hl ⊢
      have hx30 : x ≤ 30 := by omega
      have wr1 : IntKind.i64.wrap ((i : Int) + 1) = (i : Int) + 1 := IntWalk.i64_in _ (by omega)
      have wr5 : IntKind.i64.wrap ((i : Int) + 5) = (i : Int) + 5 := IntWalk.i64_in _ (by omega)
      have wr10 : IntKind.i64.wrap ((i : Int) + 10) = (i : Int) + 10 := IntWalk.i64_in _ (by omega)
      have wr15 : IntKind.i64.wrap ((i : Int) + 15) = (i : Int) + 15 := IntWalk.i64_in _ (by omega)
      clear hx hl
      go_wp2_with (at_builtin; (refine wp_appB ([((i : Int), (i : Int) + 5), ((i : Int), (i : Int) + 10), ((i : Int), (i : Int) + 15)]) rfl rfl rfl rfl (by simp) rfl rfl (by show 0 < 3; decide) (by show 3 ≤ 1048576; decide) O (by omega) (by omega) ?_; intro A2 c2 wB O2 hg2))
      have hbF := O.grown hKA (Nat.le_refl _) hg2 hsz
      go_roundw
      case rel => exact ⟨i + 1, A2, c2, by omega, by go_num, (by first | (rw [hL2.out]; rfl) | rw [hL2.out]), by rw [hL2.out]; exact O2, hbF⟩
      case measure => simp [intOf]; omega
    · obtain rfl : i = 5 := by omega
      rw [show (flo2 5).length = 15 from rfl] at O ⊢
      go_wp2_with fail
      refine (l01Cycle_any (cs := #[.int .i64 5, .int .i64 6, .int .i64 7, .int .i64 8, .int .i64 9]) [5, 6, 7, 8, 9] _ (O.below ((Below.refl _ _).alloc (Nat.le_refl _) _)) (by have := hKA.size; simp; omega) (heap_alloc_new _ _) rfl rfl (by decide) (by decide)).mono ?_
      rintro e w5 ⟨A5, c5, rfl, O5, hb5⟩
      have hKA := hKA.trans (((Below.refl _ _).alloc (by exact hKA.size) _).trans hb5)
      have O := O5
      clear O5 hb5
      go_wp2_with fail
      refine (l01Cycle_any (cs := #[.int .i64 10, .int .i64 11, .int .i64 12, .int .i64 13, .int .i64 14, .int .i64 15, .int .i64 16, .int .i64 17, .int .i64 18, .int .i64 19]) [10, 11, 12, 13, 14, 15, 16, 17, 18, 19] _ (O.below ((Below.refl _ _).alloc (Nat.le_refl _) _)) (by have := hKA.size; simp; omega) (heap_alloc_new _ _) rfl rfl (by decide) (by decide)).mono ?_
      rintro e w7 ⟨A7, c7, rfl, O7, hb7⟩
      have hKA := hKA.trans (((Below.refl _ _).alloc (by exact hKA.size) _).trans hb7)
      have O := O7
      clear O7 hb7
      obtain ⟨gA, rfl, EA⟩ := O.some (by decide)
      clear O
      go_wp2_with fail
      refine (HM.out _ _ _ EA).mono ?_
      rintro e w6 ⟨g6, c6, rfl, O6, hb6⟩
      have hzA := hKA.size
      have hK6 := hKA.andB hb6
      have PW := PB.below hK6
      have hO := O6.ge
      have hB6 := hbb.andB hK6
      have O9 := (O6.setOther (a := ⟨w.heap.size, 0, none⟩) (by simp; omega) (.int .i64 20)).setOther (a := ⟨w.heap.size, 1, none⟩) (by simp; omega) (.slice (some ⟨g6, 0, none⟩) SL.length c6)
      have P8 := PW.set2 (.int .i64 20) (.slice (some ⟨g6, 0, none⟩) SL.length c6)
      have hB8 := (hB6.setCell (p := ⟨w.heap.size, 0, none⟩) (Nat.le_refl _) (.int .i64 20)).setCell (p := ⟨w.heap.size, 1, none⟩) (Nat.le_refl _) (.slice (some ⟨g6, 0, none⟩) SL.length c6)
      obtain ⟨⟨sW, pW, qW⟩, fW, gW⟩ := PW
      clear O6 hb6 hKA hK6 HM
      go_wp2_with fail
      obtain ⟨w9, hw9⟩ : ∃ w9, w9 = ((w6.setCell ⟨w.heap.size, 0, none⟩ (.int .i64 20)).setCell ⟨w.heap.size, 1, none⟩ (.slice (some ⟨g6, 0, none⟩) SL.length c6)) := ⟨_, rfl⟩
      rw [← hw9] at O9 P8 hB8 ⊢
      clear hw9
      obtain ⟨⟨k0, k1, k2⟩, _, _⟩ := P8
      refine bodyPost_ret (v := .tuple #[.agg #[.int .i64 20, .slice (some ⟨g6, 0, none⟩) SL.length c6], .bool true]) ?_ rfl ⟨_, c6, rfl, O9.any.mono (by omega), hB8⟩
      simp [results, Tryz.results120, go_sem, k1, k2]
set_option maxRecDepth 100000 in
set_option maxHeartbeats 2000000 in
theorem spN_bridge (s : ByteArray) (w : World) (hs : s.toList = [98, 114, 105, 100, 103, 101]) : Calls Tryz.prog 120 #[.string s] w (RetGB 10 (srtE (bri2 2 ++ [(4, 9)])) true w) := by
  have e0 : (s.toList == [116, 104, 101, 116, 97]) = false := by rw [hs]; rfl
  have e1 : (s.toList == [107, 52]) = false := by rw [hs]; rfl
  have e2 : (s.toList == [107, 51, 51]) = false := by rw [hs]; rfl
  have e3 : (s.toList == [112, 114, 105, 115, 109]) = false := by rw [hs]; rfl
  have e4 : (s.toList == [99, 117, 98, 101]) = false := by rw [hs]; rfl
  have e5 : (s.toList == [112, 101, 116, 101, 114, 115, 101, 110]) = false := by rw [hs]; rfl
  have e6 : (s.toList == [116, 105, 101, 116, 122, 101]) = false := by rw [hs]; rfl
  have e7 : (s.toList == [102, 108, 111, 119, 101, 114, 53]) = false := by rw [hs]; rfl
  have e8 : (s.toList == [98, 114, 105, 100, 103, 101]) = true := by rw [hs]; rfl
  obtain ⟨SL, hSL⟩ : ∃ SL, SL = srtE (bri2 2 ++ [(4, 9)]) := ⟨_, rfl⟩
  have HM : Hid (∀ g c W, Eds W g 0 15 (bri2 2 ++ [(4, 9)]) → Calls Tryz.prog 98 #[.int .i64 10, .slice (some ⟨g, 0, none⟩) 15 c] W (RetG 10 SL W)) := fun g c W E => by rw [hSL]; exact l01Made_any 10 g 0 15 c _ W E (by decide)
  rw [← hSL]
  have PB := Box2F.made w (.int .i64 0) (.slice none 0 0) 26
  obtain ⟨w1, hw1⟩ : ∃ w1, w1 = w.alloc (.cells #[.int .i64 0, .slice none 0 0] 26) := ⟨_, rfl⟩
  have hbb : Below w.heap.size w w1 := by rw [hw1]; exact (Below.refl _ _).alloc (Nat.le_refl _) _
  rw [← hw1] at PB
  have hz1 : w.heap.size + 1 = w1.heap.size := by rw [hw1]; simp
  have OE := (OwnE.empty w1.heap.size (w1.alloc (.cells #[] 78)) w1.heap.size (Nat.le_refl _) (heap_alloc_new w1 _)).any
  obtain ⟨w2, hw2⟩ : ∃ w2, w2 = w1.alloc (.cells #[] 78) := ⟨_, rfl⟩
  have hK2 : Below w1.heap.size w1 w2 := by rw [hw2]; exact (Below.refl _ _).alloc (Nat.le_refl _) _
  rw [← hw2] at OE
  have hz2 : w1.heap.size + 1 = w2.heap.size := by rw [hw2]; simp
  have HW : Hid ((w.alloc (.cells #[.int .i64 0, .slice none 0 0] 26)).alloc (.cells #[] 78) = w2 ∧ w.heap.size + 1 = w1.heap.size ∧ w1.heap.size + 1 = w2.heap.size) := ⟨by rw [hw2, hw1], hz1, hz2⟩
  have hzz : w.heap.size < w1.heap.size ∧ w1.heap.size < w2.heap.size := by omega
  clear hs hw1 hw2 hz1 hz2 hSL
  go_enter Tryz.func120, Tryz.ntmps120
  go_wp2_with fail
  rw [HW.out.1, HW.out.2.1]
  go_loopw [4, 13] (fun lv iv wv => ∃ (i : Nat) (A : Option Addr) (c' : Nat), i ≤ 2 ∧ iv = .int .i64 (5 * (i : Int)) ∧ lv = .slice A (bri2 i).length c' ∧ OwnEA w1.heap.size wv A (bri2 i).length c' (bri2 i) ∧ Below w1.heap.size w1 wv) (fun _ i _ => 30 - (intOf i).toNat)
  case atStart => exact ⟨0, _, _, by omega, rfl, rfl, OE, hK2⟩
  case round =>
    clear OE hK2
    obtain ⟨i, A, c', hi, rfl, rfl, O, hKA⟩ := hrel
    obtain ⟨wA, rfl⟩ : ∃ wA, wA = wr := ⟨wr, rfl⟩
    by_cases hlt : i < 2
    · have hsz := hKA.size
      have hL2 : Hid ((bri2 (i + 1)).length = (bri2 i).length + 7) := by show _ = _; rw [bri2_len, bri2_len]; omega
      have hl := bri2_len i
      obtain ⟨x, hx⟩ : ∃ x, x = (bri2 i).length := ⟨_, rfl⟩
      rw [← hx] at hL2 O hl ⊢
      have hx30 : x ≤ 30 := by omega
      have wr1 : IntKind.i64.wrap (5 * (i : Int) + 1) = 5 * (i : Int) + 1 := IntWalk.i64_in _ (by omega)
      have wr2 : IntKind.i64.wrap (5 * (i : Int) + 2) = 5 * (i : Int) + 2 := IntWalk.i64_in _ (by omega)
      have wr3 : IntKind.i64.wrap (5 * (i : Int) + 3) = 5 * (i : Int) + 3 := IntWalk.i64_in _ (by omega)
      have wr4 : IntKind.i64.wrap (5 * (i : Int) + 4) = 5 * (i : Int) + 4 := IntWalk.i64_in _ (by omega)
      have wr5 : IntKind.i64.wrap (5 * (i : Int) + 5) = 5 * (i : Int) + 5 := IntWalk.i64_in _ (by omega)
      have hle : 5 * (i : Int) ≤ 5 := by omega
      clear hx hl
      go_wp2_with (at_builtin; (refine wp_appB (bri2G (5 * (i : Int))) rfl rfl rfl rfl (by simp) rfl rfl (by show 0 < 7; decide) (by show 7 ≤ 1048576; decide) O (by omega) (by omega) ?_; intro A2 c2 wB O2 hg2))
      have hbF := O.grown hKA (Nat.le_refl _) hg2 hsz
      go_roundw
      case rel => exact ⟨i + 1, A2, c2, by omega, by simp; omega, (by first | (rw [hL2.out]; rfl) | rw [hL2.out]), by rw [hL2.out]; exact O2, hbF⟩
      case measure => simp [intOf]; omega
    · obtain rfl : i = 2 := by omega
      have hle : ¬ (5 * ((2 : Nat) : Int) ≤ 5) := by decide
      rw [show (bri2 2).length = 14 from rfl] at O ⊢
      have hsz := hKA.size
      go_wp2_with (at_builtin; (refine wp_appB ([(4, 9)]) rfl rfl rfl rfl (by simp) rfl rfl (by decide) (by decide) O hsz (by decide) ?_; intro A2 c2 wB O2 hg2))
      have hKA := O.grown hKA (Nat.le_refl _) hg2 hsz
      have O := O2
      clear O2 hg2 hsz
      obtain ⟨gA, rfl, EA⟩ := O.some (by decide)
      clear O
      go_wp2_with fail
      refine (HM.out _ _ _ EA).mono ?_
      rintro e w6 ⟨g6, c6, rfl, O6, hb6⟩
      have hzA := hKA.size
      have hK6 := hKA.andB hb6
      have PW := PB.below hK6
      have hO := O6.ge
      have hB6 := hbb.andB hK6
      have O9 := (O6.setOther (a := ⟨w.heap.size, 0, none⟩) (by simp; omega) (.int .i64 10)).setOther (a := ⟨w.heap.size, 1, none⟩) (by simp; omega) (.slice (some ⟨g6, 0, none⟩) SL.length c6)
      have P8 := PW.set2 (.int .i64 10) (.slice (some ⟨g6, 0, none⟩) SL.length c6)
      have hB8 := (hB6.setCell (p := ⟨w.heap.size, 0, none⟩) (Nat.le_refl _) (.int .i64 10)).setCell (p := ⟨w.heap.size, 1, none⟩) (Nat.le_refl _) (.slice (some ⟨g6, 0, none⟩) SL.length c6)
      obtain ⟨⟨sW, pW, qW⟩, fW, gW⟩ := PW
      clear O6 hb6 hKA hK6 HM
      go_wp2_with fail
      obtain ⟨w9, hw9⟩ : ∃ w9, w9 = ((w6.setCell ⟨w.heap.size, 0, none⟩ (.int .i64 10)).setCell ⟨w.heap.size, 1, none⟩ (.slice (some ⟨g6, 0, none⟩) SL.length c6)) := ⟨_, rfl⟩
      rw [← hw9] at O9 P8 hB8 ⊢
      clear hw9
      obtain ⟨⟨k0, k1, k2⟩, _, _⟩ := P8
      refine bodyPost_ret (v := .tuple #[.agg #[.int .i64 10, .slice (some ⟨g6, 0, none⟩) SL.length c6], .bool true]) ?_ rfl ⟨_, c6, rfl, O9.any.mono (by omega), hB8⟩
      simp [results, Tryz.results120, go_sem, k1, k2]
set_option maxRecDepth 100000 in
set_option maxHeartbeats 2000000 in
theorem spN_prism (s : ByteArray) (w : World) (hs : s.toList = [112, 114, 105, 115, 109]) : Calls Tryz.prog 120 #[.string s] w (RetGB 6 (srtE (([] ++ cycL [0, 1, 2]) ++ cycL [3, 4, 5] ++ [(0, 3), (1, 4), (2, 5)])) true w) := by
  have e0 : (s.toList == [116, 104, 101, 116, 97]) = false := by rw [hs]; rfl
  have e1 : (s.toList == [107, 52]) = false := by rw [hs]; rfl
  have e2 : (s.toList == [107, 51, 51]) = false := by rw [hs]; rfl
  have e3 : (s.toList == [112, 114, 105, 115, 109]) = true := by rw [hs]; rfl
  obtain ⟨SL, hSL⟩ : ∃ SL, SL = srtE (([] ++ cycL [0, 1, 2]) ++ cycL [3, 4, 5] ++ [(0, 3), (1, 4), (2, 5)]) := ⟨_, rfl⟩
  have HM : Hid (∀ g c W, Eds W g 0 9 (([] ++ cycL [0, 1, 2]) ++ cycL [3, 4, 5] ++ [(0, 3), (1, 4), (2, 5)]) → Calls Tryz.prog 98 #[.int .i64 6, .slice (some ⟨g, 0, none⟩) 9 c] W (RetG 6 SL W)) := fun g c W E => by rw [hSL]; exact l01Made_any 6 g 0 9 c _ W E (by decide)
  rw [← hSL]
  have PB := Box2F.made w (.int .i64 0) (.slice none 0 0) 26
  obtain ⟨w1, hw1⟩ : ∃ w1, w1 = w.alloc (.cells #[.int .i64 0, .slice none 0 0] 26) := ⟨_, rfl⟩
  have hbb : Below w.heap.size w w1 := by rw [hw1]; exact (Below.refl _ _).alloc (Nat.le_refl _) _
  rw [← hw1] at PB
  have hz1 : w.heap.size + 1 = w1.heap.size := by rw [hw1]; simp
  have OE := (OwnE.empty w1.heap.size (w1.alloc (.cells #[] 78)) w1.heap.size (Nat.le_refl _) (heap_alloc_new w1 _)).any
  obtain ⟨w2, hw2⟩ : ∃ w2, w2 = w1.alloc (.cells #[] 78) := ⟨_, rfl⟩
  have hK2 : Below w1.heap.size w1 w2 := by rw [hw2]; exact (Below.refl _ _).alloc (Nat.le_refl _) _
  rw [← hw2] at OE
  have hz2 : w1.heap.size + 1 = w2.heap.size := by rw [hw2]; simp
  have HW : Hid ((w.alloc (.cells #[.int .i64 0, .slice none 0 0] 26)).alloc (.cells #[] 78) = w2 ∧ w.heap.size + 1 = w1.heap.size ∧ w1.heap.size + 1 = w2.heap.size) := ⟨by rw [hw2, hw1], hz1, hz2⟩
  have hzz : w.heap.size < w1.heap.size ∧ w1.heap.size < w2.heap.size := by omega
  clear hs hw1 hw2 hz1 hz2 hSL
  go_enter Tryz.func120, Tryz.ntmps120
  go_wp2_with fail
  rw [HW.out.1, HW.out.2.1]
  rw [HW.out.2.2]
  have O := OE
  have hKA := hK2
  clear OE hK2
  refine (l01Cycle_any (cs := #[.int .i64 0, .int .i64 1, .int .i64 2]) [0, 1, 2] _ (O.below ((Below.refl _ _).alloc (Nat.le_refl _) _)) (by have := hKA.size; simp; omega) (heap_alloc_new _ _) rfl rfl (by decide) (by decide)).mono ?_
  rintro e w5 ⟨A5, c5, rfl, O5, hb5⟩
  have hKA := hKA.trans (((Below.refl _ _).alloc (by exact hKA.size) _).trans hb5)
  have O := O5
  clear O5 hb5
  go_wp2_with fail
  refine (l01Cycle_any (cs := #[.int .i64 3, .int .i64 4, .int .i64 5]) [3, 4, 5] _ (O.below ((Below.refl _ _).alloc (Nat.le_refl _) _)) (by have := hKA.size; simp; omega) (heap_alloc_new _ _) rfl rfl (by decide) (by decide)).mono ?_
  rintro e w7 ⟨A7, c7, rfl, O7, hb7⟩
  have hKA := hKA.trans (((Below.refl _ _).alloc (by exact hKA.size) _).trans hb7)
  have O := O7
  clear O7 hb7
  have hsz := hKA.size
  go_wp2_with (at_builtin; (refine wp_appB ([(0, 3), (1, 4), (2, 5)]) rfl rfl rfl rfl (by simp) rfl rfl (by decide) (by decide) O hsz (by decide) ?_; intro A2 c2 wB O2 hg2))
  have hKA := O.grown hKA (Nat.le_refl _) hg2 hsz
  have O := O2
  clear O2 hg2 hsz
  obtain ⟨gA, rfl, EA⟩ := O.some (by decide)
  clear O
  go_wp2_with fail
  refine (HM.out _ _ _ EA).mono ?_
  rintro e w6 ⟨g6, c6, rfl, O6, hb6⟩
  have hzA := hKA.size
  have hK6 := hKA.andB hb6
  have PW := PB.below hK6
  have hO := O6.ge
  have hB6 := hbb.andB hK6
  have O9 := (O6.setOther (a := ⟨w.heap.size, 0, none⟩) (by simp; omega) (.int .i64 6)).setOther (a := ⟨w.heap.size, 1, none⟩) (by simp; omega) (.slice (some ⟨g6, 0, none⟩) SL.length c6)
  have P8 := PW.set2 (.int .i64 6) (.slice (some ⟨g6, 0, none⟩) SL.length c6)
  have hB8 := (hB6.setCell (p := ⟨w.heap.size, 0, none⟩) (Nat.le_refl _) (.int .i64 6)).setCell (p := ⟨w.heap.size, 1, none⟩) (Nat.le_refl _) (.slice (some ⟨g6, 0, none⟩) SL.length c6)
  obtain ⟨⟨sW, pW, qW⟩, fW, gW⟩ := PW
  clear O6 hb6 hKA hK6 HM
  go_wp2_with fail
  obtain ⟨w9, hw9⟩ : ∃ w9, w9 = ((w6.setCell ⟨w.heap.size, 0, none⟩ (.int .i64 6)).setCell ⟨w.heap.size, 1, none⟩ (.slice (some ⟨g6, 0, none⟩) SL.length c6)) := ⟨_, rfl⟩
  rw [← hw9] at O9 P8 hB8 ⊢
  clear hw9
  obtain ⟨⟨k0, k1, k2⟩, _, _⟩ := P8
  refine bodyPost_ret (v := .tuple #[.agg #[.int .i64 6, .slice (some ⟨g6, 0, none⟩) SL.length c6], .bool true]) ?_ rfl ⟨_, c6, rfl, O9.any.mono (by omega), hB8⟩
  simp [results, Tryz.results120, go_sem, k1, k2]
end Go.Proofs.YtajnhkkiddeegaaGreat
namespace Go.Proofs.YtajnhkkiddeegaaGreat
open Go.RowKit Go.Sort
set_option maxRecDepth 100000 in
set_option maxHeartbeats 2000000 in
theorem spN_cube (s : ByteArray) (w : World) (hs : s.toList = [99, 117, 98, 101]) : Calls Tryz.prog 120 #[.string s] w (RetGB 8 (srtE (cubT 8)) true w) := by
  have e0 : (s.toList == [116, 104, 101, 116, 97]) = false := by rw [hs]; rfl
  have e1 : (s.toList == [107, 52]) = false := by rw [hs]; rfl
  have e2 : (s.toList == [107, 51, 51]) = false := by rw [hs]; rfl
  have e3 : (s.toList == [112, 114, 105, 115, 109]) = false := by rw [hs]; rfl
  have e4 : (s.toList == [99, 117, 98, 101]) = true := by rw [hs]; rfl
  obtain ⟨SL, hSL⟩ : ∃ SL, SL = srtE (cubT 8) := ⟨_, rfl⟩
  have HM : Hid (∀ g c W, Eds W g 0 12 (cubT 8) → Calls Tryz.prog 98 #[.int .i64 8, .slice (some ⟨g, 0, none⟩) 12 c] W (RetG 8 SL W)) := fun g c W E => by rw [hSL]; exact l01Made_any 8 g 0 12 c _ W E (by decide)
  rw [← hSL]
  have PB := Box2F.made w (.int .i64 0) (.slice none 0 0) 26
  obtain ⟨w1, hw1⟩ : ∃ w1, w1 = w.alloc (.cells #[.int .i64 0, .slice none 0 0] 26) := ⟨_, rfl⟩
  have hbb : Below w.heap.size w w1 := by rw [hw1]; exact (Below.refl _ _).alloc (Nat.le_refl _) _
  rw [← hw1] at PB
  have hz1 : w.heap.size + 1 = w1.heap.size := by rw [hw1]; simp
  have OE := (OwnE.empty w1.heap.size (w1.alloc (.cells #[] 78)) w1.heap.size (Nat.le_refl _) (heap_alloc_new w1 _)).any
  obtain ⟨w2, hw2⟩ : ∃ w2, w2 = w1.alloc (.cells #[] 78) := ⟨_, rfl⟩
  have hK2 : Below w1.heap.size w1 w2 := by rw [hw2]; exact (Below.refl _ _).alloc (Nat.le_refl _) _
  rw [← hw2] at OE
  have hz2 : w1.heap.size + 1 = w2.heap.size := by rw [hw2]; simp
  have HW : Hid ((w.alloc (.cells #[.int .i64 0, .slice none 0 0] 26)).alloc (.cells #[] 78) = w2 ∧ w.heap.size + 1 = w1.heap.size ∧ w1.heap.size + 1 = w2.heap.size) := ⟨by rw [hw2, hw1], hz1, hz2⟩
  have hzz : w.heap.size < w1.heap.size ∧ w1.heap.size < w2.heap.size := by omega
  clear hs hw1 hw2 hz1 hz2 hSL
  go_enter Tryz.func120, Tryz.ntmps120
  go_wp2_with fail
  rw [HW.out.1, HW.out.2.1]
  go_loopw [4, 6] (fun lv iv wv => ∃ (v : Nat) (A : Option Addr) (c' : Nat), v ≤ 8 ∧ iv = .int .i64 v ∧ lv = .slice A (cubT v).length c' ∧ OwnEA w1.heap.size wv A (cubT v).length c' (cubT v) ∧ Below w1.heap.size w1 wv) (fun _ i _ => 8 - (intOf i).toNat)
  case atStart => exact ⟨0, _, _, by omega, rfl, rfl, OE, hK2⟩
  case round =>
    clear OE hK2
    obtain ⟨v, A0, c0, hv, rfl, rfl, O0, hb0⟩ := hrel
    obtain ⟨w4, rfl⟩ : ∃ w4, w4 = wr := ⟨wr, rfl⟩
    by_cases hlt : v < 8
    · have hlv : (v : Int) < 8 := by omega
      have HT := Lib.hid (cubT_len v)
      go_wp2_with fail
      go_loopw [4, 7] (fun lv bv wv => ∃ (d : Nat) (A : Option Addr) (c' : Nat), d ≤ 3 ∧ bv = .int .i64 ((2 ^ d : Nat) : Int) ∧ lv = .slice A (cubT v ++ cubB v d).length c' ∧ OwnEA w1.heap.size wv A (cubT v ++ cubB v d).length c' (cubT v ++ cubB v d) ∧ Below w1.heap.size w1 wv) (fun _ b _ => 8 - (intOf b).toNat)
      case atStart => exact ⟨0, A0, c0, by omega, rfl, by simp [cubB], by simpa [cubB] using O0, hb0⟩
      case round =>
        clear O0 hb0
        obtain ⟨d, A, c', hd, rfl, rfl, O, hb⟩ := hrel
        obtain ⟨x, hx⟩ : ∃ x, x = (cubT v ++ cubB v d).length := ⟨_, rfl⟩
        have hx27 : x ≤ 27 := by rw [hx, List.length_append]; have := HT.out; have := cubB_len v d; omega
        have HX := Lib.hid hx
        rw [← hx] at O ⊢
        have hsz := hb.size
        by_cases hd3 : d < 3
        · have hand := and8 hlt hd3
          obtain ⟨p, hp⟩ : ∃ p, p = (2 : Nat) ^ d := ⟨_, rfl⟩
          have hp1 : 1 ≤ p ∧ p ≤ 4 := by
            have : d = 0 ∨ d = 1 ∨ d = 2 := by omega
            rcases this with rfl | rfl | rfl <;> (rw [hp]; decide)
          have HP : Hid (2 ^ (d + 1) = 2 * p) := by show _ = _; rw [hp, Nat.pow_succ, Nat.mul_comm]
          have hw2 : IntKind.i64.wrap (2 * (p : Int)) = ((2 * p : Nat) : Int) := by rw [IntWalk.i64_in _ (by omega)]; simp
          have hwa : IntKind.i64.wrap ((v : Int) + (p : Int)) = ((v + p : Nat) : Int) := by rw [IntWalk.i64_in _ (by omega)]; simp
          have hp8 : (p : Int) < 8 := by omega
          rw [← hp] at hand ⊢
          cases hb1 : v.testBit d with
          | true =>
            rw [hb1, if_pos rfl] at hand
            have hq : ((p : Int) == 0) = false := by simp; omega
            have HE : Hid (cubT v ++ cubB v (d + 1) = cubT v ++ cubB v d) := by show _ = _; simp [cubB, hb1]
            clear hb1 hx hp
            go_wp2_with fail
            go_roundw
            case rel => exact ⟨d + 1, A, c', by omega, by rw [HP.out]; simp, by rw [HE.out, ← HX.out], by rw [HE.out, ← HX.out]; exact O, hb⟩
            case measure => simp [intOf]; omega
          | false =>
            rw [hb1, if_neg (by decide)] at hand
            have HE : Hid (cubT v ++ cubB v (d + 1) = (cubT v ++ cubB v d) ++ [((v : Int), (v : Int) + (p : Int))]) := by show _ = _; simp [cubB, hb1, hp]
            have HE2 : Hid ((cubT v ++ cubB v (d + 1)).length = x + 1) := by show _ = _; rw [HE.out, List.length_append, ← HX.out]; rfl
            clear hb1 hx hp
            go_wp2_with (at_builtin; (refine wp_appB [((v : Int), (v : Int) + (p : Int))] rfl rfl rfl rfl (by simp) rfl rfl (by simp) (by simp) O (by omega) (by omega) ?_; intro A2 c2 wB O2 hg2))
            have hbF := O.grown hb (Nat.le_refl _) hg2 hsz
            go_roundw
            case rel => exact ⟨d + 1, A2, c2, by omega, by rw [HP.out]; simp, by rw [HE2.out], by rw [HE2.out, HE.out]; exact O2, hbF⟩
            case measure => simp [intOf]; omega
        · obtain rfl : d = 3 := by omega
          have HN : Hid (cubT (v + 1) = cubT v ++ cubB v 3) := rfl
          go_wp2_with fail
          go_roundw
          case rel => exact ⟨v + 1, A, c', by omega, by go_num, by rw [HN.out, ← HX.out], by rw [HN.out, ← HX.out]; exact O, hb⟩
          case measure => simp [intOf]; omega
    · obtain rfl : v = 8 := by omega
      have O := O0
      have hKA := hb0
      clear O0 hb0
      obtain ⟨gA, rfl, EA⟩ := O.some (by decide)
      clear O
      go_wp2_with fail
      refine (HM.out _ _ _ EA).mono ?_
      rintro e w6 ⟨g6, c6, rfl, O6, hb6⟩
      have hzA := hKA.size
      have hK6 := hKA.andB hb6
      have PW := PB.below hK6
      have hO := O6.ge
      have hB6 := hbb.andB hK6
      have O9 := (O6.setOther (a := ⟨w.heap.size, 0, none⟩) (by simp; omega) (.int .i64 8)).setOther (a := ⟨w.heap.size, 1, none⟩) (by simp; omega) (.slice (some ⟨g6, 0, none⟩) SL.length c6)
      have P8 := PW.set2 (.int .i64 8) (.slice (some ⟨g6, 0, none⟩) SL.length c6)
      have hB8 := (hB6.setCell (p := ⟨w.heap.size, 0, none⟩) (Nat.le_refl _) (.int .i64 8)).setCell (p := ⟨w.heap.size, 1, none⟩) (Nat.le_refl _) (.slice (some ⟨g6, 0, none⟩) SL.length c6)
      obtain ⟨⟨sW, pW, qW⟩, fW, gW⟩ := PW
      clear O6 hb6 hKA hK6 HM
      go_wp2_with fail
      obtain ⟨w9, hw9⟩ : ∃ w9, w9 = ((w6.setCell ⟨w.heap.size, 0, none⟩ (.int .i64 8)).setCell ⟨w.heap.size, 1, none⟩ (.slice (some ⟨g6, 0, none⟩) SL.length c6)) := ⟨_, rfl⟩
      rw [← hw9] at O9 P8 hB8 ⊢
      clear hw9
      obtain ⟨⟨k0, k1, k2⟩, _, _⟩ := P8
      refine bodyPost_ret (v := .tuple #[.agg #[.int .i64 8, .slice (some ⟨g6, 0, none⟩) SL.length c6], .bool true]) ?_ rfl ⟨_, c6, rfl, O9.any.mono (by omega), hB8⟩
      simp [results, Tryz.results120, go_sem, k1, k2]
def spL : List (Int × Int) := [(0, 1), (0, 4), (0, 5), (1, 2), (1, 6), (2, 3), (2, 7), (3, 4), (3, 8), (4, 9), (5, 7), (5, 8), (6, 8), (6, 9), (7, 9)]
theorem spL_is : srtE (petT 5) = spL := (srt_uniq (List.isPerm_iff.1 (by decide +kernel)) (by unfold SortedQ; decide +kernel)).symm
def tie2 (j : Nat) : List (Int × Int) := (spL.take j).filter fun e => decide (e.1 ≠ 0)
theorem tie2_step {j : Nat} (h : j < 15) : tie2 (j + 1) = tie2 j ++ (if ea spL j = 0 then [] else [(ea spL j, eb spL j)]) := by
  unfold tie2
  have h2 : j < spL.length := h
  rw [List.take_succ_eq_append_getElem h2, List.filter_append, e_pair h2]
  by_cases hb : ea spL j = 0 <;> simp [hb]
theorem tie2_len (j : Nat) : (tie2 j).length ≤ j := by
  have h1 := List.length_filter_le (fun e : Int × Int => decide (e.1 ≠ 0)) (spL.take j)
  have h2 := List.length_take_le j spL
  show (List.filter _ _).length ≤ j
  omega
set_option maxRecDepth 100000 in
set_option maxHeartbeats 2000000 in
theorem spN_tietze (s : ByteArray) (w : World) (hs : s.toList = [116, 105, 101, 116, 122, 101]) : Calls Tryz.prog 120 #[.string s] w (RetGB 12 (srtE (tie2 15 ++ cycL [0, 10, 11] ++ [(0, 1), (10, 4), (11, 5)])) true w) := by
  have e0 : (s.toList == [116, 104, 101, 116, 97]) = false := by rw [hs]; rfl
  have e1 : (s.toList == [107, 52]) = false := by rw [hs]; rfl
  have e2 : (s.toList == [107, 51, 51]) = false := by rw [hs]; rfl
  have e3 : (s.toList == [112, 114, 105, 115, 109]) = false := by rw [hs]; rfl
  have e4 : (s.toList == [99, 117, 98, 101]) = false := by rw [hs]; rfl
  have e5 : (s.toList == [112, 101, 116, 101, 114, 115, 101, 110]) = false := by rw [hs]; rfl
  have e6 : (s.toList == [116, 105, 101, 116, 122, 101]) = true := by rw [hs]; rfl
  obtain ⟨SL, hSL⟩ : ∃ SL, SL = srtE (tie2 15 ++ cycL [0, 10, 11] ++ [(0, 1), (10, 4), (11, 5)]) := ⟨_, rfl⟩
  have HM : Hid (∀ g c W, Eds W g 0 18 (tie2 15 ++ cycL [0, 10, 11] ++ [(0, 1), (10, 4), (11, 5)]) → Calls Tryz.prog 98 #[.int .i64 12, .slice (some ⟨g, 0, none⟩) 18 c] W (RetG 12 SL W)) := fun g c W E => by rw [hSL]; exact l01Made_any 12 g 0 18 c _ W E (by decide)
  rw [← hSL]
  have PB := Box2F.made w (.int .i64 0) (.slice none 0 0) 26
  obtain ⟨w1, hw1⟩ : ∃ w1, w1 = w.alloc (.cells #[.int .i64 0, .slice none 0 0] 26) := ⟨_, rfl⟩
  have hbb : Below w.heap.size w w1 := by rw [hw1]; exact (Below.refl _ _).alloc (Nat.le_refl _) _
  rw [← hw1] at PB
  have hz1 : w.heap.size + 1 = w1.heap.size := by rw [hw1]; simp
  have OE := (OwnE.empty w1.heap.size (w1.alloc (.cells #[] 78)) w1.heap.size (Nat.le_refl _) (heap_alloc_new w1 _)).any
  obtain ⟨w2, hw2⟩ : ∃ w2, w2 = w1.alloc (.cells #[] 78) := ⟨_, rfl⟩
  have hK2 : Below w1.heap.size w1 w2 := by rw [hw2]; exact (Below.refl _ _).alloc (Nat.le_refl _) _
  rw [← hw2] at OE
  have hz2 : w1.heap.size + 1 = w2.heap.size := by rw [hw2]; simp
  have HW : Hid ((w.alloc (.cells #[.int .i64 0, .slice none 0 0] 26)).alloc (.cells #[] 78) = w2 ∧ w.heap.size + 1 = w1.heap.size ∧ w1.heap.size + 1 = w2.heap.size) := ⟨by rw [hw2, hw1], hz1, hz2⟩
  have hzz : w.heap.size < w1.heap.size ∧ w1.heap.size < w2.heap.size := by omega
  clear hs hw1 hw2 hz1 hz2 hSL
  go_enter Tryz.func120, Tryz.ntmps120
  go_wp2_with fail
  rw [HW.out.1, HW.out.2.1]
  have HPC := Lib.hid (spN_petersen { data := #[112, 101, 116, 101, 114, 115, 101, 110] } w2 (by rw [Lib.toList_data]))
  refine HPC.out.mono ?_
  rintro e w3 ⟨AS, cS, rfl, OS, hb3⟩
  rw [spL_is] at OS ⊢
  rw [show spL.length = 15 from rfl] at OS ⊢
  obtain ⟨gS, rfl, ES⟩ := OS.some (by decide)
  have hgS := (OS.blk gS rfl).1
  have hgS2 := (OS.blk gS rfl).2
  have OE := OE.below hb3
  have hK3 := hK2.andB hb3
  obtain ⟨w4, hw4⟩ : ∃ w4, w4 = w3.alloc (.cells #[.int .i64 10, .slice (some ⟨gS, 0, none⟩) 15 cS] 26) := ⟨_, rfl⟩
  have X9 := Box2.made w3 (.int .i64 10) (.slice (some ⟨gS, 0, none⟩) 15 cS) 26
  have hb4 : Below w3.heap.size w3 w4 := by rw [hw4]; exact (Below.refl _ _).alloc (Nat.le_refl _) _
  rw [← hw4] at X9
  have OE := OE.below hb4
  have ES := ES.below hb4
  have hK4 := hK3.andB hb4
  have HW4 := Lib.hid hw4
  have hz3 := hK3.size
  obtain ⟨b9, hb9⟩ : ∃ b9, b9 = w3.heap.size := ⟨_, rfl⟩
  rw [← hb9] at X9
  have hb9w : w1.heap.size < b9 ∧ w1.heap.size < gS := by have := hb3.size; omega
  have HB9 := Lib.hid hb9
  have ES : Eds w4 gS 0 15 spL := ES
  clear hb3 hb4 hw4 hK2 hK3 OS HPC hb9
  go_wp2_with fail
  rw [← HW4.out, ← HB9.out]
  clear HW4
  go_loopw [4, 11] (fun lv jv wv => ∃ (j : Nat) (A : Option Addr) (c' : Nat), j ≤ 15 ∧ jv = .int .i64 j ∧ lv = .slice A (tie2 j).length c' ∧ OwnEA w1.heap.size wv A (tie2 j).length c' (tie2 j) ∧ Eds wv gS 0 15 spL ∧ Box2 wv b9 (.int .i64 10) (.slice (some ⟨gS, 0, none⟩) 15 cS) ∧ (∀ g, blkOf A = some g → g ≠ gS ∧ g ≠ b9) ∧ Below w1.heap.size w1 wv) (fun _ j _ => 15 - (intOf j).toNat)
  case atStart => exact ⟨0, _, _, by omega, rfl, rfl, OE, ES, X9, (fun g hg => by simp [blkOf] at hg; omega), hK4⟩
  case round =>
    clear OE ES X9 hK4
    obtain ⟨j, A, c', hj, rfl, rfl, O, ES, X9, hne, hKA⟩ := hrel
    obtain ⟨wA, rfl⟩ : ∃ wA, wA = wr := ⟨wr, rfl⟩
    obtain ⟨s9, p9, q9⟩ := X9
    have hNE := Lib.hid hne
    clear hne
    by_cases hlt : j < 15
    · have hsz := hKA.size
      have d1 := ES.ca j hlt
      have d2 := ES.cb j hlt
      rw [Nat.zero_add] at d1 d2
      have zS := ES.blk
      have HST := Lib.hid (tie2_step hlt)
      have hlen := tie2_len j
      obtain ⟨y, hy⟩ : ∃ y, y = ea spL j := ⟨_, rfl⟩
      obtain ⟨z, hz⟩ : ∃ z, z = eb spL j := ⟨_, rfl⟩
      rw [← hy, ← hz] at HST
      rw [← hy] at d1
      rw [← hz] at d2
      obtain ⟨x, hx⟩ : ∃ x, x = (tie2 j).length := ⟨_, rfl⟩
      have HX := Lib.hid hx
      rw [← hx] at O hlen ⊢
      clear hy hz hx
      have hES := Lib.hid ES
      clear ES
      by_cases hy0 : y = 0
      · have hq : (y != 0) = false := by simp [hy0]
        have HE : Hid (tie2 (j + 1) = tie2 j) := by show _ = _; rw [HST.out, if_pos hy0, List.append_nil]
        clear hy0
        go_wp2_with fail
        go_roundw
        case rel => exact ⟨j + 1, A, c', by omega, by go_num, by rw [HE.out, ← HX.out], by rw [HE.out, ← HX.out]; exact O, hES.out, ⟨s9, p9, q9⟩, hNE.out, hKA⟩
        case measure => simp [intOf]; omega
      · have hq : (y != 0) = true := by simpa using hy0
        have HE : Hid (tie2 (j + 1) = tie2 j ++ [(y, z)]) := by show _ = _; rw [HST.out, if_neg hy0]
        have HE2 : Hid ((tie2 (j + 1)).length = x + 1) := by show _ = _; rw [HE.out, List.length_append, ← HX.out]; rfl
        clear hy0
        go_wp2_with (at_builtin; refine wp_appEA1 rfl rfl rfl rfl (by simp) O (by omega) (by omega) ?_; intro A2 c2 wB O2 hg2 hat2)
        have hbF := O.grown hKA (Nat.le_refl _) hg2 hsz
        have hS2 : wB.heap[gS]? = wA.heap[gS]? := hg2.block gS zS (fun hh => (hNE.out gS hh.symm).1 rfl)
        have h92 : wB.heap[b9]? = wA.heap[b9]? := hg2.block b9 s9 (fun hh => (hNE.out b9 hh.symm).2 rfl)
        have ES2 : Eds wB gS 0 15 spL := ⟨hES.out.len, Nat.lt_of_lt_of_le zS hg2.size, fun t ht => (World.cell?_of_block (w := wA) hS2).trans (hES.out.ca t ht), fun t ht => (World.cell?_of_block (w := wA) hS2).trans (hES.out.cb t ht)⟩
        have X92 : Box2 wB b9 (.int .i64 10) (.slice (some ⟨gS, 0, none⟩) 15 cS) := ⟨Nat.lt_of_lt_of_le s9 hg2.size, (World.cell?_of_block (w := wA) h92).trans p9, (World.cell?_of_block (w := wA) h92).trans q9⟩
        have hNE2 : ∀ g, blkOf A2 = some g → g ≠ gS ∧ g ≠ b9 := fun g hg => by
          rcases hat2 with h | ⟨g', e, hg'⟩
          · rw [h] at hg; exact hNE.out g hg
          · rw [e] at hg; have := Option.some.inj hg; omega
        clear hS2 h92 d1 d2 p9 q9
        go_roundw
        case rel => exact ⟨j + 1, A2, c2, by omega, by go_num, by rw [HE2.out], by rw [HE2.out, HE.out]; exact O2, ES2, X92, hNE2, hbF⟩
        case measure => simp [intOf]; omega
    · obtain rfl : j = 15 := by omega
      clear ES
      rw [show (tie2 15).length = 12 by decide +kernel] at O ⊢
      go_wp2_with fail
      refine (l01Cycle_any (cs := #[.int .i64 0, .int .i64 10, .int .i64 11]) [0, 10, 11] _ (O.below ((Below.refl _ _).alloc (Nat.le_refl _) _)) (by have := hKA.size; simp; omega) (heap_alloc_new _ _) rfl rfl (by decide) (by decide)).mono ?_
      rintro e w5 ⟨A5, c5, rfl, O5, hb5⟩
      have hKA := hKA.trans (((Below.refl _ _).alloc (by exact hKA.size) _).trans hb5)
      have O := O5
      clear O5 hb5
      have hsz := hKA.size
      go_wp2_with (at_builtin; (refine wp_appB ([(0, 1), (10, 4), (11, 5)]) rfl rfl rfl rfl (by simp) rfl rfl (by decide) (by decide) O hsz (by decide) ?_; intro A2 c2 wB O2 hg2))
      have hKA := O.grown hKA (Nat.le_refl _) hg2 hsz
      have O := O2
      clear O2 hg2 hsz
      obtain ⟨gA, rfl, EA⟩ := O.some (by decide)
      clear O
      go_wp2_with fail
      refine (HM.out _ _ _ EA).mono ?_
      rintro e w6 ⟨g6, c6, rfl, O6, hb6⟩
      have hzA := hKA.size
      have hK6 := hKA.andB hb6
      have PW := PB.below hK6
      have hO := O6.ge
      have hB6 := hbb.andB hK6
      have O9 := (O6.setOther (a := ⟨w.heap.size, 0, none⟩) (by simp; omega) (.int .i64 12)).setOther (a := ⟨w.heap.size, 1, none⟩) (by simp; omega) (.slice (some ⟨g6, 0, none⟩) SL.length c6)
      have P8 := PW.set2 (.int .i64 12) (.slice (some ⟨g6, 0, none⟩) SL.length c6)
      have hB8 := (hB6.setCell (p := ⟨w.heap.size, 0, none⟩) (Nat.le_refl _) (.int .i64 12)).setCell (p := ⟨w.heap.size, 1, none⟩) (Nat.le_refl _) (.slice (some ⟨g6, 0, none⟩) SL.length c6)
      obtain ⟨⟨sW, pW, qW⟩, fW, gW⟩ := PW
      clear O6 hb6 hKA hK6 HM
      go_wp2_with fail
      obtain ⟨w9, hw9⟩ : ∃ w9, w9 = ((w6.setCell ⟨w.heap.size, 0, none⟩ (.int .i64 12)).setCell ⟨w.heap.size, 1, none⟩ (.slice (some ⟨g6, 0, none⟩) SL.length c6)) := ⟨_, rfl⟩
      rw [← hw9] at O9 P8 hB8 ⊢
      clear hw9
      obtain ⟨⟨k0, k1, k2⟩, _, _⟩ := P8
      refine bodyPost_ret (v := .tuple #[.agg #[.int .i64 12, .slice (some ⟨g6, 0, none⟩) SL.length c6], .bool true]) ?_ rfl ⟨_, c6, rfl, O9.any.mono (by omega), hB8⟩
      simp [results, Tryz.results120, go_sem, k1, k2]
end Go.Proofs.YtajnhkkiddeegaaGreat
