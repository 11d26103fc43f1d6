import Derived.Test.YtppfplhbfgjjhaaNg8
namespace Go.Proofs.Ytppfplhbfgjjhaa
open Go.RowKit Go.Sort
/-! ### The reference's named graphs -/
/-- A graph and whether there is one. -/
def RetGB (n : Int) (es : List (Int × Int)) (ok : Bool) (w : World) (e : Ending) (w' : World) : Prop := ∃ A c, e = .returned (.tuple #[.agg #[.int .i64 n, .slice A es.length c], .bool ok]) ∧ OwnEA w.heap.size w' A es.length c es ∧ Below w.heap.size w w'
theorem OwnEA.some {base : Nat} {w : World} {A : Option Addr} {m c : Nat} {es : List (Int × Int)} (h : OwnEA base w A m c es) (hm : 0 < m) : ∃ g, A = some ⟨g, 0, none⟩ ∧ Eds w g 0 m es := by
  rcases h.cases with ⟨_, h0, _⟩ | ⟨g, e, O⟩
  · omega
  · exact ⟨g, e, O.eds⟩
def stars33 : Nat → List (Int × Int)
  | 0 => []
  | i + 1 => stars33 i ++ [((i : Int), 3), ((i : Int), 4), ((i : Int), 5)]
def flo2 : Nat → List (Int × Int)
  | 0 => []
  | i + 1 => flo2 i ++ [((i : Int), (i : Int) + 5), ((i : Int), (i : Int) + 10), ((i : Int), (i : Int) + 15)]
def bri2G (i : Int) : List (Int × Int) := [(i, i + 2), (i, i + 3), (i + 1, i + 2), (i + 1, i + 3), (i + 2, i + 3), (i, i + 4), (i + 1, i + 4)]
def bri2 : Nat → List (Int × Int)
  | 0 => []
  | j + 1 => bri2 j ++ bri2G (5 * (j : Int))
theorem stars33_len : ∀ i, (stars33 i).length = 3 * i := by
  intro i
  induction i with
  | zero => rfl
  | succ i ih => simp only [stars33, List.length_append, ih]; simp; omega
theorem flo2_len : ∀ i, (flo2 i).length = 3 * i := by
  intro i
  induction i with
  | zero => rfl
  | succ i ih => simp only [flo2, List.length_append, ih]; simp; omega
theorem bri2_len : ∀ i, (bri2 i).length = 7 * i := by
  intro i
  induction i with
  | zero => rfl
  | succ i ih => simp only [bri2, List.length_append, ih, bri2G]; simp; omega
set_option maxRecDepth 100000 in
set_option maxHeartbeats 2000000 in
theorem spN_theta (s : ByteArray) (w : World) (hs : s.toList = [116, 104, 101, 116, 97]) : Calls Try.prog 82 #[.string s] w (RetGB 2 (srtE ([(0, 1), (0, 1), (0, 1)])) true w) := by
  have e0 : (s.toList == [116, 104, 101, 116, 97]) = true := by rw [hs]; rfl
  obtain ⟨SL, hSL⟩ : ∃ SL, SL = srtE ([(0, 1), (0, 1), (0, 1)]) := ⟨_, rfl⟩
  have HM : Hid (∀ g c W, Eds W g 0 3 ([(0, 1), (0, 1), (0, 1)]) → Calls Try.prog 96 #[.int .i64 2, .slice (some ⟨g, 0, none⟩) 3 c] W (RetG 2 SL W)) := fun g c W E => by rw [hSL]; exact l01Made_any 2 g 0 3 c _ W E (by decide)
  rw [← hSL]
  have PB := Box2F.made w (.int .i64 0) (.slice none 0 0) 30
  obtain ⟨w1, hw1⟩ : ∃ w1, w1 = w.alloc (.cells #[.int .i64 0, .slice none 0 0] 30) := ⟨_, rfl⟩
  have hbb : Below w.heap.size w w1 := by rw [hw1]; exact (Below.refl _ _).alloc (Nat.le_refl _) _
  rw [← hw1] at PB
  have hz1 : w.heap.size + 1 = w1.heap.size := by rw [hw1]; simp
  have OE := (OwnE.empty w1.heap.size (w1.alloc (.cells #[] 98)) w1.heap.size (Nat.le_refl _) (heap_alloc_new w1 _)).any
  obtain ⟨w2, hw2⟩ : ∃ w2, w2 = w1.alloc (.cells #[] 98) := ⟨_, rfl⟩
  have hK2 : Below w1.heap.size w1 w2 := by rw [hw2]; exact (Below.refl _ _).alloc (Nat.le_refl _) _
  rw [← hw2] at OE
  have hz2 : w1.heap.size + 1 = w2.heap.size := by rw [hw2]; simp
  have HW : Hid ((w.alloc (.cells #[.int .i64 0, .slice none 0 0] 30)).alloc (.cells #[] 98) = w2 ∧ w.heap.size + 1 = w1.heap.size ∧ w1.heap.size + 1 = w2.heap.size) := ⟨by rw [hw2, hw1], hz1, hz2⟩
  have hzz : w.heap.size < w1.heap.size ∧ w1.heap.size < w2.heap.size := by omega
  clear hs hw1 hw2 hz1 hz2 hSL
  go_enter Try.func82, Try.ntmps82
  go_wp2_with fail
  rw [HW.out.1, HW.out.2.1]
  have hKA : Below w1.heap.size w1 (w2.alloc (.cells #[.int .i64 0, .int .i64 1, .int .i64 0, .int .i64 1, .int .i64 0, .int .i64 1] 98)) := hK2.andB ((Below.refl _ _).alloc (Nat.le_refl _) _)
  rw [HW.out.2.2]
  refine (HM.out _ _ _ (eds_lit (cs := #[.int .i64 0, .int .i64 1, .int .i64 0, .int .i64 1, .int .i64 0, .int .i64 1]) (ys := [(0, 1), (0, 1), (0, 1)]) rfl)).mono ?_
  rintro e w6 ⟨g6, c6, rfl, O6, hb6⟩
  have hzA := hKA.size
  have hK6 := hKA.andB hb6
  have PW := PB.below hK6
  have hO := O6.ge
  have hB6 := hbb.andB hK6
  have O9 := (O6.setOther (a := ⟨w.heap.size, 0, none⟩) (by simp; omega) (.int .i64 2)).setOther (a := ⟨w.heap.size, 1, none⟩) (by simp; omega) (.slice (some ⟨g6, 0, none⟩) SL.length c6)
  have P8 := PW.set2 (.int .i64 2) (.slice (some ⟨g6, 0, none⟩) SL.length c6)
  have hB8 := (hB6.setCell (p := ⟨w.heap.size, 0, none⟩) (Nat.le_refl _) (.int .i64 2)).setCell (p := ⟨w.heap.size, 1, none⟩) (Nat.le_refl _) (.slice (some ⟨g6, 0, none⟩) SL.length c6)
  obtain ⟨⟨sW, pW, qW⟩, fW, gW⟩ := PW
  clear O6 hb6 hKA hK6 HM
  go_wp2_with fail
  obtain ⟨w9, hw9⟩ : ∃ w9, w9 = ((w6.setCell ⟨w.heap.size, 0, none⟩ (.int .i64 2)).setCell ⟨w.heap.size, 1, none⟩ (.slice (some ⟨g6, 0, none⟩) SL.length c6)) := ⟨_, rfl⟩
  rw [← hw9] at O9 P8 hB8 ⊢
  clear hw9
  obtain ⟨⟨k0, k1, k2⟩, _, _⟩ := P8
  refine bodyPost_ret (v := .tuple #[.agg #[.int .i64 2, .slice (some ⟨g6, 0, none⟩) SL.length c6], .bool true]) ?_ rfl ⟨_, c6, rfl, O9.any.mono (by omega), hB8⟩
  simp [results, Try.results82, go_sem, k1, k2]
set_option maxRecDepth 100000 in
set_option maxHeartbeats 2000000 in
theorem spN_k4 (s : ByteArray) (w : World) (hs : s.toList = [107, 52]) : Calls Try.prog 82 #[.string s] w (RetGB 4 (srtE ([(0, 1), (0, 2), (0, 3), (1, 2), (1, 3), (2, 3)])) true w) := by
  have e0 : (s.toList == [116, 104, 101, 116, 97]) = false := by rw [hs]; rfl
  have e1 : (s.toList == [107, 52]) = true := by rw [hs]; rfl
  obtain ⟨SL, hSL⟩ : ∃ SL, SL = srtE ([(0, 1), (0, 2), (0, 3), (1, 2), (1, 3), (2, 3)]) := ⟨_, rfl⟩
  have HM : Hid (∀ g c W, Eds W g 0 6 ([(0, 1), (0, 2), (0, 3), (1, 2), (1, 3), (2, 3)]) → Calls Try.prog 96 #[.int .i64 4, .slice (some ⟨g, 0, none⟩) 6 c] W (RetG 4 SL W)) := fun g c W E => by rw [hSL]; exact l01Made_any 4 g 0 6 c _ W E (by decide)
  rw [← hSL]
  have PB := Box2F.made w (.int .i64 0) (.slice none 0 0) 30
  obtain ⟨w1, hw1⟩ : ∃ w1, w1 = w.alloc (.cells #[.int .i64 0, .slice none 0 0] 30) := ⟨_, rfl⟩
  have hbb : Below w.heap.size w w1 := by rw [hw1]; exact (Below.refl _ _).alloc (Nat.le_refl _) _
  rw [← hw1] at PB
  have hz1 : w.heap.size + 1 = w1.heap.size := by rw [hw1]; simp
  have OE := (OwnE.empty w1.heap.size (w1.alloc (.cells #[] 98)) w1.heap.size (Nat.le_refl _) (heap_alloc_new w1 _)).any
  obtain ⟨w2, hw2⟩ : ∃ w2, w2 = w1.alloc (.cells #[] 98) := ⟨_, rfl⟩
  have hK2 : Below w1.heap.size w1 w2 := by rw [hw2]; exact (Below.refl _ _).alloc (Nat.le_refl _) _
  rw [← hw2] at OE
  have hz2 : w1.heap.size + 1 = w2.heap.size := by rw [hw2]; simp
  have HW : Hid ((w.alloc (.cells #[.int .i64 0, .slice none 0 0] 30)).alloc (.cells #[] 98) = w2 ∧ w.heap.size + 1 = w1.heap.size ∧ w1.heap.size + 1 = w2.heap.size) := ⟨by rw [hw2, hw1], hz1, hz2⟩
  have hzz : w.heap.size < w1.heap.size ∧ w1.heap.size < w2.heap.size := by omega
  clear hs hw1 hw2 hz1 hz2 hSL
  go_enter Try.func82, Try.ntmps82
  go_wp2_with fail
  rw [HW.out.1, HW.out.2.1]
  have hKA : Below w1.heap.size w1 (w2.alloc (.cells #[.int .i64 0, .int .i64 1, .int .i64 0, .int .i64 2, .int .i64 0, .int .i64 3, .int .i64 1, .int .i64 2, .int .i64 1, .int .i64 3, .int .i64 2, .int .i64 3] 98)) := hK2.andB ((Below.refl _ _).alloc (Nat.le_refl _) _)
  rw [HW.out.2.2]
  refine (HM.out _ _ _ (eds_lit (cs := #[.int .i64 0, .int .i64 1, .int .i64 0, .int .i64 2, .int .i64 0, .int .i64 3, .int .i64 1, .int .i64 2, .int .i64 1, .int .i64 3, .int .i64 2, .int .i64 3]) (ys := [(0, 1), (0, 2), (0, 3), (1, 2), (1, 3), (2, 3)]) rfl)).mono ?_
  rintro e w6 ⟨g6, c6, rfl, O6, hb6⟩
  have hzA := hKA.size
  have hK6 := hKA.andB hb6
  have PW := PB.below hK6
  have hO := O6.ge
  have hB6 := hbb.andB hK6
  have O9 := (O6.setOther (a := ⟨w.heap.size, 0, none⟩) (by simp; omega) (.int .i64 4)).setOther (a := ⟨w.heap.size, 1, none⟩) (by simp; omega) (.slice (some ⟨g6, 0, none⟩) SL.length c6)
  have P8 := PW.set2 (.int .i64 4) (.slice (some ⟨g6, 0, none⟩) SL.length c6)
  have hB8 := (hB6.setCell (p := ⟨w.heap.size, 0, none⟩) (Nat.le_refl _) (.int .i64 4)).setCell (p := ⟨w.heap.size, 1, none⟩) (Nat.le_refl _) (.slice (some ⟨g6, 0, none⟩) SL.length c6)
  obtain ⟨⟨sW, pW, qW⟩, fW, gW⟩ := PW
  clear O6 hb6 hKA hK6 HM
  go_wp2_with fail
  obtain ⟨w9, hw9⟩ : ∃ w9, w9 = ((w6.setCell ⟨w.heap.size, 0, none⟩ (.int .i64 4)).setCell ⟨w.heap.size, 1, none⟩ (.slice (some ⟨g6, 0, none⟩) SL.length c6)) := ⟨_, rfl⟩
  rw [← hw9] at O9 P8 hB8 ⊢
  clear hw9
  obtain ⟨⟨k0, k1, k2⟩, _, _⟩ := P8
  refine bodyPost_ret (v := .tuple #[.agg #[.int .i64 4, .slice (some ⟨g6, 0, none⟩) SL.length c6], .bool true]) ?_ rfl ⟨_, c6, rfl, O9.any.mono (by omega), hB8⟩
  simp [results, Try.results82, go_sem, k1, k2]
set_option maxRecDepth 100000 in
set_option maxHeartbeats 2000000 in
theorem spN_k33 (s : ByteArray) (w : World) (hs : s.toList = [107, 51, 51]) : Calls Try.prog 82 #[.string s] w (RetGB 6 (srtE (stars33 3)) true w) := by
  have e0 : (s.toList == [116, 104, 101, 116, 97]) = false := by rw [hs]; rfl
  have e1 : (s.toList == [107, 52]) = false := by rw [hs]; rfl
  have e2 : (s.toList == [107, 51, 51]) = true := by rw [hs]; rfl
  obtain ⟨SL, hSL⟩ : ∃ SL, SL = srtE (stars33 3) := ⟨_, rfl⟩
  have HM : Hid (∀ g c W, Eds W g 0 9 (stars33 3) → Calls Try.prog 96 #[.int .i64 6, .slice (some ⟨g, 0, none⟩) 9 c] W (RetG 6 SL W)) := fun g c W E => by rw [hSL]; exact l01Made_any 6 g 0 9 c _ W E (by decide)
  rw [← hSL]
  have PB := Box2F.made w (.int .i64 0) (.slice none 0 0) 30
  obtain ⟨w1, hw1⟩ : ∃ w1, w1 = w.alloc (.cells #[.int .i64 0, .slice none 0 0] 30) := ⟨_, rfl⟩
  have hbb : Below w.heap.size w w1 := by rw [hw1]; exact (Below.refl _ _).alloc (Nat.le_refl _) _
  rw [← hw1] at PB
  have hz1 : w.heap.size + 1 = w1.heap.size := by rw [hw1]; simp
  have OE := (OwnE.empty w1.heap.size (w1.alloc (.cells #[] 98)) w1.heap.size (Nat.le_refl _) (heap_alloc_new w1 _)).any
  obtain ⟨w2, hw2⟩ : ∃ w2, w2 = w1.alloc (.cells #[] 98) := ⟨_, rfl⟩
  have hK2 : Below w1.heap.size w1 w2 := by rw [hw2]; exact (Below.refl _ _).alloc (Nat.le_refl _) _
  rw [← hw2] at OE
  have hz2 : w1.heap.size + 1 = w2.heap.size := by rw [hw2]; simp
  have HW : Hid ((w.alloc (.cells #[.int .i64 0, .slice none 0 0] 30)).alloc (.cells #[] 98) = w2 ∧ w.heap.size + 1 = w1.heap.size ∧ w1.heap.size + 1 = w2.heap.size) := ⟨by rw [hw2, hw1], hz1, hz2⟩
  have hzz : w.heap.size < w1.heap.size ∧ w1.heap.size < w2.heap.size := by omega
  clear hs hw1 hw2 hz1 hz2 hSL
  go_enter Try.func82, Try.ntmps82
  go_wp2_with fail
  rw [HW.out.1, HW.out.2.1]
  go_loopw [4, 5] (fun lv iv wv => ∃ (i : Nat) (A : Option Addr) (c' : Nat), i ≤ 3 ∧ iv = .int .i64 i ∧ lv = .slice A (stars33 i).length c' ∧ OwnEA w1.heap.size wv A (stars33 i).length c' (stars33 i) ∧ Below w1.heap.size w1 wv) (fun _ i _ => 30 - (intOf i).toNat)
  case atStart => exact ⟨0, _, _, by omega, rfl, rfl, OE, hK2⟩
  case round =>
    clear OE hK2
    obtain ⟨i, A, c', hi, rfl, rfl, O, hKA⟩ := hrel
    obtain ⟨wA, rfl⟩ : ∃ wA, wA = wr := ⟨wr, rfl⟩
    by_cases hlt : i < 3
    · have hsz := hKA.size
      have hL2 : Hid ((stars33 (i + 1)).length = (stars33 i).length + 3) := by show _ = _; rw [stars33_len, stars33_len]; omega
      have hl := stars33_len i
      obtain ⟨x, hx⟩ : ∃ x, x = (stars33 i).length := ⟨_, rfl⟩
      rw [← hx] at hL2 O hl ⊢
      have hx30 : x ≤ 30 := by omega
      have wr1 : IntKind.i64.wrap ((i : Int) + 1) = (i : Int) + 1 := IntWalk.i64_in _ (by omega)
      clear hx hl
      go_wp2_with (at_builtin; (refine wp_appB ([((i : Int), 3), ((i : Int), 4), ((i : Int), 5)]) rfl rfl rfl rfl (by simp) rfl rfl (by show 0 < 3; decide) (by show 3 ≤ 1048576; decide) O (by omega) (by omega) ?_; intro A2 c2 wB O2 hg2))
      have hbF := O.grown hKA (Nat.le_refl _) hg2 hsz
      go_roundw
      case rel => exact ⟨i + 1, A2, c2, by omega, by go_num, (by first | (rw [hL2.out]; rfl) | rw [hL2.out]), by rw [hL2.out]; exact O2, hbF⟩
      case measure => simp [intOf]; omega
    · obtain rfl : i = 3 := by omega
      obtain ⟨gA, rfl, EA⟩ := O.some (by decide)
      clear O
      go_wp2_with fail
      refine (HM.out _ _ _ EA).mono ?_
      rintro e w6 ⟨g6, c6, rfl, O6, hb6⟩
      have hzA := hKA.size
      have hK6 := hKA.andB hb6
      have PW := PB.below hK6
      have hO := O6.ge
      have hB6 := hbb.andB hK6
      have O9 := (O6.setOther (a := ⟨w.heap.size, 0, none⟩) (by simp; omega) (.int .i64 6)).setOther (a := ⟨w.heap.size, 1, none⟩) (by simp; omega) (.slice (some ⟨g6, 0, none⟩) SL.length c6)
      have P8 := PW.set2 (.int .i64 6) (.slice (some ⟨g6, 0, none⟩) SL.length c6)
      have hB8 := (hB6.setCell (p := ⟨w.heap.size, 0, none⟩) (Nat.le_refl _) (.int .i64 6)).setCell (p := ⟨w.heap.size, 1, none⟩) (Nat.le_refl _) (.slice (some ⟨g6, 0, none⟩) SL.length c6)
      obtain ⟨⟨sW, pW, qW⟩, fW, gW⟩ := PW
      clear O6 hb6 hKA hK6 HM
      go_wp2_with fail
      obtain ⟨w9, hw9⟩ : ∃ w9, w9 = ((w6.setCell ⟨w.heap.size, 0, none⟩ (.int .i64 6)).setCell ⟨w.heap.size, 1, none⟩ (.slice (some ⟨g6, 0, none⟩) SL.length c6)) := ⟨_, rfl⟩
      rw [← hw9] at O9 P8 hB8 ⊢
      clear hw9
      obtain ⟨⟨k0, k1, k2⟩, _, _⟩ := P8
      refine bodyPost_ret (v := .tuple #[.agg #[.int .i64 6, .slice (some ⟨g6, 0, none⟩) SL.length c6], .bool true]) ?_ rfl ⟨_, c6, rfl, O9.any.mono (by omega), hB8⟩
      simp [results, Try.results82, go_sem, k1, k2]
set_option maxRecDepth 100000 in
set_option maxHeartbeats 2000000 in
theorem spN_petersen (s : ByteArray) (w : World) (hs : s.toList = [112, 101, 116, 101, 114, 115, 101, 110]) : Calls Try.prog 82 #[.string s] w (RetGB 10 (srtE (petT 5)) true w) := by
  have e0 : (s.toList == [116, 104, 101, 116, 97]) = false := by rw [hs]; rfl
  have e1 : (s.toList == [107, 52]) = false := by rw [hs]; rfl
  have e2 : (s.toList == [107, 51, 51]) = false := by rw [hs]; rfl
  have e3 : (s.toList == [112, 114, 105, 115, 109]) = false := by rw [hs]; rfl
  have e4 : (s.toList == [99, 117, 98, 101]) = false := by rw [hs]; rfl
  have e5 : (s.toList == [112, 101, 116, 101, 114, 115, 101, 110]) = true := by rw [hs]; rfl
  obtain ⟨SL, hSL⟩ : ∃ SL, SL = srtE (petT 5) := ⟨_, rfl⟩
  have HM : Hid (∀ g c W, Eds W g 0 15 (petT 5) → Calls Try.prog 96 #[.int .i64 10, .slice (some ⟨g, 0, none⟩) 15 c] W (RetG 10 SL W)) := fun g c W E => by rw [hSL]; exact l01Made_any 10 g 0 15 c _ W E (by decide)
  rw [← hSL]
  have PB := Box2F.made w (.int .i64 0) (.slice none 0 0) 30
  obtain ⟨w1, hw1⟩ : ∃ w1, w1 = w.alloc (.cells #[.int .i64 0, .slice none 0 0] 30) := ⟨_, rfl⟩
  have hbb : Below w.heap.size w w1 := by rw [hw1]; exact (Below.refl _ _).alloc (Nat.le_refl _) _
  rw [← hw1] at PB
  have hz1 : w.heap.size + 1 = w1.heap.size := by rw [hw1]; simp
  have OE := (OwnE.empty w1.heap.size (w1.alloc (.cells #[] 98)) w1.heap.size (Nat.le_refl _) (heap_alloc_new w1 _)).any
  obtain ⟨w2, hw2⟩ : ∃ w2, w2 = w1.alloc (.cells #[] 98) := ⟨_, rfl⟩
  have hK2 : Below w1.heap.size w1 w2 := by rw [hw2]; exact (Below.refl _ _).alloc (Nat.le_refl _) _
  rw [← hw2] at OE
  have hz2 : w1.heap.size + 1 = w2.heap.size := by rw [hw2]; simp
  have HW : Hid ((w.alloc (.cells #[.int .i64 0, .slice none 0 0] 30)).alloc (.cells #[] 98) = w2 ∧ w.heap.size + 1 = w1.heap.size ∧ w1.heap.size + 1 = w2.heap.size) := ⟨by rw [hw2, hw1], hz1, hz2⟩
  have hzz : w.heap.size < w1.heap.size ∧ w1.heap.size < w2.heap.size := by omega
  clear hs hw1 hw2 hz1 hz2 hSL
  go_enter Try.func82, Try.ntmps82
  go_wp2_with fail
  rw [HW.out.1, HW.out.2.1]
  go_loopw [4, 8] (fun lv iv wv => ∃ (i : Nat) (A : Option Addr) (c' : Nat), i ≤ 5 ∧ iv = .int .i64 i ∧ lv = .slice A (petT i).length c' ∧ OwnEA w1.heap.size wv A (petT i).length c' (petT i) ∧ Below w1.heap.size w1 wv) (fun _ i _ => 30 - (intOf i).toNat)
  case atStart => exact ⟨0, _, _, by omega, rfl, rfl, OE, hK2⟩
  case round =>
    clear OE hK2
    obtain ⟨i, A, c', hi, rfl, rfl, O, hKA⟩ := hrel
    obtain ⟨wA, rfl⟩ : ∃ wA, wA = wr := ⟨wr, rfl⟩
    by_cases hlt : i < 5
    · have hsz := hKA.size
      have hL2 : Hid ((petT (i + 1)).length = (petT i).length + 3) := by show _ = _; rw [petT_len, petT_len]; omega
      have hl := petT_len i
      obtain ⟨x, hx⟩ : ∃ x, x = (petT i).length := ⟨_, rfl⟩
      rw [← hx] at hL2 O hl ⊢
      have hx30 : x ≤ 30 := by omega
      have wr1 : IntKind.i64.wrap ((i : Int) + 1) = (i : Int) + 1 := IntWalk.i64_in _ (by omega)
      have wr2 : IntKind.i64.wrap ((i : Int) + 2) = (i : Int) + 2 := IntWalk.i64_in _ (by omega)
      have wr5 : IntKind.i64.wrap ((i : Int) + 5) = (i : Int) + 5 := IntWalk.i64_in _ (by omega)
      clear hx hl
      go_wp2_with (at_builtin; (refine wp_appB (petG i) rfl rfl rfl rfl (by simp) rfl rfl (by show 0 < 3; decide) (by show 3 ≤ 1048576; decide) O (by omega) (by omega) ?_; intro A2 c2 wB O2 hg2))
      have hbF := O.grown hKA (Nat.le_refl _) hg2 hsz
      go_roundw
      case rel => exact ⟨i + 1, A2, c2, by omega, by go_num, (by first | (rw [hL2.out]; rfl) | rw [hL2.out]), by rw [hL2.out]; exact O2, hbF⟩
      case measure => simp [intOf]; omega
    · obtain rfl : i = 5 := by omega
      obtain ⟨gA, rfl, EA⟩ := O.some (by decide)
      clear O
      go_wp2_with fail
      refine (HM.out _ _ _ EA).mono ?_
      rintro e w6 ⟨g6, c6, rfl, O6, hb6⟩
      have hzA := hKA.size
      have hK6 := hKA.andB hb6
      have PW := PB.below hK6
      have hO := O6.ge
      have hB6 := hbb.andB hK6
      have O9 := (O6.setOther (a := ⟨w.heap.size, 0, none⟩) (by simp; omega) (.int .i64 10)).setOther (a := ⟨w.heap.size, 1, none⟩) (by simp; omega) (.slice (some ⟨g6, 0, none⟩) SL.length c6)
      have P8 := PW.set2 (.int .i64 10) (.slice (some ⟨g6, 0, none⟩) SL.length c6)
      have hB8 := (hB6.setCell (p := ⟨w.heap.size, 0, none⟩) (Nat.le_refl _) (.int .i64 10)).setCell (p := ⟨w.heap.size, 1, none⟩) (Nat.le_refl _) (.slice (some ⟨g6, 0, none⟩) SL.length c6)
      obtain ⟨⟨sW, pW, qW⟩, fW, gW⟩ := PW
      clear O6 hb6 hKA hK6 HM
      go_wp2_with fail
      obtain ⟨w9, hw9⟩ : ∃ w9, w9 = ((w6.setCell ⟨w.heap.size, 0, none⟩ (.int .i64 10)).setCell ⟨w.heap.size, 1, none⟩ (.slice (some ⟨g6, 0, none⟩) SL.length c6)) := ⟨_, rfl⟩
      rw [← hw9] at O9 P8 hB8 ⊢
      clear hw9
      obtain ⟨⟨k0, k1, k2⟩, _, _⟩ := P8
      refine bodyPost_ret (v := .tuple #[.agg #[.int .i64 10, .slice (some ⟨g6, 0, none⟩) SL.length c6], .bool true]) ?_ rfl ⟨_, c6, rfl, O9.any.mono (by omega), hB8⟩
      simp [results, Try.results82, go_sem, k1, k2]
set_option maxRecDepth 100000 in
set_option maxHeartbeats 2000000 in
theorem spN_flower5 (s : ByteArray) (w : World) (hs : s.toList = [102, 108, 111, 119, 101, 114, 53]) : Calls Try.prog 82 #[.string s] w (RetGB 20 (srtE ((flo2 5 ++ cycL [5, 6, 7, 8, 9]) ++ cycL [10, 11, 12, 13, 14, 15, 16, 17, 18, 19])) true w) := by
  have e0 : (s.toList == [116, 104, 101, 116, 97]) = false := by rw [hs]; rfl
  have e1 : (s.toList == [107, 52]) = false := by rw [hs]; rfl
  have e2 : (s.toList == [107, 51, 51]) = false := by rw [hs]; rfl
  have e3 : (s.toList == [112, 114, 105, 115, 109]) = false := by rw [hs]; rfl
  have e4 : (s.toList == [99, 117, 98, 101]) = false := by rw [hs]; rfl
  have e5 : (s.toList == [112, 101, 116, 101, 114, 115, 101, 110]) = false := by rw [hs]; rfl
  have e6 : (s.toList == [116, 105, 101, 116, 122, 101]) = false := by rw [hs]; rfl
  have e7 : (s.toList == [102, 108, 111, 119, 101, 114, 53]) = true := by rw [hs]; rfl
  obtain ⟨SL, hSL⟩ : ∃ SL, SL = srtE ((flo2 5 ++ cycL [5, 6, 7, 8, 9]) ++ cycL [10, 11, 12, 13, 14, 15, 16, 17, 18, 19]) := ⟨_, rfl⟩
  have HM : Hid (∀ g c W, Eds W g 0 30 ((flo2 5 ++ cycL [5, 6, 7, 8, 9]) ++ cycL [10, 11, 12, 13, 14, 15, 16, 17, 18, 19]) → Calls Try.prog 96 #[.int .i64 20, .slice (some ⟨g, 0, none⟩) 30 c] W (RetG 20 SL W)) := fun g c W E => by rw [hSL]; exact l01Made_any 20 g 0 30 c _ W E (by decide)
  rw [← hSL]
  have PB := Box2F.made w (.int .i64 0) (.slice none 0 0) 30
  obtain ⟨w1, hw1⟩ : ∃ w1, w1 = w.alloc (.cells #[.int .i64 0, .slice none 0 0] 30) := ⟨_, rfl⟩
  have hbb : Below w.heap.size w w1 := by rw [hw1]; exact (Below.refl _ _).alloc (Nat.le_refl _) _
  rw [← hw1] at PB
  have hz1 : w.heap.size + 1 = w1.heap.size := by rw [hw1]; simp
  have OE := (OwnE.empty w1.heap.size (w1.alloc (.cells #[] 98)) w1.heap.size (Nat.le_refl _) (heap_alloc_new w1 _)).any
  obtain ⟨w2, hw2⟩ : ∃ w2, w2 = w1.alloc (.cells #[] 98) := ⟨_, rfl⟩
  have hK2 : Below w1.heap.size w1 w2 := by rw [hw2]; exact (Below.refl _ _).alloc (Nat.le_refl _) _
  rw [← hw2] at OE
  have hz2 : w1.heap.size + 1 = w2.heap.size := by rw [hw2]; simp
  have HW : Hid ((w.alloc (.cells #[.int .i64 0, .slice none 0 0] 30)).alloc (.cells #[] 98) = w2 ∧ w.heap.size + 1 = w1.heap.size ∧ w1.heap.size + 1 = w2.heap.size) := ⟨by rw [hw2, hw1], hz1, hz2⟩
  have hzz : w.heap.size < w1.heap.size ∧ w1.heap.size < w2.heap.size := by omega
  clear hs hw1 hw2 hz1 hz2 hSL
  go_enter Try.func82, Try.ntmps82
  go_wp2_with fail
  rw [HW.out.1, HW.out.2.1]
  go_loopw [4, 12] (fun lv iv wv => ∃ (i : Nat) (A : Option Addr) (c' : Nat), i ≤ 5 ∧ iv = .int .i64 i ∧ lv = .slice A (flo2 i).length c' ∧ OwnEA w1.heap.size wv A (flo2 i).length c' (flo2 i) ∧ Below w1.heap.size w1 wv) (fun _ i _ => 30 - (intOf i).toNat)
  case atStart => exact ⟨0, _, _, by omega, rfl, rfl, OE, hK2⟩
  case round =>
    clear OE hK2
    obtain ⟨i, A, c', hi, rfl, rfl, O, hKA⟩ := hrel
    obtain ⟨wA, rfl⟩ : ∃ wA, wA = wr := ⟨wr, rfl⟩
    by_cases hlt : i < 5
    · have hsz := hKA.size
      have hL2 : Hid ((flo2 (i + 1)).length = (flo2 i).length + 3) := by show _ = _; rw [flo2_len, flo2_len]; omega
      have hl := flo2_len i
      obtain ⟨x, hx⟩ : ∃ x, x = (flo2 i).length := ⟨_, rfl⟩
      rw [← hx] at hL2 O hl ⊢
      have hx30 : x ≤ 30 := by omega
      have wr1 : IntKind.i64.wrap ((i : Int) + 1) = (i : Int) + 1 := IntWalk.i64_in _ (by omega)
      have wr5 : IntKind.i64.wrap ((i : Int) + 5) = (i : Int) + 5 := IntWalk.i64_in _ (by omega)
      have wr10 : IntKind.i64.wrap ((i : Int) + 10) = (i : Int) + 10 := IntWalk.i64_in _ (by omega)
      have wr15 : IntKind.i64.wrap ((i : Int) + 15) = (i : Int) + 15 := IntWalk.i64_in _ (by omega)
      clear hx hl
      go_wp2_with (at_builtin; (refine wp_appB ([((i : Int), (i : Int) + 5), ((i : Int), (i : Int) + 10), ((i : Int), (i : Int) + 15)]) rfl rfl rfl rfl (by simp) rfl rfl (by show 0 < 3; decide) (by show 3 ≤ 1048576; decide) O (by omega) (by omega) ?_; intro A2 c2 wB O2 hg2))
      have hbF := O.grown hKA (Nat.le_refl _) hg2 hsz
      go_roundw
      case rel => exact ⟨i + 1, A2, c2, by omega, by go_num, (by first | (rw [hL2.out]; rfl) | rw [hL2.out]), by rw [hL2.out]; exact O2, hbF⟩
      case measure => simp [intOf]; omega
    · obtain rfl : i = 5 := by omega
      rw [show (flo2 5).length = 15 from rfl] at O ⊢
      go_wp2_with fail
      refine (l01Cycle_any (cs := #[.int .i64 5, .int .i64 6, .int .i64 7, .int .i64 8, .int .i64 9]) [5, 6, 7, 8, 9] _ (O.below ((Below.refl _ _).alloc (Nat.le_refl _) _)) (by have := hKA.size; simp; omega) (heap_alloc_new _ _) rfl rfl (by decide) (by decide)).mono ?_
      rintro e w5 ⟨A5, c5, rfl, O5, hb5⟩
      have hKA := hKA.trans (((Below.refl _ _).alloc (by exact hKA.size) _).trans hb5)
      have O := O5
      clear O5 hb5
      go_wp2_with fail
      refine (l01Cycle_any (cs := #[.int .i64 10, .int .i64 11, .int .i64 12, .int .i64 13, .int .i64 14, .int .i64 15, .int .i64 16, .int .i64 17, .int .i64 18, .int .i64 19]) [10, 11, 12, 13, 14, 15, 16, 17, 18, 19] _ (O.below ((Below.refl _ _).alloc (Nat.le_refl _) _)) (by have := hKA.size; simp; omega) (heap_alloc_new _ _) rfl rfl (by decide) (by decide)).mono ?_
      rintro e w7 ⟨A7, c7, rfl, O7, hb7⟩
      have hKA := hKA.trans (((Below.refl _ _).alloc (by exact hKA.size) _).trans hb7)
      have O := O7
      clear O7 hb7
      obtain ⟨gA, rfl, EA⟩ := O.some (by decide)
      clear O
      go_wp2_with fail
      refine (HM.out _ _ _ EA).mono ?_
      rintro e w6 ⟨g6, c6, rfl, O6, hb6⟩
      have hzA := hKA.size
      have hK6 := hKA.andB hb6
      have PW := PB.below hK6
      have hO := O6.ge
      have hB6 := hbb.andB hK6
      have O9 := (O6.setOther (a := ⟨w.heap.size, 0, none⟩) (by simp; omega) (.int .i64 20)).setOther (a := ⟨w.heap.size, 1, none⟩) (by simp; omega) (.slice (some ⟨g6, 0, none⟩) SL.length c6)
      have P8 := PW.set2 (.int .i64 20) (.slice (some ⟨g6, 0, none⟩) SL.length c6)
      have hB8 := (hB6.setCell (p := ⟨w.heap.size, 0, none⟩) (Nat.le_refl _) (.int .i64 20)).setCell (p := ⟨w.heap.size, 1, none⟩) (Nat.le_refl _) (.slice (some ⟨g6, 0, none⟩) SL.length c6)
      obtain ⟨⟨sW, pW, qW⟩, fW, gW⟩ := PW
      clear O6 hb6 hKA hK6 HM
      go_wp2_with fail
      obtain ⟨w9, hw9⟩ : ∃ w9, w9 = ((w6.setCell ⟨w.heap.size, 0, none⟩ (.int .i64 20)).setCell ⟨w.heap.size, 1, none⟩ (.slice (some ⟨g6, 0, none⟩) SL.length c6)) := ⟨_, rfl⟩
      rw [← hw9] at O9 P8 hB8 ⊢
      clear hw9
      obtain ⟨⟨k0, k1, k2⟩, _, _⟩ := P8
      refine bodyPost_ret (v := .tuple #[.agg #[.int .i64 20, .slice (some ⟨g6, 0, none⟩) SL.length c6], .bool true]) ?_ rfl ⟨_, c6, rfl, O9.any.mono (by omega), hB8⟩
      simp [results, Try.results82, go_sem, k1, k2]
set_option maxRecDepth 100000 in
set_option maxHeartbeats 2000000 in
theorem spN_bridge (s : ByteArray) (w : World) (hs : s.toList = [98, 114, 105, 100, 103, 101]) : Calls Try.prog 82 #[.string s] w (RetGB 10 (srtE (bri2 2 ++ [(4, 9)])) true w) := by
  have e0 : (s.toList == [116, 104, 101, 116, 97]) = false := by rw [hs]; rfl
  have e1 : (s.toList == [107, 52]) = false := by rw [hs]; rfl
  have e2 : (s.toList == [107, 51, 51]) = false := by rw [hs]; rfl
  have e3 : (s.toList == [112, 114, 105, 115, 109]) = false := by rw [hs]; rfl
  have e4 : (s.toList == [99, 117, 98, 101]) = false := by rw [hs]; rfl
  have e5 : (s.toList == [112, 101, 116, 101, 114, 115, 101, 110]) = false := by rw [hs]; rfl
  have e6 : (s.toList == [116, 105, 101, 116, 122, 101]) = false := by rw [hs]; rfl
  have e7 : (s.toList == [102, 108, 111, 119, 101, 114, 53]) = false := by rw [hs]; rfl
  have e8 : (s.toList == [98, 114, 105, 100, 103, 101]) = true := by rw [hs]; rfl
  obtain ⟨SL, hSL⟩ : ∃ SL, SL = srtE (bri2 2 ++ [(4, 9)]) := ⟨_, rfl⟩
  have HM : Hid (∀ g c W, Eds W g 0 15 (bri2 2 ++ [(4, 9)]) → Calls Try.prog 96 #[.int .i64 10, .slice (some ⟨g, 0, none⟩) 15 c] W (RetG 10 SL W)) := fun g c W E => by rw [hSL]; exact l01Made_any 10 g 0 15 c _ W E (by decide)
  rw [← hSL]
  have PB := Box2F.made w (.int .i64 0) (.slice none 0 0) 30
  obtain ⟨w1, hw1⟩ : ∃ w1, w1 = w.alloc (.cells #[.int .i64 0, .slice none 0 0] 30) := ⟨_, rfl⟩
  have hbb : Below w.heap.size w w1 := by rw [hw1]; exact (Below.refl _ _).alloc (Nat.le_refl _) _
  rw [← hw1] at PB
  have hz1 : w.heap.size + 1 = w1.heap.size := by rw [hw1]; simp
  have OE := (OwnE.empty w1.heap.size (w1.alloc (.cells #[] 98)) w1.heap.size (Nat.le_refl _) (heap_alloc_new w1 _)).any
  obtain ⟨w2, hw2⟩ : ∃ w2, w2 = w1.alloc (.cells #[] 98) := ⟨_, rfl⟩
  have hK2 : Below w1.heap.size w1 w2 := by rw [hw2]; exact (Below.refl _ _).alloc (Nat.le_refl _) _
  rw [← hw2] at OE
  have hz2 : w1.heap.size + 1 = w2.heap.size := by rw [hw2]; simp
  have HW : Hid ((w.alloc (.cells #[.int .i64 0, .slice none 0 0] 30)).alloc (.cells #[] 98) = w2 ∧ w.heap.size + 1 = w1.heap.size ∧ w1.heap.size + 1 = w2.heap.size) := ⟨by rw [hw2, hw1], hz1, hz2⟩
  have hzz : w.heap.size < w1.heap.size ∧ w1.heap.size < w2.heap.size := by omega
  clear hs hw1 hw2 hz1 hz2 hSL
  go_enter Try.func82, Try.ntmps82
  go_wp2_with fail
  rw [HW.out.1, HW.out.2.1]
  go_loopw [4, 13] (fun lv iv wv => ∃ (i : Nat) (A : Option Addr) (c' : Nat), i ≤ 2 ∧ iv = .int .i64 (5 * (i : Int)) ∧ lv = .slice A (bri2 i).length c' ∧ OwnEA w1.heap.size wv A (bri2 i).length c' (bri2 i) ∧ Below w1.heap.size w1 wv) (fun _ i _ => 30 - (intOf i).toNat)
  case atStart => exact ⟨0, _, _, by omega, rfl, rfl, OE, hK2⟩
  case round =>
    clear OE hK2
    obtain ⟨i, A, c', hi, rfl, rfl, O, hKA⟩ := hrel
    obtain ⟨wA, rfl⟩ : ∃ wA, wA = wr := ⟨wr, rfl⟩
    by_cases hlt : i < 2
    · have hsz := hKA.size
      have hL2 : Hid ((bri2 (i + 1)).length = (bri2 i).length + 7) := by show _ = _; rw [bri2_len, bri2_len]; omega
      have hl := bri2_len i
      obtain ⟨x, hx⟩ : ∃ x, x = (bri2 i).length := ⟨_, rfl⟩
      rw [← hx] at hL2 O hl ⊢
      have hx30 : x ≤ 30 := by omega
      have wr1 : IntKind.i64.wrap (5 * (i : Int) + 1) = 5 * (i : Int) + 1 := IntWalk.i64_in _ (by omega)
      have wr2 : IntKind.i64.wrap (5 * (i : Int) + 2) = 5 * (i : Int) + 2 := IntWalk.i64_in _ (by omega)
      have wr3 : IntKind.i64.wrap (5 * (i : Int) + 3) = 5 * (i : Int) + 3 := IntWalk.i64_in _ (by omega)
      have wr4 : IntKind.i64.wrap (5 * (i : Int) + 4) = 5 * (i : Int) + 4 := IntWalk.i64_in _ (by omega)
      have wr5 : IntKind.i64.wrap (5 * (i : Int) + 5) = 5 * (i : Int) + 5 := IntWalk.i64_in _ (by omega)
      have hle : 5 * (i : Int) ≤ 5 := by omega
      clear hx hl
      go_wp2_with (at_builtin; (refine wp_appB (bri2G (5 * (i : Int))) rfl rfl rfl rfl (by simp) rfl rfl (by show 0 < 7; decide) (by show 7 ≤ 1048576; decide) O (by omega) (by omega) ?_; intro A2 c2 wB O2 hg2))
      have hbF := O.grown hKA (Nat.le_refl _) hg2 hsz
      go_roundw
      case rel => exact ⟨i + 1, A2, c2, by omega, by simp; omega, (by first | (rw [hL2.out]; rfl) | rw [hL2.out]), by rw [hL2.out]; exact O2, hbF⟩
      case measure => simp [intOf]; omega
    · obtain rfl : i = 2 := by omega
      have hle : ¬ (5 * ((2 : Nat) : Int) ≤ 5) := by decide
      rw [show (bri2 2).length = 14 from rfl] at O ⊢
      have hsz := hKA.size
      go_wp2_with (at_builtin; (refine wp_appB ([(4, 9)]) rfl rfl rfl rfl (by simp) rfl rfl (by decide) (by decide) O hsz (by decide) ?_; intro A2 c2 wB O2 hg2))
      have hKA := O.grown hKA (Nat.le_refl _) hg2 hsz
      have O := O2
      clear O2 hg2 hsz
      obtain ⟨gA, rfl, EA⟩ := O.some (by decide)
      clear O
      go_wp2_with fail
      refine (HM.out _ _ _ EA).mono ?_
      rintro e w6 ⟨g6, c6, rfl, O6, hb6⟩
      have hzA := hKA.size
      have hK6 := hKA.andB hb6
      have PW := PB.below hK6
      have hO := O6.ge
      have hB6 := hbb.andB hK6
      have O9 := (O6.setOther (a := ⟨w.heap.size, 0, none⟩) (by simp; omega) (.int .i64 10)).setOther (a := ⟨w.heap.size, 1, none⟩) (by simp; omega) (.slice (some ⟨g6, 0, none⟩) SL.length c6)
      have P8 := PW.set2 (.int .i64 10) (.slice (some ⟨g6, 0, none⟩) SL.length c6)
      have hB8 := (hB6.setCell (p := ⟨w.heap.size, 0, none⟩) (Nat.le_refl _) (.int .i64 10)).setCell (p := ⟨w.heap.size, 1, none⟩) (Nat.le_refl _) (.slice (some ⟨g6, 0, none⟩) SL.length c6)
      obtain ⟨⟨sW, pW, qW⟩, fW, gW⟩ := PW
      clear O6 hb6 hKA hK6 HM
      go_wp2_with fail
      obtain ⟨w9, hw9⟩ : ∃ w9, w9 = ((w6.setCell ⟨w.heap.size, 0, none⟩ (.int .i64 10)).setCell ⟨w.heap.size, 1, none⟩ (.slice (some ⟨g6, 0, none⟩) SL.length c6)) := ⟨_, rfl⟩
      rw [← hw9] at O9 P8 hB8 ⊢
      clear hw9
      obtain ⟨⟨k0, k1, k2⟩, _, _⟩ := P8
      refine bodyPost_ret (v := .tuple #[.agg #[.int .i64 10, .slice (some ⟨g6, 0, none⟩) SL.length c6], .bool true]) ?_ rfl ⟨_, c6, rfl, O9.any.mono (by omega), hB8⟩
      simp [results, Try.results82, go_sem, k1, k2]
set_option maxRecDepth 100000 in
set_option maxHeartbeats 2000000 in
theorem spN_prism (s : ByteArray) (w : World) (hs : s.toList = [112, 114, 105, 115, 109]) : Calls Try.prog 82 #[.string s] w (RetGB 6 (srtE (([] ++ cycL [0, 1, 2]) ++ cycL [3, 4, 5] ++ [(0, 3), (1, 4), (2, 5)])) true w) := by
  have e0 : (s.toList == [116, 104, 101, 116, 97]) = false := by rw [hs]; rfl
  have e1 : (s.toList == [107, 52]) = false := by rw [hs]; rfl
  have e2 : (s.toList == [107, 51, 51]) = false := by rw [hs]; rfl
  have e3 : (s.toList == [112, 114, 105, 115, 109]) = true := by rw [hs]; rfl
  obtain ⟨SL, hSL⟩ : ∃ SL, SL = srtE (([] ++ cycL [0, 1, 2]) ++ cycL [3, 4, 5] ++ [(0, 3), (1, 4), (2, 5)]) := ⟨_, rfl⟩
  have HM : Hid (∀ g c W, Eds W g 0 9 (([] ++ cycL [0, 1, 2]) ++ cycL [3, 4, 5] ++ [(0, 3), (1, 4), (2, 5)]) → Calls Try.prog 96 #[.int .i64 6, .slice (some ⟨g, 0, none⟩) 9 c] W (RetG 6 SL W)) := fun g c W E => by rw [hSL]; exact l01Made_any 6 g 0 9 c _ W E (by decide)
  rw [← hSL]
  have PB := Box2F.made w (.int .i64 0) (.slice none 0 0) 30
  obtain ⟨w1, hw1⟩ : ∃ w1, w1 = w.alloc (.cells #[.int .i64 0, .slice none 0 0] 30) := ⟨_, rfl⟩
  have hbb : Below w.heap.size w w1 := by rw [hw1]; exact (Below.refl _ _).alloc (Nat.le_refl _) _
  rw [← hw1] at PB
  have hz1 : w.heap.size + 1 = w1.heap.size := by rw [hw1]; simp
  have OE := (OwnE.empty w1.heap.size (w1.alloc (.cells #[] 98)) w1.heap.size (Nat.le_refl _) (heap_alloc_new w1 _)).any
  obtain ⟨w2, hw2⟩ : ∃ w2, w2 = w1.alloc (.cells #[] 98) := ⟨_, rfl⟩
  have hK2 : Below w1.heap.size w1 w2 := by rw [hw2]; exact (Below.refl _ _).alloc (Nat.le_refl _) _
  rw [← hw2] at OE
  have hz2 : w1.heap.size + 1 = w2.heap.size := by rw [hw2]; simp
  have HW : Hid ((w.alloc (.cells #[.int .i64 0, .slice none 0 0] 30)).alloc (.cells #[] 98) = w2 ∧ w.heap.size + 1 = w1.heap.size ∧ w1.heap.size + 1 = w2.heap.size) := ⟨by rw [hw2, hw1], hz1, hz2⟩
  have hzz : w.heap.size < w1.heap.size ∧ w1.heap.size < w2.heap.size := by omega
  clear hs hw1 hw2 hz1 hz2 hSL
  go_enter Try.func82, Try.ntmps82
  go_wp2_with fail
  rw [HW.out.1, HW.out.2.1]
  rw [HW.out.2.2]
  have O := OE
  have hKA := hK2
  clear OE hK2
  refine (l01Cycle_any (cs := #[.int .i64 0, .int .i64 1, .int .i64 2]) [0, 1, 2] _ (O.below ((Below.refl _ _).alloc (Nat.le_refl _) _)) (by have := hKA.size; simp; omega) (heap_alloc_new _ _) rfl rfl (by decide) (by decide)).mono ?_
  rintro e w5 ⟨A5, c5, rfl, O5, hb5⟩
  have hKA := hKA.trans (((Below.refl _ _).alloc (by exact hKA.size) _).trans hb5)
  have O := O5
  clear O5 hb5
  go_wp2_with fail
  refine (l01Cycle_any (cs := #[.int .i64 3, .int .i64 4, .int .i64 5]) [3, 4, 5] _ (O.below ((Below.refl _ _).alloc (Nat.le_refl _) _)) (by have := hKA.size; simp; omega) (heap_alloc_new _ _) rfl rfl (by decide) (by decide)).mono ?_
  rintro e w7 ⟨A7, c7, rfl, O7, hb7⟩
  have hKA := hKA.trans (((Below.refl _ _).alloc (by exact hKA.size) _).trans hb7)
  have O := O7
  clear O7 hb7
  have hsz := hKA.size
  go_wp2_with (at_builtin; (refine wp_appB ([(0, 3), (1, 4), (2, 5)]) rfl rfl rfl rfl (by simp) rfl rfl (by decide) (by decide) O hsz (by decide) ?_; intro A2 c2 wB O2 hg2))
  have hKA := O.grown hKA (Nat.le_refl _) hg2 hsz
  have O := O2
  clear O2 hg2 hsz
  obtain ⟨gA, rfl, EA⟩ := O.some (by decide)
  clear O
  go_wp2_with fail
  refine (HM.out _ _ _ EA).mono ?_
  rintro e w6 ⟨g6, c6, rfl, O6, hb6⟩
  have hzA := hKA.size
  have hK6 := hKA.andB hb6
  have PW := PB.below hK6
  have hO := O6.ge
  have hB6 := hbb.andB hK6
  have O9 := (O6.setOther (a := ⟨w.heap.size, 0, none⟩) (by simp; omega) (.int .i64 6)).setOther (a := ⟨w.heap.size, 1, none⟩) (by simp; omega) (.slice (some ⟨g6, 0, none⟩) SL.length c6)
  have P8 := PW.set2 (.int .i64 6) (.slice (some ⟨g6, 0, none⟩) SL.length c6)
  have hB8 := (hB6.setCell (p := ⟨w.heap.size, 0, none⟩) (Nat.le_refl _) (.int .i64 6)).setCell (p := ⟨w.heap.size, 1, none⟩) (Nat.le_refl _) (.slice (some ⟨g6, 0, none⟩) SL.length c6)
  obtain ⟨⟨sW, pW, qW⟩, fW, gW⟩ := PW
  clear O6 hb6 hKA hK6 HM
  go_wp2_with fail
  obtain ⟨w9, hw9⟩ : ∃ w9, w9 = ((w6.setCell ⟨w.heap.size, 0, none⟩ (.int .i64 6)).setCell ⟨w.heap.size, 1, none⟩ (.slice (some ⟨g6, 0, none⟩) SL.length c6)) := ⟨_, rfl⟩
  rw [← hw9] at O9 P8 hB8 ⊢
  clear hw9
  obtain ⟨⟨k0, k1, k2⟩, _, _⟩ := P8
  refine bodyPost_ret (v := .tuple #[.agg #[.int .i64 6, .slice (some ⟨g6, 0, none⟩) SL.length c6], .bool true]) ?_ rfl ⟨_, c6, rfl, O9.any.mono (by omega), hB8⟩
  simp [results, Try.results82, go_sem, k1, k2]
end Go.Proofs.Ytppfplhbfgjjhaa
