import Derived.Test.YtppfplhbfgjjhaaNg9
namespace Go.Proofs.Ytppfplhbfgjjhaa
open Go.RowKit Go.Sort
/-! ### The reference's cube and tietze; a name of none -/
set_option maxRecDepth 100000 in
set_option maxHeartbeats 2000000 in
theorem spN_cube (s : ByteArray) (w : World) (hs : s.toList = [99, 117, 98, 101]) : Calls Try.prog 82 #[.string s] w (RetGB 8 (srtE (cubT 8)) true w) := by
  have e0 : (s.toList == [116, 104, 101, 116, 97]) = false := by rw [hs]; rfl
  have e1 : (s.toList == [107, 52]) = false := by rw [hs]; rfl
  have e2 : (s.toList == [107, 51, 51]) = false := by rw [hs]; rfl
  have e3 : (s.toList == [112, 114, 105, 115, 109]) = false := by rw [hs]; rfl
  have e4 : (s.toList == [99, 117, 98, 101]) = true := by rw [hs]; rfl
  obtain ⟨SL, hSL⟩ : ∃ SL, SL = srtE (cubT 8) := ⟨_, rfl⟩
  have HM : Hid (∀ g c W, Eds W g 0 12 (cubT 8) → Calls Try.prog 96 #[.int .i64 8, .slice (some ⟨g, 0, none⟩) 12 c] W (RetG 8 SL W)) := fun g c W E => by rw [hSL]; exact l01Made_any 8 g 0 12 c _ W E (by decide)
  rw [← hSL]
  have PB := Box2F.made w (.int .i64 0) (.slice none 0 0) 30
  obtain ⟨w1, hw1⟩ : ∃ w1, w1 = w.alloc (.cells #[.int .i64 0, .slice none 0 0] 30) := ⟨_, rfl⟩
  have hbb : Below w.heap.size w w1 := by rw [hw1]; exact (Below.refl _ _).alloc (Nat.le_refl _) _
  rw [← hw1] at PB
  have hz1 : w.heap.size + 1 = w1.heap.size := by rw [hw1]; simp
  have OE := (OwnE.empty w1.heap.size (w1.alloc (.cells #[] 98)) w1.heap.size (Nat.le_refl _) (heap_alloc_new w1 _)).any
  obtain ⟨w2, hw2⟩ : ∃ w2, w2 = w1.alloc (.cells #[] 98) := ⟨_, rfl⟩
  have hK2 : Below w1.heap.size w1 w2 := by rw [hw2]; exact (Below.refl _ _).alloc (Nat.le_refl _) _
  rw [← hw2] at OE
  have hz2 : w1.heap.size + 1 = w2.heap.size := by rw [hw2]; simp
  have HW : Hid ((w.alloc (.cells #[.int .i64 0, .slice none 0 0] 30)).alloc (.cells #[] 98) = w2 ∧ w.heap.size + 1 = w1.heap.size ∧ w1.heap.size + 1 = w2.heap.size) := ⟨by rw [hw2, hw1], hz1, hz2⟩
  have hzz : w.heap.size < w1.heap.size ∧ w1.heap.size < w2.heap.size := by omega
  clear hs hw1 hw2 hz1 hz2 hSL
  go_enter Try.func82, Try.ntmps82
  go_wp2_with fail
  rw [HW.out.1, HW.out.2.1]
  go_loopw [4, 6] (fun lv iv wv => ∃ (v : Nat) (A : Option Addr) (c' : Nat), v ≤ 8 ∧ iv = .int .i64 v ∧ lv = .slice A (cubT v).length c' ∧ OwnEA w1.heap.size wv A (cubT v).length c' (cubT v) ∧ Below w1.heap.size w1 wv) (fun _ i _ => 8 - (intOf i).toNat)
  case atStart => exact ⟨0, _, _, by omega, rfl, rfl, OE, hK2⟩
  case round =>
    clear OE hK2
    obtain ⟨v, A0, c0, hv, rfl, rfl, O0, hb0⟩ := hrel
    obtain ⟨w4, rfl⟩ : ∃ w4, w4 = wr := ⟨wr, rfl⟩
    by_cases hlt : v < 8
    · have hlv : (v : Int) < 8 := by omega
      have HT := Lib.hid (cubT_len v)
      go_wp2_with fail
      go_loopw [4, 7] (fun lv bv wv => ∃ (d : Nat) (A : Option Addr) (c' : Nat), d ≤ 3 ∧ bv = .int .i64 ((2 ^ d : Nat) : Int) ∧ lv = .slice A (cubT v ++ cubB v d).length c' ∧ OwnEA w1.heap.size wv A (cubT v ++ cubB v d).length c' (cubT v ++ cubB v d) ∧ Below w1.heap.size w1 wv) (fun _ b _ => 8 - (intOf b).toNat)
      case atStart => exact ⟨0, A0, c0, by omega, rfl, by simp [cubB], by simpa [cubB] using O0, hb0⟩
      case round =>
        clear O0 hb0
        obtain ⟨d, A, c', hd, rfl, rfl, O, hb⟩ := hrel
        obtain ⟨x, hx⟩ : ∃ x, x = (cubT v ++ cubB v d).length := ⟨_, rfl⟩
        have hx27 : x ≤ 27 := by rw [hx, List.length_append]; have := HT.out; have := cubB_len v d; omega
        have HX := Lib.hid hx
        rw [← hx] at O ⊢
        have hsz := hb.size
        by_cases hd3 : d < 3
        · have hand := and8 hlt hd3
          obtain ⟨p, hp⟩ : ∃ p, p = (2 : Nat) ^ d := ⟨_, rfl⟩
          have hp1 : 1 ≤ p ∧ p ≤ 4 := by
            have : d = 0 ∨ d = 1 ∨ d = 2 := by omega
            rcases this with rfl | rfl | rfl <;> (rw [hp]; decide)
          have HP : Hid (2 ^ (d + 1) = 2 * p) := by show _ = _; rw [hp, Nat.pow_succ, Nat.mul_comm]
          have hw2 : IntKind.i64.wrap (2 * (p : Int)) = ((2 * p : Nat) : Int) := by rw [IntWalk.i64_in _ (by omega)]; simp
          have hwa : IntKind.i64.wrap ((v : Int) + (p : Int)) = ((v + p : Nat) : Int) := by rw [IntWalk.i64_in _ (by omega)]; simp
          have hp8 : (p : Int) < 8 := by omega
          rw [← hp] at hand ⊢
          cases hb1 : v.testBit d with
          | true =>
            rw [hb1, if_pos rfl] at hand
            have hq : ((p : Int) == 0) = false := by simp; omega
            have HE : Hid (cubT v ++ cubB v (d + 1) = cubT v ++ cubB v d) := by show _ = _; simp [cubB, hb1]
            clear hb1 hx hp
            go_wp2_with fail
            go_roundw
            case rel => exact ⟨d + 1, A, c', by omega, by rw [HP.out]; simp, by rw [HE.out, ← HX.out], by rw [HE.out, ← HX.out]; exact O, hb⟩
            case measure => simp [intOf]; omega
          | false =>
            rw [hb1, if_neg (by decide)] at hand
            have HE : Hid (cubT v ++ cubB v (d + 1) = (cubT v ++ cubB v d) ++ [((v : Int), (v : Int) + (p : Int))]) := by show _ = _; simp [cubB, hb1, hp]
            have HE2 : Hid ((cubT v ++ cubB v (d + 1)).length = x + 1) := by show _ = _; rw [HE.out, List.length_append, ← HX.out]; rfl
            clear hb1 hx hp
            go_wp2_with (at_builtin; (refine wp_appB [((v : Int), (v : Int) + (p : Int))] rfl rfl rfl rfl (by simp) rfl rfl (by simp) (by simp) O (by omega) (by omega) ?_; intro A2 c2 wB O2 hg2))
            have hbF := O.grown hb (Nat.le_refl _) hg2 hsz
            go_roundw
            case rel => exact ⟨d + 1, A2, c2, by omega, by rw [HP.out]; simp, by rw [HE2.out], by rw [HE2.out, HE.out]; exact O2, hbF⟩
            case measure => simp [intOf]; omega
        · obtain rfl : d = 3 := by omega
          have HN : Hid (cubT (v + 1) = cubT v ++ cubB v 3) := rfl
          go_wp2_with fail
          go_roundw
          case rel => exact ⟨v + 1, A, c', by omega, by go_num, by rw [HN.out, ← HX.out], by rw [HN.out, ← HX.out]; exact O, hb⟩
          case measure => simp [intOf]; omega
    · obtain rfl : v = 8 := by omega
      have O := O0
      have hKA := hb0
      clear O0 hb0
      obtain ⟨gA, rfl, EA⟩ := O.some (by decide)
      clear O
      go_wp2_with fail
      refine (HM.out _ _ _ EA).mono ?_
      rintro e w6 ⟨g6, c6, rfl, O6, hb6⟩
      have hzA := hKA.size
      have hK6 := hKA.andB hb6
      have PW := PB.below hK6
      have hO := O6.ge
      have hB6 := hbb.andB hK6
      have O9 := (O6.setOther (a := ⟨w.heap.size, 0, none⟩) (by simp; omega) (.int .i64 8)).setOther (a := ⟨w.heap.size, 1, none⟩) (by simp; omega) (.slice (some ⟨g6, 0, none⟩) SL.length c6)
      have P8 := PW.set2 (.int .i64 8) (.slice (some ⟨g6, 0, none⟩) SL.length c6)
      have hB8 := (hB6.setCell (p := ⟨w.heap.size, 0, none⟩) (Nat.le_refl _) (.int .i64 8)).setCell (p := ⟨w.heap.size, 1, none⟩) (Nat.le_refl _) (.slice (some ⟨g6, 0, none⟩) SL.length c6)
      obtain ⟨⟨sW, pW, qW⟩, fW, gW⟩ := PW
      clear O6 hb6 hKA hK6 HM
      go_wp2_with fail
      obtain ⟨w9, hw9⟩ : ∃ w9, w9 = ((w6.setCell ⟨w.heap.size, 0, none⟩ (.int .i64 8)).setCell ⟨w.heap.size, 1, none⟩ (.slice (some ⟨g6, 0, none⟩) SL.length c6)) := ⟨_, rfl⟩
      rw [← hw9] at O9 P8 hB8 ⊢
      clear hw9
      obtain ⟨⟨k0, k1, k2⟩, _, _⟩ := P8
      refine bodyPost_ret (v := .tuple #[.agg #[.int .i64 8, .slice (some ⟨g6, 0, none⟩) SL.length c6], .bool true]) ?_ rfl ⟨_, c6, rfl, O9.any.mono (by omega), hB8⟩
      simp [results, Try.results82, go_sem, k1, k2]
def spL : List (Int × Int) := [(0, 1), (0, 4), (0, 5), (1, 2), (1, 6), (2, 3), (2, 7), (3, 4), (3, 8), (4, 9), (5, 7), (5, 8), (6, 8), (6, 9), (7, 9)]
theorem spL_is : srtE (petT 5) = spL := (srt_uniq (List.isPerm_iff.1 (by decide +kernel)) (by unfold SortedQ; decide +kernel)).symm
theorem srt_perm {xs ys : List (Int × Int)} (h : (xs.map mmE).isPerm (ys.map mmE) = true) : srtE xs = srtE ys := by
  refine srt_uniq ((List.mergeSort_perm _ _).trans (List.isPerm_iff.1 h)) ?_
  exact List.pairwise_mergeSort (le := leE) (fun a b c h1 h2 => by rw [leE_iff] at *; omega) (fun a b => by
    cases h : leE a b
    · have : ¬ leE a b = true := by rw [h]; decide
      rw [leE_iff] at this
      simp only [Bool.false_or]
      rw [leE_iff]; omega
    · rfl) _
def tie2 (j : Nat) : List (Int × Int) := (spL.take j).filter fun e => decide (e.1 ≠ 0)
theorem tie2_step {j : Nat} (h : j < 15) : tie2 (j + 1) = tie2 j ++ (if ea spL j = 0 then [] else [(ea spL j, eb spL j)]) := by
  unfold tie2
  have h2 : j < spL.length := h
  rw [List.take_succ_eq_append_getElem h2, List.filter_append, e_pair h2]
  by_cases hb : ea spL j = 0 <;> simp [hb]
theorem tie2_len (j : Nat) : (tie2 j).length ≤ j := by
  have h1 := List.length_filter_le (fun e : Int × Int => decide (e.1 ≠ 0)) (spL.take j)
  have h2 := List.length_take_le j spL
  show (List.filter _ _).length ≤ j
  omega
set_option maxRecDepth 100000 in
set_option maxHeartbeats 2000000 in
theorem spN_tietze (s : ByteArray) (w : World) (hs : s.toList = [116, 105, 101, 116, 122, 101]) : Calls Try.prog 82 #[.string s] w (RetGB 12 (srtE (tie2 15 ++ cycL [0, 10, 11] ++ [(0, 1), (10, 4), (11, 5)])) true w) := by
  have e0 : (s.toList == [116, 104, 101, 116, 97]) = false := by rw [hs]; rfl
  have e1 : (s.toList == [107, 52]) = false := by rw [hs]; rfl
  have e2 : (s.toList == [107, 51, 51]) = false := by rw [hs]; rfl
  have e3 : (s.toList == [112, 114, 105, 115, 109]) = false := by rw [hs]; rfl
  have e4 : (s.toList == [99, 117, 98, 101]) = false := by rw [hs]; rfl
  have e5 : (s.toList == [112, 101, 116, 101, 114, 115, 101, 110]) = false := by rw [hs]; rfl
  have e6 : (s.toList == [116, 105, 101, 116, 122, 101]) = true := by rw [hs]; rfl
  obtain ⟨SL, hSL⟩ : ∃ SL, SL = srtE (tie2 15 ++ cycL [0, 10, 11] ++ [(0, 1), (10, 4), (11, 5)]) := ⟨_, rfl⟩
  have HM : Hid (∀ g c W, Eds W g 0 18 (tie2 15 ++ cycL [0, 10, 11] ++ [(0, 1), (10, 4), (11, 5)]) → Calls Try.prog 96 #[.int .i64 12, .slice (some ⟨g, 0, none⟩) 18 c] W (RetG 12 SL W)) := fun g c W E => by rw [hSL]; exact l01Made_any 12 g 0 18 c _ W E (by decide)
  rw [← hSL]
  have PB := Box2F.made w (.int .i64 0) (.slice none 0 0) 30
  obtain ⟨w1, hw1⟩ : ∃ w1, w1 = w.alloc (.cells #[.int .i64 0, .slice none 0 0] 30) := ⟨_, rfl⟩
  have hbb : Below w.heap.size w w1 := by rw [hw1]; exact (Below.refl _ _).alloc (Nat.le_refl _) _
  rw [← hw1] at PB
  have hz1 : w.heap.size + 1 = w1.heap.size := by rw [hw1]; simp
  have OE := (OwnE.empty w1.heap.size (w1.alloc (.cells #[] 98)) w1.heap.size (Nat.le_refl _) (heap_alloc_new w1 _)).any
  obtain ⟨w2, hw2⟩ : ∃ w2, w2 = w1.alloc (.cells #[] 98) := ⟨_, rfl⟩
  have hK2 : Below w1.heap.size w1 w2 := by rw [hw2]; exact (Below.refl _ _).alloc (Nat.le_refl _) _
  rw [← hw2] at OE
  have hz2 : w1.heap.size + 1 = w2.heap.size := by rw [hw2]; simp
  have HW : Hid ((w.alloc (.cells #[.int .i64 0, .slice none 0 0] 30)).alloc (.cells #[] 98) = w2 ∧ w.heap.size + 1 = w1.heap.size ∧ w1.heap.size + 1 = w2.heap.size) := ⟨by rw [hw2, hw1], hz1, hz2⟩
  have hzz : w.heap.size < w1.heap.size ∧ w1.heap.size < w2.heap.size := by omega
  clear hs hw1 hw2 hz1 hz2 hSL
  go_enter Try.func82, Try.ntmps82
  go_wp2_with fail
  rw [HW.out.1, HW.out.2.1]
  have HPC := Lib.hid (spN_petersen { data := #[112, 101, 116, 101, 114, 115, 101, 110] } w2 (by rw [Lib.toList_data]))
  refine HPC.out.mono ?_
  rintro e w3 ⟨AS, cS, rfl, OS, hb3⟩
  rw [spL_is] at OS ⊢
  rw [show spL.length = 15 from rfl] at OS ⊢
  obtain ⟨gS, rfl, ES⟩ := OS.some (by decide)
  have hgS := (OS.blk gS rfl).1
  have hgS2 := (OS.blk gS rfl).2
  have OE := OE.below hb3
  have hK3 := hK2.andB hb3
  obtain ⟨w4, hw4⟩ : ∃ w4, w4 = w3.alloc (.cells #[.int .i64 10, .slice (some ⟨gS, 0, none⟩) 15 cS] 30) := ⟨_, rfl⟩
  have X9 := Box2.made w3 (.int .i64 10) (.slice (some ⟨gS, 0, none⟩) 15 cS) 30
  have hb4 : Below w3.heap.size w3 w4 := by rw [hw4]; exact (Below.refl _ _).alloc (Nat.le_refl _) _
  rw [← hw4] at X9
  have OE := OE.below hb4
  have ES := ES.below hb4
  have hK4 := hK3.andB hb4
  have HW4 := Lib.hid hw4
  have hz3 := hK3.size
  obtain ⟨b9, hb9⟩ : ∃ b9, b9 = w3.heap.size := ⟨_, rfl⟩
  rw [← hb9] at X9
  have hb9w : w1.heap.size < b9 ∧ w1.heap.size < gS := by have := hb3.size; omega
  have HB9 := Lib.hid hb9
  have ES : Eds w4 gS 0 15 spL := ES
  clear hb3 hb4 hw4 hK2 hK3 OS HPC hb9
  go_wp2_with fail
  rw [← HW4.out, ← HB9.out]
  clear HW4
  go_loopw [4, 11] (fun lv jv wv => ∃ (j : Nat) (A : Option Addr) (c' : Nat), j ≤ 15 ∧ jv = .int .i64 j ∧ lv = .slice A (tie2 j).length c' ∧ OwnEA w1.heap.size wv A (tie2 j).length c' (tie2 j) ∧ Eds wv gS 0 15 spL ∧ Box2 wv b9 (.int .i64 10) (.slice (some ⟨gS, 0, none⟩) 15 cS) ∧ (∀ g, blkOf A = some g → g ≠ gS ∧ g ≠ b9) ∧ Below w1.heap.size w1 wv) (fun _ j _ => 15 - (intOf j).toNat)
  case atStart => exact ⟨0, _, _, by omega, rfl, rfl, OE, ES, X9, (fun g hg => by simp [blkOf] at hg; omega), hK4⟩
  case round =>
    clear OE ES X9 hK4
    obtain ⟨j, A, c', hj, rfl, rfl, O, ES, X9, hne, hKA⟩ := hrel
    obtain ⟨wA, rfl⟩ : ∃ wA, wA = wr := ⟨wr, rfl⟩
    obtain ⟨s9, p9, q9⟩ := X9
    have hNE := Lib.hid hne
    clear hne
    by_cases hlt : j < 15
    · have hsz := hKA.size
      have d1 := ES.ca j hlt
      have d2 := ES.cb j hlt
      rw [Nat.zero_add] at d1 d2
      have zS := ES.blk
      have HST := Lib.hid (tie2_step hlt)
      have hlen := tie2_len j
      obtain ⟨y, hy⟩ : ∃ y, y = ea spL j := ⟨_, rfl⟩
      obtain ⟨z, hz⟩ : ∃ z, z = eb spL j := ⟨_, rfl⟩
      rw [← hy, ← hz] at HST
      rw [← hy] at d1
      rw [← hz] at d2
      obtain ⟨x, hx⟩ : ∃ x, x = (tie2 j).length := ⟨_, rfl⟩
      have HX := Lib.hid hx
      rw [← hx] at O hlen ⊢
      clear hy hz hx
      have hES := Lib.hid ES
      clear ES
      by_cases hy0 : y = 0
      · have hq : (y != 0) = false := by simp [hy0]
        have HE : Hid (tie2 (j + 1) = tie2 j) := by show _ = _; rw [HST.out, if_pos hy0, List.append_nil]
        clear hy0
        go_wp2_with fail
        go_roundw
        case rel => exact ⟨j + 1, A, c', by omega, by go_num, by rw [HE.out, ← HX.out], by rw [HE.out, ← HX.out]; exact O, hES.out, ⟨s9, p9, q9⟩, hNE.out, hKA⟩
        case measure => simp [intOf]; omega
      · have hq : (y != 0) = true := by simpa using hy0
        have HE : Hid (tie2 (j + 1) = tie2 j ++ [(y, z)]) := by show _ = _; rw [HST.out, if_neg hy0]
        have HE2 : Hid ((tie2 (j + 1)).length = x + 1) := by show _ = _; rw [HE.out, List.length_append, ← HX.out]; rfl
        clear hy0
        go_wp2_with (at_builtin; refine wp_appEA1 rfl rfl rfl rfl (by simp) O (by omega) (by omega) ?_; intro A2 c2 wB O2 hg2 hat2)
        have hbF := O.grown hKA (Nat.le_refl _) hg2 hsz
        have hS2 : wB.heap[gS]? = wA.heap[gS]? := hg2.block gS zS (fun hh => (hNE.out gS hh.symm).1 rfl)
        have h92 : wB.heap[b9]? = wA.heap[b9]? := hg2.block b9 s9 (fun hh => (hNE.out b9 hh.symm).2 rfl)
        have ES2 : Eds wB gS 0 15 spL := ⟨hES.out.len, Nat.lt_of_lt_of_le zS hg2.size, fun t ht => (World.cell?_of_block (w := wA) hS2).trans (hES.out.ca t ht), fun t ht => (World.cell?_of_block (w := wA) hS2).trans (hES.out.cb t ht)⟩
        have X92 : Box2 wB b9 (.int .i64 10) (.slice (some ⟨gS, 0, none⟩) 15 cS) := ⟨Nat.lt_of_lt_of_le s9 hg2.size, (World.cell?_of_block (w := wA) h92).trans p9, (World.cell?_of_block (w := wA) h92).trans q9⟩
        have hNE2 : ∀ g, blkOf A2 = some g → g ≠ gS ∧ g ≠ b9 := fun g hg => by
          rcases hat2 with h | ⟨g', e, hg'⟩
          · rw [h] at hg; exact hNE.out g hg
          · rw [e] at hg; have := Option.some.inj hg; omega
        clear hS2 h92 d1 d2 p9 q9
        go_roundw
        case rel => exact ⟨j + 1, A2, c2, by omega, by go_num, by rw [HE2.out], by rw [HE2.out, HE.out]; exact O2, ES2, X92, hNE2, hbF⟩
        case measure => simp [intOf]; omega
    · obtain rfl : j = 15 := by omega
      clear ES
      rw [show (tie2 15).length = 12 by decide +kernel] at O ⊢
      go_wp2_with fail
      refine (l01Cycle_any (cs := #[.int .i64 0, .int .i64 10, .int .i64 11]) [0, 10, 11] _ (O.below ((Below.refl _ _).alloc (Nat.le_refl _) _)) (by have := hKA.size; simp; omega) (heap_alloc_new _ _) rfl rfl (by decide) (by decide)).mono ?_
      rintro e w5 ⟨A5, c5, rfl, O5, hb5⟩
      have hKA := hKA.trans (((Below.refl _ _).alloc (by exact hKA.size) _).trans hb5)
      have O := O5
      clear O5 hb5
      have hsz := hKA.size
      go_wp2_with (at_builtin; (refine wp_appB ([(0, 1), (10, 4), (11, 5)]) rfl rfl rfl rfl (by simp) rfl rfl (by decide) (by decide) O hsz (by decide) ?_; intro A2 c2 wB O2 hg2))
      have hKA := O.grown hKA (Nat.le_refl _) hg2 hsz
      have O := O2
      clear O2 hg2 hsz
      obtain ⟨gA, rfl, EA⟩ := O.some (by decide)
      clear O
      go_wp2_with fail
      refine (HM.out _ _ _ EA).mono ?_
      rintro e w6 ⟨g6, c6, rfl, O6, hb6⟩
      have hzA := hKA.size
      have hK6 := hKA.andB hb6
      have PW := PB.below hK6
      have hO := O6.ge
      have hB6 := hbb.andB hK6
      have O9 := (O6.setOther (a := ⟨w.heap.size, 0, none⟩) (by simp; omega) (.int .i64 12)).setOther (a := ⟨w.heap.size, 1, none⟩) (by simp; omega) (.slice (some ⟨g6, 0, none⟩) SL.length c6)
      have P8 := PW.set2 (.int .i64 12) (.slice (some ⟨g6, 0, none⟩) SL.length c6)
      have hB8 := (hB6.setCell (p := ⟨w.heap.size, 0, none⟩) (Nat.le_refl _) (.int .i64 12)).setCell (p := ⟨w.heap.size, 1, none⟩) (Nat.le_refl _) (.slice (some ⟨g6, 0, none⟩) SL.length c6)
      obtain ⟨⟨sW, pW, qW⟩, fW, gW⟩ := PW
      clear O6 hb6 hKA hK6 HM
      go_wp2_with fail
      obtain ⟨w9, hw9⟩ : ∃ w9, w9 = ((w6.setCell ⟨w.heap.size, 0, none⟩ (.int .i64 12)).setCell ⟨w.heap.size, 1, none⟩ (.slice (some ⟨g6, 0, none⟩) SL.length c6)) := ⟨_, rfl⟩
      rw [← hw9] at O9 P8 hB8 ⊢
      clear hw9
      obtain ⟨⟨k0, k1, k2⟩, _, _⟩ := P8
      refine bodyPost_ret (v := .tuple #[.agg #[.int .i64 12, .slice (some ⟨g6, 0, none⟩) SL.length c6], .bool true]) ?_ rfl ⟨_, c6, rfl, O9.any.mono (by omega), hB8⟩
      simp [results, Try.results82, go_sem, k1, k2]
set_option maxRecDepth 100000 in
set_option maxHeartbeats 2000000 in
theorem spN_none (s : ByteArray) (w : World) (h0 : s.toList ≠ [116, 104, 101, 116, 97]) (h1 : s.toList ≠ [107, 52]) (h2 : s.toList ≠ [107, 51, 51]) (h3 : s.toList ≠ [112, 114, 105, 115, 109]) (h4 : s.toList ≠ [99, 117, 98, 101]) (h5 : s.toList ≠ [112, 101, 116, 101, 114, 115, 101, 110]) (h6 : s.toList ≠ [116, 105, 101, 116, 122, 101]) (h7 : s.toList ≠ [102, 108, 111, 119, 101, 114, 53]) (h8 : s.toList ≠ [98, 114, 105, 100, 103, 101]) : Calls Try.prog 82 #[.string s] w (RetGB 0 [] false w) := by
  have e0 : (s.toList == [116, 104, 101, 116, 97]) = false := by simpa using h0
  have e1 : (s.toList == [107, 52]) = false := by simpa using h1
  have e2 : (s.toList == [107, 51, 51]) = false := by simpa using h2
  have e3 : (s.toList == [112, 114, 105, 115, 109]) = false := by simpa using h3
  have e4 : (s.toList == [99, 117, 98, 101]) = false := by simpa using h4
  have e5 : (s.toList == [112, 101, 116, 101, 114, 115, 101, 110]) = false := by simpa using h5
  have e6 : (s.toList == [116, 105, 101, 116, 122, 101]) = false := by simpa using h6
  have e7 : (s.toList == [102, 108, 111, 119, 101, 114, 53]) = false := by simpa using h7
  have e8 : (s.toList == [98, 114, 105, 100, 103, 101]) = false := by simpa using h8
  have PB := Box2F.made w (.int .i64 0) (.slice none 0 0) 30
  obtain ⟨w1, hw1⟩ : ∃ w1, w1 = w.alloc (.cells #[.int .i64 0, .slice none 0 0] 30) := ⟨_, rfl⟩
  have hbb : Below w.heap.size w w1 := by rw [hw1]; exact (Below.refl _ _).alloc (Nat.le_refl _) _
  rw [← hw1] at PB
  have hK2 : Below w1.heap.size w1 (w1.alloc (.cells #[] 98)) := (Below.refl _ _).alloc (Nat.le_refl _) _
  obtain ⟨w2, hw2⟩ : ∃ w2, w2 = w1.alloc (.cells #[] 98) := ⟨_, rfl⟩
  rw [← hw2] at hK2
  have HW : Hid ((w.alloc (.cells #[.int .i64 0, .slice none 0 0] 30)).alloc (.cells #[] 98) = w2) := by show _ = _; rw [hw2, hw1]
  have PW := PB.below hK2
  have hB6 := hbb.andB hK2
  obtain ⟨⟨sW, pW, qW⟩, fW, gW⟩ := PW
  clear hw1 hw2 h0 h1 h2 h3 h4 h5 h6 h7 h8 hbb hK2 PB
  have hB8 := Lib.hid hB6
  have k1 := pW
  have k2 := qW
  rw [← HW.out] at pW qW fW gW sW
  go_enter Try.func82, Try.ntmps82
  go_wp2_with fail
  rw [HW.out]
  refine bodyPost_ret (v := .tuple #[.agg #[.int .i64 0, .slice none 0 0], .bool false]) ?_ rfl ⟨none, 0, rfl, OwnEA.nil _ _, hB8.out⟩
  simp [results, Try.results82, go_sem, k1, k2]
end Go.Proofs.Ytppfplhbfgjjhaa
