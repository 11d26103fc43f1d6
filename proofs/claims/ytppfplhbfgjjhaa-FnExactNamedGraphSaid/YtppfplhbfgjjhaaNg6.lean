import Derived.Test.YtppfplhbfgjjhaaNg5
namespace Go.Proofs.Ytppfplhbfgjjhaa
open Go.RowKit Go.Sort
/-! ### The program's named graphs: bridged, tietze -/
theorem OwnEA.neT {base : Nat} {W : World} {A : Option Addr} {m c p : Nat} {es : List (Int × Int)} {cs : Array Value} (h : OwnEA base W A m c es) (hh : W.heap[p]? = some (.cells cs 2)) : some p ≠ blkOf A := by
  rcases h.2.2 with ⟨e, _⟩ | ⟨g, cap, cur, e, _, hg, _⟩
  · injection e with e1; subst e1; simp [blkOf]
  · injection e with e1; subst e1
    intro he
    simp only [blkOf, Option.map_some, Option.some.injEq] at he
    subst he
    rw [hh] at hg
    cases hg
def briG (v : Int) : List (Int × Int) := starL v [v + 2, v + 3, v + 4] ++ (starL (v + 1) [v + 2, v + 3, v + 4] ++ starL (v + 2) [v + 3])
def briT : Nat → List (Int × Int)
  | 0 => [(4, 9)]
  | j + 1 => briT j ++ briG (ia [0, 5] j)
theorem briT_len : ∀ j, (briT j).length = 1 + 7 * j := by
  intro j
  induction j with
  | zero => rfl
  | succ j ih => simp only [briT, List.length_append, ih, briG, starL]; simp; omega
set_option maxRecDepth 100000 in
set_option maxHeartbeats 1000000 in
theorem bridged_any (w : World) : Calls Try.prog 90 #[] w (RetEA (briT 2) w) := by
  have O0 : OwnEA w.heap.size (w.alloc (.cells #[.int .i64 4, .int .i64 9] 98)) (some ⟨w.heap.size, 0, none⟩) 1 1 [(4, 9)] := ownEA_lit [(4, 9)] 1 rfl rfl (by decide)
  obtain ⟨w1, hw1⟩ : ∃ w1, w1 = w.alloc (.cells #[.int .i64 4, .int .i64 9] 98) := ⟨_, rfl⟩
  have hb1 : Below w.heap.size w w1 := by rw [hw1]; exact (Below.refl _ _).alloc (Nat.le_refl _) _
  rw [← hw1] at O0
  have hH := heap_alloc_new w1 (.cells #[.int .i64 0, .int .i64 5] 2)
  have hI : Ints (w1.alloc (.cells #[.int .i64 0, .int .i64 5] 2)) w1.heap.size 0 2 (ia [0, 5]) := ints_lit (ys := [0, 5]) rfl
  obtain ⟨w2, hw2⟩ : ∃ w2, w2 = w1.alloc (.cells #[.int .i64 0, .int .i64 5] 2) := ⟨_, rfl⟩
  have hb2 : Below w1.heap.size w1 w2 := by rw [hw2]; exact (Below.refl _ _).alloc (Nat.le_refl _) _
  rw [← hw2] at hH hI
  have hzw : w.heap.size + 1 = w1.heap.size := by rw [hw1]; simp
  have O0 := O0.below hb2
  have hB2 := hb1.andB hb2
  have hz1 : w1.heap.size < w2.heap.size := by rw [hw2]; simp
  have HW : Hid (w2 = (w.alloc (.cells #[.int .i64 4, .int .i64 9] 98)).alloc (.cells #[.int .i64 0, .int .i64 5] 2) ∧ w.heap.size + 1 = w1.heap.size) := ⟨by rw [hw2, hw1], hzw⟩
  obtain ⟨gi, hgi⟩ : ∃ gi, gi = w1.heap.size := ⟨_, rfl⟩
  rw [← hgi] at hH hI hz1 HW
  clear hb1 hb2 hw1 hw2 hzw
  go_enter Try.func90, Try.ntmps90
  go_wp2_with fail
  rw [← HW.out.1, HW.out.2]
  go_wp2_with fail
  go_loopw [1, 8] (fun lv iv wv => ∃ (j : Nat) (A : Option Addr) (c' : Nat), j ≤ 2 ∧ iv = .int .i64 j ∧ lv = .slice A (briT j).length c' ∧ OwnEA w.heap.size wv A (briT j).length c' (briT j) ∧ wv.heap[gi]? = some (.cells #[.int .i64 0, .int .i64 5] 2) ∧ Below w.heap.size w wv) (fun _ i _ => 2 - (intOf i).toNat)
  case atStart => exact ⟨0, _, _, by omega, rfl, rfl, O0, hH, hB2⟩
  case round =>
    clear O0 hB2 hH hI hz1 hgi
    obtain ⟨j, A, c', hj, rfl, rfl, O, hH, hb⟩ := hrel
    have zi : gi < wr.heap.size := (Array.getElem?_eq_some_iff.1 hH).1
    by_cases hlt : j < 2
    · have hsz := hb.size
      have hL2 : Hid ((briT (j + 1)).length = (briT j).length + 7) := by show _ = _; rw [briT_len, briT_len]; omega
      have hl := briT_len j
      obtain ⟨x, hx⟩ : ∃ x, x = (briT j).length := ⟨_, rfl⟩
      rw [← hx] at hL2 O hl ⊢
      have hx30 : x ≤ 30 := by omega
      obtain ⟨v, hv⟩ : ∃ v, v = ia [0, 5] j := ⟨_, rfl⟩
      have hv5 : 0 ≤ v ∧ v ≤ 5 := by
        have : j = 0 ∨ j = 1 := by omega
        rcases this with rfl | rfl <;> (rw [hv]; decide)
      have HT : Hid (briT (j + 1) = briT j ++ briG v) := by show _ = _; rw [hv]; rfl
      have i1 : wr.cell? ⟨gi, j, none⟩ = some (.int .i64 v) := by
        unfold World.cell?
        rw [show wr.heap[(⟨gi, j, none⟩ : Addr).block]? = _ from hH, hv]
        have : j = 0 ∨ j = 1 := by omega
        rcases this with rfl | rfl <;> rfl
      have w1 : IntKind.i64.wrap (v + 1) = v + 1 := IntWalk.i64_in _ (by omega)
      have w2 : IntKind.i64.wrap (v + 2) = v + 2 := IntWalk.i64_in _ (by omega)
      have w3 : IntKind.i64.wrap (v + 3) = v + 3 := IntWalk.i64_in _ (by omega)
      have w4 : IntKind.i64.wrap (v + 4) = v + 4 := IntWalk.i64_in _ (by omega)
      have HN := Lib.hid (O.neT hH)
      have hHK := Lib.hid hH
      clear hx hl hv hH
      go_wp2_with fail
      refine (star_lit v [v + 2, v + 3, v + 4] 3 rfl rfl (by decide)).mono ?_
      rintro e w5 ⟨A5, c5, rfl, O5, hb5⟩
      have hK5 := hb5
      go_wp2_with fail
      refine (star_lit (v + 1) [v + 2, v + 3, v + 4] 3 rfl rfl (by decide)).mono ?_
      rintro e w6 ⟨A6, c6, rfl, O6, hb6⟩
      have O5 := O5.below hb6
      have hK6 := hK5.andB hb6
      go_wp2_with fail
      refine (star_lit (v + 2) [v + 3] 1 rfl rfl (by decide)).mono ?_
      rintro e w7 ⟨A7, c7, rfl, O7, hb7⟩
      have O5 := O5.below hb7
      have O6 := O6.below hb7
      have hK7 := hK6.andB hb7
      clear hb5 hb6 hb7 hK5 hK6
      go_wp2_with fail
      refine (concat3 O5 O6 O7 (by simp [starL]) (by simp [starL]) (by simp [starL])).mono ?_
      rintro e w8 ⟨A8, c8, rfl, O8, hb8⟩
      have hK8 := hK7.andB hb8
      have OX := O.below hK8
      have hB8 := hb.andB hK8
      have hz8 := hB8.size
      obtain ⟨b8, o8, rfl, E8⟩ := O8.src.2 (by show 0 < 7; decide)
      rw [show (starL v [v + 2, v + 3, v + 4] ++ (starL (v + 1) [v + 2, v + 3, v + 4] ++ starL (v + 2) [v + 3])).length = 7 from rfl] at E8 ⊢
      have hH8 : w8.heap[gi]? = some (.cells #[.int .i64 0, .int .i64 5] 2) := (hK8.block gi zi).trans hHK.out
      have hH8 := Lib.hid hH8
      have z8 : gi < w8.heap.size := Nat.lt_of_lt_of_le zi hK8.size
      clear O5 O6 O7 O8 hK7 hb8 hK8 hb O i1
      go_wp2_with (at_builtin; (refine wp_appX rfl rfl rfl rfl E8 (by decide) (by decide) OX hz8 (by omega) ?_; intro A9 c9 w9 O9 hg9))
      have hbF := OX.grown hB8 (Nat.le_refl _) hg9 hz8
      have hH9 : w9.heap[gi]? = some (.cells #[.int .i64 0, .int .i64 5] 2) := (hg9.block gi z8 (fun hh => HN.out hh)).trans hH8.out
      go_roundw
      case rel => exact ⟨j + 1, A9, c9, by omega, by go_num, by rw [hL2.out], by rw [hL2.out, HT.out]; exact O9, hH9, hbF⟩
      case measure => simp [intOf]; omega
    · obtain rfl : j = 2 := by omega
      go_wp2_with fail
      go_ret
      exact ⟨A, c', rfl, O, hb⟩
end Go.Proofs.Ytppfplhbfgjjhaa
