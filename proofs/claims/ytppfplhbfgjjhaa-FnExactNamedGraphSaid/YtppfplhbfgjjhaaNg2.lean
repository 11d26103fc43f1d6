import Derived.Test.YtppfplhbfgjjhaaNg1
namespace Go.Proofs.Ytppfplhbfgjjhaa
open Go.RowKit Go.Sort
/-! ### Stars, cycles, lists joined -/
def starL (v : Int) (xs : List Int) : List (Int × Int) := xs.map fun u => (v, u)
def cycL (xs : List Int) : List (Int × Int) := (List.range xs.length).map fun i => (ia xs i, ia xs ((i + 1) % xs.length))
theorem map_take_succ {α β : Type} (f : α → β) (xs : List α) {j : Nat} (h : j < xs.length) : (xs.take (j + 1)).map f = (xs.take j).map f ++ [f xs[j]] := by
  rw [List.take_succ_eq_append_getElem h, List.map_append]; rfl
theorem star_step (v : Int) (xs : List Int) {j : Nat} (h : j < xs.length) : starL v (xs.take (j + 1)) = starL v (xs.take j) ++ [(v, ia xs j)] := by
  unfold starL
  rw [map_take_succ _ _ h]
  simp [ia, List.getD_eq_getElem?_getD, h]
def cycT (xs : List Int) (j : Nat) : List (Int × Int) := (List.range j).map fun i => (ia xs i, ia xs ((i + 1) % xs.length))
theorem cyc_step (xs : List Int) (j : Nat) : cycT xs (j + 1) = cycT xs j ++ [(ia xs j, ia xs ((j + 1) % xs.length))] := by
  unfold cycT; rw [List.range_succ, List.map_append]; rfl
theorem cycT_len (xs : List Int) (j : Nat) : (cycT xs j).length = j := by simp [cycT]
theorem starT_len (v : Int) (xs : List Int) {j : Nat} (h : j ≤ xs.length) : (starL v (xs.take j)).length = j := by simp [starL]; omega
set_option maxRecDepth 100000 in
theorem star_any (v : Int) (xs : List Int) (b k c : Nat) (w : World) (hI : Ints w b 0 k (ia xs)) (hk : xs.length = k) (hk2 : k ≤ 100) :
    Calls Try.prog 84 #[.int .i64 v, .slice (some ⟨b, 0, none⟩) k c] w (RetEA (starL v xs) w) := by
  have HK := Lib.hid hk
  have hzb := hI.blk
  clear hk
  go_enter Try.func84, Try.ntmps84
  go_wp2_with fail
  go_loopw [5, 10] (fun lv iv wv => ∃ (j : Nat) (A : Option Addr) (c' : Nat), j ≤ k ∧ iv = .int .i64 j ∧ lv = .slice A j c' ∧ OwnEA w.heap.size wv A j c' (starL v (xs.take j)) ∧ Below w.heap.size w wv) (fun _ i _ => k - (intOf i).toNat)
  case atStart => exact ⟨0, none, 0, Nat.zero_le _, rfl, rfl, OwnEA.nil _ _, Below.refl _ _⟩
  case round =>
    obtain ⟨j, A, c', hj, rfl, rfl, O, hb⟩ := hrel
    by_cases hlt : j < k
    · have i1 := (hb.cell (p := ⟨b, 0 + j, none⟩) hzb).trans (hI.c j hlt)
      rw [Nat.zero_add] at i1
      have zb : b < wr.heap.size := Nat.lt_of_lt_of_le hzb hb.size
      have hsz := hb.size
      have HST : Hid (starL v (xs.take (j + 1)) = starL v (xs.take j) ++ [(v, ia xs j)]) := star_step v xs (by rw [HK.out]; exact hlt)
      obtain ⟨y, hy⟩ : ∃ y, y = ia xs j := ⟨_, rfl⟩
      rw [← hy] at i1 HST
      clear hy
      go_wp2_with (at_builtin; (refine wp_appB [(v, y)] rfl rfl rfl rfl (by simp) rfl rfl (by simp) (by simp) O (by omega) (by omega) ?_; intro A2 c2 w2 O2 hg2))
      have hbF := O.grown hb (Nat.le_refl _) hg2 hsz
      go_roundw
      case rel => exact ⟨j + 1, A2, c2, by omega, by go_num, rfl, by rw [HST.out]; exact O2, hbF⟩
      case measure => simp [intOf]; omega
    · obtain rfl : j = k := by omega
      go_wp2_with fail
      go_ret
      rw [← HK.out, List.take_length] at O
      refine ⟨A, c', ?_, ?_, hb⟩
      · rw [show (starL v xs).length = j by rw [← HK.out]; simp [starL]]; rfl
      · rw [show (starL v xs).length = xs.length by simp [starL]]; exact O
set_option maxRecDepth 100000 in
theorem cycle_any (xs : List Int) (b k c : Nat) (w : World) (hI : Ints w b 0 k (ia xs)) (hk : xs.length = k) (hk2 : k ≤ 100) :
    Calls Try.prog 85 #[.slice (some ⟨b, 0, none⟩) k c] w (RetEA (cycL xs) w) := by
  have HK := Lib.hid hk
  have hzb := hI.blk
  clear hk
  go_enter Try.func85, Try.ntmps85
  go_wp2_with fail
  go_loopw [3, 8] (fun lv iv wv => ∃ (j : Nat) (A : Option Addr) (c' : Nat), j ≤ k ∧ iv = .int .i64 j ∧ lv = .slice A j c' ∧ OwnEA w.heap.size wv A j c' (cycT xs j) ∧ Below w.heap.size w wv) (fun _ i _ => k - (intOf i).toNat)
  case atStart => exact ⟨0, none, 0, Nat.zero_le _, rfl, rfl, OwnEA.nil _ _, Below.refl _ _⟩
  case round =>
    obtain ⟨j, A, c', hj, rfl, rfl, O, hb⟩ := hrel
    by_cases hlt : j < k
    · have i1 := (hb.cell (p := ⟨b, 0 + j, none⟩) hzb).trans (hI.c j hlt)
      have i2 := (hb.cell (p := ⟨b, 0 + (j + 1) % k, none⟩) hzb).trans (hI.c _ (Nat.mod_lt _ (by omega)))
      rw [Nat.zero_add] at i1 i2
      have zb : b < wr.heap.size := Nat.lt_of_lt_of_le hzb hb.size
      have hsz := hb.size
      have HST : Hid (cycT xs (j + 1) = cycT xs j ++ [(ia xs j, ia xs ((j + 1) % k))]) := by show _ = _; rw [cyc_step, HK.out]
      obtain ⟨y, hy⟩ : ∃ y, y = ia xs j := ⟨_, rfl⟩
      obtain ⟨x, hx⟩ : ∃ x, x = ia xs ((j + 1) % k) := ⟨_, rfl⟩
      have hk0 : ((k : Int) == 0) = false := by simp; omega
      have hw1 : IntKind.i64.wrap ((j : Int) + 1) = ((j + 1 : Nat) : Int) := by rw [IntWalk.i64_in _ (by omega)]; simp
      have hi0 : 0 ≤ ((j : Int) + 1) % (k : Int) := Int.emod_nonneg _ (by omega)
      have hi1 : ((j : Int) + 1) % (k : Int) < k := Int.emod_lt_of_pos _ (by omega)
      have hzk : (j + 1) % k < k := Nat.mod_lt _ (by omega)
      rw [← hx] at HST i2
      rw [← hy] at i1 HST
      clear hy hx
      go_wp2_with (at_builtin; refine wp_appB [(y, x)] rfl rfl rfl rfl (by simp) rfl rfl (by simp) (by simp) O (by omega) (by omega) ?_; intro A2 c2 w2 O2 hg2)
      have hbF := O.grown hb (Nat.le_refl _) hg2 hsz
      go_roundw
      case rel => exact ⟨j + 1, A2, c2, by omega, by go_num, rfl, by rw [HST.out]; exact O2, hbF⟩
      case measure => simp [intOf]; omega
    · obtain rfl : j = k := by omega
      go_wp2_with fail
      go_ret
      refine ⟨A, c', ?_, ?_, hb⟩
      · rw [show (cycL xs).length = j by rw [← HK.out]; simp [cycL]]; rfl
      · rw [show (cycL xs).length = j by rw [← HK.out]; simp [cycL]]
        have : cycL xs = cycT xs j := by unfold cycL cycT; rw [HK.out]
        rw [this]; exact O
end Go.Proofs.Ytppfplhbfgjjhaa
