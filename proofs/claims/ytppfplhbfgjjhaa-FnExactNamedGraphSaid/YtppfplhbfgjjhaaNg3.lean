import Derived.Test.YtppfplhbfgjjhaaNg2
namespace Go.Proofs.Ytppfplhbfgjjhaa
open Go.RowKit Go.Sort
/-! ### slices.Concat at lists of edges -/
def rr (rows : List (List (Int × Int))) (j : Nat) : List (Int × Int) := rows.getD j []
def flT (rows : List (List (Int × Int))) (j : Nat) : List (Int × Int) := (rows.take j).flatten
theorem fl_step (rows : List (List (Int × Int))) {j : Nat} (h : j < rows.length) : flT rows (j + 1) = flT rows j ++ rr rows j := by
  unfold flT rr
  rw [List.take_succ_eq_append_getElem h, List.flatten_append]
  simp [List.getD_eq_getElem?_getD, h]
theorem fl_all (rows : List (List (Int × Int))) : flT rows rows.length = rows.flatten := by unfold flT; rw [List.take_length]
set_option maxRecDepth 100000 in
set_option maxHeartbeats 1000000 in
theorem concat_any (rows : List (List (Int × Int))) (B k c : Nat) (w : World) (hk : rows.length = k) (hk0 : 0 < k) (hk3 : k ≤ 10) (hB : B < w.heap.size)
    (hc : ∀ j, j < k → ∃ Aj cj, w.cell? ⟨B, j, none⟩ = some (.slice Aj (rr rows j).length cj) ∧ SrcE w Aj (rr rows j).length (rr rows j))
    (hr : ∀ j, j < k → 0 < (rr rows j).length ∧ (rr rows j).length ≤ 50) :
    Calls Try.prog 83 #[.slice (some ⟨B, 0, none⟩) k c] w (RetEA rows.flatten w) := by
  have HK := Lib.hid hk
  have HFS : Hid (∀ j, j < k → flT rows (j + 1) = flT rows j ++ rr rows j) := fun j hj => fl_step rows (by rw [HK.out]; exact hj)
  have hFL : ∀ j, j ≤ k → (flT rows j).length ≤ 50 * j := by
    intro j
    induction j with
    | zero => intro _; simp [flT]
    | succ j ih => intro hj; rw [HFS.out j (by omega), List.length_append]; have := ih (by omega); have := (hr j (by omega)).2; omega
  have HFL := Lib.hid hFL
  have HFK : Hid (flT rows k = rows.flatten) := by show _ = _; rw [← fl_all, HK.out]
  have HC := Lib.hid hc
  have HR := Lib.hid hr
  have h0 : 0 < (flT rows k).length := by
    obtain ⟨k', rfl⟩ : ∃ k', k = k' + 1 := ⟨k - 1, by omega⟩
    rw [HFS.out k' (by omega), List.length_append]
    have := (hr k' (by omega)).1
    omega
  have hGR := fun W => growE_any (flT rows k).length W h0 (by have := hFL k (Nat.le_refl _); omega)
  obtain ⟨tk, htk⟩ : ∃ tk, tk = (flT rows k).length := ⟨_, rfl⟩
  rw [← htk] at hGR h0
  have HTK := Lib.hid htk
  have HGR := Lib.hid hGR
  clear hc hk hr hFL hGR htk
  go_enter Try.func83, Try.ntmps83
  go_wp2_with fail
  go_loopw [3, 11] (fun sv iv wv => ∃ j : Nat, j ≤ k ∧ iv = .int .i64 j ∧ sv = .int .i64 (flT rows j).length ∧ wv = w) (fun _ i _ => k - (intOf i).toNat)
  case atStart => exact ⟨0, Nat.zero_le _, rfl, rfl, rfl⟩
  case round =>
    obtain ⟨j, hj, rfl, rfl, rfl⟩ := hrel
    obtain ⟨w, rfl⟩ : ∃ w', w' = wr := ⟨wr, rfl⟩
    by_cases hlt : j < k
    · obtain ⟨Aj, cj, c1, S⟩ := HC.out j hlt
      have hl1 := (HR.out j hlt).2
      have hl2 := HFL.out j hj
      have HL : Hid ((flT rows (j + 1)).length = (flT rows j).length + (rr rows j).length) := by show _ = _; rw [HFS.out j hlt, List.length_append]
      obtain ⟨x, hx⟩ : ∃ x, x = (flT rows j).length := ⟨_, rfl⟩
      obtain ⟨y, hy⟩ : ∃ y, y = (rr rows j).length := ⟨_, rfl⟩
      rw [← hx, ← hy] at HL
      rw [← hx] at hl2 ⊢
      rw [← hy] at c1 hl1
      have hw1 : IntKind.i64.wrap ((x : Int) + y) = ((x + y : Nat) : Int) := by rw [IntWalk.i64_in _ (by omega)]; simp
      have hn : ¬ (((x + y : Nat) : Int) < 0) := by omega
      clear hx hy S
      go_wp2_with fail
      go_roundw
      case rel => exact ⟨j + 1, by omega, by go_num, (by rw [HL.out]; simp), trivial⟩
      case measure => simp [intOf]; omega
    · obtain rfl : j = k := by omega
      rw [← HTK.out]
      go_wp2_with fail
      refine (HGR.out _).mono ?_
      rintro e w2 ⟨A2, c2, rfl, O, hb⟩
      go_wp2_with fail
      go_loopw [6, 27] (fun lv iv wv => ∃ (i : Nat) (A : Option Addr) (c' : Nat), i ≤ j ∧ iv = .int .i64 i ∧ lv = .slice A (flT rows i).length c' ∧ OwnEA w.heap.size wv A (flT rows i).length c' (flT rows i) ∧ Below w.heap.size w wv) (fun _ i _ => j - (intOf i).toNat)
      case atStart => exact ⟨0, A2, c2, Nat.zero_le _, rfl, rfl, O, hb⟩
      case round =>
        clear O hb
        obtain ⟨i, A, c', hi, rfl, rfl, O, hb⟩ := hrel
        by_cases hlt : i < j
        · obtain ⟨Aj, cj, c1, S⟩ := HC.out i hlt
          have hl0 := (HR.out i hlt).1
          have hl1 := (HR.out i hlt).2
          have hl2 := HFL.out i hi
          obtain ⟨b, o, rfl, E⟩ := S.2 hl0
          have HL := HFS.out i hlt
          have HL2 : Hid ((flT rows (i + 1)).length = (flT rows i).length + (rr rows i).length) := by show _ = _; rw [HL, List.length_append]
          have HL := Lib.hid HL
          have hsz := hb.size
          have c1 := (hb.cell (p := ⟨B, i, none⟩) hB).trans c1
          have zB : B < wr.heap.size := by omega
          have EW := E.below hb
          obtain ⟨x, hx⟩ : ∃ x, x = (flT rows i).length := ⟨_, rfl⟩
          obtain ⟨y, hy⟩ : ∃ y, y = (rr rows i).length := ⟨_, rfl⟩
          rw [← hx, ← hy] at HL2
          rw [← hx] at hl2 O ⊢
          rw [← hy] at c1 hl1 hl0 EW
          clear hx hy S E
          go_wp2_with (at_builtin; refine wp_appX rfl rfl rfl rfl EW hl0 (by omega) O hsz (by omega) ?_; intro A3 c3 w3 O3 hg3)
          have hbF := O.grown hb (Nat.le_refl _) hg3 hsz
          go_roundw
          case rel => exact ⟨i + 1, A3, c3, by omega, by go_num, by rw [HL2.out], by rw [HL2.out, HL.out]; exact O3, hbF⟩
          case measure => simp [intOf]; omega
        · obtain rfl : i = j := by omega
          go_wp2_with fail
          go_ret
          rw [HFK.out] at O ⊢
          exact ⟨A, c', rfl, O, hb⟩
end Go.Proofs.Ytppfplhbfgjjhaa
