import Derived.Test.YtppfplhbfgjjhaaDoorMu
namespace Go.Proofs.YtppfplhbfgjjhaaDoor
open Go.RowKit Go.Sort Go.Shelf
theorem uns_0 (n : Nat) : uns 0 n = n := by
  unfold uns
  rw [List.filter_eq_self.2 (fun a _ => by simp)]; simp
set_option maxRecDepth 100000 in
set_option maxHeartbeats 2000000 in
theorem matchings_any {bw bm b o n m c wt : Nat} {es : List (Int × Int)} (w : World) (hm : m ≤ 1048576) (hG : IsG n es) (hwt : wt < 18446744073709551616)
    (h : Eds w b o m es) (hcw : w.cell? ⟨bw, 0, none⟩ = some (.int .u64 wt)) (hcm : w.cell? ⟨bm, 0, none⟩ = some (.int .i64 0)) (hfz : w.frozen? ⟨bm, 0, none⟩ = false) (hT : TabAt 0 Lib.deBruijn64tab w) (h0 : 0 < w.heap.size) (hne : b ≠ bm ∧ bw ≠ bm ∧ 0 ≠ bm) :
    Calls Tryd.prog 31 #[.agg #[.int .i64 n, .slice (some ⟨b, o, none⟩) m c], .func (.func 32) #[] #[.pointer (some ⟨bw, 0, none⟩), .pointer (some ⟨bm, 0, none⟩)]] w (fun e w' => e = .returned (.bool false) ∧ w'.cell? ⟨bm, 0, none⟩ = some (.int .i64 ((cM wt 0 (mts es n 10 0) : Nat) : Int)) ∧ Kept (fun k => k = bm) w w') := by
  have hn20 := hG.wf.2.1
  have he2 : Enters 43 := fun args w => by kernel_rfl
  unfold Enters at he2
  have hbm := World.block_lt_of_cell? w ⟨bm, 0, none⟩ hcm
  have hbw := World.block_lt_of_cell? w ⟨bw, 0, none⟩ hcw
  simp only at hbm hbw
  have HGR := Lib.hid (fun bg bd bf W (M : MS bg bd bf bw bm b o n m c wt es W) hc => mgrow_any hm hG hwt 10 0 0 0 W (by rw [uns_0]; omega) (Nat.two_pow_pos _) (by decide) (by decide) M hc)
  obtain ⟨W3, hW3⟩ : ∃ W3, W3 = (((w.alloc (.cells #[.int .i64 n, .slice (some ⟨b, o, none⟩) m c] 30)).alloc (.cells #[.func (.func 32) #[] #[.pointer (some ⟨bw, 0, none⟩), .pointer (some ⟨bm, 0, none⟩)]] 60)).alloc (.cells #[.func (.func 43) #[] #[.pointer (some ⟨w.heap.size, 0, none⟩), .pointer (some ⟨w.heap.size + 1, 0, none⟩), .pointer (some ⟨w.heap.size + 1 + 1, 0, none⟩)]] 68)) := ⟨_, rfl⟩
  have hB : Below w.heap.size w W3 := by
    rw [hW3]; exact (((Below.refl _ _).alloc (Nat.le_refl _) _).alloc (by simp) _).alloc (by simp; omega) _
  have hs3 : W3.heap.size = w.heap.size + 1 + 1 + 1 := by rw [hW3]; simp [go_sem]
  have hM : MS w.heap.size (w.heap.size + 1) (w.heap.size + 1 + 1) bw bm b o n m c wt es W3 := {
    E := h.below hB
    X := ⟨by omega, by rw [hW3]; simp [go_sem], by rw [hW3]; simp [go_sem]⟩
    cd := by rw [hW3]; simp [go_sem]
    cf := by rw [hW3]; simp [go_sem]
    cw := (hB.cell (p := ⟨bw, 0, none⟩) hbw).trans hcw
    tab := fun j hj => (hB.cell (p := ⟨0, j, none⟩) h0).trans (hT j hj)
    ne := ⟨hne.1, by omega, by omega, by omega, hne.2.1, hne.2.2⟩
    fz := (hB.frozen (p := ⟨bm, 0, none⟩) hbm).trans hfz
    lt := ⟨by omega, by omega⟩ }
  have hcm3 := (hB.cell (p := ⟨bm, 0, none⟩) hbm).trans hcm
  have HC := Lib.hid (HGR.out _ _ _ W3 hM hcm3)
  rw [hW3] at HC
  have HK : Hid (∀ w', Kept (fun k => k = bm) W3 w' → Kept (fun k => k = bm) w w') := fun w' k => (Kept.of hB).trans k
  rw [hW3] at HK
  clear hM hcm3 hs3 hB hW3
  go_enter Tryd.func31, Tryd.ntmps31
  go_wp2_with fail
  refine HC.out.mono ?_
  rintro e w1 ⟨rfl, hc1, hM1, hk1⟩
  have hk := HK.out _ hk1
  clear hM1 hk1
  go_wp2_with fail
  go_ret
  exact ⟨rfl, by rw [hc1]; simp, hk⟩
set_option maxRecDepth 100000 in
set_option maxHeartbeats 2000000 in
theorem countWith_any {b o n m c wt : Nat} {es : List (Int × Int)} (w : World) (hm : m ≤ 1048576) (hG : IsG n es) (hwt : wt < 18446744073709551616)
    (h : Eds w b o m es) (hT : TabAt 0 Lib.deBruijn64tab w) (h0 : 0 < w.heap.size) :
    Calls Tryd.prog 20 #[.agg #[.int .i64 n, .slice (some ⟨b, o, none⟩) m c], .int .u64 wt] w (Ret (.int .i64 ((cM wt 0 (mts es n 10 0) : Nat) : Int)) w) := by
  have hbl := h.blk
  obtain ⟨W3, hW3⟩ : ∃ W3, W3 = (((w.alloc (.cells #[.int .i64 n, .slice (some ⟨b, o, none⟩) m c] 30)).alloc (.cells #[.int .u64 wt] 47)).alloc (.cells #[.int .i64 0] 2)) := ⟨_, rfl⟩
  have hB : Below w.heap.size w W3 := by
    rw [hW3]; exact (((Below.refl _ _).alloc (Nat.le_refl _) _).alloc (by simp) _).alloc (by simp; omega) _
  have hs3 : W3.heap.size = w.heap.size + 1 + 1 + 1 := by rw [hW3]; simp [go_sem]
  have HC := Lib.hid (matchings_any (bw := w.heap.size + 1) (bm := w.heap.size + 1 + 1) (c := c) W3 hm hG hwt (h.below hB) (by rw [hW3]; simp [go_sem]) (by rw [hW3]; simp [go_sem]) (by rw [hW3]; simp [go_sem]) (fun j hj => (hB.cell (p := ⟨0, j, none⟩) h0).trans (hT j hj)) (by omega) ⟨by omega, by omega, by omega⟩)
  have HK : Hid (∀ w', Kept (fun k => k = w.heap.size + 1 + 1) W3 w' → Below w.heap.size w w' ∧ w.heap.size + 1 + 1 < w'.heap.size) := fun w' k => ⟨hB.trans (k.below (by omega) (fun k hk => by omega)), by have := k.size; omega⟩
  rw [hW3] at HC HK
  clear hs3 hB hW3
  go_enter Tryd.func20, Tryd.ntmps20
  go_wp2_with fail
  refine HC.out.mono ?_
  rintro e w1 ⟨rfl, hc1, hk1⟩
  obtain ⟨hk, hz1⟩ := HK.out _ hk1
  clear hk1
  go_wp2_with fail
  go_ret
  exact ⟨rfl, hk⟩
end Go.Proofs.YtppfplhbfgjjhaaDoor
