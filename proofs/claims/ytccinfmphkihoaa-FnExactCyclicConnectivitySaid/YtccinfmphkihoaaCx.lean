import Derived.Test.YtccinfmphkihoaaCi
namespace Go.Proofs.Ytccinfmphkihoaa
open Go.RowKit Go.Sort
/-! ### The reference's list of all sets -/
theorem lstS_len {rec : Nat → List (List Int)} {from' B : Nat} (h : ∀ i, (rec i).length ≤ B) : ∀ j, (lstS rec from' j).length ≤ j * B := by
  intro j
  induction j with
  | zero => simp [lstS]
  | succ j ih =>
    simp only [lstS, List.length_append, List.length_map]
    have := h (from' + j + 1)
    rw [Nat.succ_mul]; omega
theorem setsL_len {m : Nat} (hm : m ≤ 30) : ∀ k from', (setsL m k from').length ≤ 32 ^ k := by
  intro k
  induction k with
  | zero => intro from'; simp [setsL]
  | succ k ih =>
    intro from'
    have h1 := lstS_len (rec := setsL m k) (from' := from') (fun i => ih i) (m - from')
    have h2 : (m - from') * 32 ^ k ≤ 32 * 32 ^ k := Nat.mul_le_mul_right _ (by omega)
    rw [Nat.pow_succ, Nat.mul_comm]
    exact Nat.le_trans h1 h2
theorem pow32 {k : Nat} (hk : k ≤ 3) : 32 ^ k ≤ 32768 := Nat.pow_le_pow_right (n := 32) (by decide) hk
theorem OwnLL.one (w : World) : OwnLL w.heap.size (w.heap.size + 1 + 1) ((w.alloc (.cells #[] 2)).alloc (.cells #[.slice (some ⟨w.heap.size, 0, none⟩) 0 0] 34)) (some ⟨w.heap.size + 1, 0, none⟩) 1 1 [[]] := by
  have s1 : (w.alloc (.cells #[] 2)).heap.size = w.heap.size + 1 := by simp [go_sem]
  have h1 := heap_alloc_new (w.alloc (.cells #[] 2)) (.cells #[.slice (some ⟨w.heap.size, 0, none⟩) 0 0] 34)
  rw [s1] at h1
  have O : OwnL w.heap.size (w.alloc (.cells #[] 2)) (some ⟨w.heap.size, 0, none⟩) 0 0 [] := OwnL.empty _ _ _ (Nat.le_refl _) (heap_alloc_new w _)
  have O2 := O.below ((Below.refl (w.alloc (.cells #[] 2)).heap.size _).alloc (Nat.le_refl _) (.cells #[.slice (some ⟨w.heap.size, 0, none⟩) 0 0] 34))
  refine ⟨rfl, by simp [go_sem], fun g hg => by simp [blkOf] at hg; omega, fun _ => some ⟨w.heap.size, 0, none⟩, fun _ => 0, ⟨rfl, .inr ⟨w.heap.size + 1, 1, _, rfl, by omega, h1, Nat.le_refl _, by unfold maxLen; omega, rfl, rfl⟩⟩, fun j hj => ?_, fun i j h1 h2 => by omega⟩
  obtain rfl : j = 0 := by omega
  exact ⟨O2, fun g hg => by simp [blkOf] at hg; omega, .inr (by simp [blkOf])⟩
set_option maxRecDepth 100000 in
set_option maxHeartbeats 4000000 in
theorem l03Sets_any (m : Nat) (hm : m ≤ 30) : ∀ (k from' : Nat) (w : World), k ≤ 4 → from' ≤ m → Calls Try.prog 53 #[.int .i64 m, .int .i64 k, .int .i64 from'] w (RetLL (setsL m k from') w) := by
  intro k
  induction k with
  | zero =>
    intro from' w _ _
    have O := OwnLL.one w
    have hb : Below w.heap.size w ((w.alloc (.cells #[] 2)).alloc (.cells #[.slice (some ⟨w.heap.size, 0, none⟩) 0 0] 34)) := ((Below.refl _ _).alloc (Nat.le_refl _) _).alloc (by simp [go_sem]) _
    have hs : ((w.alloc (.cells #[] 2)).alloc (.cells #[.slice (some ⟨w.heap.size, 0, none⟩) 0 0] 34)).heap.size = w.heap.size + 1 + 1 := by simp [go_sem]
    obtain ⟨w2, hw2⟩ : ∃ w2, w2 = (w.alloc (.cells #[] 2)).alloc (.cells #[.slice (some ⟨w.heap.size, 0, none⟩) 0 0] 34) := ⟨_, rfl⟩
    rw [← hw2] at O hb hs
    rw [show ((0 : Nat) : Int) = 0 from rfl]
    go_enter Try.func53, Try.ntmps53
    go_wp2_with fail
    rw [← hw2]
    go_ret
    exact ⟨_, _, rfl, by rw [hs]; exact O, hb⟩
  | succ k ih =>
    intro from' w hk4 hfr
    obtain ⟨K, hK⟩ : ∃ K, K = k + 1 := ⟨_, rfl⟩
    have hk0 : ((K : Int) == 0) = false := by simp; omega
    have hw1 : IntKind.i64.wrap ((K : Int) - 1) = (k : Int) := by rw [IntWalk.i64_in _ (by omega)]; omega
    have IH := Lib.hid ih
    have hSL : Hid (setsL m (k + 1) from' = lstS (setsL m k) from' (m - from')) := rfl
    have hRL : Hid (∀ i, (setsL m k i).length ≤ 32768) := fun i => Nat.le_trans (setsL_len hm k i) (pow32 (by omega))
    have hLL : Hid (∀ j, j ≤ 30 → (lstS (setsL m k) from' j).length ≤ 983040) := fun j hj => by
      have h1 := lstS_len (rec := setsL m k) (from' := from') (fun i => hRL.out i) j
      have h2 : j * 32768 ≤ 30 * 32768 := Nat.mul_le_mul_right _ hj
      omega
    rw [show (((k + 1 : Nat)) : Int) = (K : Int) by rw [hK]]
    clear ih hK
    go_enter Try.func53, Try.ntmps53
    go_wp2_with fail
    have O0 : ∃ top, OwnLL w.heap.size top (w.alloc (.cells #[] 34)) (some ⟨w.heap.size, 0, none⟩) 0 0 [] := ⟨_, OwnLL.empty w (Nat.le_refl _)⟩
    have hb0 : Below w.heap.size w (w.alloc (.cells #[] 34)) := (Below.refl _ _).alloc (Nat.le_refl _) _
    go_loopw [7, 8] (fun ov iv wr => ∃ (j : Nat) (A : Option Addr) (c' : Nat), j ≤ m - from' ∧ iv = .int .i64 ((from' + j : Nat) : Int) ∧ ov = .slice A (lstS (setsL m k) from' j).length c' ∧ (∃ top, OwnLL w.heap.size top wr A (lstS (setsL m k) from' j).length c' (lstS (setsL m k) from' j)) ∧ Below w.heap.size w wr) (fun _ i _ => m - (intOf i).toNat)
    case atStart => exact ⟨0, _, _, Nat.zero_le _, rfl, rfl, O0, hb0⟩
    case round =>
      clear O0 hb0
      obtain ⟨j, A, c', hj, rfl, rfl, ⟨top, O⟩, hbr⟩ := hrel
      have hl1 := hLL.out j (by omega)
      obtain ⟨I, hI⟩ : ∃ I, I = from' + j := ⟨_, rfl⟩
      rw [← hI]
      have HI := Lib.hid hI
      have hIm : I ≤ m := by omega
      have hLS : Hid (lstS (setsL m k) from' (j + 1) = lstS (setsL m k) from' j ++ (setsL m k (I + 1)).map (fun r => (I : Int) :: r)) := by rw [hI]; rfl
      clear hI
      have hszr := hbr.size
      by_cases hlt : I < m
      · have hIH := Lib.hid (IH.out (I + 1) wr (by omega) (by omega))
        have hrl := hRL.out (I + 1)
        have hrm := Lib.hid (fun x (hx : x ∈ setsL m k (I + 1)) => (setsL_room (by omega : I + 1 ≤ m) hx).2)
        go_wp2_with fail
        refine hIH.out.mono ?_
        rintro e w2 ⟨AR, cR, rfl, OR, hb2⟩
        obtain ⟨rest, hrest⟩ : ∃ rest, rest = setsL m k (I + 1) := ⟨_, rfl⟩
        rw [← hrest] at OR hrl hLS hrm ⊢
        obtain ⟨rows, hrows⟩ : ∃ rows, rows = lstS (setsL m k) from' j := ⟨_, rfl⟩
        rw [← hrows] at O hl1 hLS ⊢
        have hO2 : ∃ top, OwnLL w.heap.size top w2 A rows.length c' rows := ⟨top, O.below hb2⟩
        have hA0 : ∀ g, blkOf A = some g → g < wr.heap.size ∨ w2.heap.size ≤ g := fun g hg => .inl (Nat.lt_of_lt_of_le (O.blk g hg).2 O.2.1)
        have hB2 : Below w.heap.size w w2 := hbr.andB hb2
        clear hrest hrows O hIH
        go_wp2_with fail
        obtain ⟨w9, rfl⟩ : ∃ w9, w9 = wr := ⟨wr, rfl⟩
        go_loopw [7, 10] (fun ov tv wv => ∃ (t : Nat) (A : Option Addr) (c' : Nat), t ≤ rest.length ∧ tv = .int .i64 t ∧ ov = .slice A (rows.length + t) c' ∧ (∃ top, OwnLL w.heap.size top wv A (rows.length + t) c' (rows ++ (rest.take t).map (fun r => (I : Int) :: r))) ∧ OwnLL w9.heap.size w2.heap.size wv AR rest.length cR rest ∧ (∀ g, blkOf A = some g → g < w9.heap.size ∨ w2.heap.size ≤ g) ∧ Below w.heap.size w wv) (fun _ t _ => rest.length - (intOf t).toNat)
        case atStart => exact ⟨0, A, c', Nat.zero_le _, rfl, rfl, by simpa using hO2, OR, hA0, hB2⟩
        case round =>
          clear hO2 OR hA0 hB2
          obtain ⟨t, A, c', ht, rfl, rfl, ⟨top, O⟩, OR, hA, hbv⟩ := hrel
          have hszv := hbv.size
          have hszR := OR.2.1
          by_cases hltt : t < rest.length
          · obtain ⟨g, Aj, cj, rfl, hg1, hg2, ca, ho⟩ := OR.at hltt
            have hlen : (ra rest t).length ≤ 4 := by
              have := hrm.out (ra rest t) (by simp [ra, hltt])
              omega
            have htk : Hid ((rest.take (t + 1)).map (fun r => (I : Int) :: r) = (rest.take t).map (fun r => (I : Int) :: r) ++ [(I : Int) :: ra rest t]) := by
              have e : rest.take (t + 1) = rest.take t ++ [ra rest t] := by rw [List.take_add_one]; simp [ra, hltt]
              show _ = _
              rw [e, List.map_append]; rfl
            have hA2 : (∀ y, blkOf A = some y → y < w9.heap.size) ∨ (∀ y, blkOf A = some y → w2.heap.size ≤ y) := by
              cases hb : blkOf A with
              | none => exact .inl (fun y hy => by cases hy)
              | some y => rcases hA y hb with h1 | h1
                          · exact .inl (fun z hz => by cases hz; exact h1)
                          · exact .inr (fun z hz => by cases hz; exact h1)
            have htop := O.2.1
            have hrl2 : rows.length + t ≤ 1048576 := by omega
            obtain ⟨q, hq⟩ : ∃ q, q = (ra rest t).length := ⟨_, rfl⟩
            rw [← hq] at ca ho hlen
            have HQ := Lib.hid hq
            clear hq
            go_wp2_with (first
              | (at_builtin; refine wp_appK rfl rfl rfl rfl rfl ho (by omega) ?_; intro A4 c4 w4 O4 hb4)
              | (at_builtin; refine wp_appR1 rfl rfl rfl rfl rfl (by have := HQ.out; simp only [List.length_cons]; omega) (O.below hb4) (O4.mono hszv) (fun y hy => Nat.le_trans htop (O4.blk y hy).1) (Nat.le_trans hszv hb4.size) hrl2 ?_; intro A6 c6 w6 O6 hg6 hat6))
            have O5 := O.below hb4
            have OR5 := OR.below hb4
            have hs4 := hb4.size
            have hbs : w.heap.size ≤ w4.heap.size := Nat.le_trans hszv hs4
            have hb6 := (hbv.andB hb4).grown hg6 hbs (fun y hy => (O5.blk y hy).1)
            have OR6 : OwnLL w9.heap.size w2.heap.size w6 (some ⟨g, 0, none⟩) rest.length cR rest := by
              rcases hA2 with h1 | h1
              · exact OR5.keptLow hg6 h1
              · exact OR5.kept hg6 h1
            have hA6 : ∀ y, blkOf A6 = some y → y < w9.heap.size ∨ w2.heap.size ≤ y := fun y hy => by
              rcases hat6 with h1 | ⟨g1, h1, h2⟩
              · exact hA y (by rw [← h1]; exact hy)
              · rw [h1] at hy; have := Option.some.inj hy; right; omega
            go_roundw
            case rel => exact ⟨t + 1, A6, c6, by omega, by go_num, rfl, ⟨_, by rw [htk.out, ← List.append_assoc]; exact O6⟩, OR6, hA6, hb6⟩
            case measure => simp [intOf]; omega
          · obtain rfl : t = rest.length := by omega
            have hLS2 : Hid ((lstS (setsL m k) from' (j + 1)).length = rows.length + rest.length) := by show _ = _; rw [hLS.out]; simp
            rw [List.take_length] at O
            have eI : Hid (((from' + (j + 1) : Nat) : Int) = (I : Int) + 1) := by have := HI.out; show _ = _; omega
            have hj1 : j + 1 ≤ m - from' := by have := HI.out; omega
            go_wp2_with fail
            go_roundw
            case rel => exact ⟨j + 1, A, c', hj1, by rw [eI.out], by rw [hLS2.out], ⟨_, by rw [hLS2.out, hLS.out]; exact O⟩, hbv⟩
            case measure => simp [intOf]; omega
      · obtain rfl : I = m := by omega
        have HE : Hid (setsL I (k + 1) from' = lstS (setsL I k) from' j) := by
          show _ = _
          rw [show j = I - from' by have := HI.out; omega]; rfl
        go_wp2_with fail
        go_ret
        exact ⟨A, c', by rw [HE.out] <;> rfl, by rw [HE.out]; exact O.raise O.2.1 (Nat.le_refl _), hbr⟩
end Go.Proofs.Ytccinfmphkihoaa
