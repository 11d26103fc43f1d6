import Derived.Test.YtppfplhbfgjjhaaNg7
import Derived.Test.YtppfplhbfgjjhaaPe
namespace Go.Proofs.Ytppfplhbfgjjhaa
open Go.RowKit Go.Sort
/-! ### tietze; the reference's cycles -/
def tieL : List (Int × Int) := kep (petT 5) ++ (cycL [0, 10, 11] ++ [(0, 1), (10, 4), (11, 5)])
set_option maxRecDepth 100000 in
set_option maxHeartbeats 1000000 in
theorem tietze_any (w : World) : Calls Try.prog 88 #[] w (RetEA tieL w) := by
  have he1 := enTie
  unfold Enters at he1
  go_enter Try.func88, Try.ntmps88
  go_wp2_with fail
  refine (petersen_any w).mono ?_
  rintro e w1 ⟨A1, c1, rfl, O1, hb1⟩
  obtain ⟨g, rfl⟩ : ∃ g, A1 = some ⟨g, 0, none⟩ := by
    rcases O1.cases with ⟨_, h0, _⟩ | ⟨g, e, _⟩
    · exact absurd h0 (by decide)
    · exact ⟨g, e⟩
  have HD := Lib.hid (delete_any w1 O1 hb1.size (by decide) (by decide) (by decide))
  clear O1
  go_wp2_with fail
  refine HD.out.mono ?_
  rintro e w2 ⟨rfl, O2, hb2⟩
  have hB2 := hb1.trans hb2
  have hz2 := hB2.size
  clear hb1 hb2 HD
  rw [show (kep (petT 5)).length = 12 from rfl] at O2 ⊢
  go_wp2_with fail
  refine (cyc_lit [0, 10, 11] 3 rfl rfl (by decide)).mono ?_
  rintro e w3 ⟨A3, c3, rfl, O3, hb3⟩
  have O2 := O2.below hb3
  have hB3 := hB2.andB hb3
  clear hB2 hb3
  have OL : OwnEA w3.heap.size (w3.alloc (.cells #[.int .i64 0, .int .i64 1, .int .i64 10, .int .i64 4, .int .i64 11, .int .i64 5] 98)) (some ⟨w3.heap.size, 0, none⟩) 3 3 [(0, 1), (10, 4), (11, 5)] := ownEA_lit _ 3 rfl rfl (by decide)
  have hb4 : Below w3.heap.size w3 (w3.alloc (.cells #[.int .i64 0, .int .i64 1, .int .i64 10, .int .i64 4, .int .i64 11, .int .i64 5] 98)) := (Below.refl _ _).alloc (Nat.le_refl _) _
  obtain ⟨w4, hw4⟩ : ∃ w4, w4 = w3.alloc (.cells #[.int .i64 0, .int .i64 1, .int .i64 10, .int .i64 4, .int .i64 11, .int .i64 5] 98) := ⟨_, rfl⟩
  rw [← hw4] at OL hb4
  have hz4 : w3.heap.size + 1 = w4.heap.size := by rw [hw4]; simp
  have O3 := O3.below hb4
  have O2 := O2.below hb4
  have hB4 := hB3.andB hb4
  have HZ := Lib.hid hz4
  clear hb4 hz4 hB3
  go_wp2_with fail
  rw [← hw4, HZ.out]
  refine (concat2 O3 OL (by decide) (by decide)).mono ?_
  rintro e w5 ⟨A5, c5, rfl, O5, hb5⟩
  have OX := O2.below hb5
  have hB5 := hB4.andB hb5
  have hz5 := hB5.size
  obtain ⟨b5, o5, rfl, E5⟩ := O5.src.2 (by decide)
  rw [show (cycL [0, 10, 11] ++ [((0 : Int), (1 : Int)), (10, 4), (11, 5)]).length = 6 from rfl] at E5 ⊢
  clear O5 hb5 hB4 O2 O3 OL hw4
  go_wp2_with (at_builtin; (refine wp_appX rfl rfl rfl rfl E5 (by decide) (by decide) OX hz5 (by omega) ?_; intro A6 c6 w6 O6 hg6))
  have hbF := OX.grown hB5 (Nat.le_refl _) hg6 hz5
  go_ret
  exact ⟨A6, c6, rfl, O6, hbF⟩
set_option maxRecDepth 100000 in
set_option maxHeartbeats 1000000 in
theorem l01Cycle_any {base m c b k c0 : Nat} {A0 : Option Addr} {es : List (Int × Int)} {cs : Array Value} (xs : List Int) (w : World) (O0 : OwnEA base w A0 m c es) (hb0 : base ≤ w.heap.size) (hh : w.heap[b]? = some (.cells cs 2)) (hcs : cs.toList = nums xs) (hk : xs.length = k) (hk2 : k ≤ 100) (hm : m ≤ 100) :
    Calls Try.prog 138 #[.slice A0 m c, .slice (some ⟨b, 0, none⟩) k c0] w (fun e w' => ∃ A c', e = .returned (.slice A (m + k) c') ∧ OwnEA base w' A (m + k) c' (es ++ cycL xs) ∧ Below base w w') := by
  have HK := Lib.hid hk
  have HCS := Lib.hid hcs
  have HC : Hid (∀ (W : World), W.heap[b]? = some (.cells cs 2) → ∀ j, j < k → W.cell? ⟨b, j, none⟩ = some (.int .i64 (ia xs j))) := fun W hW j hj => by
    unfold World.cell?
    rw [show W.heap[(⟨b, j, none⟩ : Addr).block]? = _ from hW]
    simp only [Option.bind_eq_bind, Option.bind_some]
    have : cs[j]? = some (.int .i64 (ia xs j)) := by
      rw [← Array.getElem?_toList, hcs]
      simp [nums, ia, List.getD_eq_getElem?_getD, show j < xs.length by omega]
    simpa using this
  have HAL : Hid (cycL xs = cycT xs k) := by show _ = _; unfold cycL cycT; rw [hk]
  clear hk hcs
  go_enter Try.func138, Try.ntmps138
  go_wp2_with fail
  go_loopw [0, 5] (fun lv iv wv => ∃ (j : Nat) (A : Option Addr) (c' : Nat), j ≤ k ∧ iv = .int .i64 j ∧ lv = .slice A (m + j) c' ∧ OwnEA base wv A (m + j) c' (es ++ cycT xs j) ∧ wv.heap[b]? = some (.cells cs 2) ∧ Below base w wv) (fun _ i _ => k - (intOf i).toNat)
  case atStart => exact ⟨0, A0, c, by omega, rfl, rfl, by simpa [cycT] using O0, hh, Below.refl _ _⟩
  case round =>
    clear O0 hh
    obtain ⟨j, A, c', hj, rfl, rfl, O, hH, hb⟩ := hrel
    obtain ⟨w4, rfl⟩ : ∃ w4, w4 = wr := ⟨wr, rfl⟩
    by_cases hlt : j < k
    · have i1 := HC.out w4 hH j hlt
      have hzk : (j + 1) % k < k := Nat.mod_lt _ (by omega)
      have i2 := HC.out w4 hH _ hzk
      have zb : b < w4.heap.size := (Array.getElem?_eq_some_iff.1 hH).1
      have hsz : base ≤ w4.heap.size := Nat.le_trans hb0 hb.size
      have HST : Hid (cycT xs (j + 1) = cycT xs j ++ [(ia xs j, ia xs ((j + 1) % k))]) := by show _ = _; rw [cyc_step, HK.out]
      have HN := Lib.hid (O.neT hH)
      have hw1 : IntKind.i64.wrap ((j : Int) + 1) = ((j + 1 : Nat) : Int) := by rw [IntWalk.i64_in _ (by omega)]; simp
      have hk0 : ((k : Int) == 0) = false := by simp; omega
      have hmd : ((j + 1 : Nat) : Int) % (k : Int) = (((j + 1) % k : Nat) : Int) := by simp
      have hmd2 : ((j : Int) + 1) % (k : Int) = (((j + 1) % k : Nat) : Int) := by simp
      have hkn : ¬ k = 0 := by omega
      have htm : ((j : Int) + 1).tmod (k : Int) = (((j + 1) % k : Nat) : Int) := by rw [Int.tmod_eq_emod_of_nonneg (by omega), hmd2]
      obtain ⟨z, hz⟩ : ∃ z, z = (j + 1) % k := ⟨_, rfl⟩
      rw [← hz] at i2 hmd hmd2 hzk HST htm
      obtain ⟨y, hy⟩ : ∃ y, y = ia xs j := ⟨_, rfl⟩
      obtain ⟨x, hx⟩ : ∃ x, x = ia xs z := ⟨_, rfl⟩
      rw [← hx] at HST i2
      rw [← hy] at i1 HST
      have hjk : (j : Int) < k := by omega
      have hHK := Lib.hid hH
      have HZ := Lib.hid hz
      have hwz : IntKind.i64.wrap (z : Int) = z := IntWalk.i64_in _ (by omega)
      clear hx hy hz hH
      go_wp2_with fail
      refine wp_region_then 15 (fun i9 v W => match i9 with
        | 0 => v = .slice A (m + j) c'
        | 1 => v = .slice (some ⟨b, 0, none⟩) k c0
        | 2 => v = .int .i64 j
        | 3 => v = .pointer (some ⟨b, j, none⟩)
        | 4 => v = .int .i64 y
        | 5 => v = .slice (some ⟨b, 0, none⟩) k c0
        | 6 => v = .int .i64 j
        | 7 => v = .int .i64 ((j + 1 : Nat) : Int)
        | 8 => v = .slice (some ⟨b, 0, none⟩) k c0
        | 9 => v = .int .i64 k
        | 10 => v = .int .i64 ((z : Nat) : Int)
        | 11 => v = .pointer (some ⟨b, z, none⟩)
        | 12 => v = .int .i64 x
        | 13 => v = .agg #[.int .i64 y, .int .i64 x]
        | _ => NewB w4.heap.size y x v W)
        (fun i => match i with
        | _ => none)
        (fun k W W' => Below W.heap.size W W')  (fun W => Below w4.heap.size w4 W) (by kernel_rfl) (by kernel_rfl) ?_ ?_ ?_ ?_ ?_
      · exact (Below.refl _ _).drew
      · intro i k v W W' hne hd hC hf hE
        match i, hf with
        | 0, hf => exact hf
        | 1, hf => exact hf
        | 2, hf => exact hf
        | 3, hf => exact hf
        | 4, hf => exact hf
        | 5, hf => exact hf
        | 6, hf => exact hf
        | 7, hf => exact hf
        | 8, hf => exact hf
        | 9, hf => exact hf
        | 10, hf => exact hf
        | 11, hf => exact hf
        | 12, hf => exact hf
        | 13, hf => exact hf
        | _ + 14, hf => exact NewB.below hf hE
      · intro k W W' hC hE
        exact Below.andB hC hE
      · simp only [List.take_succ_cons, List.take_zero]
        refine ⟨?_, ?_, ?_, ?_, ?_, ?_, ?_, ?_, ?_, ?_, ?_, ?_, ?_, ?_, ?_, trivial⟩
        · intro a W hC hs hd
          have hW : Below w4.heap.size w4 W := hC
          have e0 : a.tmps[0]?.getD undef = .slice A (m + j) c' := hs 0 (by kernel_rfl)
          refine growsG_none (E := fun W W' => Below W.heap.size W W') rfl ?_
          clear hs hd
          unfold GrowsE
          go_simp
          exact Below.refl _ _
        · intro a W hC hs hd
          have hW : Below w4.heap.size w4 W := hC
          have e1 : a.tmps[1]?.getD undef = .slice (some ⟨b, 0, none⟩) k c0 := hs 1 (by kernel_rfl)
          refine growsG_none (E := fun W W' => Below W.heap.size W W') rfl ?_
          clear hs hd
          unfold GrowsE
          go_simp
          exact Below.refl _ _
        · intro a W hC hs hd
          have hW : Below w4.heap.size w4 W := hC
          have e5 : a.tmps[5]?.getD undef = .int .i64 j := hs 5 (by kernel_rfl)
          refine growsG_none (E := fun W W' => Below W.heap.size W W') rfl ?_
          clear hs hd
          unfold GrowsE
          go_simp
          exact Below.refl _ _
        · intro a W hC hs hd
          have hW : Below w4.heap.size w4 W := hC
          have e13 : (a.tmps[13]?.getD undef) = .slice (some ⟨b, 0, none⟩) k c0 := hd 1 13 (by kernel_rfl) (by kernel_rfl) (by kernel_rfl)
          have e14 : (a.tmps[14]?.getD undef) = .int .i64 j := hd 2 14 (by kernel_rfl) (by kernel_rfl) (by kernel_rfl)
          refine growsG_none (E := fun W W' => Below W.heap.size W W') rfl ?_
          have k0 := (hW.cell (p := ⟨b, j, none⟩) (zb)).trans (i1)
          have k1 := (hW.cell (p := ⟨b, z, none⟩) (zb)).trans (i2)
          clear hs hd
          unfold GrowsE
          go_simp
          exact Below.refl _ _
        · intro a W hC hs hd
          have hW : Below w4.heap.size w4 W := hC
          have e15 : (a.tmps[15]?.getD undef) = .pointer (some ⟨b, j, none⟩) := hd 3 15 (by kernel_rfl) (by kernel_rfl) (by kernel_rfl)
          refine growsG_none (E := fun W W' => Below W.heap.size W W') rfl ?_
          have k0 := (hW.cell (p := ⟨b, j, none⟩) (zb)).trans (i1)
          have k1 := (hW.cell (p := ⟨b, z, none⟩) (zb)).trans (i2)
          clear hs hd
          unfold GrowsE
          go_simp
          exact Below.refl _ _
        · intro a W hC hs hd
          have hW : Below w4.heap.size w4 W := hC
          have e1 : a.tmps[1]?.getD undef = .slice (some ⟨b, 0, none⟩) k c0 := hs 1 (by kernel_rfl)
          refine growsG_none (E := fun W W' => Below W.heap.size W W') rfl ?_
          clear hs hd
          unfold GrowsE
          go_simp
          exact Below.refl _ _
        · intro a W hC hs hd
          have hW : Below w4.heap.size w4 W := hC
          have e5 : a.tmps[5]?.getD undef = .int .i64 j := hs 5 (by kernel_rfl)
          refine growsG_none (E := fun W W' => Below W.heap.size W W') rfl ?_
          clear hs hd
          unfold GrowsE
          go_simp
          exact Below.refl _ _
        · intro a W hC hs hd
          have hW : Below w4.heap.size w4 W := hC
          have e18 : (a.tmps[18]?.getD undef) = .int .i64 j := hd 6 18 (by kernel_rfl) (by kernel_rfl) (by kernel_rfl)
          refine growsG_none (E := fun W W' => Below W.heap.size W W') rfl ?_
          clear hs hd
          unfold GrowsE
          go_simp
          exact Below.refl _ _
        · intro a W hC hs hd
          have hW : Below w4.heap.size w4 W := hC
          have e1 : a.tmps[1]?.getD undef = .slice (some ⟨b, 0, none⟩) k c0 := hs 1 (by kernel_rfl)
          refine growsG_none (E := fun W W' => Below W.heap.size W W') rfl ?_
          clear hs hd
          unfold GrowsE
          go_simp
          exact Below.refl _ _
        · intro a W hC hs hd
          have hW : Below w4.heap.size w4 W := hC
          have e20 : (a.tmps[20]?.getD undef) = .slice (some ⟨b, 0, none⟩) k c0 := hd 8 20 (by kernel_rfl) (by kernel_rfl) (by kernel_rfl)
          refine growsG_none (E := fun W W' => Below W.heap.size W W') rfl ?_
          clear hs hd
          unfold GrowsE
          go_simp
          exact Below.refl _ _
        · intro a W hC hs hd
          have hW : Below w4.heap.size w4 W := hC
          have e19 : (a.tmps[19]?.getD undef) = .int .i64 ((j + 1 : Nat) : Int) := hd 7 19 (by kernel_rfl) (by kernel_rfl) (by kernel_rfl)
          have e21 : (a.tmps[21]?.getD undef) = .int .i64 k := hd 9 21 (by kernel_rfl) (by kernel_rfl) (by kernel_rfl)
          refine growsG_none (E := fun W W' => Below W.heap.size W W') rfl ?_
          clear hs hd
          unfold GrowsE
          go_simp
          exact Below.refl _ _
        · intro a W hC hs hd
          have hW : Below w4.heap.size w4 W := hC
          have e17 : (a.tmps[17]?.getD undef) = .slice (some ⟨b, 0, none⟩) k c0 := hd 5 17 (by kernel_rfl) (by kernel_rfl) (by kernel_rfl)
          have e22 : (a.tmps[22]?.getD undef) = .int .i64 ((z : Nat) : Int) := hd 10 22 (by kernel_rfl) (by kernel_rfl) (by kernel_rfl)
          refine growsG_none (E := fun W W' => Below W.heap.size W W') rfl ?_
          have k0 := (hW.cell (p := ⟨b, j, none⟩) (zb)).trans (i1)
          have k1 := (hW.cell (p := ⟨b, z, none⟩) (zb)).trans (i2)
          clear hs hd
          unfold GrowsE
          go_simp
          exact Below.refl _ _
        · intro a W hC hs hd
          have hW : Below w4.heap.size w4 W := hC
          have e23 : (a.tmps[23]?.getD undef) = .pointer (some ⟨b, z, none⟩) := hd 11 23 (by kernel_rfl) (by kernel_rfl) (by kernel_rfl)
          refine growsG_none (E := fun W W' => Below W.heap.size W W') rfl ?_
          have k0 := (hW.cell (p := ⟨b, j, none⟩) (zb)).trans (i1)
          have k1 := (hW.cell (p := ⟨b, z, none⟩) (zb)).trans (i2)
          clear hs hd
          unfold GrowsE
          go_simp
          exact Below.refl _ _
        · intro a W hC hs hd
          have hW : Below w4.heap.size w4 W := hC
          have e16 : (a.tmps[16]?.getD undef) = .int .i64 y := hd 4 16 (by kernel_rfl) (by kernel_rfl) (by kernel_rfl)
          have e24 : (a.tmps[24]?.getD undef) = .int .i64 x := hd 12 24 (by kernel_rfl) (by kernel_rfl) (by kernel_rfl)
          refine growsG_none (E := fun W W' => Below W.heap.size W W') rfl ?_
          clear hs hd
          unfold GrowsE
          go_simp
          exact Below.refl _ _
        · intro a W hC hs hd
          have hW : Below w4.heap.size w4 W := hC
          have e25 : (a.tmps[25]?.getD undef) = .agg #[.int .i64 y, .int .i64 x] := hd 13 25 (by kernel_rfl) (by kernel_rfl) (by kernel_rfl)
          refine growsG_none (E := fun W W' => Below W.heap.size W W') rfl ?_
          clear hs hd
          unfold GrowsE
          go_simp
          exact ⟨(Below.refl _ _).alloc (Nat.le_refl _) _, _, rfl, hW.size, heap_alloc_new _ _⟩
      intro vs W hW hf
      have f12 : (vs 12) = .slice A (m + j) c' := hf 0 12 (by decide) (by kernel_rfl) (fun _ hk => by cases hk)
      have f13 : (vs 13) = .slice (some ⟨b, 0, none⟩) k c0 := hf 1 13 (by decide) (by kernel_rfl) (fun _ hk => by cases hk)
      have f14 : (vs 14) = .int .i64 j := hf 2 14 (by decide) (by kernel_rfl) (fun _ hk => by cases hk)
      have f15 : (vs 15) = .pointer (some ⟨b, j, none⟩) := hf 3 15 (by decide) (by kernel_rfl) (fun _ hk => by cases hk)
      have f16 : (vs 16) = .int .i64 y := hf 4 16 (by decide) (by kernel_rfl) (fun _ hk => by cases hk)
      have f17 : (vs 17) = .slice (some ⟨b, 0, none⟩) k c0 := hf 5 17 (by decide) (by kernel_rfl) (fun _ hk => by cases hk)
      have f18 : (vs 18) = .int .i64 j := hf 6 18 (by decide) (by kernel_rfl) (fun _ hk => by cases hk)
      have f19 : (vs 19) = .int .i64 ((j + 1 : Nat) : Int) := hf 7 19 (by decide) (by kernel_rfl) (fun _ hk => by cases hk)
      have f20 : (vs 20) = .slice (some ⟨b, 0, none⟩) k c0 := hf 8 20 (by decide) (by kernel_rfl) (fun _ hk => by cases hk)
      have f21 : (vs 21) = .int .i64 k := hf 9 21 (by decide) (by kernel_rfl) (fun _ hk => by cases hk)
      have f22 : (vs 22) = .int .i64 ((z : Nat) : Int) := hf 10 22 (by decide) (by kernel_rfl) (fun _ hk => by cases hk)
      have f23 : (vs 23) = .pointer (some ⟨b, z, none⟩) := hf 11 23 (by decide) (by kernel_rfl) (fun _ hk => by cases hk)
      have f24 : (vs 24) = .int .i64 x := hf 12 24 (by decide) (by kernel_rfl) (fun _ hk => by cases hk)
      have f25 : (vs 25) = .agg #[.int .i64 y, .int .i64 x] := hf 13 25 (by decide) (by kernel_rfl) (fun _ hk => by cases hk)
      have f26 : NewB w4.heap.size y x (vs 26) W := hf 14 26 (by decide) (by kernel_rfl) (fun _ hk => by cases hk)
      obtain ⟨H26, f26, hg26, h26⟩ := f26
      simp only [dsts, List.take_succ_cons, List.take_zero, List.drop_succ_cons, List.drop_zero, List.filterMap_cons, List.filterMap_nil, List.foldl_cons, List.foldl_nil, Act.put, List.setIfInBounds_toArray, List.set_cons_succ, List.set_cons_zero, f12, f13, f14, f15, f16, f17, f18, f19, f20, f21, f22, f23, f24, f25, f26]
      clear hf
      have hW : Below w4.heap.size w4 W := hW
      have OW := O.below hW
      have hbW := hb.trans (hW.mono hsz)
      have hH2 : W.heap[b]? = some (.cells cs 2) := (hW.block b zb).trans hHK.out
      have zb2 : b < W.heap.size := Nat.lt_of_lt_of_le zb hW.size
      have hH2 := Lib.hid hH2
      have hzW : base ≤ W.heap.size := Nat.le_trans hsz hW.size
      clear hW i1 i2 O hb
      go_wp2_with (at_builtin; refine wp_appEA2 rfl rfl rfl rfl h26 OW hzW (by omega) ?_; intro A6 c6 w6 O6 hg6 hat6)
      have hbF : Below base w w6 := OW.grown hbW (Nat.le_refl _) hg6 hzW
      have hH6 : w6.heap[b]? = some (.cells cs 2) := (hg6.block b zb2 (fun hh => HN.out hh)).trans hH2.out
      go_roundw
      case rel => exact ⟨j + 1, A6, c6, by omega, by go_num, rfl, by rw [HST.out, ← List.append_assoc]; exact O6, hH6, hbF⟩
      case measure => simp [intOf]; omega
    · obtain rfl : j = k := by omega
      go_wp2_with fail
      go_ret
      rw [HAL.out]
      exact ⟨A, c', rfl, O, hb⟩
end Go.Proofs.Ytppfplhbfgjjhaa
