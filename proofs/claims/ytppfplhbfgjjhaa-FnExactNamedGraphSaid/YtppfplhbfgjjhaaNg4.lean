import Derived.Test.YtppfplhbfgjjhaaNg3
namespace Go.Proofs.Ytppfplhbfgjjhaa
open Go.RowKit Go.Sort
/-! ### The program's named graphs: petersen, cube -/
def petG (i : Int) : List (Int × Int) := [(i, (i + 1) % 5), (i, i + 5), (i + 5, (i + 2) % 5 + 5)]
def petT : Nat → List (Int × Int)
  | 0 => []
  | k + 1 => petT k ++ petG k
theorem petT_len : ∀ k, (petT k).length = 3 * k := by
  intro k
  induction k with
  | zero => rfl
  | succ k ih => simp only [petT, List.length_append, ih, petG]; simp; omega
set_option maxRecDepth 100000 in
set_option maxHeartbeats 1000000 in
theorem petersen_any (w : World) : Calls Try.prog 87 #[] w (RetEA (petT 5) w) := by
  go_enter Try.func87, Try.ntmps87
  go_wp2_with fail
  go_loopw [1, 3] (fun lv iv wv => ∃ (i : Nat) (A : Option Addr) (c' : Nat), i ≤ 5 ∧ iv = .int .i64 i ∧ lv = .slice A (petT i).length c' ∧ OwnEA w.heap.size wv A (petT i).length c' (petT i) ∧ Below w.heap.size w wv) (fun _ i _ => 5 - (intOf i).toNat)
  case atStart => exact ⟨0, none, 0, by omega, rfl, rfl, OwnEA.nil _ _, Below.refl _ _⟩
  case round =>
    obtain ⟨i, A, c', hi, rfl, rfl, O, hb⟩ := hrel
    by_cases hlt : i < 5
    · have hsz := hb.size
      have hL2 : Hid ((petT (i + 1)).length = (petT i).length + 3) := by show _ = _; rw [petT_len, petT_len]; omega
      have hl := petT_len i
      have w1 : IntKind.i64.wrap ((i : Int) + 1) = ((i + 1 : Nat) : Int) := by rw [IntWalk.i64_in _ (by omega)]; simp
      have w2 : IntKind.i64.wrap ((i : Int) + 2) = ((i + 2 : Nat) : Int) := by rw [IntWalk.i64_in _ (by omega)]; simp
      have w5 : IntKind.i64.wrap ((i : Int) + 5) = ((i + 5 : Nat) : Int) := by rw [IntWalk.i64_in _ (by omega)]; simp
      have hHL := Lib.hid hl
      obtain ⟨x, hx⟩ : ∃ x, x = (petT i).length := ⟨_, rfl⟩
      rw [← hx] at hL2 O hl ⊢
      have hx15 : x ≤ 15 := by omega
      clear hx hl
      go_wp2_with (at_builtin; (refine wp_appB (petG i) rfl rfl rfl rfl (by simp) rfl rfl (by show 0 < 3; decide) (by show 3 ≤ 1048576; decide) O (by omega) (by omega) ?_; intro A2 c2 w2 O2 hg2))
      have hbF := O.grown hb (Nat.le_refl _) hg2 hsz
      go_roundw
      case rel => exact ⟨i + 1, A2, c2, by omega, by go_num, (by rw [hL2.out]; rfl), by rw [hL2.out]; exact O2, hbF⟩
      case measure => simp [intOf]; omega
    · obtain rfl : i = 5 := by omega
      go_wp2_with fail
      go_ret
      exact ⟨A, c', rfl, O, hb⟩
/-- The cube's edges up to a vertex and a direction. -/
def cubB (v : Nat) : Nat → List (Int × Int)
  | 0 => []
  | d + 1 => cubB v d ++ (if v.testBit d then [] else [((v : Int), ((v + 2 ^ d : Nat) : Int))])
def cubT : Nat → List (Int × Int)
  | 0 => []
  | v + 1 => cubT v ++ cubB v 3
theorem cubB_len (v : Nat) : ∀ d, (cubB v d).length ≤ d := by
  intro d
  induction d with
  | zero => simp [cubB]
  | succ d ih => simp only [cubB, List.length_append]; split <;> simp <;> omega
theorem cubT_len : ∀ v, (cubT v).length ≤ 3 * v := by
  intro v
  induction v with
  | zero => simp [cubT]
  | succ v ih => simp only [cubT, List.length_append]; have := cubB_len v 3; omega
theorem and8 {v d : Nat} (hv : v < 8) (hd : d < 3) : bits .and .i64 (v : Int) ((2 ^ d : Nat) : Int) = (if v.testBit d then ((2 ^ d : Nat) : Int) else 0) := by
  have key : ∀ v : Fin 8, ∀ d : Fin 3, bits .and .i64 (v.1 : Int) ((2 ^ d.1 : Nat) : Int) = (if v.1.testBit d.1 then ((2 ^ d.1 : Nat) : Int) else 0) := by decide
  exact key ⟨v, hv⟩ ⟨d, hd⟩
theorem or8' {v d : Nat} (hv : v < 8) (hd : d < 3) (h : v.testBit d = false) : bits .or .i64 (v : Int) ((2 ^ d : Nat) : Int) = ((v + 2 ^ d : Nat) : Int) := by
  have key : ∀ v : Fin 8, ∀ d : Fin 3, v.1.testBit d.1 = false → bits .or .i64 (v.1 : Int) ((2 ^ d.1 : Nat) : Int) = ((v.1 + 2 ^ d.1 : Nat) : Int) := by decide
  exact key ⟨v, hv⟩ ⟨d, hd⟩ h
set_option maxRecDepth 100000 in
set_option maxHeartbeats 1000000 in
theorem cube_any (w : World) : Calls Try.prog 86 #[] w (RetEA (cubT 8) w) := by
  go_enter Try.func86, Try.ntmps86
  go_wp2_with fail
  go_loopw [1, 4] (fun lv iv wv => ∃ (v : Nat) (A : Option Addr) (c' : Nat), v ≤ 8 ∧ iv = .int .i64 v ∧ lv = .slice A (cubT v).length c' ∧ OwnEA w.heap.size wv A (cubT v).length c' (cubT v) ∧ Below w.heap.size w wv) (fun _ i _ => 8 - (intOf i).toNat)
  case atStart => exact ⟨0, none, 0, by omega, rfl, rfl, OwnEA.nil _ _, Below.refl _ _⟩
  case round =>
    obtain ⟨v, A0, c0, hv, rfl, rfl, O0, hb0⟩ := hrel
    obtain ⟨w4, rfl⟩ : ∃ w4, w4 = wr := ⟨wr, rfl⟩
    by_cases hlt : v < 8
    · have hlv : (v : Int) < 8 := by omega
      have HT := Lib.hid (cubT_len v)
      go_wp2_with fail
      go_loopw [1, 3] (fun lv bv wv => ∃ (d : Nat) (A : Option Addr) (c' : Nat), d ≤ 3 ∧ bv = .int .i64 ((2 ^ d : Nat) : Int) ∧ lv = .slice A (cubT v ++ cubB v d).length c' ∧ OwnEA w.heap.size wv A (cubT v ++ cubB v d).length c' (cubT v ++ cubB v d) ∧ Below w.heap.size w wv) (fun _ b _ => 8 - (intOf b).toNat)
      case atStart => exact ⟨0, A0, c0, by omega, rfl, by simp [cubB], by simpa [cubB] using O0, hb0⟩
      case round =>
        clear O0 hb0
        obtain ⟨d, A, c', hd, rfl, rfl, O, hb⟩ := hrel
        obtain ⟨x, hx⟩ : ∃ x, x = (cubT v ++ cubB v d).length := ⟨_, rfl⟩
        have hx27 : x ≤ 27 := by rw [hx, List.length_append]; have := HT.out; have := cubB_len v d; omega
        have HX := Lib.hid hx
        rw [← hx] at O ⊢
        have hsz := hb.size
        by_cases hd3 : d < 3
        · have hand := and8 hlt hd3
          have hor := fun h => or8' (v := v) (d := d) hlt hd3 h
          obtain ⟨p, hp⟩ : ∃ p, p = (2 : Nat) ^ d := ⟨_, rfl⟩
          have hp1 : 1 ≤ p ∧ p ≤ 4 := by
            have : d = 0 ∨ d = 1 ∨ d = 2 := by omega
            rcases this with rfl | rfl | rfl <;> (rw [hp]; decide)
          have HP : Hid (2 ^ (d + 1) = 2 * p) := by show _ = _; rw [hp, Nat.pow_succ, Nat.mul_comm]
          have hw2 : IntKind.i64.wrap ((p : Int) * 2) = ((2 * p : Nat) : Int) := by rw [IntWalk.i64_in _ (by omega)]; simp; omega
          have hp8 : (p : Int) < 8 := by omega
          rw [← hp] at hand hor ⊢
          cases hb1 : v.testBit d with
          | true =>
            rw [hb1, if_pos rfl] at hand
            have hq : ((p : Int) == 0) = false := by simp; omega
            have HE : Hid (cubT v ++ cubB v (d + 1) = cubT v ++ cubB v d) := by show _ = _; simp [cubB, hb1]
            clear hb1 hor hx hp
            go_wp2_with fail
            go_roundw
            case rel => exact ⟨d + 1, A, c', by omega, by rw [HP.out]; simp, by rw [HE.out, ← HX.out], by rw [HE.out, ← HX.out]; exact O, hb⟩
            case measure => simp [intOf]; omega
          | false =>
            rw [hb1, if_neg (by decide)] at hand
            have hor := hor hb1
            have HE : Hid (cubT v ++ cubB v (d + 1) = (cubT v ++ cubB v d) ++ [((v : Int), ((v + p : Nat) : Int))]) := by show _ = _; simp [cubB, hb1, hp]
            have HE2 : Hid ((cubT v ++ cubB v (d + 1)).length = x + 1) := by show _ = _; rw [HE.out, List.length_append, ← HX.out]; rfl
            clear hb1 hx hp
            go_wp2_with (at_builtin; (refine wp_appB [((v : Int), ((v + p : Nat) : Int))] rfl rfl rfl rfl (by simp) rfl rfl (by simp) (by simp) O (by omega) (by omega) ?_; intro A2 c2 w2 O2 hg2))
            have hbF := O.grown hb (Nat.le_refl _) hg2 hsz
            go_roundw
            case rel => exact ⟨d + 1, A2, c2, by omega, by rw [HP.out]; simp, by rw [HE2.out], by rw [HE2.out, HE.out]; exact O2, hbF⟩
            case measure => simp [intOf]; omega
        · obtain rfl : d = 3 := by omega
          have HN : Hid (cubT (v + 1) = cubT v ++ cubB v 3) := rfl
          go_wp2_with fail
          go_roundw
          case rel => exact ⟨v + 1, A, c', by omega, by go_num, by rw [HN.out, ← HX.out], by rw [HN.out, ← HX.out]; exact O, hb⟩
          case measure => simp [intOf]; omega
    · obtain rfl : v = 8 := by omega
      go_wp2_with fail
      go_ret
      exact ⟨A0, c0, rfl, O0, hb0⟩
end Go.Proofs.Ytppfplhbfgjjhaa
