import Derived.Test.YtccinfmphkihoaaGm
import Derived.Test.YtccinfmphkihoaaAp
namespace Go.Proofs.Ytccinfmphkihoaa
open Go.RowKit Go.Sort
/-! ### Sets as bits -/
def setN (ls : Nat → Int) : Nat → Nat
  | 0 => 0
  | k + 1 => setN ls k ||| 2 ^ (ls k).toNat
def hasB (s : Nat) (v : Int) : Bool := s.testBit v.toNat
theorem setN_lt {ls : Nat → Int} {k : Nat} (h : ∀ j, j < k → ls j ≤ 63) : setN ls k < 18446744073709551616 := by
  induction k with
  | zero => simp [setN]
  | succ k ih =>
    have h1 := ih (fun j hj => h j (by omega))
    have h2 := h k (by omega)
    have h3 : 2 ^ (ls k).toNat < 2 ^ 64 := Nat.pow_lt_pow_of_lt (by decide) (by omega)
    exact Nat.or_lt_two_pow (n := 64) (by simpa using h1) h3
theorem setN_bit (ls : Nat → Int) (k i : Nat) : (setN ls k).testBit i = true ↔ ∃ j, j < k ∧ (ls j).toNat = i := by
  induction k with
  | zero => simp [setN]
  | succ k ih =>
    simp only [setN, Nat.testBit_or, Bool.or_eq_true, ih, Nat.testBit_two_pow, decide_eq_true_eq]
    constructor
    · rintro (⟨j, hj, e⟩ | e)
      · exact ⟨j, by omega, e⟩
      · exact ⟨k, by omega, e⟩
    · rintro ⟨j, hj, e⟩
      by_cases hk : j = k
      · subst hk; exact .inr e
      · exact .inl ⟨j, by omega, e⟩
theorem has_any (s : Nat) (v : Int) (w : World) (hs : s < 18446744073709551616) (h0 : 0 ≤ v) (h1 : v ≤ 63) : Calls Try.prog 93 #[.int .u64 s, .int .i64 v] w (Is (.bool (hasB s v)) w) := by
  go_enter Try.func93, Try.ntmps93
  go_wp2
  go_ret
  have e : ((s : Int) / 2 ^ v.toNat) = ((s / 2 ^ v.toNat : Nat) : Int) := by simp
  have hd : s / 2 ^ v.toNat < 18446744073709551616 := Nat.lt_of_le_of_lt (Nat.div_le_self _ _) hs
  have e2 : bits .and .u64 ((s : Int) / 2 ^ v.toNat) 1 = ((s / 2 ^ v.toNat % 2 : Nat) : Int) := by
    rw [e, show (1 : Int) = ((1 : Nat) : Int) from rfl, u64_and_nat _ _ hd (by omega), Nat.and_one_is_mod]
  refine ⟨ret_bool ?_, rfl⟩
  rw [Bool.eq_iff_iff]
  simp only [hasB, Nat.testBit_eq_decide_div_mod_eq, decide_eq_true_eq, e2, beq_iff_eq]
  omega
attribute [irreducible] hasB
theorem setOf_any (b o l c : Nat) (ls : Nat → Int) (w : World) (h : Ints w b o l ls) (hl : l ≤ 1048576) (hv : ∀ j, j < l → 0 ≤ ls j ∧ ls j ≤ 63) :
    Calls Try.prog 71 #[.slice (some ⟨b, o, none⟩) l c] w (Is (.int .u64 (setN ls l)) w) := by
  have HV := Lib.hid hv
  clear hv
  go_enter Try.func71, Try.ntmps71
  go_wp2_with fail
  go_loop [3, 8] (fun s i => ∃ j : Nat, j ≤ l ∧ i = .int .i64 j ∧ s = .int .u64 (setN ls j)) (fun _ i => l - (intOf i).toNat)
  case atStart => exact ⟨0, Nat.zero_le _, rfl, by rfl⟩
  case round =>
    obtain ⟨j, hj, rfl, rfl⟩ := hrel
    by_cases hlt : j < l
    · have c1 := h.c j hlt
      have h0 := (HV.out j hlt).1
      have h63 := (HV.out j hlt).2
      have hp : (2 : Nat) ^ (ls j).toNat < 18446744073709551616 := Nat.lt_of_lt_of_le (Nat.pow_lt_pow_of_lt (a := 2) (by decide) (by omega : (ls j).toNat < 64)) (by decide)
      have hw : IntKind.u64.wrap (2 ^ (ls j).toNat) = ((2 ^ (ls j).toNat : Nat) : Int) := by
        rw [show ((2 : Int) ^ (ls j).toNat) = ((2 ^ (ls j).toNat : Nat) : Int) by simp, IntKind.wrap_u64]
        generalize (2 : Nat) ^ (ls j).toNat = x at hp
        omega
      have ho : bits .or .u64 (setN ls j : Int) (IntKind.u64.wrap (2 ^ (ls j).toNat)) = (setN ls (j + 1) : Int) := by
        rw [hw, u64_or_nat _ _ (setN_lt fun u hu => (HV.out u (by omega)).2) hp]; rfl
      clear hw hp
      go_wp2_with fail
      exact ⟨⟨j + 1, by omega, by go_num, rfl⟩, by simp [intOf]; omega⟩
    · obtain rfl : j = l := by omega
      go_wp2_with fail
      go_ret
      exact ⟨rfl, rfl⟩
end Go.Proofs.Ytccinfmphkihoaa
