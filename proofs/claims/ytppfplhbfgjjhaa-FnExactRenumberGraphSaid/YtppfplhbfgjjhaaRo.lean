import Derived.Test.YtppfplhbfgjjhaaGk
import Derived.Test.YtppfplhbfgjjhaaM6
import Derived.Test.YtppfplhbfgjjhaaM5
namespace Go.Proofs.Ytppfplhbfgjjhaa
open Go.RowKit Go.Sort
/-! ### Orders of the vertices -/
def OrdP (ls : Nat → Int) (l : Nat) (n : Int) : Prop := (l : Int) = n ∧ (∀ j, j < l → 0 ≤ ls j ∧ ls j ≤ n - 1) ∧ NP ls l
/-- One power, none beyond 63. -/
def powG (x : Int) : Nat := if x ≤ 63 then 2 ^ x.toNat else 0
def setG (ls : Nat → Int) : Nat → Nat
  | 0 => 0
  | k + 1 => setG ls k ||| powG (ls k)
theorem powG_lt (x : Int) : powG x < 18446744073709551616 := by
  unfold powG; split
  · exact pow64 (by omega)
  · decide
theorem setG_lt (ls : Nat → Int) : ∀ k, setG ls k < 18446744073709551616
  | 0 => by simp [setG]
  | k + 1 => by
    have h1 : setG ls k < 2 ^ 64 := by have := setG_lt ls k; simpa using this
    have h2 : powG (ls k) < 2 ^ 64 := by have := powG_lt (ls k); simpa using this
    have := Nat.or_lt_two_pow h1 h2
    simpa [setG] using this
theorem setG_eq {ls : Nat → Int} : ∀ {k : Nat}, (∀ j, j < k → ls j ≤ 63) → setG ls k = setN ls k
  | 0, _ => rfl
  | k + 1, h => by
    show setG ls k ||| powG (ls k) = setN ls k ||| 2 ^ (ls k).toNat
    rw [setG_eq (fun j hj => h j (by omega)), powG, if_pos (h k (by omega))]
theorem wrap_powG (x : Int) : IntKind.u64.wrap (2 ^ min x.toNat 64) = (powG x : Int) := by
  unfold powG
  by_cases h : x ≤ 63
  · rw [if_pos h, Nat.min_eq_left (by omega)]; exact wrap_pow (by omega)
  · rw [if_neg h, Nat.min_eq_right (by omega)]; decide
theorem setOf_gen (b o l c : Nat) (ls : Nat → Int) (w : World) (h : Ints w b o l ls) (hl : l ≤ 1048576) (hv : ∀ j, j < l → 0 ≤ ls j) :
    Calls Try.prog 155 #[.slice (some ⟨b, o, none⟩) l c] w (Is (.int .u64 (setG ls l)) w) := by
  have HV := Lib.hid hv
  clear hv
  go_enter Try.func155, Try.ntmps155
  go_wp2_with fail
  go_loop [3, 8] (fun s i => ∃ j : Nat, j ≤ l ∧ i = .int .i64 j ∧ s = .int .u64 (setG ls j)) (fun _ i => l - (intOf i).toNat)
  case atStart => exact ⟨0, Nat.zero_le _, rfl, by rfl⟩
  case round =>
    obtain ⟨j, hj, rfl, rfl⟩ := hrel
    by_cases hlt : j < l
    · have c1 := h.c j hlt
      have h0 := HV.out j hlt
      have hw := wrap_powG (ls j)
      have ho : bits .or .u64 (setG ls j : Int) (IntKind.u64.wrap (2 ^ min (ls j).toNat 64)) = (setG ls (j + 1) : Int) := by
        rw [hw, u64_or_nat _ _ (setG_lt ls j) (powG_lt _)]; rfl
      clear hw
      go_wp2_with fail
      exact ⟨⟨j + 1, by omega, by go_num, rfl⟩, by simp [intOf]; omega⟩
    · obtain rfl : j = l := by omega
      go_wp2_with fail
      go_ret
      exact ⟨rfl, rfl⟩
theorem lengthI_any (A : Option Addr) (m c : Nat) (w : World) : Calls Try.prog 153 #[.slice A m c] w (Is (.int .i64 m) w) := by
  go_enter Try.func153, Try.ntmps153
  go_wp2_with fail
  go_ret
  exact ⟨rfl, rfl⟩
theorem isOrder1_any (x n : Int) (p1 : Nat) (w : World) (h1 : w.cell? ⟨p1, 0, none⟩ = some (.int .i64 n)) (hn : IntKind.i64.wrap (n - 1) = n - 1) :
    Calls Try.prog 154 #[.int .i64 x, .pointer (some ⟨p1, 0, none⟩)] w (Is (.bool (inB x 0 (n - 1))) w) := by
  go_enter Try.func154, Try.ntmps154
  go_wp2_with (go_at_call 123; refine (within_any _ _ _ _).mono ?_; rintro e w' ⟨rfl, rfl⟩)
  go_ret
  exact ⟨rfl, rfl⟩
theorem enO1 : Enters 154 := fun args w => by kernel_rfl
def qN (n : Nat) : Int := IntKind.u64.wrap ((powG n : Int) - 1)
noncomputable def ordB (ls : Nat → Int) (l : Nat) (n : Int) : Bool := decide ((l : Int) = n) && (allB l (fun j => inB (ls j) 0 (n - 1)) && decide ((setG ls l : Int) = qN l))
theorem ordB_eq {ls : Nat → Int} {l : Nat} {n : Int} (h2 : n ≤ 20) : ordB ls l n = B (OrdP ls l n) := by
  rw [Bool.eq_iff_iff, B_iff]
  unfold ordB OrdP
  simp only [Bool.and_eq_true, decide_eq_true_eq]
  by_cases hl : (l : Int) = n
  · subst hl
    have hall : allB l (fun j => inB (ls j) 0 ((l : Int) - 1)) = true ↔ ∀ j, j < l → 0 ≤ ls j ∧ ls j ≤ (l : Int) - 1 := by
      unfold allB
      rw [B_iff]
      exact ⟨fun h j hj => inB_iff.1 (h j hj), fun h j hj => inB_iff.2 (h j hj)⟩
    rw [hall]
    constructor
    · rintro ⟨_, h1, h3⟩
      refine ⟨rfl, h1, ?_⟩
      rw [← full_iff (fun a ha => by have := h1 a ha; omega)]
      rw [setG_eq (fun j hj => by have := h1 j hj; omega)] at h3
      have hq : qN l = ((2 ^ l - 1 : Nat) : Int) := by
        unfold qN powG
        rw [if_pos (by omega), Int.toNat_natCast, IntKind.wrap_u64]
        have hp : (2 : Nat) ^ l ≤ 2 ^ 20 := Nat.pow_le_pow_right (by decide) (by omega)
        have hp1 : 0 < (2 : Nat) ^ l := Nat.two_pow_pos l
        generalize (2 : Nat) ^ l = y at hp hp1
        omega
      rw [hq] at h3
      exact Int.ofNat_inj.1 h3
    · rintro ⟨_, h1, h3⟩
      refine ⟨rfl, h1, ?_⟩
      rw [← full_iff (fun a ha => by have := h1 a ha; omega)] at h3
      rw [setG_eq (fun j hj => by have := h1 j hj; omega), h3]
      unfold qN powG
      rw [if_pos (by omega), Int.toNat_natCast, IntKind.wrap_u64]
      have hp : (2 : Nat) ^ l ≤ 2 ^ 20 := Nat.pow_le_pow_right (by decide) (by omega)
      have hp1 : 0 < (2 : Nat) ^ l := Nat.two_pow_pos l
      generalize (2 : Nat) ^ l = y at hp hp1
      omega
  · simp [hl]
set_option maxHeartbeats 1000000 in
theorem isOrder_any (b2 o2 l c2 : Nat) (ls : Nat → Int) (n : Int) (w : World) (h : Ints w b2 o2 l ls) (hl : l ≤ 1048576) :
    Calls Try.prog 106 #[.slice (some ⟨b2, o2, none⟩) l c2, .int .i64 n] w (Ret (.bool (ordB ls l n)) w) := by
  have KC := cell_rg
  have hbb := (by go_grown : Below w.heap.size w (w.alloc (.cells #[.int .i64 n] 2)))
  have hbx : (w.alloc (.cells #[.int .i64 n] 2)).cell? ⟨w.heap.size, 0, none⟩ = some (.int .i64 n) := by simp
  by_cases hln : (l : Int) = n
  rotate_left
  · have HO : Hid (ordB ls l n = false) := by show _ = _; simp [ordB, hln]
    have hne : ((l : Int) == n) = false := by simpa using hln
    clear hln
    go_enter Try.func106, Try.ntmps106
    go_wp2_with fail
    (refine wp_region_quiet_below (by kernel_rfl) (by kernel_rfl) ?_
     repeat (any_goals (go_big_quiet_step (first | (go_at_call 153; exact Is.rg (lengthI_any _ _ _ _)))))
     all_goals (refine wpQuiet_nil ?_; intro wq1 hq1; replace hq1 := below_of_rg hq1))
    go_wp2_with fail
    go_ret
    exact ⟨ret_bool HO.out.symm, hbb.thenB (by simp) hq1⟩
  have heq : ((l : Int) == n) = true := by simpa using hln
  have hwn : IntKind.i64.wrap (n - 1) = n - 1 := IntWalk.i64_in _ (by omega)
  have hAA : ∀ d os, Calls Try.prog 136 #[.slice (some ⟨b2, o2, none⟩) l c2, .func (.func 154) #[] #[.pointer (some ⟨w.heap.size, 0, none⟩)]] (grow (redrawn (w.alloc (.cells #[.int .i64 n] 2)) d) os) (Ret (.bool (allB l (fun j => inB (ls j) 0 (n - 1)))) (grow (redrawn (w.alloc (.cells #[.int .i64 n] 2)) d) os)) := fun d os =>
    areAllL_any 154 #[.pointer (some ⟨w.heap.size, 0, none⟩)] (fun j => inB (ls j) 0 (n - 1)) b2 o2 l c2 ls _ ((h.below hbb).below (below_regrown _ _ _)) hl enO1 (fun j _ w' hw' => by
      have a1 := (bcell hw').1 w.heap.size 0 (Nat.lt_of_lt_of_le (by simp) (below_regrown (w.alloc (.cells #[.int .i64 n] 2)) d os).size)
      rw [(bcell (below_regrown (w.alloc (.cells #[.int .i64 n] 2)) d os)).1 w.heap.size 0 (by simp), hbx] at a1
      exact Is.ret (isOrder1_any _ n _ _ a1 hwn))
  cases hal : allB l (fun j => inB (ls j) 0 (n - 1)) with
  | false =>
    have HO : Hid (ordB ls l n = false) := by show _ = _; simp [ordB, hal]
    rw [hal] at hAA
    have HAA := Lib.hid hAA
    clear hln hAA hal
    go_enter Try.func106, Try.ntmps106
    go_wp2_with fail
    (refine wp_region_quiet_below (by kernel_rfl) (by kernel_rfl) ?_
     repeat (any_goals (go_big_quiet_step (first | (go_at_call 153; exact Is.rg (lengthI_any _ _ _ _)) | (go_at_call 136; exact Ret.rg (HAA.out _ _)))))
     all_goals (refine wpQuiet_nil ?_; intro wq1 hq1; replace hq1 := below_of_rg hq1))
    go_wp2_with fail
    go_ret
    exact ⟨ret_bool HO.out.symm, hbb.thenB (by simp) hq1⟩
  | true =>
    have hrng : ∀ j, j < l → 0 ≤ ls j := fun j hj => by
      unfold allB at hal
      have := inB_iff.1 (B_iff.1 hal j hj)
      exact this.1
    have HO : Hid (ordB ls l n = ((setG ls l : Int) == qN l)) := by show _ = _; simp only [ordB, hal, hln]; simp; rfl
    have HSG := Lib.hid (fun d os => setOf_gen b2 o2 l c2 ls (grow (redrawn (w.alloc (.cells #[.int .i64 n] 2)) d) os) ((h.below hbb).below (below_regrown _ _ _)) hl hrng)
    rw [hal] at hAA
    have HAA := Lib.hid hAA
    have hn0 : 0 ≤ n := by omega
    have hsh : IntKind.u64.wrap (2 ^ min n.toNat 64) = (powG n : Int) := wrap_powG n
    have hqq : IntKind.u64.wrap ((powG n : Int) - 1) = qN l := by unfold qN; rw [hln]
    obtain ⟨S, hS⟩ : ∃ S, S = setG ls l := ⟨_, rfl⟩
    obtain ⟨q, hq⟩ : ∃ q, q = qN l := ⟨_, rfl⟩
    rw [← hS] at HSG HO
    rw [← hq] at HO hqq
    clear hln hAA hal hrng hS hq
    go_enter Try.func106, Try.ntmps106
    go_wp2_with fail
    (refine wp_region_quiet_below (by kernel_rfl) (by kernel_rfl) ?_
     repeat (any_goals (go_big_quiet_step (first | (go_at_call 153; exact Is.rg (lengthI_any _ _ _ _)) | (go_at_call 136; exact Ret.rg (HAA.out _ _)) | (go_at_call 155; exact Is.rg (HSG.out _ _)))))
     all_goals (refine wpQuiet_nil ?_; intro wq1 hq1; replace hq1 := below_of_rg hq1))
    go_wp2_with fail
    go_ret
    exact ⟨ret_bool HO.out.symm, hbb.thenB (by simp) hq1⟩
end Go.Proofs.Ytppfplhbfgjjhaa
