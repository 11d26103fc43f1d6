import Derived.Test.YtccinfmphkihoaaBs
import Derived.Test.YtccinfmphkihoaaSp2
namespace Go.Proofs.Ytccinfmphkihoaa
open Go.RowKit Go.Sort
/-! ### Sets as ascending lists -/
def SetP (ls : Nat → Int) (l : Nat) (u : Int) : Prop := ∀ j, j < l → (0 ≤ ls j ∧ ls j ≤ u) ∧ (0 < j → ls (j - 1) < ls j)
theorem SetP.succ {ls : Nat → Int} {j : Nat} {u : Int} (h : SetP ls j u) (h1 : inB (ls j) 0 u = true) (h2 : 0 < j → ls (j - 1) < ls j) : SetP ls (j + 1) u := fun i hi => by
  by_cases e : i = j
  · subst e; exact ⟨inB_iff.1 h1, h2⟩
  · exact h i (by omega)
noncomputable def setB (ls : Nat → Int) (l : Nat) (u : Int) : Bool := B (SetP ls l u)
noncomputable def setC (ls : Nat → Int) (l : Nat) (u : Int) : Int := if setB ls l u then 0 else 2
theorem setC_0 {ls : Nat → Int} {l : Nat} {u : Int} (h : SetP ls l u) : setC ls l u = 0 := by simp [setC, setB, B_true h]
theorem setC_2 {ls : Nat → Int} {l : Nat} {u : Int} (h : ¬ SetP ls l u) : setC ls l u = 2 := by simp [setC, setB, B_false h]
set_option maxHeartbeats 800000 in
theorem isSet_any (b o l c : Nat) (ls : Nat → Int) (n u : Int) (w : World) (h : Ints w b o l ls) (hl : l ≤ 1048576) (hu : IntKind.i64.wrap (n - 1) = u) :
    Calls Try.prog 96 #[.slice (some ⟨b, o, none⟩) l c, .int .i64 n] w (Is (.bool (setB ls l u)) w) := by
  go_enter Try.func96, Try.ntmps96
  go_wp2_with fail
  go_loop [9] (fun i => ∃ j : Nat, j ≤ l ∧ i = .int .i64 j ∧ Hid (SetP ls j u)) (fun i => l - (intOf i).toNat)
  case atStart => exact ⟨0, Nat.zero_le _, rfl, fun j hj => absurd hj (by omega)⟩
  case round =>
    obtain ⟨j, hj, rfl, HP⟩ := hrel
    by_cases hlt : j < l
    · have c1 := h.c j hlt
      cases hA : inB (ls j) 0 u with
      | false =>
        have HV : Hid (setB ls l u = false) := B_false fun x => inB_not.1 hA (x j hlt).1
        go_wp2_with (go_at_call 111; refine (within_any _ _ _ _).mono ?_; rintro e w' ⟨rfl, rfl⟩)
        go_ret
        exact ⟨ret_bool HV.out.symm, rfl⟩
      | true =>
        rcases Nat.eq_zero_or_pos j with h0 | h0
        · have HP' : Hid (SetP ls (j + 1) u) := HP.out.succ hA (by omega)
          have hz : ¬ 0 < j := by omega
          clear h0
          go_wp2_with (go_at_call 111; refine (within_any _ _ _ _).mono ?_; rintro e w' ⟨rfl, rfl⟩)
          go_round
          case rel => exact ⟨j + 1, by omega, by go_num, HP'⟩
          case measure => simp [intOf]; omega
        · have c2 := h.c (j - 1) (by omega)
          have hw : IntKind.i64.wrap ((j : Int) - 1) = ((j - 1 : Nat) : Int) := by rw [IntWalk.i64_in _ (by omega)]; omega
          by_cases hle : ls j ≤ ls (j - 1)
          · have HV : Hid (setB ls l u = false) := B_false fun x => by have := (x j hlt).2 h0; omega
            go_wp2_with (go_at_call 111; refine (within_any _ _ _ _).mono ?_; rintro e w' ⟨rfl, rfl⟩)
            go_ret
            exact ⟨ret_bool HV.out.symm, rfl⟩
          · have HP' : Hid (SetP ls (j + 1) u) := HP.out.succ hA (by omega)
            go_wp2_with (go_at_call 111; refine (within_any _ _ _ _).mono ?_; rintro e w' ⟨rfl, rfl⟩)
            go_round
            case rel => exact ⟨j + 1, by omega, by go_num, HP'⟩
            case measure => simp [intOf]; omega
    · obtain rfl : j = l := by omega
      have HV : Hid (setB ls j u = true) := B_true HP.out
      go_wp2_with fail
      go_ret
      exact ⟨ret_bool HV.out.symm, rfl⟩
set_option maxHeartbeats 800000 in
theorem l03Set_any (b o l c : Nat) (ls : Nat → Int) (n u : Int) (w : World) (h : Ints w b o l ls) (hl : l ≤ 1048576) (hu : IntKind.i64.wrap (n - 1) = u) :
    Calls Try.prog 95 #[.slice (some ⟨b, o, none⟩) l c, .int .i64 n] w (Ret (.int .i64 (setC ls l u)) w) := by
  have KC := cell_rg
  go_enter Try.func95, Try.ntmps95
  go_wp2_with fail
  go_loopw [5] (fun i wr => ∃ j : Nat, j ≤ l ∧ i = .int .i64 j ∧ Hid (SetP ls j u) ∧ Below w.heap.size w wr) (fun i _ => l - (intOf i).toNat)
  case atStart => exact ⟨0, Nat.zero_le _, rfl, fun j hj => absurd hj (by omega), Below.refl _ _⟩
  case round =>
    obtain ⟨j, hj, rfl, HP, hbr⟩ := hrel
    have I := h.below hbr
    have s3 := I.blk
    by_cases hlt : j < l
    · have c1 := I.c j hlt
      cases hA : inB (ls j) 0 u with
      | false =>
        have HV := Lib.hid (setC_2 fun (x : SetP ls l u) => inB_not.1 hA (x j hlt).1)
        clear I
        go_wp2_with fail
        (refine wp_region_quiet_below (by kernel_rfl) (by kernel_rfl) ?_
         repeat (any_goals (go_big_quiet_step (first | (go_at_call 110; exact Is.rg (in_any _ _ _ _)))))
         all_goals (refine wpQuiet_nil ?_; intro wq1 hq1; replace hq1 := below_of_rg hq1))
        go_wp2_with fail
        go_ret
        exact ⟨ret_int HV.out.symm, hbr.andB hq1⟩
      | true =>
        rcases Nat.eq_zero_or_pos j with h0 | h0
        · have HP' : Hid (SetP ls (j + 1) u) := HP.out.succ hA (by omega)
          have hz : ¬ 0 < j := by omega
          clear h0
          clear I
          go_wp2_with fail
          (refine wp_region_quiet_below (by kernel_rfl) (by kernel_rfl) ?_
           repeat (any_goals (go_big_quiet_step (first | (go_at_call 110; exact Is.rg (in_any _ _ _ _)))))
           all_goals (refine wpQuiet_nil ?_; intro wq1 hq1; replace hq1 := below_of_rg hq1))
          go_wp2_with fail
          go_roundw
          case rel => exact ⟨j + 1, by omega, by go_num, HP', hbr.andB hq1⟩
          case measure => simp [intOf]; omega
        · have c2 := I.c (j - 1) (by omega)
          have hw : IntKind.i64.wrap ((j : Int) - 1) = ((j - 1 : Nat) : Int) := by rw [IntWalk.i64_in _ (by omega)]; omega
          clear I
          by_cases hle : ls j ≤ ls (j - 1)
          · have HV := Lib.hid (setC_2 fun (x : SetP ls l u) => by have := (x j hlt).2 h0; omega)
            go_wp2_with fail
            (refine wp_region_quiet_below (by kernel_rfl) (by kernel_rfl) ?_
             repeat (any_goals (go_big_quiet_step (first | (go_at_call 110; exact Is.rg (in_any _ _ _ _)))))
             all_goals (refine wpQuiet_nil ?_; intro wq1 hq1; replace hq1 := below_of_rg hq1))
            go_wp2_with fail
            go_ret
            exact ⟨ret_int HV.out.symm, hbr.andB hq1⟩
          · have HP' : Hid (SetP ls (j + 1) u) := HP.out.succ hA (by omega)
            go_wp2_with fail
            (refine wp_region_quiet_below (by kernel_rfl) (by kernel_rfl) ?_
             repeat (any_goals (go_big_quiet_step (first | (go_at_call 110; exact Is.rg (in_any _ _ _ _)))))
             all_goals (refine wpQuiet_nil ?_; intro wq1 hq1; replace hq1 := below_of_rg hq1))
            go_wp2_with fail
            go_roundw
            case rel => exact ⟨j + 1, by omega, by go_num, HP', hbr.andB hq1⟩
            case measure => simp [intOf]; omega
    · obtain rfl : j = l := by omega
      have HV := Lib.hid (setC_0 HP.out)
      go_wp2_with fail
      go_ret
      exact ⟨ret_int HV.out.symm, hbr⟩
end Go.Proofs.Ytccinfmphkihoaa
