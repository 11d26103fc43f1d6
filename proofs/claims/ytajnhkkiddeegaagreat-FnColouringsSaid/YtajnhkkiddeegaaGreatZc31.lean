import Derived.Deep.Cut
import Derived.ChangeKeysEq
import Derived.Test.YtajnhkkiddeegaaGreatZc13
set_option linter.unusedVariables false
set_option linter.unusedSimpArgs false
namespace Go.Proofs.YtajnhkkiddeegaaGreat
open Go.RowKit Go.Sort
theorem big_any (A : Option Addr) (l c : Nat) (w : World) : Calls Tryz.prog 5 #[.slice A l c] w (Is (.bool (decide ((l : Int) > 4096))) w) := by
  go_enter Tryz.func5, Tryz.ntmps5
  go_wp2_with fail
  go_ret
  exact ⟨rfl, rfl⟩
theorem likeInts_any (A1 A2 : Option Addr) (m c1 c2 : Nat) (f : Nat → Int) (w : World) (h1 : SrcI w A1 m f) (h2 : SrcI w A2 m f) (hm : m ≤ 1048576) :
    Calls Tryz.prog 16 #[.slice A1 m c1, .slice A2 m c2] w (Ret (.bool true) w) := by
  have KC := cell_rg
  go_enter Tryz.func16, Tryz.ntmps16
  go_wp2_with fail
  go_loopw [5] (fun i wr => ∃ k : Nat, k ≤ m ∧ i = .int .i64 k ∧ Below w.heap.size w wr) (fun i _ => m - (intOf i).toNat)
  case atStart => exact ⟨0, Nat.zero_le _, rfl, Below.refl _ _⟩
  case round =>
    obtain ⟨k, hk, rfl, hbw⟩ := hrel
    by_cases hlt : k < m
    · obtain ⟨b1, o1, rfl, I1⟩ := (h1.below hbw) (by omega)
      obtain ⟨b2, o2, rfl, I2⟩ := (h2.below hbw) (by omega)
      have e1 := I1.c k hlt
      have e2 := I2.c k hlt
      have e3 := I1.blk
      have e4 := I2.blk
      clear I1 I2
      go_wp2_with fail
      (refine wp_region_quiet_below (by kernel_rfl) (by kernel_rfl) ?_
       repeat (any_goals (go_big_quiet_step (first | fail)))
       all_goals (refine wpQuiet_nil ?_; intro wq1 hq1; replace hq1 := below_of_rg hq1))
      go_wp2_with fail
      go_roundw
      case rel => exact ⟨k + 1, by omega, by go_num, hbw.andB hq1⟩
      case measure => simp [intOf]; omega
    · go_wp2_with fail
      go_ret
      exact ⟨rfl, hbw⟩
set_option maxHeartbeats 400000 in
theorem rows9_any (A1 A2 : Option Addr) (m c1 c2 : Nat) (rows : List (List Int)) (w : World) (hl : rows.length = m) (h1 : SrcLL w A1 rows) (h2 : SrcLL w A2 rows) (hm : m ≤ 1048576) (hr : ∀ j, j < m → (ra rows j).length ≤ 1048576) :
    Calls Tryz.prog 9 #[.slice A1 m c1, .slice A2 m c2] w (Ret (.bool true) w) := by
  have KC := cell_rg
  have HL := Lib.hid hl
  have HR := Lib.hid hr
  clear hr hl
  go_enter Tryz.func9, Tryz.ntmps9
  go_wp2_with fail
  go_loopw [5] (fun i wr => ∃ k : Nat, k ≤ m ∧ i = .int .i64 k ∧ Below w.heap.size w wr) (fun i _ => m - (intOf i).toNat)
  case atStart => exact ⟨0, Nat.zero_le _, rfl, Below.refl _ _⟩
  case round =>
    obtain ⟨k, hk, rfl, hb⟩ := hrel
    by_cases hlt : k < m
    · obtain ⟨g1, o1, B1, d1, rfl, z1, e1, s1⟩ := h1.below hb k (by rw [HL.out]; exact hlt)
      obtain ⟨g2, o2, B2, d2, rfl, z2, e2, s2⟩ := h2.below hb k (by rw [HL.out]; exact hlt)
      have HE : Hid (∀ d os, Calls Tryz.prog 16 #[.slice B1 (ra rows k).length d1, .slice B2 (ra rows k).length d2] (grow (redrawn wr d) os) fun e w'' => e = .returned (.bool true) ∧ ∃ p : Regrown, w'' = grow (redrawn wr p.d) p.os) := fun d os =>
        Ret.rg (likeInts_any B1 B2 _ d1 d2 (ia (ra rows k)) _ (s1.below (below_regrown _ _ _)) (s2.below (below_regrown _ _ _)) (HR.out k hlt))
      obtain ⟨lk, hlk⟩ : ∃ lk, (ra rows k).length = lk := ⟨_, rfl⟩
      rw [hlk] at e1 e2 HE
      clear s1 s2 hlk
      go_wp2_with fail
      (refine wp_region_quiet_below (by kernel_rfl) (by kernel_rfl) ?_
       repeat (any_goals (go_big_quiet_step (first | (go_at_call 16; exact HE.out _ _))))
       all_goals (refine wpQuiet_nil ?_; intro wq1 hq1; replace hq1 := below_of_rg hq1))
      go_wp2_with fail
      go_roundw
      case rel => exact ⟨k + 1, by omega, by go_num, hb.andB hq1⟩
      case measure => simp [intOf]; omega
    · go_wp2_with fail
      go_ret
      exact ⟨rfl, hb⟩
end Go.Proofs.YtajnhkkiddeegaaGreat
