import Derived.Deep.Cut
import Derived.ChangeKeysEq
import Derived.Test.YtajnhkkiddeegaaGreatZp11
set_option linter.unusedVariables false
set_option linter.unusedSimpArgs false
namespace Go.Proofs.YtajnhkkiddeegaaGreat
open Go.RowKit Go.Sort
theorem big_any (A : Option Addr) (l c : Nat) (w : World) : Calls Tryz.prog 5 #[.slice A l c] w (Is (.bool (decide ((l : Int) > 4096))) w) := by
  go_enter Tryz.func5, Tryz.ntmps5
  go_wp2_with fail
  go_ret
  exact ⟨rfl, rfl⟩
theorem likeInts_any (A1 A2 : Option Addr) (m c1 c2 : Nat) (f : Nat → Int) (w : World) (h1 : SrcI w A1 m f) (h2 : SrcI w A2 m f) (hm : m ≤ 1048576) :
    Calls Tryz.prog 16 #[.slice A1 m c1, .slice A2 m c2] w (Ret (.bool true) w) := by
  have KC := cell_rg
  go_enter Tryz.func16, Tryz.ntmps16
  go_wp2_with fail
  go_loopw [5] (fun i wr => ∃ k : Nat, k ≤ m ∧ i = .int .i64 k ∧ Below w.heap.size w wr) (fun i _ => m - (intOf i).toNat)
  case atStart => exact ⟨0, Nat.zero_le _, rfl, Below.refl _ _⟩
  case round =>
    obtain ⟨k, hk, rfl, hbw⟩ := hrel
    by_cases hlt : k < m
    · obtain ⟨b1, o1, rfl, I1⟩ := (h1.below hbw) (by omega)
      obtain ⟨b2, o2, rfl, I2⟩ := (h2.below hbw) (by omega)
      have e1 := I1.c k hlt
      have e2 := I2.c k hlt
      have e3 := I1.blk
      have e4 := I2.blk
      clear I1 I2
      go_wp2_with fail
      (refine wp_region_quiet_below (by kernel_rfl) (by kernel_rfl) ?_
       repeat (any_goals (go_big_quiet_step (first | fail)))
       all_goals (refine wpQuiet_nil ?_; intro wq1 hq1; replace hq1 := below_of_rg hq1))
      go_wp2_with fail
      go_roundw
      case rel => exact ⟨k + 1, by omega, by go_num, hbw.andB hq1⟩
      case measure => simp [intOf]; omega
    · go_wp2_with fail
      go_ret
      exact ⟨rfl, hbw⟩
set_option maxHeartbeats 400000 in
theorem rows5_any (A1 A2 : Option Addr) (m c1 c2 : Nat) (rows : List (List Int)) (w : World) (hl : rows.length = m) (h1 : SrcLL w A1 rows) (h2 : SrcLL w A2 rows) (hm : m ≤ 1048576) (hr : ∀ j, j < m → (ra rows j).length ≤ 1048576) :
    Calls Tryz.prog 49 #[.slice A1 m c1, .slice A2 m c2] w (Ret (.bool true) w) := by
  have KC := cell_rg
  have HL := Lib.hid hl
  have HR := Lib.hid hr
  clear hr hl
  go_enter Tryz.func49, Tryz.ntmps49
  go_wp2_with fail
  go_loopw [5] (fun i wr => ∃ k : Nat, k ≤ m ∧ i = .int .i64 k ∧ Below w.heap.size w wr) (fun i _ => m - (intOf i).toNat)
  case atStart => exact ⟨0, Nat.zero_le _, rfl, Below.refl _ _⟩
  case round =>
    obtain ⟨k, hk, rfl, hb⟩ := hrel
    by_cases hlt : k < m
    · obtain ⟨g1, o1, B1, d1, rfl, z1, e1, s1⟩ := h1.below hb k (by rw [HL.out]; exact hlt)
      obtain ⟨g2, o2, B2, d2, rfl, z2, e2, s2⟩ := h2.below hb k (by rw [HL.out]; exact hlt)
      have HE : Hid (∀ d os, Calls Tryz.prog 16 #[.slice B1 (ra rows k).length d1, .slice B2 (ra rows k).length d2] (grow (redrawn wr d) os) fun e w'' => e = .returned (.bool true) ∧ ∃ p : Regrown, w'' = grow (redrawn wr p.d) p.os) := fun d os =>
        Ret.rg (likeInts_any B1 B2 _ d1 d2 (ia (ra rows k)) _ (s1.below (below_regrown _ _ _)) (s2.below (below_regrown _ _ _)) (HR.out k hlt))
      obtain ⟨lk, hlk⟩ : ∃ lk, (ra rows k).length = lk := ⟨_, rfl⟩
      rw [hlk] at e1 e2 HE
      clear s1 s2 hlk
      go_wp2_with fail
      (refine wp_region_quiet_below (by kernel_rfl) (by kernel_rfl) ?_
       repeat (any_goals (go_big_quiet_step (first | (go_at_call 16; exact HE.out _ _))))
       all_goals (refine wpQuiet_nil ?_; intro wq1 hq1; replace hq1 := below_of_rg hq1))
      go_wp2_with fail
      go_roundw
      case rel => exact ⟨k + 1, by omega, by go_num, hb.andB hq1⟩
      case measure => simp [intOf]; omega
    · go_wp2_with fail
      go_ret
      exact ⟨rfl, hb⟩
theorem neqE (a b : Int) (W : World) : (binOp .neq 78 (.agg #[.int .i64 a, .int .i64 b]) (.agg #[.int .i64 a, .int .i64 b])).run Tryz.prog W = .ok (.bool false) W := by
  obtain ⟨i0, hi, _, _, _⟩ := info_parts (e := 2) (P := Tryz.prog) (z := .int .i64 0) (size := 1) (bytes := 8) (by kernel_rfl)
  rw [run_neq_struct, show (10000 : Nat) = 9999 + 1 from rfl, run_equalIn_array W 9999 _ _ Tryz.underlying78 hi, show Tryz.prog.cellsOf 2 = 1 from by kernel_rfl]
  have h64 := Tryz.underlying2
  simp [Op.eqItems, go_sem, List.range_succ, part, h64]
set_option maxHeartbeats 1000000 in
theorem graphs5_any (n : Int) (A1 A2 : Option Addr) (m c1 c2 : Nat) (es : List (Int × Int)) (w : World) (h1 : SrcE w A1 m es) (h2 : SrcE w A2 m es) (hm : m ≤ 1048576) :
    Calls Tryz.prog 29 #[.agg #[.int .i64 n, .slice A1 m c1], .agg #[.int .i64 n, .slice A2 m c2]] w (Ret (.bool true) w) := by
  have KC := cell_rg
  have X1 := Box2.made w (.int .i64 n) (.slice A1 m c1) 26
  have hb1 : Below w.heap.size w (w.alloc (.cells #[.int .i64 n, .slice A1 m c1] 26)) := (Below.refl _ _).alloc (Nat.le_refl _) _
  have hs1 : (w.alloc (.cells #[.int .i64 n, .slice A1 m c1] 26)).heap.size = w.heap.size + 1 := by simp
  go_enter Tryz.func29, Tryz.ntmps29
  go_upto_region 1 with fail
  obtain ⟨w1, hw1⟩ : ∃ w1, w1 = w.alloc (.cells #[.int .i64 n, .slice A1 m c1] 26) := ⟨_, rfl⟩
  have X2 := Box2.made w1 (.int .i64 n) (.slice A2 m c2) 26
  have hb2 : Below w1.heap.size w1 (w1.alloc (.cells #[.int .i64 n, .slice A2 m c2] 26)) := (Below.refl _ _).alloc (Nat.le_refl _) _
  rw [← hw1] at X1 hb1 hs1 ⊢
  obtain ⟨w2, hw2⟩ : ∃ w2, w2 = w1.alloc (.cells #[.int .i64 n, .slice A2 m c2] 26) := ⟨_, rfl⟩
  rw [← hw2] at X2 hb2 ⊢
  have X1 := X1.below hb2
  have hB := hb1.andB hb2
  rw [hs1] at X2
  obtain ⟨x1, hx1⟩ : ∃ x1, x1 = w.heap.size := ⟨_, rfl⟩
  have HX := Lib.hid hx1
  rw [← hx1] at X1 X2 ⊢
  clear hw1 hw2 hs1 hb1 hb2 hx1
  obtain ⟨s1, p1, q1⟩ := X1
  obtain ⟨s2, p2, q2⟩ := X2
  go_wp2_with fail
  go_loopw [5] (fun i wr => ∃ k : Nat, k ≤ m ∧ i = .int .i64 k ∧ Below w2.heap.size w2 wr) (fun i _ => m - (intOf i).toNat)
  case atStart => exact ⟨0, Nat.zero_le _, rfl, Below.refl _ _⟩
  case round =>
    obtain ⟨k, hk, rfl, hbw⟩ := hrel
    have p1 := (hbw.cell (p := ⟨x1, 0, none⟩) s1).trans p1
    have q1 := (hbw.cell (p := ⟨x1, 1, none⟩) s1).trans q1
    have p2 := (hbw.cell (p := ⟨x1 + 1, 0, none⟩) s2).trans p2
    have q2 := (hbw.cell (p := ⟨x1 + 1, 1, none⟩) s2).trans q2
    have s1 := Nat.lt_of_lt_of_le s1 hbw.size
    have s2 := Nat.lt_of_lt_of_le s2 hbw.size
    have hbB := hB.andB hbw
    by_cases hlt : k < m
    · obtain ⟨b1, o1, rfl, I1⟩ := (h1.below hbB).2 (by omega)
      obtain ⟨b2, o2, rfl, I2⟩ := (h2.below hbB).2 (by omega)
      have e1 := I1.ca k hlt
      have e2 := I2.ca k hlt
      have f1 := I1.cb k hlt
      have f2 := I2.cb k hlt
      have e3 := I1.blk
      have e4 := I2.blk
      have hq0 := neqE (ea es k) (eb es k)
      have hq1 : ∀ (u v : Operand) (W : World), (eqGuard .neq 78 u v (.agg #[.int .i64 (ea es k), .int .i64 (eb es k)]) (.agg #[.int .i64 (ea es k), .int .i64 (eb es k)])).run Tryz.prog W = .ok () W := fun u v W => run_eqGuard_agg _ _ _ _ _ _ _ (by kernel_rfl)
      clear I1 I2
      go_wp2_with fail
      (refine wp_region_quiet_below (by kernel_rfl) (by kernel_rfl) ?_
       repeat (any_goals (go_big_quiet_step (first | fail)))
       all_goals (refine wpQuiet_nil ?_; intro wq9 hq9; replace hq9 := below_of_rg hq9))
      go_wp2_with fail
      go_roundw
      case rel => exact ⟨k + 1, by omega, by go_num, hbw.andB hq9⟩
      case measure => simp [intOf]; omega
    · go_wp2_with fail
      go_ret
      exact ⟨rfl, hbB⟩
end Go.Proofs.YtajnhkkiddeegaaGreat
