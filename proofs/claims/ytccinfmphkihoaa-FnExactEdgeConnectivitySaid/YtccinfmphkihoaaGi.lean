import Derived.Test.YtccinfmphkihoaaLc
import Derived.Test.YtccinfmphkihoaaIm
namespace Go.Proofs.Ytccinfmphkihoaa
open Go.RowKit Go.Sort
/-- A slice of whole numbers that came in: maybe nil. -/
def SrcI (w : World) (A : Option Addr) (m : Nat) (g : Nat → Int) : Prop := 0 < m → ∃ b o, A = some ⟨b, o, none⟩ ∧ Ints w b o m g
theorem SrcI.below {w w' : World} {A : Option Addr} {m : Nat} {g : Nat → Int} (h : SrcI w A m g) (hb : Below w.heap.size w w') : SrcI w' A m g :=
  fun hm => let ⟨b, o, e, he⟩ := h hm; ⟨b, o, e, he.below hb⟩
/-- The call returns a new slice of whole numbers. -/
def RetI (m : Nat) (f : Nat → Int) (w : World) (e : Ending) (w' : World) : Prop := ∃ g, e = .returned (.slice (some ⟨g, 0, none⟩) m m) ∧ w.heap.size ≤ g ∧ w'.rowIs g 2 m (fun v => .int .i64 (f v)) ∧ Below w.heap.size w w'
theorem Ints.upto {B : Nat} {w w' : World} {b o m : Nat} {g : Nat → Int} (h : Ints w b o m g) (hB : b < B) (hb : Below B w w') : Ints w' b o m g :=
  ⟨Nat.lt_of_lt_of_le h.blk hb.size, fun j hj => (hb.cell (p := ⟨b, o + j, none⟩) hB).trans (h.c j hj)⟩
theorem toInt64S_any (A : Option Addr) (m c : Nat) (f : Nat → Int) (w : World) (h : SrcI w A m f) (hm : m ≤ 1048576) : Calls Try.prog 32 #[.slice A m c] w (RetI m f w) := by
  have hmk := run_make_row' (P := Try.prog) 34 2 (.int .i64 0) 8 Try.underlying34 inf2 rfl .i64 .i64 m (by omega) (by omega)
  go_enter Try.func32, Try.ntmps32
  go_wp2_with fail
  go_loopw [4] (fun i wr => ∃ k : Nat, k ≤ m ∧ i = .int .i64 k ∧ wr.rowIs w.heap.size 2 m (fun v => .int .i64 (if v < k then f v else 0)) ∧ Below w.heap.size w wr) (fun i _ => m - (intOf i).toNat)
  case atStart => exact ⟨0, Nat.zero_le _, rfl, (World.rowIs_made w _ m _).congr (fun _ _ => rfl), (Below.refl _ _).alloc (Nat.le_refl _) _⟩
  case round =>
    obtain ⟨k, hk, rfl, hrow, hbw⟩ := hrel
    by_cases hlt : k < m
    · obtain ⟨b, o, rfl, I0⟩ := h (by omega)
      have I := I0.upto I0.blk hbw
      have e1 := I.c k hlt
      have c1 := hrow.cell hlt
      have f1 := hrow.frozen k
      have HR := Lib.hid hrow
      clear I I0 hrow
      go_wp2_with fail
      go_roundw
      case rel =>
        refine ⟨k + 1, by omega, by go_num, (HR.out.set k (.int .i64 (f k))).congr (fun v hv => ?_), hbw.setCell (Nat.le_refl _) _⟩
        by_cases h1 : v = k
        · subst h1; simp
        · rw [if_neg h1]
          by_cases h2 : v < k
          · rw [if_pos h2, if_pos (by omega)]
          · rw [if_neg h2, if_neg (by omega)]
      case measure => simp [intOf]; omega
    · obtain rfl : k = m := by omega
      go_wp2_with fail
      go_ret
      exact ⟨w.heap.size, rfl, Nat.le_refl _, hrow.congr (fun v hv => by rw [if_pos hv]), hbw⟩
theorem eqInt64S_same (b1 o1 m c1 b2 o2 c2 : Nat) (f : Nat → Int) (w : World) (h1 : Ints w b1 o1 m f) (h2 : Ints w b2 o2 m f) (hm : m ≤ 1048576) :
    Calls Try.prog 22 #[.slice (some ⟨b1, o1, none⟩) m c1, .slice (some ⟨b2, o2, none⟩) m c2] w (Ret (.bool true) w) := by
  have KC := cell_rg
  go_enter Try.func22, Try.ntmps22
  go_wp2_with fail
  go_loopw [5] (fun i wr => ∃ k : Nat, k ≤ m ∧ i = .int .i64 k ∧ Below w.heap.size w wr) (fun i _ => m - (intOf i).toNat)
  case atStart => exact ⟨0, Nat.zero_le _, rfl, Below.refl _ _⟩
  case round =>
    obtain ⟨k, hk, rfl, hbw⟩ := hrel
    by_cases hlt : k < m
    · have I1 := h1.below hbw
      have I2 := h2.below hbw
      have e1 := I1.c k hlt
      have e2 := I2.c k hlt
      have e3 := I1.blk
      have e4 := I2.blk
      clear I1 I2
      go_wp2_with fail
      (refine wp_region_quiet_below (by kernel_rfl) (by kernel_rfl) ?_
       repeat (any_goals (go_big_quiet_step (first | fail)))
       all_goals (refine wpQuiet_nil ?_; intro wq1 hq1; replace hq1 := below_of_rg hq1))
      go_wp2_with fail
      go_roundw
      case rel => exact ⟨k + 1, by omega, by go_num, hbw.andB hq1⟩
      case measure => simp [intOf]; omega
    · go_wp2_with fail
      go_ret
      exact ⟨rfl, hbw⟩
end Go.Proofs.Ytccinfmphkihoaa
