import Derived.Test.YtnoneppmeaeicaaDoorM9
import Derived.Test.YtnoneppmeaeicaaDoorKp
import Derived.Test.YtnoneppmeaeicaaDoorM6
import Derived.StillTailTactics
namespace Go.Proofs.YtnoneppmeaeicaaDoor
open Go.RowKit Go.Sort
/-! ### The painter in memory -/
def Mut (S : Nat → Prop) (bc bu : Nat) : Nat → Prop := fun k => k = bc ∨ k = bu ∨ S k
/-- What of a painter stays. -/
structure PS (w0 : World) (S : Nat → Prop) (bp bc bu N m : Nat) (A : Option Addr) (cA : Nat) (L : List Nat) (b o c cc cu : Nat) (es : List (Int × Int)) (fv : Value) : Prop where
  p0 : w0.cell? ⟨bp, 0, none⟩ = some (.int .i64 N)
  p1 : w0.cell? ⟨bp, 1, none⟩ = some (.slice (some ⟨b, o, none⟩) m c)
  p2 : w0.cell? ⟨bp, 2, none⟩ = some (.slice A L.length cA)
  p3 : w0.cell? ⟨bp, 3, none⟩ = some (.slice (some ⟨bc, 0, none⟩) m cc)
  p4 : w0.cell? ⟨bp, 4, none⟩ = some (.slice (some ⟨bu, 0, none⟩) N cu)
  p5 : w0.cell? ⟨bp, 5, none⟩ = some fv
  pl : bp < w0.heap.size
  E : Eds w0 b o m es
  I : SrcI w0 A L.length (fun j => ((L.getD j 0 : Nat) : Int))
  hL : ∀ d, d ∈ L → d < m
  np : ¬ Mut S bc bu bp
  nb : ¬ Mut S bc bu b
  nA : ∀ g, blkOf A = some g → ¬ Mut S bc bu g
  ne : bc ≠ bu
-- left out in this seat
-- left out in this seat
-- left out in this seat
-- left out in this seat
-- left out in this seat
-- left out in this seat
-- left out in this seat
/-- Given to the first k ends. -/
def gU (es : List (Int × Int)) (U : Nat → Nat) (e x k : Nat) : Nat → Nat := fun v => if (0 < k ∧ v = va es e) ∨ (1 < k ∧ v = vb es e) then U v ||| 2 ^ x else U v
/-- Taken from the first k ends. -/
def tU (es : List (Int × Int)) (U : Nat → Nat) (e x k : Nat) : Nat → Nat := fun v => if (k = 0 ∧ v = va es e) ∨ (k < 2 ∧ v = vb es e) then U v ||| 2 ^ x else U v
theorem andNot_or (a x : Nat) (ha : a < 8) (hx : x < 3) (hb : a.testBit x = false) : bits .andNot .u64 ((a ||| 2 ^ x : Nat) : Int) ((2 ^ x : Nat) : Int) = (a : Int) := by
  have h1 : a = 0 ∨ a = 1 ∨ a = 2 ∨ a = 3 ∨ a = 4 ∨ a = 5 ∨ a = 6 ∨ a = 7 := by omega
  have h2 : x = 0 ∨ x = 1 ∨ x = 2 := by omega
  rcases h1 with rfl | rfl | rfl | rfl | rfl | rfl | rfl | rfl <;> rcases h2 with rfl | rfl | rfl <;> first | (exact absurd hb (by decide)) | decide
theorem or8 {a x : Nat} (ha : a < 8) (hx : x < 3) : a ||| 2 ^ x < 8 := by
  have hp : 2 ^ x < 8 := by
    have : x = 0 ∨ x = 1 ∨ x = 2 := by omega
    rcases this with rfl | rfl | rfl <;> decide
  exact Nat.or_lt_two_pow (n := 3) ha hp
def vq (es : List (Int × Int)) (i k : Nat) : Nat := if k = 0 then va es i else vb es i
theorem vq_0 {es : List (Int × Int)} {N : Int} (hn : WfP N es) {i : Nat} (hi : i < es.length) : ((vq es i 0 : Nat) : Int) = ea es i := by
  have hw := hn.2.2.2.2 i hi
  simp [vq, va]; omega
theorem vq_1 {es : List (Int × Int)} {N : Int} (hn : WfP N es) {i : Nat} (hi : i < es.length) : ((vq es i 1 : Nat) : Int) = eb es i := by
  have hw := hn.2.2.2.2 i hi
  simp [vq, vb]; omega
theorem edge_idx {es : List (Int × Int)} {N : Int} (hn : WfP N es) {i k : Nat} (hi : i < es.length) (hk : k < 2) (W : World) : (Instr.index 44 (.agg #[.int .i64 (ea es i), .int .i64 (eb es i)]) (.int .i64 k)).run Tryd.prog W = .ok (.int .i64 (vq es i k : Nat)) W := by
  obtain ⟨y, hy⟩ : ∃ y, y = ((vq es i k : Nat) : Int) := ⟨_, rfl⟩
  rw [← hy]
  rcases (show k = 0 ∨ k = 1 by omega) with rfl | rfl
  · rw [vq_0 hn hi] at hy; subst hy; kernel_rfl
  · rw [vq_1 hn hi] at hy; subst hy; kernel_rfl
theorem vq_lt (es : List (Int × Int)) {N : Nat} (hn : WfP N es) {i k : Nat} (hi : i < es.length) : vq es i k < N := by
  have hw := hn.2.2.2.2 i hi
  unfold vq va vb; split <;> omega
theorem va_ne (es : List (Int × Int)) {N : Int} (hn : WfP N es) {i : Nat} (hi : i < es.length) : va es i ≠ vb es i := by
  have hw := hn.2.2.2.2 i hi
  unfold va vb; omega
-- left out in this seat
-- left out in this seat
end Go.Proofs.YtnoneppmeaeicaaDoor
