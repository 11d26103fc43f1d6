import Derived.Test.YtjdhibcijjnopaaFl
namespace Go.Proofs.Ytjdhibcijjnopaa
open Go.RowKit Go.Sort
theorem gc_li (n : Int) (es : List (Int × Int)) (md : Int) (len : Nat) (g : Nat → Int) (lo hi : Int) : gcC n es (inB md 2 6 && avB es len g lo hi) = liC n es md len g lo hi := by
  cases hG : B (IsG n es) <;> simp [gcC, liC, avB, hG, Bool.and_assoc]
theorem liC_md {n : Int} {es : List (Int × Int)} {md : Int} {len : Nat} {g : Nat → Int} {lo hi : Int} (h : inB md 2 6 = false) (hi' : Int) : liC n es md len g lo hi = liC n es md len g lo hi' := by simp [liC, h]
theorem liC_0 {n : Int} {es : List (Int × Int)} {md : Int} {len : Nat} {g : Nat → Int} {lo hi : Int} (h : liC n es md len g lo hi = 0) :
    IsG n es ∧ inB md 2 6 = true ∧ len = es.length ∧ ∀ j, j < len → lo ≤ g j ∧ g j ≤ hi := by
  cases hG : B (IsG n es) with
  | false => simp [liC, hG] at h
  | true =>
    cases hr : (inB md 2 6 && decide (len = es.length) && allB len (fun j => inB (g j) lo hi)) with
    | false => simp only [liC, hG, hr] at h; simp at h
    | true =>
      simp only [Bool.and_eq_true, decide_eq_true_eq] at hr
      exact ⟨B_iff.1 hG, hr.1.1, hr.1.2, fun j hj => inB_iff.1 (allB_iff.1 hr.2 j hj)⟩
theorem ret2b {a a' : Bool} {b b' : Int} (h1 : a = a') (h2 : b = b') : Ending.returned (.tuple #[.bool a, .int .i64 b]) = .returned (.tuple #[.bool a', .int .i64 b']) := by rw [h1, h2]
theorem isFlow1_any (x md : Int) (p : Nat) (w : World) (h : w.cell? ⟨p, 0, none⟩ = some (.int .i64 md)) (h1 : 2 ≤ md) (h2 : md ≤ 6) : Calls Try.prog 102 #[.int .i64 x, .pointer (some ⟨p, 0, none⟩)] w (Is (.bool (x.tmod md == 0)) w) := by
  go_enter Try.func102, Try.ntmps102
  go_wp2_with fail
  go_ret
  exact ⟨rfl, rfl⟩
theorem enF1 : Enters 102 := fun args w => by kernel_rfl
-- left out in this seat
-- left out in this seat
theorem Ints.of_row' {w : World} {b m : Nat} {t : TypeId} {g : Nat → Int} (h : w.rowIs b t m (fun v => .int .i64 (g v))) : Ints w b 0 m g := Ints.of_row h
theorem isFlow_any (N : Nat) (b o m c : Nat) (es : List (Int × Int)) (md : Int) (b2 o2 c2 : Nat) (g : Nat → Int) (w : World) (h : Eds w b o m es) (hm : m ≤ 1048576) (h2 : Ints w b2 o2 m g) (hwf : WfP N es) (hg : ∀ j, j < m → -1000 ≤ g j ∧ g j ≤ 1000) (hd1 : 2 ≤ md) (hd2 : md ≤ 6) :
    Calls Try.prog 63 #[.agg #[.int .i64 N, .slice (some ⟨b, o, none⟩) m c], .int .i64 md, .slice (some ⟨b2, o2, none⟩) m c2] w (Ret (.bool (allB N (flB es g m md))) w) := by
  have hbb := (by go_grown : Below w.heap.size w ((w.alloc (.cells #[.int .i64 N, .slice (some ⟨b, o, none⟩) m c] 31)).alloc (.cells #[.int .i64 md] 2)))
  have hN : N ≤ 20 := by have := hwf.2.1; omega
  have HWF := Lib.hid hwf
  have HG := Lib.hid hg
  clear hwf hg
  go_enter Try.func63, Try.ntmps63
  go_wp2_with fail
  refine (excess_any N _ _ _ _ es _ _ _ g _ ((h.alloc _).alloc _) hm ((h2.alloc _).alloc _) HWF.out HG.out).mono ?_
  rintro e w1 ⟨q, rfl, hq, hrow, hb1⟩
  have hB1 := hbb.thenB (by simp; omega) hb1
  have k1 := (bcell hb1).1 (w.heap.size + 1) 0 (by simp)
  simp [go_sem] at k1
  go_wp2_with fail
  refine (areAllL_any 102 #[.pointer (some ⟨w.heap.size + 1, 0, none⟩)] (flB es g m md) _ 0 N N (fun v => netTo es g m v) w1 (Ints.of_row hrow) (by omega) enF1 (fun j _ w' hw' =>
    Is.ret (isFlow1_any _ _ _ _ ((hw'.cell (p := ⟨w.heap.size + 1, 0, none⟩) (World.block_lt_of_cell? _ _ k1)).trans k1) hd1 hd2))).mono ?_
  rintro e w2 ⟨rfl, hb2⟩
  go_wp2_with fail
  go_ret
  exact ⟨rfl, hB1.andB hb2⟩
/-! ### The three questions -/
noncomputable def flV (n : Int) (es : List (Int × Int)) (md : Int) (len : Nat) (g : Nat → Int) : Bool := decide (liC n es md len g 0 (md - 1) = 0) && allB n.toNat (flB es g len md)
noncomputable def nzV (n : Int) (es : List (Int × Int)) (md : Int) (len : Nat) (g : Nat → Int) : Bool := flV n es md len g && !(cnB len g 0)
noncomputable def whV (n : Int) (es : List (Int × Int)) (k : Int) (len : Nat) (g : Nat → Int) : Bool :=
  decide (liC n es k len g (-1000) 1000 = 0) && (allB n.toNat (fun v => netTo es g len v == 0) && (avB es len g (1 - k) (k - 1) && !(cnB len g 0)))
theorem gpos {n : Int} {es : List (Int × Int)} (h : IsG n es) : ∃ N : Nat, n = N ∧ n.toNat = N ∧ N ≤ 20 := ⟨n.toNat, by have := h.wf.1; omega, rfl, by have := h.wf.2.1; omega⟩
-- left out in this seat
-- left out in this seat
end Go.Proofs.Ytjdhibcijjnopaa
