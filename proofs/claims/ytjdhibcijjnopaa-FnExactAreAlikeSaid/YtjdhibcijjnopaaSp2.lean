import Derived.Test.YtjdhibcijjnopaaIm
import Derived.Test.YtjdhibcijjnopaaGl
import Derived.Test.YtjdhibcijjnopaaFr
namespace Go.Proofs.Ytjdhibcijjnopaa
open Go.RowKit Go.Sort
theorem IsG.wf {n : Int} {es : List (Int × Int)} (h : IsG n es) : WfP n es := h.1
/-! ### Codes -/
noncomputable def vtxC (n : Int) (es : List (Int × Int)) (k : Nat) (g : Nat → Int) : Int := if B (IsG n es) then (if B (∀ j, j < k → 0 ≤ g j ∧ g j ≤ n - 1) then 0 else 2) else 1
theorem vtxC_1 {n : Int} {es : List (Int × Int)} {k : Nat} {g : Nat → Int} (h : ¬ IsG n es) : vtxC n es k g = 1 := by simp [vtxC, B_false h]
theorem vtxC_2 {n : Int} {es : List (Int × Int)} {k : Nat} {g : Nat → Int} (h : IsG n es) (h2 : ¬ ∀ j, j < k → 0 ≤ g j ∧ g j ≤ n - 1) : vtxC n es k g = 2 := by simp only [vtxC, B_true h, B_false h2]; rfl
theorem vtxC_0 {n : Int} {es : List (Int × Int)} {k : Nat} {g : Nat → Int} (h : IsG n es) (h2 : ∀ j, j < k → 0 ≤ g j ∧ g j ≤ n - 1) : vtxC n es k g = 0 := by simp only [vtxC, B_true h, B_true h2]; rfl
theorem vertices_any (n : Int) (b o m c b2 o2 k c2 : Nat) (es : List (Int × Int)) (g : Nat → Int) (w : World) (h : Eds w b o m es) (hm : m ≤ 1048576) (h2 : Ints w b2 o2 k g) (hk : k ≤ 1048576) :
    Calls Try.prog 67 #[.agg #[.int .i64 n, .slice (some ⟨b, o, none⟩) m c], .slice (some ⟨b2, o2, none⟩) k c2] w (Ret (.int .i64 (vtxC n es k g)) w) := by
  have KC := cell_rg
  have hbox := Box2.made w (.int .i64 n) (.slice (some ⟨b, o, none⟩) m c) 31
  have hbb := (by go_grown : Below w.heap.size w (w.alloc (.cells #[.int .i64 n, .slice (some ⟨b, o, none⟩) m c] 31)))
  cases hG : B (IsG n es) with
  | false =>
    have HV := Lib.hid (vtxC_1 (k := k) (g := g) (B_not.1 hG))
    go_enter Try.func67, Try.ntmps67
    go_wp2_with fail
    refine (l01Is_any _ _ _ _ _ es _ (h.alloc _) hm).mono ?_
    rintro e w1 ⟨rfl, hb1⟩
    go_wp2_with fail
    go_ret
    exact ⟨ret_int HV.out.symm, hbb.thenB (by simp) hb1⟩
  | true =>
    have HG := Lib.hid (B_iff.1 hG)
    have hn := HG.out.wf
    have hn1 := hn.1
    have hn2 := hn.2.1
    have hwn : IntKind.i64.wrap (n - 1) = n - 1 := IntWalk.i64_in _ (by omega)
    clear hn
    go_enter Try.func67, Try.ntmps67
    go_wp2_with fail
    refine (l01Is_any _ _ _ _ _ es _ (h.alloc _) hm).mono ?_
    rintro e w1 ⟨rfl, hb1⟩
    obtain ⟨s1, p1, q1⟩ := hbox.below hb1
    have hB1 := hbb.thenB (by simp) hb1
    clear hb1 hbox hbb
    go_wp2_with fail
    go_loopw [5] (fun i wr => ∃ j : Nat, j ≤ k ∧ i = .int .i64 j ∧ Hid (∀ u, u < j → 0 ≤ g u ∧ g u ≤ n - 1) ∧ Below w1.heap.size w1 wr) (fun i _ => k - (intOf i).toNat)
    case atStart => exact ⟨0, Nat.zero_le _, rfl, fun u hu => absurd hu (by omega), Below.refl _ _⟩
    case round =>
      obtain ⟨j, hj, rfl, HP, hbr⟩ := hrel
      by_cases hlt : j < k
      · have I := h2.below (hB1.andB hbr)
        have e1 := I.c j hlt
        have e2 := I.blk
        have y0 := (hbr.cell (p := ⟨w.heap.size, 0, none⟩) s1).trans p1
        have s3 := bsz hbr _ s1
        clear I
        cases hA : inB (g j) 0 (n - 1) with
        | false =>
          have HV := Lib.hid (vtxC_2 (k := k) (g := g) HG.out (fun x => inB_not.1 hA (x j hlt)))
          go_wp2_with fail
          (refine wp_region_quiet_below (by kernel_rfl) (by kernel_rfl) ?_
           repeat (any_goals (go_big_quiet_step (first | (go_at_call 70; exact Is.rg (in_any _ _ _ _)))))
           all_goals (refine wpQuiet_nil ?_; intro wq1 hq1; replace hq1 := below_of_rg hq1))
          go_wp2_with fail
          go_ret
          exact ⟨ret_int HV.out.symm, (hB1.andB hbr).andB hq1⟩
        | true =>
          have HP' : Hid (∀ u, u < j + 1 → 0 ≤ g u ∧ g u ≤ n - 1) := fun u hu => by
            by_cases huj : u < j
            · exact HP.out u huj
            · obtain rfl : u = j := by omega
              exact inB_iff.1 hA
          go_wp2_with fail
          (refine wp_region_quiet_below (by kernel_rfl) (by kernel_rfl) ?_
           repeat (any_goals (go_big_quiet_step (first | (go_at_call 70; exact Is.rg (in_any _ _ _ _)))))
           all_goals (refine wpQuiet_nil ?_; intro wq1 hq1; replace hq1 := below_of_rg hq1))
          go_wp2_with fail
          go_roundw
          case rel => exact ⟨j + 1, by omega, by go_num, HP', hbr.andB hq1⟩
          case measure => simp [intOf]; omega
      · have HV := Lib.hid (vtxC_0 (k := k) (g := g) HG.out (fun u hu => HP.out u (by omega)))
        go_wp2_with fail
        go_ret
        exact ⟨ret_int HV.out.symm, hB1.andB hbr⟩
/-- The other end, and whether a vertex is on an edge. -/
def onB (es : List (Int × Int)) (j : Nat) (v : Int) : Bool := decide (ea es j = v ∨ eb es j = v)
theorem spOther_any (n : Int) (b o m c : Nat) (es : List (Int × Int)) (j : Nat) (v : Int) (w : World) (h : Eds w b o m es) (hj : j < m) (_hm : m ≤ 1048576) (hn : WfP n es) (hv : 0 ≤ v) (hv2 : v ≤ 100) :
    Calls Try.prog 103 #[.agg #[.int .i64 n, .slice (some ⟨b, o, none⟩) m c], .int .i64 j, .int .i64 v] w (Ret (.int .i64 (ea es j + eb es j - v)) w) := by
  have KC := cell_rg
  have hx := hn.2.2.2.2 j (by rw [h.len]; exact hj)
  have hn2 := hn.2.1
  have e1 := h.ca j hj
  have e2 := h.cb j hj
  have e3 := h.blk
  have e4 : b < w.heap.size + 1 := by omega
  have x1 : IntKind.i64.wrap (ea es j + eb es j) = ea es j + eb es j := IntWalk.i64_in _ (by omega)
  have x2 : IntKind.i64.wrap (ea es j + eb es j - v) = ea es j + eb es j - v := IntWalk.i64_in _ (by omega)
  clear hx hn
  go_enter Try.func103, Try.ntmps103
  go_wp2_with fail
  (refine wp_region_quiet_below (by kernel_rfl) (by kernel_rfl) ?_
   repeat (any_goals (go_big_quiet_step (first | fail)))
   all_goals (refine wpQuiet_nil ?_; intro wq1 hq1; replace hq1 := below_of_rg hq1))
  go_wp2_with fail
  go_ret
  exact ⟨rfl, (by go_grown : Below _ _ (w.alloc _)).thenB (by simp) hq1⟩
theorem isOn_any (a b v : Int) (w : World) : Calls Try.prog 115 #[.agg #[.int .i64 a, .int .i64 b], .int .i64 v] w (Ret (.bool (decide (a = v ∨ b = v))) w) := by
  go_enter Try.func115, Try.ntmps115
  go_wp2
  all_goals (go_ret; exact ⟨ret_bool (by rw [Bool.eq_iff_iff]; simp [*]), by go_grown⟩)
theorem other_any (a b v : Int) (w : World) (h1 : 0 ≤ a) (h2 : a ≤ 100) (h3 : 0 ≤ b) (h4 : b ≤ 100) (h5 : 0 ≤ v) (h6 : v ≤ 100) : Calls Try.prog 96 #[.agg #[.int .i64 a, .int .i64 b], .int .i64 v] w (Ret (.int .i64 (a + b - v)) w) := by
  go_enter Try.func96, Try.ntmps96
  go_wp2
  all_goals (go_ret; exact ⟨ret_int (by omega), by go_grown⟩)
def vxB (n v : Int) : Bool := inB v 0 (wrap64 (n - 1))
theorem vxB_wf {n v : Int} (h1 : 2 ≤ n) (h2 : n ≤ 20) : vxB n v = inB v 0 (n - 1) := by
  unfold vxB
  rw [IntWalk.wrap64_in (n - 1) (by omega)]
theorem isVertex_any (n : Int) (A : Option Addr) (m c : Nat) (v : Int) (w : World) : Calls Try.prog 69 #[.agg #[.int .i64 n, .slice A m c], .int .i64 v] w (Ret (.bool (vxB n v)) w) := by
  go_enter Try.func69, Try.ntmps69
  go_wp2_with (go_at_call 99; refine (within_any _ _ _ _).mono ?_; rintro e w' ⟨rfl, rfl⟩)
  go_ret
  exact ⟨rfl, by go_grown⟩
-- left out in this seat
noncomputable def gcC (n : Int) (es : List (Int × Int)) (r : Bool) : Int := if B (IsG n es) then (if r then 0 else 2) else 1
theorem graphCode_any (n : Int) (b o m c : Nat) (es : List (Int × Int)) (r : Bool) (w : World) (h : Eds w b o m es) (hm : m ≤ 1048576) :
    Calls Try.prog 49 #[.agg #[.int .i64 n, .slice (some ⟨b, o, none⟩) m c], .bool r] w (Ret (.int .i64 (gcC n es r)) w) := by
  have hbb := (by go_grown : Below w.heap.size w (w.alloc (.cells #[.int .i64 n, .slice (some ⟨b, o, none⟩) m c] 31)))
  cases hG : B (IsG n es) with
  | false =>
    have HV : Hid (gcC n es r = 1) := by simp [Hid, gcC, hG]
    go_enter Try.func49, Try.ntmps49
    go_wp2_with fail
    refine (implIs_any _ _ _ _ _ es _ (h.alloc _) hm).mono ?_
    rintro e w1 ⟨rfl, hb1⟩
    go_wp2_with fail
    go_ret
    exact ⟨ret_int HV.out.symm, hbb.thenB (by simp) hb1⟩
  | true =>
    cases r with
    | false =>
      have HV : Hid (gcC n es false = 2) := by simp [Hid, gcC, hG]
      go_enter Try.func49, Try.ntmps49
      go_wp2_with fail
      refine (implIs_any _ _ _ _ _ es _ (h.alloc _) hm).mono ?_
      rintro e w1 ⟨rfl, hb1⟩
      go_wp2_with fail
      go_ret
      exact ⟨ret_int HV.out.symm, hbb.thenB (by simp) hb1⟩
    | true =>
      have HV : Hid (gcC n es true = 0) := by simp [Hid, gcC, hG]
      go_enter Try.func49, Try.ntmps49
      go_wp2_with fail
      refine (implIs_any _ _ _ _ _ es _ (h.alloc _) hm).mono ?_
      rintro e w1 ⟨rfl, hb1⟩
      go_wp2_with fail
      go_ret
      exact ⟨ret_int HV.out.symm, hbb.thenB (by simp) hb1⟩
/-! ### OtherEnd -/
noncomputable def oeC (n : Int) (es : List (Int × Int)) (e v : Int) : Int :=
  if B (IsG n es) then (if inB v 0 (n - 1) && inB e 0 (es.length - 1) then (if onB es e.toNat v then 0 else 5) else 2) else 1
noncomputable def oeV (n : Int) (es : List (Int × Int)) (e v : Int) : Int := if oeC n es e v = 0 then ea es e.toNat + eb es e.toNat - v else 0
end Go.Proofs.Ytjdhibcijjnopaa
