import Derived.Test.YtccinfmphkihoaaIm
import Derived.Test.YtccinfmphkihoaaGl
import Derived.Test.YtccinfmphkihoaaFr
namespace Go.Proofs.Ytccinfmphkihoaa
open Go.RowKit Go.Sort
theorem IsG.wf {n : Int} {es : List (Int × Int)} (h : IsG n es) : WfP n es := h.1
/-! ### Codes -/
noncomputable def vtxC (n : Int) (es : List (Int × Int)) (k : Nat) (g : Nat → Int) : Int := if B (IsG n es) then (if B (∀ j, j < k → 0 ≤ g j ∧ g j ≤ n - 1) then 0 else 2) else 1
theorem vtxC_1 {n : Int} {es : List (Int × Int)} {k : Nat} {g : Nat → Int} (h : ¬ IsG n es) : vtxC n es k g = 1 := by simp [vtxC, B_false h]
theorem vtxC_2 {n : Int} {es : List (Int × Int)} {k : Nat} {g : Nat → Int} (h : IsG n es) (h2 : ¬ ∀ j, j < k → 0 ≤ g j ∧ g j ≤ n - 1) : vtxC n es k g = 2 := by simp only [vtxC, B_true h, B_false h2]; rfl
theorem vtxC_0 {n : Int} {es : List (Int × Int)} {k : Nat} {g : Nat → Int} (h : IsG n es) (h2 : ∀ j, j < k → 0 ≤ g j ∧ g j ≤ n - 1) : vtxC n es k g = 0 := by simp only [vtxC, B_true h, B_true h2]; rfl
-- left out in this seat
/-- The other end, and whether a vertex is on an edge. -/
def onB (es : List (Int × Int)) (j : Nat) (v : Int) : Bool := decide (ea es j = v ∨ eb es j = v)
-- left out in this seat
theorem isOn_any (a b v : Int) (w : World) : Calls Try.prog 139 #[.agg #[.int .i64 a, .int .i64 b], .int .i64 v] w (Ret (.bool (decide (a = v ∨ b = v))) w) := by
  go_enter Try.func139, Try.ntmps139
  go_wp2
  all_goals (go_ret; exact ⟨ret_bool (by rw [Bool.eq_iff_iff]; simp [*]), by go_grown⟩)
theorem other_any (a b v : Int) (w : World) (h1 : 0 ≤ a) (h2 : a ≤ 100) (h3 : 0 ≤ b) (h4 : b ≤ 100) (h5 : 0 ≤ v) (h6 : v ≤ 100) : Calls Try.prog 126 #[.agg #[.int .i64 a, .int .i64 b], .int .i64 v] w (Ret (.int .i64 (a + b - v)) w) := by
  go_enter Try.func126, Try.ntmps126
  go_wp2
  all_goals (go_ret; exact ⟨ret_int (by omega), by go_grown⟩)
def vxB (n v : Int) : Bool := inB v 0 (wrap64 (n - 1))
theorem vxB_wf {n v : Int} (h1 : 2 ≤ n) (h2 : n ≤ 20) : vxB n v = inB v 0 (n - 1) := by
  unfold vxB
  rw [IntWalk.wrap64_in (n - 1) (by omega)]
-- left out in this seat
-- left out in this seat
noncomputable def gcC (n : Int) (es : List (Int × Int)) (r : Bool) : Int := if B (IsG n es) then (if r then 0 else 2) else 1
theorem graphCode_any (n : Int) (b o m c : Nat) (es : List (Int × Int)) (r : Bool) (w : World) (h : Eds w b o m es) (hm : m ≤ 1048576) :
    Calls Try.prog 63 #[.agg #[.int .i64 n, .slice (some ⟨b, o, none⟩) m c], .bool r] w (Ret (.int .i64 (gcC n es r)) w) := by
  have hbb := (by go_grown : Below w.heap.size w (w.alloc (.cells #[.int .i64 n, .slice (some ⟨b, o, none⟩) m c] 30)))
  cases hG : B (IsG n es) with
  | false =>
    have HV : Hid (gcC n es r = 1) := by simp [Hid, gcC, hG]
    go_enter Try.func63, Try.ntmps63
    go_wp2_with fail
    refine (implIs_any _ _ _ _ _ es _ (h.alloc _) hm).mono ?_
    rintro e w1 ⟨rfl, hb1⟩
    go_wp2_with fail
    go_ret
    exact ⟨ret_int HV.out.symm, hbb.thenB (by simp) hb1⟩
  | true =>
    cases r with
    | false =>
      have HV : Hid (gcC n es false = 2) := by simp [Hid, gcC, hG]
      go_enter Try.func63, Try.ntmps63
      go_wp2_with fail
      refine (implIs_any _ _ _ _ _ es _ (h.alloc _) hm).mono ?_
      rintro e w1 ⟨rfl, hb1⟩
      go_wp2_with fail
      go_ret
      exact ⟨ret_int HV.out.symm, hbb.thenB (by simp) hb1⟩
    | true =>
      have HV : Hid (gcC n es true = 0) := by simp [Hid, gcC, hG]
      go_enter Try.func63, Try.ntmps63
      go_wp2_with fail
      refine (implIs_any _ _ _ _ _ es _ (h.alloc _) hm).mono ?_
      rintro e w1 ⟨rfl, hb1⟩
      go_wp2_with fail
      go_ret
      exact ⟨ret_int HV.out.symm, hbb.thenB (by simp) hb1⟩
/-! ### OtherEnd -/
noncomputable def oeC (n : Int) (es : List (Int × Int)) (e v : Int) : Int :=
  if B (IsG n es) then (if inB v 0 (n - 1) && inB e 0 (es.length - 1) then (if onB es e.toNat v then 0 else 5) else 2) else 1
noncomputable def oeV (n : Int) (es : List (Int × Int)) (e v : Int) : Int := if oeC n es e v = 0 then ea es e.toNat + eb es e.toNat - v else 0
end Go.Proofs.Ytccinfmphkihoaa
