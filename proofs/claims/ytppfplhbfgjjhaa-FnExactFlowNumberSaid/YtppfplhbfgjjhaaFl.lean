import Derived.Test.YtppfplhbfgjjhaaM3
import Derived.Test.YtppfplhbfgjjhaaM4
import Derived.Test.YtppfplhbfgjjhaaM6
import Derived.StillTailTactics
namespace Go.Proofs.Ytppfplhbfgjjhaa
open Go.RowKit Go.Sort
/-! ### Flows -/
def netTo (es : List (Int × Int)) (g : Nat → Int) : Nat → Int → Int
  | 0, _ => 0
  | k + 1, v => netTo es g k v + (if eb es k = v then g k else 0) - (if ea es k = v then g k else 0)
theorem netTo_bound (es : List (Int × Int)) (g : Nat → Int) (k : Nat) (v : Int) (h : ∀ j, j < k → -1000 ≤ g j ∧ g j ≤ 1000) : -2000 * (k : Int) ≤ netTo es g k v ∧ netTo es g k v ≤ 2000 * k := by
  induction k with
  | zero => simp [netTo]
  | succ k ih =>
    have h1 := ih (fun j hj => h j (by omega))
    have h2 := h k (by omega)
    simp only [netTo]
    split <;> split <;> omega
/-- The code of a list of values. -/
noncomputable def liC (n : Int) (es : List (Int × Int)) (md : Int) (len : Nat) (g : Nat → Int) (lo hi : Int) : Int :=
  if B (IsG n es) then (if inB md 2 6 && decide (len = es.length) && allB len (fun j => inB (g j) lo hi) then 0 else 2) else 1
noncomputable def cdC (n : Int) (es : List (Int × Int)) (md : Int) : Int := if B (IsG n es) then (if inB md 2 6 then 0 else 2) else 1
theorem l05Code_any (n : Int) (b o m c : Nat) (es : List (Int × Int)) (md : Int) (w : World) (h : Eds w b o m es) (hm : m ≤ 1048576) :
    Calls Try.prog 67 #[.agg #[.int .i64 n, .slice (some ⟨b, o, none⟩) m c], .int .i64 md] w (Ret (.int .i64 (cdC n es md)) w) := by
  have hbb := (by go_grown : Below w.heap.size w (w.alloc (.cells #[.int .i64 n, .slice (some ⟨b, o, none⟩) m c] 30)))
  cases hG : B (IsG n es) with
  | false =>
    have HV : Hid (cdC n es md = 1) := by simp [Hid, cdC, hG]
    go_enter Try.func67, Try.ntmps67
    go_wp2_with fail
    refine (l01Is_any _ _ _ _ _ es _ (h.alloc _) hm).mono ?_
    rintro e w1 ⟨rfl, hb1⟩
    go_wp2_with fail
    go_ret
    exact ⟨ret_int HV.out.symm, hbb.thenB (by simp) hb1⟩
  | true =>
    cases hA : inB md 2 6 with
    | false =>
      have HV : Hid (cdC n es md = 2) := by simp [Hid, cdC, hG, hA]
      go_enter Try.func67, Try.ntmps67
      go_wp2_with fail
      refine (l01Is_any _ _ _ _ _ es _ (h.alloc _) hm).mono ?_
      rintro e w1 ⟨rfl, hb1⟩
      go_wp2_with (go_at_call 120; refine (in_any _ _ _ _).mono ?_; rintro e w' ⟨rfl, rfl⟩)
      go_ret
      exact ⟨ret_int HV.out.symm, hbb.thenB (by simp) hb1⟩
    | true =>
      have HV : Hid (cdC n es md = 0) := by simp [Hid, cdC, hG, hA]
      go_enter Try.func67, Try.ntmps67
      go_wp2_with fail
      refine (l01Is_any _ _ _ _ _ es _ (h.alloc _) hm).mono ?_
      rintro e w1 ⟨rfl, hb1⟩
      go_wp2_with (go_at_call 120; refine (in_any _ _ _ _).mono ?_; rintro e w' ⟨rfl, rfl⟩)
      go_ret
      exact ⟨ret_int HV.out.symm, hbb.thenB (by simp) hb1⟩
-- left out in this seat
-- left out in this seat
/-- The test at a vertex. -/
def flB (es : List (Int × Int)) (g : Nat → Int) (m : Nat) (md : Int) (v : Nat) : Bool := (netTo es g m v).tmod md == 0
-- left out in this seat
-- left out in this seat
end Go.Proofs.Ytppfplhbfgjjhaa
