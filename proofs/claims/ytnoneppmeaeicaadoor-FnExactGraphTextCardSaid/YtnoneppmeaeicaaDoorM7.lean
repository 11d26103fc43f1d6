import Derived.Test.YtnoneppmeaeicaaDoorM4
import Derived.Test.YtnoneppmeaeicaaDoorM6
namespace Go.Proofs.YtnoneppmeaeicaaDoor
open Go.RowKit Go.Sort
theorem oe_cases (n : Int) (es : List (Int × Int)) (e v : Int) :
    (B (IsG n es) = false ∧ oeC n es e v = 1 ∧ oeV n es e v = 0) ∨
    (B (IsG n es) = true ∧ inB v 0 (n - 1) = false ∧ oeC n es e v = 2 ∧ oeV n es e v = 0) ∨
    (B (IsG n es) = true ∧ inB v 0 (n - 1) = true ∧ inB e 0 (es.length - 1) = false ∧ oeC n es e v = 2 ∧ oeV n es e v = 0) ∨
    (B (IsG n es) = true ∧ inB v 0 (n - 1) = true ∧ inB e 0 (es.length - 1) = true ∧ onB es e.toNat v = false ∧ oeC n es e v = 5 ∧ oeV n es e v = 0) ∨
    (B (IsG n es) = true ∧ inB v 0 (n - 1) = true ∧ inB e 0 (es.length - 1) = true ∧ onB es e.toNat v = true ∧ oeC n es e v = 0 ∧ oeV n es e v = ea es e.toNat + eb es e.toNat - v) := by
  cases h1 : B (IsG n es) <;> cases h2 : inB v 0 (n - 1) <;> cases h3 : inB e 0 (es.length - 1) <;> cases h4 : onB es e.toNat v <;> simp [oeC, oeV, h1, h2, h3, h4]
theorem ret2 {a b a' b' : Int} (h1 : a = a') (h2 : b = b') : Ending.returned (.tuple #[.int .i64 a, .int .i64 b]) = .returned (.tuple #[.int .i64 a', .int .i64 b']) := by rw [h1, h2]
theorem ints1 (w : World) (v : Int) (t : TypeId) : Ints (w.alloc (.cells #[.int .i64 v] t)) w.heap.size 0 1 (fun _ => v) :=
  ⟨by simp, fun j hj => by obtain rfl : j = 0 := by omega
                           simp⟩
-- left out in this seat
-- left out in this seat
end Go.Proofs.YtnoneppmeaeicaaDoor
namespace Go.Proofs.YtnoneppmeaeicaaDoor
open Go.RowKit Go.Sort
noncomputable def eaC (n : Int) (es : List (Int × Int)) (v : Int) : Int := vtxC n es 1 (fun _ => v)
noncomputable def eaL (n : Int) (es : List (Int × Int)) (v : Int) : List Int := if eaC n es v = 0 then atL es v else []
theorem eaL_0 {n : Int} {es : List (Int × Int)} {v : Int} (h : eaC n es v = 0) : eaL n es v = atL es v := by simp [eaL, h]
theorem eaL_n {n : Int} {es : List (Int × Int)} {v : Int} (h : eaC n es v ≠ 0) : eaL n es v = [] := by simp [eaL, h]
theorem eaL_len (n : Int) (es : List (Int × Int)) (v : Int) : (eaL n es v).length ≤ es.length := by
  unfold eaL
  split
  · exact atTo_len _ _ _
  · simp
theorem gcC_v (n : Int) (es : List (Int × Int)) (v : Int) : gcC n es (vxB n v) = eaC n es v := by
  unfold eaC
  cases hG : B (IsG n es) with
  | false => rw [vtxC_1 (B_not.1 hG)]; simp [gcC, hG]
  | true =>
    have hw := (B_iff.1 hG).wf
    cases hV : vxB n v with
    | false =>
      rw [vxB_wf hw.1 hw.2.1] at hV
      rw [vtxC_2 (B_iff.1 hG) (fun x => inB_not.1 hV (x 0 (by omega)))]
      simp [gcC, hG]
    | true =>
      rw [vxB_wf hw.1 hw.2.1] at hV
      rw [vtxC_0 (B_iff.1 hG) (fun _ _ => inB_iff.1 hV)]
      simp [gcC, hG]
theorem retLC_nil {xs : List Int} {k : Int} {w w' : World} (h : xs = []) (hb : Below w.heap.size w w') : RetLC xs k w (.returned (.tuple #[.slice none 0 0, .int .i64 k])) w' := by
  subst h
  exact ⟨none, 0, rfl, OwnL.nil _ _, hb⟩
theorem retLC_of {xs ys : List Int} {k : Int} {w w1 w' : World} {A : Option Addr} {c : Nat} (h : xs = ys) (hb : Below w.heap.size w w1) (ho : OwnL w1.heap.size w' A xs.length c xs) (hk : Below w1.heap.size w1 w') : RetLC ys k w (.returned (.tuple #[.slice A xs.length c, .int .i64 k])) w' := by
  subst h
  exact ⟨A, c, rfl, ho.mono hb.size, hb.andB hk⟩
-- left out in this seat
-- left out in this seat
end Go.Proofs.YtnoneppmeaeicaaDoor
