import Derived.Test.YtccinfmphkihoaaSp2
namespace Go.Proofs.Ytccinfmphkihoaa
open Go.RowKit Go.Sort
theorem oe_cases (n : Int) (es : List (Int × Int)) (e v : Int) :
    (B (IsG n es) = false ∧ oeC n es e v = 1 ∧ oeV n es e v = 0) ∨
    (B (IsG n es) = true ∧ inB v 0 (n - 1) = false ∧ oeC n es e v = 2 ∧ oeV n es e v = 0) ∨
    (B (IsG n es) = true ∧ inB v 0 (n - 1) = true ∧ inB e 0 (es.length - 1) = false ∧ oeC n es e v = 2 ∧ oeV n es e v = 0) ∨
    (B (IsG n es) = true ∧ inB v 0 (n - 1) = true ∧ inB e 0 (es.length - 1) = true ∧ onB es e.toNat v = false ∧ oeC n es e v = 5 ∧ oeV n es e v = 0) ∨
    (B (IsG n es) = true ∧ inB v 0 (n - 1) = true ∧ inB e 0 (es.length - 1) = true ∧ onB es e.toNat v = true ∧ oeC n es e v = 0 ∧ oeV n es e v = ea es e.toNat + eb es e.toNat - v) := by
  cases h1 : B (IsG n es) <;> cases h2 : inB v 0 (n - 1) <;> cases h3 : inB e 0 (es.length - 1) <;> cases h4 : onB es e.toNat v <;> simp [oeC, oeV, h1, h2, h3, h4]
theorem ret2 {a b a' b' : Int} (h1 : a = a') (h2 : b = b') : Ending.returned (.tuple #[.int .i64 a, .int .i64 b]) = .returned (.tuple #[.int .i64 a', .int .i64 b']) := by rw [h1, h2]
theorem ints1 (w : World) (v : Int) (t : TypeId) : Ints (w.alloc (.cells #[.int .i64 v] t)) w.heap.size 0 1 (fun _ => v) :=
  ⟨by simp, fun j hj => by obtain rfl : j = 0 := by omega
                           simp⟩
-- left out in this seat
-- left out in this seat
end Go.Proofs.Ytccinfmphkihoaa
