import Derived.Test.YtccinfmphkihoaaGi
namespace Go.Proofs.Ytccinfmphkihoaa
open Go.RowKit Go.Sort
-- left out in this seat
-- left out in this seat
-- left out in this seat
-- left out in this seat
noncomputable def cnB (m : Nat) (g : Nat → Int) (x : Int) : Bool := B (∃ j, j < m ∧ g j = x)
theorem cnB_iff {m : Nat} {g : Nat → Int} {x : Int} : cnB m g x = true ↔ ∃ j, j < m ∧ g j = x := B_iff
theorem cnB_not {m : Nat} {g : Nat → Int} {x : Int} : cnB m g x = false ↔ ∀ j, j < m → g j ≠ x := by
  rw [cnB, B_not]; exact ⟨fun h j hj hx => h ⟨j, hj, hx⟩, fun h ⟨j, hj, hx⟩ => h j hj hx⟩
-- left out in this seat
-- left out in this seat
theorem isModulus_any (md : Int) (w : World) : Calls Try.prog 80 #[.int .i64 md] w (Is (.bool (inB md 2 6)) w) := by
  go_enter Try.func80, Try.ntmps80
  go_wp2_with (go_at_call 111; refine (within_any _ _ _ _).mono ?_; rintro e w' ⟨rfl, rfl⟩)
  go_ret
  exact ⟨rfl, rfl⟩
noncomputable def avB (es : List (Int × Int)) (len : Nat) (g : Nat → Int) (lo hi : Int) : Bool := decide (len = es.length) && allB len (fun j => inB (g j) lo hi)
-- left out in this seat
-- left out in this seat
-- left out in this seat
end Go.Proofs.Ytccinfmphkihoaa
