import Derived.Test.YtccinfmphkihoaaCo
namespace Go.Proofs.Ytccinfmphkihoaa
open Go.RowKit Go.Sort
theorem colP_iff {n : Int} {es : List (Int × Int)} {cs : Nat → Int} (hn : WfP n es) : ColP es cs ↔ ∀ e, e < es.length → (0 ≤ cs e ∧ cs e ≤ 2) ∧ FitP es cs e := by
  constructor
  · rintro ⟨h1, h2⟩ e he
    exact ⟨h1 e he, (fitP_iff hn he).2 ⟨h2 _ (by omega), h2 _ (by omega)⟩⟩
  · intro h
    refine ⟨fun e he => (h e he).1, fun t ht => ?_⟩
    have h1 := (fitP_iff hn (by omega : t / 2 < es.length)).1 (h (t / 2) (by omega)).2
    rcases (show t = 2 * (t / 2) ∨ t = 2 * (t / 2) + 1 by omega) with e | e <;> rw [e]
    · exact h1.1
    · exact h1.2
-- left out in this seat
end Go.Proofs.Ytccinfmphkihoaa
