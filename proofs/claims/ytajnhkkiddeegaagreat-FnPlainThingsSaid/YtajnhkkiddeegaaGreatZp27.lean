import Derived.Deep.RegionWith
import Derived.Test.YtajnhkkiddeegaaGreatZp26
set_option linter.unusedVariables false
set_option linter.unusedSimpArgs false
namespace Go.Proofs.YtajnhkkiddeegaaGreat
open Go.RowKit Go.Sort
theorem l01From_p (A : Option Addr) (l c : Nat) (w : World) (h : Bys0 w A l) (hl : l ≤ 4096) :
    Calls Tryz.prog 51 #[.slice A l c] w (fun e w' => ∃ p : Nat, e = .returned (.pointer (some ⟨p, 0, none⟩)) ∧ w.heap.size ≤ p ∧ Below w.heap.size w w' ∧ SR A l c p w') :=
  (l01From_any A l c w h hl).mono fun _ _ ⟨h1, h2, h3⟩ => ⟨_, h1, Nat.le_refl _, h2, h3⟩
def VecV (p B : Nat) (v : Value) (W : World) : Prop := ∃ (g o m c : Nat) (xs : List Int), v = .slice (some ⟨g, o, none⟩) m c ∧ xs.length = m ∧ B ≤ g ∧ g ≠ p ∧ Ints W g o m (ia xs) ∧ m ≤ 60
theorem VecV.dr {A : Option Addr} {l c p B : Nat} {v : Value} {W W' : World} (h : VecV p B v W) (hb : DR A l c p W W') : VecV p B v W' := by
  obtain ⟨g, o, m, c3, xs, e, hl, hB, hp, I, hm⟩ := h
  exact ⟨g, o, m, c3, xs, e, hl, hB, hp, hb.1.ints I (show ¬ g = p from hp), hm⟩
theorem OwnL.ints {base : Nat} {w : World} {g m c : Nat} {xs : List Int} (h : OwnL base w (some ⟨g, 0, none⟩) m c xs) : Ints w g 0 m (ia xs) := by
  have := Ints.drop h (Nat.zero_le _)
  rwa [Nat.sub_zero, List.drop_zero] at this
/-- The call returns a graph and a list, whatever they are. -/
def RetDV (w : World) (e : Ending) (w' : World) : Prop := ∃ (n : Int) (g o c' : Nat) (es : List (Int × Int)) (g2 o2 m2 c2 : Nat) (xs : List Int), e = .returned (.tuple #[.agg #[.int .i64 n, .slice (some ⟨g, o, none⟩) es.length c'], .slice (some ⟨g2, o2, none⟩) m2 c2]) ∧ Eds w' g o es.length es ∧ w.heap.size ≤ g ∧ es.length ≤ 60 ∧ xs.length = m2 ∧ w.heap.size ≤ g2 ∧ Ints w' g2 o2 m2 (ia xs) ∧ m2 ≤ 60 ∧ Below w.heap.size w w'
end Go.Proofs.YtajnhkkiddeegaaGreat
