import Derived.Deep.CutBlock
import Derived.Test.YtajnhkkiddeegaaGreatZc29
set_option linter.unusedVariables false
set_option linter.unusedSimpArgs false
namespace Go.Proofs.YtajnhkkiddeegaaGreat
open Go.RowKit Go.Sort
def GrV (p B : Nat) (v : Value) (W : World) : Prop := ∃ (n : Int) (g o c : Nat) (es : List (Int × Int)), v = .agg #[.int .i64 n, .slice (some ⟨g, o, none⟩) es.length c] ∧ Eds W g o es.length es ∧ B ≤ g ∧ g ≠ p ∧ es.length ≤ 60
theorem GrV.dr {A : Option Addr} {l c p B : Nat} {v : Value} {W W' : World} (h : GrV p B v W) (hb : DR A l c p W W') : GrV p B v W' := by
  obtain ⟨n, g, o, c3, es, e, E, hB, hp, hl⟩ := h
  exact ⟨n, g, o, c3, es, e, hb.1.eds E (show ¬ g = p from hp), hB, hp, hl⟩
def WfV (p M : Nat) (v : Value) (W : World) : Prop := ∃ (g c : Nat) (es : List (Int × Int)), v = .agg #[.int .i64 (M : Int), .slice (some ⟨g, 0, none⟩) es.length c] ∧ Eds W g 0 es.length es ∧ p < g ∧ WfP M es
theorem WfV.dr {A : Option Addr} {l c p M : Nat} {v : Value} {W W' : World} (h : WfV p M v W) (hb : DR A l c p W W') : WfV p M v W' := by
  obtain ⟨g, c3, es, e, E, hp, hw⟩ := h
  exact ⟨g, c3, es, e, hb.1.eds E (show ¬ g = p by omega), hp, hw⟩
end Go.Proofs.YtajnhkkiddeegaaGreat
