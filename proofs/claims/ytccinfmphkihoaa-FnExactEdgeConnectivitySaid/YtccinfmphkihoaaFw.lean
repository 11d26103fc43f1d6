import Derived.Test.YtccinfmphkihoaaFr
import Derived.Test.YtccinfmphkihoaaLl
import Derived.Test.YtccinfmphkihoaaEdgesLeaving
namespace Go.Proofs.Ytccinfmphkihoaa
open Go.RowKit Go.Sort
/-! ### Facts of operations that make lists -/
def NewI (base N : Nat) (f : Nat → Int) (v : Value) (W : World) : Prop := ∃ g, v = .slice (some ⟨g, 0, none⟩) N N ∧ base ≤ g ∧ W.rowIs g 2 N (fun j => .int .i64 (f j))
theorem NewI.below {base N : Nat} {f : Nat → Int} {v : Value} {W W' : World} (h : NewI base N f v W) (hb : Below W.heap.size W W') : NewI base N f v W' := let ⟨g, e, hg, R⟩ := h; ⟨g, e, hg, R.of_block (hb.block _ R.lt)⟩
def NewLL (base : Nat) (rows : List (List Int)) (v : Value) (W : World) : Prop := ∃ A c, v = .slice A rows.length c ∧ ∃ top, OwnLL base top W A rows.length c rows
theorem NewLL.below {base : Nat} {rows : List (List Int)} {v : Value} {W W' : World} (h : NewLL base rows v W) (hb : Below W.heap.size W W') : NewLL base rows v W' := let ⟨A, c, e, t, ho⟩ := h; ⟨A, c, e, t, ho.below hb⟩
def PtrV (x : Value) (v : Value) (W : World) : Prop := ∃ p : Addr, p.block < W.heap.size ∧ v = .pointer (some p) ∧ W.cell? p = some x
theorem PtrV.below {x v : Value} {W W' : World} (h : PtrV x v W) (hb : Below W.heap.size W W') : PtrV x v W' := let ⟨p, hp, e, hc⟩ := h; ⟨p, Nat.lt_of_lt_of_le hp hb.size, e, (hb.cell (p := p) hp).trans hc⟩
def NewE (base : Nat) (es : List (Int × Int)) (v : Value) (W : World) : Prop := ∃ g c, v = .slice (some ⟨g, 0, none⟩) es.length c ∧ OwnE base W g es.length c es
theorem NewE.below {base : Nat} {es : List (Int × Int)} {v : Value} {W W' : World} (h : NewE base es v W) (hb : Below W.heap.size W W') : NewE base es v W' := let ⟨g, c, e, ho⟩ := h; ⟨g, c, e, ho.below hb⟩
def NewS (x : Int) (v : Value) (W : World) : Prop := ∃ g, v = .slice (some ⟨g, 0, none⟩) 1 1 ∧ Ints W g 0 1 (fun _ => x)
theorem NewS.below {x : Int} {v : Value} {W W' : World} (h : NewS x v W) (hb : Below W.heap.size W W') : NewS x v W' := let ⟨g, e, I⟩ := h; ⟨g, e, I.below hb⟩
end Go.Proofs.Ytccinfmphkihoaa
