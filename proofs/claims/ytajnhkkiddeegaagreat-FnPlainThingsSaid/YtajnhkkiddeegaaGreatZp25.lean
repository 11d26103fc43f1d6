import Derived.Test.YtajnhkkiddeegaaGreatZp16
import Derived.Test.YtajnhkkiddeegaaGreatZp24
set_option linter.unusedVariables false
set_option linter.unusedSimpArgs false
namespace Go.Proofs.YtajnhkkiddeegaaGreat
open Go.RowKit Go.Sort
structure St1 (be bo go m : Nat) (A : Option Addr) (cA : Nat) (L : List Nat) (s : Nat → Int) (w : World) : Prop where
  ce : w.cell? ⟨be, 0, none⟩ = some (.slice A L.length cA)
  co : w.cell? ⟨bo, 0, none⟩ = some (.slice (some ⟨go, 0, none⟩) m m)
  le : be < w.heap.size
  lo : bo < w.heap.size
  I : SrcI w A L.length (fun j => ((L.getD j 0 : Nat) : Int))
  row : w.rowIs go 2 m (fun d => .int .i64 (s d))
  n1 : be ≠ go
  n2 : bo ≠ go
  n3 : ∀ g, blkOf A = some g → g ≠ go
theorem St1.kept {be bo go m : Nat} {A : Option Addr} {cA : Nat} {L : List Nat} {s : Nat → Int} {w w' : World} {T : Nat → Prop} (h : St1 be bo go m A cA L s w) (k : Kept T w w') (t1 : ¬ T be) (t2 : ¬ T bo) (t3 : ¬ T go) (t4 : ∀ g, blkOf A = some g → ¬ T g) : St1 be bo go m A cA L s w' :=
  ⟨(k.cell h.le t1 0).trans h.ce, (k.cell h.lo t2 0).trans h.co, k.lt h.le, k.lt h.lo, k.srcI h.I t4, k.row h.row t3, h.n1, h.n2, h.n3⟩
end Go.Proofs.YtajnhkkiddeegaaGreat
