import Derived.Test.YtnoneppmeaeicaaDoorM21
import Derived.StillTailTactics
import Derived.Test.YtnoneppmeaeicaaDoorM11
import Derived.Test.YtnoneppmeaeicaaDoorM13
namespace Go.Proofs.YtnoneppmeaeicaaDoor
open Go.RowKit Go.Sort
-- left out in this seat
-- left out in this seat
-- left out in this seat
theorem seenS_succ (es : List (Int × Int)) (cs : Nat → Int) (i k : Nat) (hk : k < 2) (v : Int) : seenS es cs (2 * i + k + 1) v = if vE es (2 * i + k) = v then seenS es cs (2 * i + k) v ||| 2 ^ (cs i).toNat else seenS es cs (2 * i + k) v := by
  simp only [seenS, show (2 * i + k) / 2 = i by omega]
-- left out in this seat
end Go.Proofs.YtnoneppmeaeicaaDoor
namespace Go.Proofs.YtnoneppmeaeicaaDoor
open Go.RowKit Go.Sort
-- left out in this seat
-- left out in this seat
-- left out in this seat
-- left out in this seat
-- left out in this seat
-- left out in this seat
theorem row_ne {w : World} {b b' : Nat} {x : Array Value} {t t' : TypeId} {fr : Nat × Nat} {n : Nat} {f : Nat → Value} (h : w.heap[b]? = some (.cells x t fr)) (R : w.rowIs b' t' n f) (ht : t ≠ t') : b ≠ b' := by
  rintro rfl
  obtain ⟨c, hc, _, _⟩ := R
  rw [h] at hc
  injection hc with hc
  injection hc with _ h2 _
  exact ht h2
/-- The colours given at first. -/
def nF (L : List Int) : Nat → Nat → Int
  | 0 => fun _ => -1
  | k + 1 => upF (nF L k) (ia L k).toNat k
def nU (es : List (Int × Int)) (L : List Int) : Nat → Nat → Nat
  | 0 => fun _ => 0
  | k + 1 => givU es (nU es L k) (ia L k).toNat k
theorem nU8 (es : List (Int × Int)) (L : List Int) : ∀ k, k ≤ 3 → ∀ v, nU es L k v < 8 := by
  intro k
  induction k with
  | zero => intro _ v; simp [nU]
  | succ k ih =>
    intro hk v
    simp only [nU, givU]
    split
    · exact or8 (ih (by omega) v) (by omega)
    · exact ih (by omega) v
def pF (r : Bool) (L : List Int) : Nat → Int := if r then nF L 3 else fun _ => -1
def pU (r : Bool) (es : List (Int × Int)) (L : List Int) : Nat → Nat := if r then nU es L 3 else fun _ => 0
-- left out in this seat
-- left out in this seat
-- left out in this seat
-- left out in this seat
-- left out in this seat
-- left out in this seat
theorem Kept.ownL {S : Nat → Prop} {w w' : World} (h : Kept S w w') {base : Nat} {A : Option Addr} {m c : Nat} {xs : List Int} (O : OwnL base w A m c xs) (hs : ∀ g, blkOf A = some g → ¬ S g) : OwnL base w' A m c xs := by
  refine ⟨O.1, O.2.1, ?_⟩
  rcases O.2.2 with hn | ⟨g, cap, cur, e, hb, hh, r⟩
  · exact .inl hn
  · refine .inr ⟨g, cap, cur, e, hb, (h.block g (Array.getElem?_eq_some_iff.1 hh).1 (hs g ?_)).trans hh, r⟩
    injection e with e1 _ _
    rw [e1]; rfl
-- left out in this seat
end Go.Proofs.YtnoneppmeaeicaaDoor
