import Derived.Test.YtppfplhbfgjjhaaDoorM21
import Derived.StillTailTactics
import Derived.Test.YtppfplhbfgjjhaaDoorM11
import Derived.Test.YtppfplhbfgjjhaaDoorM13
namespace Go.Proofs.YtppfplhbfgjjhaaDoor
open Go.RowKit Go.Sort
-- left out in this seat
theorem infS : (Tryd.prog.info? 47).map (fun i => (i.zero, i.size, i.bytes)) = some (some (.int .u64 0), 1, 8) := by kernel_rfl
-- left out in this seat
theorem seenS_succ (es : List (Int × Int)) (cs : Nat → Int) (i k : Nat) (hk : k < 2) (v : Int) : seenS es cs (2 * i + k + 1) v = if vE es (2 * i + k) = v then seenS es cs (2 * i + k) v ||| 2 ^ (cs i).toNat else seenS es cs (2 * i + k) v := by
  simp only [seenS, show (2 * i + k) / 2 = i by omega]
-- left out in this seat
end Go.Proofs.YtppfplhbfgjjhaaDoor
namespace Go.Proofs.YtppfplhbfgjjhaaDoor
open Go.RowKit Go.Sort
/-! ### A new painter -/
def NewU (base N : Nat) (v : Value) (W : World) : Prop := ∃ g, v = .slice (some ⟨g, 0, none⟩) N N ∧ base ≤ g ∧ W.rowIs g 47 N (fun _ => .int .u64 0)
theorem NewU.below {base N : Nat} {v : Value} {W W' : World} (h : NewU base N v W) (hb : Below W.heap.size W W') : NewU base N v W' := let ⟨g, e, hg, R⟩ := h; ⟨g, e, hg, R.of_block (hb.block _ R.lt)⟩
def PaintV (base N m : Nat) (E L fv v : Value) (W : World) : Prop := ∃ gc gu, v = .agg #[.int .i64 N, E, L, .slice (some ⟨gc, 0, none⟩) m m, .slice (some ⟨gu, 0, none⟩) N N, fv] ∧ base ≤ gc ∧ base ≤ gu ∧ W.rowIs gc 2 m (fun _ => .int .i64 (-1)) ∧ W.rowIs gu 47 N (fun _ => .int .u64 0)
theorem PaintV.below {base N m : Nat} {E L fv v : Value} {W W' : World} (h : PaintV base N m E L fv v W) (hb : Below W.heap.size W W') : PaintV base N m E L fv v W' := let ⟨gc, gu, e, h1, h2, R1, R2⟩ := h; ⟨gc, gu, e, h1, h2, R1.of_block (hb.block _ R1.lt), R2.of_block (hb.block _ R2.lt)⟩
-- left out in this seat
-- left out in this seat
theorem row_ne {w : World} {b b' : Nat} {x : Array Value} {t t' : TypeId} {fr : Nat × Nat} {n : Nat} {f : Nat → Value} (h : w.heap[b]? = some (.cells x t fr)) (R : w.rowIs b' t' n f) (ht : t ≠ t') : b ≠ b' := by
  rintro rfl
  obtain ⟨c, hc, _, _⟩ := R
  rw [h] at hc
  injection hc with hc
  injection hc with _ h2 _
  exact ht h2
/-- The colours given at first. -/
def nF (L : List Int) : Nat → Nat → Int
  | 0 => fun _ => -1
  | k + 1 => upF (nF L k) (ia L k).toNat k
def nU (es : List (Int × Int)) (L : List Int) : Nat → Nat → Nat
  | 0 => fun _ => 0
  | k + 1 => givU es (nU es L k) (ia L k).toNat k
theorem nU8 (es : List (Int × Int)) (L : List Int) : ∀ k, k ≤ 3 → ∀ v, nU es L k v < 8 := by
  intro k
  induction k with
  | zero => intro _ v; simp [nU]
  | succ k ih =>
    intro hk v
    simp only [nU, givU]
    split
    · exact or8 (ih (by omega) v) (by omega)
    · exact ih (by omega) v
def pF (r : Bool) (L : List Int) : Nat → Int := if r then nF L 3 else fun _ => -1
def pU (r : Bool) (es : List (Int × Int)) (L : List Int) : Nat → Nat := if r then nU es L 3 else fun _ => 0
/-- A painter that lies in memory. -/
structure PO (w w' : World) (bp bc bu N m : Nat) (E L fv : Value) (f : Nat → Int) (U : Nat → Nat) : Prop where
  p0 : w'.cell? ⟨bp, 0, none⟩ = some (.int .i64 N)
  p1 : w'.cell? ⟨bp, 1, none⟩ = some E
  p2 : w'.cell? ⟨bp, 2, none⟩ = some L
  p3 : w'.cell? ⟨bp, 3, none⟩ = some (.slice (some ⟨bc, 0, none⟩) m m)
  p4 : w'.cell? ⟨bp, 4, none⟩ = some (.slice (some ⟨bu, 0, none⟩) N N)
  p5 : w'.cell? ⟨bp, 5, none⟩ = some fv
  pl : bp < w'.heap.size
  hp : w.heap.size ≤ bp
  hc : w.heap.size ≤ bc
  hu : w.heap.size ≤ bu
  n1 : bp ≠ bc
  n2 : bp ≠ bu
  n3 : bc ≠ bu
  rc : w'.rowIs bc 2 m (fun j => .int .i64 (f j))
  ru : w'.rowIs bu 47 N (fun j => .int .u64 (U j))
  bel : Below w.heap.size w w'
theorem PO.ps {w w' : World} {bp bc bu N m : Nat} {A : Option Addr} {cA : Nat} {L : List Nat} {b o c : Nat} {es : List (Int × Int)} {fv : Value} {f : Nat → Int} {U : Nat → Nat} {S : Nat → Prop}
    (h : PO w w' bp bc bu N m (.slice (some ⟨b, o, none⟩) m c) (.slice A L.length cA) fv f U) (E : Eds w b o m es) (I : SrcI w A L.length (fun j => ((L.getD j 0 : Nat) : Int))) (hA : ∀ g, blkOf A = some g → g < w.heap.size) (hL : ∀ d, d ∈ L → d < m)
    (hS : ∀ k, S k → k < w.heap.size) (hSb : ¬ S b) (hSA : ∀ g, blkOf A = some g → ¬ S g) : PS w' S bp bc bu N m A cA L b o c m N es fv where
  p0 := h.p0
  p1 := h.p1
  p2 := h.p2
  p3 := h.p3
  p4 := h.p4
  p5 := h.p5
  pl := h.pl
  E := E.below h.bel
  I := SrcI.below I h.bel
  hL := hL
  np := by
    rintro (e | e | e)
    · exact h.n1 e
    · exact h.n2 e
    · have := hS _ e; have := h.hp; omega
  nb := by
    rintro (e | e | e)
    · have := E.blk; have := h.hc; omega
    · have := E.blk; have := h.hu; omega
    · exact hSb e
  nA := fun g hg => by
    rintro (e | e | e)
    · have := hA g hg; have := h.hc; omega
    · have := hA g hg; have := h.hu; omega
    · exact hSA g hg e
  ne := h.n3
theorem PO.pw {w w' : World} {bp bc bu N m : Nat} {E L fv : Value} {f : Nat → Int} {U : Nat → Nat} {S : Nat → Prop} (h : PO w w' bp bc bu N m E L fv f U) : PW w' S bc bu N m f U w' := ⟨Kept.refl _ _, h.rc, h.ru⟩
/-- After a colour is given. -/
theorem PO.next {w w1 w2 : World} {bp bc bu N m : Nat} {E L fv : Value} {f f' : Nat → Int} {U U' : Nat → Nat} (h : PO w w1 bp bc bu N m E L fv f U) (P : PW w1 (fun _ => False) bc bu N m f' U' w2) : PO w w2 bp bc bu N m E L fv f' U' :=
  have hn : ¬ Mut (fun _ => False) bc bu bp := by
    rintro (e | e | e)
    · exact h.n1 e
    · exact h.n2 e
    · exact e
  ⟨(P.k.cell h.pl hn 0).trans h.p0, (P.k.cell h.pl hn 1).trans h.p1, (P.k.cell h.pl hn 2).trans h.p2, (P.k.cell h.pl hn 3).trans h.p3, (P.k.cell h.pl hn 4).trans h.p4, (P.k.cell h.pl hn 5).trans h.p5, P.k.lt h.pl, h.hp, h.hc, h.hu, h.n1, h.n2, h.n3, P.rc, P.ru,
    h.bel.trans (P.k.below h.bel.size (fun k hk => by
      rcases hk with e | e | e
      · have := h.hc; omega
      · have := h.hu; omega
      · exact absurd e id))⟩
theorem PO.below {w w1 w2 : World} {bp bc bu N m : Nat} {E L fv : Value} {f : Nat → Int} {U : Nat → Nat} (h : PO w w1 bp bc bu N m E L fv f U) (hb : Below w1.heap.size w1 w2) : PO w w2 bp bc bu N m E L fv f U :=
  h.next ⟨Kept.of hb, h.rc.of_block (hb.block _ h.rc.lt), h.ru.of_block (hb.block _ h.ru.lt)⟩
theorem PO.old {w0 w w1 : World} {bp bc bu N m : Nat} {E L fv : Value} {f : Nat → Int} {U : Nat → Nat} (h : PO w w1 bp bc bu N m E L fv f U) (hb : Below w0.heap.size w0 w) : PO w0 w1 bp bc bu N m E L fv f U :=
  have hs := hb.size
  ⟨h.p0, h.p1, h.p2, h.p3, h.p4, h.p5, h.pl, Nat.le_trans hs h.hp, Nat.le_trans hs h.hc, Nat.le_trans hs h.hu, h.n1, h.n2, h.n3, h.rc, h.ru, hb.andB h.bel⟩
theorem Kept.ownL {S : Nat → Prop} {w w' : World} (h : Kept S w w') {base : Nat} {A : Option Addr} {m c : Nat} {xs : List Int} (O : OwnL base w A m c xs) (hs : ∀ g, blkOf A = some g → ¬ S g) : OwnL base w' A m c xs := by
  refine ⟨O.1, O.2.1, ?_⟩
  rcases O.2.2 with hn | ⟨g, cap, cur, e, hb, hh, r⟩
  · exact .inl hn
  · refine .inr ⟨g, cap, cur, e, hb, (h.block g (Array.getElem?_eq_some_iff.1 hh).1 (hs g ?_)).trans hh, r⟩
    injection e with e1 _ _
    rw [e1]; rfl
-- left out in this seat
end Go.Proofs.YtppfplhbfgjjhaaDoor
