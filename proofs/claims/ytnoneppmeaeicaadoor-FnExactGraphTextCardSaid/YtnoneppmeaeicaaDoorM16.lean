import Derived.Test.YtnoneppmeaeicaaDoorM13
import Derived.Test.YtnoneppmeaeicaaDoorM14
import Derived.Test.YtnoneppmeaeicaaDoorM15
import Derived.Test.YtnoneppmeaeicaaDoorM7
namespace Go.Proofs.YtnoneppmeaeicaaDoor
open Go.RowKit Go.Sort
/-! ### Connected graphs, cuts -/
noncomputable def cutB (n : Int) (es : List (Int × Int)) (sk : Nat → Bool) : Bool := decide (ldCnt es noSk n.toNat < ldCnt es sk n.toNat)
noncomputable def cnB' (n : Int) (es : List (Int × Int)) : Bool := decide (ldCnt es noSk n.toNat = 1)
-- left out in this seat
-- left out in this seat
-- left out in this seat
end Go.Proofs.YtnoneppmeaeicaaDoor
namespace Go.Proofs.YtnoneppmeaeicaaDoor
open Go.RowKit Go.Sort
/-! ### Laws whose result is a list of lists -/
theorem ra_set {rows : List (List Int)} {j : Nat} {ys : List Int} (hj : j < rows.length) (i : Nat) : ra (rows.set j ys) i = if i = j then ys else ra rows i := by
  by_cases h : i = j
  · subst h; simp [ra, hj]
  · rw [if_neg h]; simp [ra, List.getElem?_set_ne (fun e => h e.symm)]
theorem Box2.upto {w w' : World} {b B : Nat} {v0 v1 : Value} (h : Box2 w b v0 v1) (hB : b < B) (hb : Below B w w') : Box2 w' b v0 v1 :=
  ⟨Nat.lt_of_lt_of_le h.lt hb.size, (hb.cell (p := ⟨b, 0, none⟩) hB).trans h.c0, (hb.cell (p := ⟨b, 1, none⟩) hB).trans h.c1⟩
theorem OwnLL.keptLow {base top : Nat} {w w' : World} {A : Option Addr} {m c : Nat} {rows : List (List Int)} {row : Option Nat} (h : OwnLL base top w A m c rows) (hg : w.grownBy w' row) (hr : ∀ k, row = some k → k < base) : OwnLL base top w' A m c rows := by
  have hb := h.blk
  obtain ⟨hl, ht, hA, As, cs, ho, hro, hp⟩ := h
  refine ⟨hl, Nat.le_trans ht hg.size, hA, As, cs, ?_, fun j hj => ⟨(hro j hj).1.kept hg ?_, (hro j hj).2⟩, hp⟩
  · have hne : (Value.slice A m c).ownBlock = none ∨ (Value.slice A m c).ownBlock ≠ row := by
      cases A with
      | none => exact .inl rfl
      | some a => exact .inr (fun e => by have := hr a.block e.symm; have := (hb a.block rfl).1; omega)
    exact ho.kept hg hne
  · cases e : blkOf (As j) with
    | none => exact .inl rfl
    | some g => exact .inr (fun e2 => by have := hr g e2.symm; have := ((hro j hj).1.blk g e).1; omega)
theorem OwnLL.upto {base top B : Nat} {w w' : World} {A : Option Addr} {m c : Nat} {rows : List (List Int)} (h : OwnLL base top w A m c rows) (hB : top ≤ B) (hb : Below B w w') : OwnLL base top w' A m c rows := by
  obtain ⟨hl, ht, hA, As, cs, ho, hro, hp⟩ := h
  have cell : ∀ g, g < top → w'.heap[g]? = w.heap[g]? := fun g hg => hb.block g (by omega)
  refine ⟨hl, Nat.le_trans ht hb.size, hA, As, cs, ?_, fun j hj => ⟨?_, (hro j hj).2⟩, hp⟩
  · refine ⟨ho.1, ho.2.imp id fun ⟨g, cap, cur, e, hbg, hh, r⟩ => ⟨g, cap, cur, e, hbg, ?_, r⟩⟩
    rw [cell g (hA g (by injection e with e1; rw [e1]; rfl))]; exact hh
  · obtain ⟨h1, h2, h3⟩ := (hro j hj).1
    refine ⟨h1, h2, h3.imp id fun ⟨g, cap, cur, e, hbg, hh, r⟩ => ⟨g, cap, cur, e, hbg, ?_, r⟩⟩
    rw [cell g ((hro j hj).2.1 g (by injection e with e1; rw [e1]; rfl))]; exact hh
/-- A row of it, and what a change of its numbers comes to. -/
theorem OwnLL.at2 {base top : Nat} {w : World} {A : Option Addr} {m c : Nat} {rows : List (List Int)} (h : OwnLL base top w A m c rows) {j : Nat} (hj : j < m) :
    ∃ g Aj cj, A = some ⟨g, 0, none⟩ ∧ base ≤ g ∧ g < w.heap.size ∧ w.cell? ⟨g, j, none⟩ = some (.slice Aj (ra rows j).length cj) ∧ OwnL base w Aj (ra rows j).length cj (ra rows j) ∧
      ∀ ys w', ys.length = (ra rows j).length → OwnL base w' Aj (ra rows j).length cj ys → w.grownBy w' (blkOf Aj) → OwnLL base top w' A m c (rows.set j ys) := by
  obtain ⟨hl, ht, hA, As, cs, ho, hr, hp⟩ := h
  rcases ho.2 with ⟨_, h0⟩ | ⟨g, cap, cur, e, hb, hg, hrest⟩
  · omega
  · injection e with e1 e2 e3
    subst e1
    refine ⟨g, As j, cs j, rfl, hb, (Array.getElem?_eq_some_iff.1 hg).1, ?_, (hr j hj).1, ?_⟩
    · rw [ho.cellAt j (by omega)]; exact rowV_at hj
    · intro ys w' hy hown hgr
      have hlen : ∀ i, (ra (rows.set j ys) i).length = (ra rows i).length := fun i => by
        rw [ra_set (by omega)]; split
        · rw [hy]; subst i; rfl
        · rfl
      have hV : rowV As cs (rows.set j ys) m = rowV As cs rows m := by
        unfold rowV; apply List.map_congr_left; intro i _; rw [hlen]
      refine ⟨by simp [hl], Nat.le_trans ht hgr.size, hA, As, cs, ?_, fun i hi => ⟨?_, (hr i hi).2⟩, hp⟩
      · rw [hV]
        have hne : (Value.slice (some ⟨g, 0, none⟩) m c).ownBlock = none ∨ (Value.slice (some ⟨g, 0, none⟩) m c).ownBlock ≠ blkOf (As j) := by
          right
          rcases (hr j hj).2.2 with e | e
          · rw [e]; simp [Value.ownBlock]
          · exact fun e2 => e (by rw [← e2]; rfl)
        exact ho.kept hgr hne
      · by_cases hij : i = j
        · subst hij
          rw [ra_set (by omega), if_pos rfl, hy]; exact hown
        · rw [ra_set (by omega), if_neg hij]
          refine (hr i hi).1.kept hgr ?_
          rcases Nat.lt_or_ge i j with hlt | hge
          · exact hp i j hlt hj
          · rcases hp j i (by omega) hi with e | e
            · cases e3 : blkOf (As i) with
              | none => exact .inl rfl
              | some y => exact .inr (by rw [e]; simp)
            · exact .inr (fun e4 => e e4.symm)
/-- What is read in a list of lists. -/
def SrcLL (w : World) (A : Option Addr) (rows : List (List Int)) : Prop := ∀ j, j < rows.length → ∃ g o Aj cj, A = some ⟨g, o, none⟩ ∧ g < w.heap.size ∧ w.cell? ⟨g, o + j, none⟩ = some (.slice Aj (ra rows j).length cj) ∧ SrcI w Aj (ra rows j).length (ia (ra rows j))
theorem OwnLL.src {base top : Nat} {w : World} {A : Option Addr} {m c : Nat} {rows : List (List Int)} (h : OwnLL base top w A m c rows) : SrcLL w A rows := fun j hj => by
  obtain ⟨g, Aj, cj, e, _, hg, hc, ho⟩ := h.at (j := j) (by have := h.1; omega)
  exact ⟨g, 0, Aj, cj, e, hg, by rw [Nat.zero_add]; exact hc, ho.src⟩
theorem SrcLL.below {w w' : World} {A : Option Addr} {rows : List (List Int)} (h : SrcLL w A rows) (hb : Below w.heap.size w w') : SrcLL w' A rows := fun j hj => by
  obtain ⟨g, o, Aj, cj, e, hg, hc, hs⟩ := h j hj
  exact ⟨g, o, Aj, cj, e, Nat.lt_of_lt_of_le hg hb.size, (hb.cell (p := ⟨g, o + j, none⟩) hg).trans hc, hs.below hb⟩
-- left out in this seat
def tot (rows : List (List Int)) : Nat → Nat
  | 0 => 0
  | j + 1 => tot rows j + (ra rows j).length
theorem tot_le {rows : List (List Int)} {b : Nat} (h : ∀ j, j < rows.length → (ra rows j).length ≤ b) : ∀ k, k ≤ rows.length → tot rows k ≤ k * b := by
  intro k
  induction k with
  | zero => intro _; exact Nat.zero_le _
  | succ k ih => intro hk; have := ih (by omega); have := h k (by omega); simp only [tot]; rw [Nat.succ_mul]; omega
/-- The rows hold numbers that follow each other. -/
def MarkP (rows rs : List (List Int)) (q : Int) (i : Nat) : Prop := rs.length = rows.length ∧ (∀ j, (ra rs j).length = (ra rows j).length) ∧ ∀ j, j < i → ∀ u, u < (ra rows j).length → ia (ra rs j) u = q + tot rows j + u
theorem MarkP.start (rows : List (List Int)) (q : Int) : MarkP rows rows q 0 := ⟨rfl, fun _ => rfl, fun j hj => absurd hj (by omega)⟩
theorem MarkP.next {rows rs : List (List Int)} {q : Int} {i : Nat} {ys : List Int} (h : MarkP rows rs q i) (hi : i < rows.length) (hy : ys.length = (ra rs i).length) (hm : ∀ u, u < (ra rs i).length → ia ys u = q + tot rows i + u) : MarkP rows (rs.set i ys) q (i + 1) := by
  have hi' : i < rs.length := by rw [h.1]; exact hi
  refine ⟨by simp [h.1], fun j => ?_, fun j hj u hu => ?_⟩
  · rw [ra_set hi']; split
    · rw [hy, h.2.1]; subst j; rfl
    · exact h.2.1 j
  · rw [ra_set hi']; split
    · subst j; exact hm u (by rw [h.2.1]; exact hu)
    · exact h.2.2 j (by omega) u hu
-- left out in this seat
-- left out in this seat
/-- The call returns a new list of lists and a code. -/
def RetLLC (rows : List (List Int)) (k : Int) (w : World) (e : Ending) (w' : World) : Prop := ∃ A c, e = .returned (.tuple #[.slice A rows.length c, .int .i64 k]) ∧ OwnLL w.heap.size w'.heap.size w' A rows.length c rows ∧ Below w.heap.size w w'
theorem retLLC_nil {rows : List (List Int)} {k : Int} {w w' : World} (h : rows = []) (hb : Below w.heap.size w w') : RetLLC rows k w (.returned (.tuple #[.slice none 0 0, .int .i64 k])) w' := by
  subst h
  exact ⟨none, 0, rfl, OwnLL.nil _ _, hb⟩
theorem retLLC_of {rows ys : List (List Int)} {k : Int} {w w1 w' : World} {A : Option Addr} {c : Nat} (h : rows = ys) (hb : Below w.heap.size w w1) (ho : OwnLL w1.heap.size w'.heap.size w' A rows.length c rows) (hk : Below w1.heap.size w1 w') : RetLLC ys k w (.returned (.tuple #[.slice A rows.length c, .int .i64 k])) w' := by
  subst h
  exact ⟨A, c, rfl, ho.mono hb.size, hb.andB hk⟩
/-- Rows of different kinds lie in different blocks. -/
theorem OwnLL.neL {base base' top : Nat} {w : World} {A : Option Addr} {m c gl N cl : Nat} {rows : List (List Int)} {xs : List Int} (h : OwnLL base top w A m c rows) (hl : OwnL base' w (some ⟨gl, 0, none⟩) N cl xs) : ∀ y, blkOf A = some y → y ≠ gl := fun y hy e => by
  subst e
  obtain ⟨_, _, _, As, cs, ho, _⟩ := h
  rcases ho.2 with ⟨e1, _⟩ | ⟨g, cap, cur, e1, _, hg, _⟩
  · injection e1 with e2; rw [e2] at hy; cases hy
  · rcases hl.2.2 with ⟨e3, _⟩ | ⟨g2, cap2, cur2, e3, _, hg2, _⟩
    · cases e3
    · injection e1 with e4
      injection e3 with e5
      rw [e4] at hy
      simp only [blkOf, Option.map_some, Option.some.injEq] at hy
      simp only [Option.some.injEq, Addr.mk.injEq, and_true] at e5
      rw [hy] at hg
      rw [← e5, hg] at hg2
      injection hg2 with hg3
      injection hg3 with _ h5
      exact absurd h5 (by decide)
end Go.Proofs.YtnoneppmeaeicaaDoor
