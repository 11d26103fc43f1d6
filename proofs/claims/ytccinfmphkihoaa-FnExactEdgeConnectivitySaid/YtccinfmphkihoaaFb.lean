import Derived.Test.YtccinfmphkihoaaQu
import Derived.Test.YtccinfmphkihoaaLd
import Derived.Test.YtccinfmphkihoaaSp2
import Derived.Test.YtccinfmphkihoaaLg
import Derived.StillTailTactics
namespace Go.Proofs.Ytccinfmphkihoaa
open Go.RowKit Go.Sort
/-! ### What a search holds in memory -/
theorem Box2.set {w : World} {b : Nat} {v0 v1 : Value} (h : Box2 w b v0 v1) {a : Addr} (ha : a.block ≠ b) (v : Value) : Box2 (w.setCell a v) b v0 v1 :=
  ⟨by simpa using h.lt, by rw [World.cell?_setCell_other _ _ _ _ (fun e => ha (congrArg Addr.block e))]; exact h.c0, by rw [World.cell?_setCell_other _ _ _ _ (fun e => ha (congrArg Addr.block e))]; exact h.c1⟩
theorem Box2.grown {w w' : World} {b : Nat} {v0 v1 : Value} {row : Option Nat} (h : Box2 w b v0 v1) (hg : w.grownBy w' row) (hne : some b ≠ row) : Box2 w' b v0 v1 :=
  ⟨Nat.lt_of_lt_of_le h.lt hg.size, (World.cell?_of_block (w := w) (a := ⟨b, 0, none⟩) (hg.block b h.lt hne)).trans h.c0, (World.cell?_of_block (w := w) (a := ⟨b, 1, none⟩) (hg.block b h.lt hne)).trans h.c1⟩
theorem Ints.kept {w w' : World} {b o m : Nat} {g : Nat → Int} {row : Option Nat} (h : Ints w b o m g) (hg : w.grownBy w' row) (hne : some b ≠ row) : Ints w' b o m g :=
  ⟨Nat.lt_of_lt_of_le h.blk hg.size, fun j hj => (World.cell?_of_block (w := w) (a := ⟨b, o + j, none⟩) (hg.block b h.blk hne)).trans (h.c j hj)⟩
theorem Ints.set {w : World} {b o m : Nat} {g : Nat → Int} (h : Ints w b o m g) {a : Addr} (ha : a.block ≠ b) (v : Value) : Ints (w.setCell a v) b o m g :=
  ⟨by simpa using h.blk, fun j hj => by rw [World.cell?_setCell_other _ _ _ _ (fun e => ha (congrArg Addr.block e))]; exact h.c j hj⟩
theorem OwnL.setOther {base : Nat} {w : World} {A : Option Addr} {m c : Nat} {xs : List Int} (h : OwnL base w A m c xs) {a : Addr} (ha : some a.block ≠ blkOf A) (v : Value) : OwnL base (w.setCell a v) A m c xs :=
  h.kept (row := some a.block) ⟨rfl, rfl, rfl, by simp, fun k _ hk => Below.heap_setCell _ _ _ _ (fun e => hk (by rw [e]))⟩ (by cases h0 : blkOf A <;> simp [h0] at ha ⊢; exact fun e => ha e.symm)
theorem OwnQ.setOther {base : Nat} {w : World} {A : Option Addr} {m c : Nat} {xs : List Int} (h : OwnQ base w A m c xs) {a : Addr} (ha : some a.block ≠ blkOf A) (v : Value) : OwnQ base (w.setCell a v) A m c xs :=
  h.kept (row := some a.block) ⟨rfl, rfl, rfl, by simp, fun k _ hk => Below.heap_setCell _ _ _ _ (fun e => hk (by rw [e]))⟩ (fun g hg e => ha (by rw [hg, e]))
theorem blk_ne {A : Option Addr} {base x : Nat} (h : ∀ g, blkOf A = some g → base ≤ g) (hx : x < base) : some x ≠ blkOf A := fun e => by have := h x e.symm; omega
/-- The graph's box, the row of distances, and all that was there. -/
structure FarB (w0 : World) (X O N : Nat) (v0 v1 : Value) (far : Int → Int) (w : World) : Prop where
  bel : Below w0.heap.size w0 w
  box : Box2 w X v0 v1
  row : w.rowIs O 2 N (fun v => .int .i64 (far v))
  ne : X ≠ O
  lo : w0.heap.size ≤ O
section
variable {w0 w w' : World} {X O N : Nat} {v0 v1 : Value} {far : Int → Int}
theorem FarB.below (h : FarB w0 X O N v0 v1 far w) (hb : Below w.heap.size w w') : FarB w0 X O N v0 v1 far w' :=
  ⟨h.bel.andB hb, h.box.below hb, h.row.of_block (hb.block _ h.row.lt), h.ne, h.lo⟩
theorem FarB.grown {row : Option Nat} (h : FarB w0 X O N v0 v1 far w) (hg : w.grownBy w' row) (hX : some X ≠ row) (hO : some O ≠ row) (hr : ∀ k, row = some k → w0.heap.size ≤ k) : FarB w0 X O N v0 v1 far w' :=
  ⟨h.bel.grown hg h.bel.size hr, h.box.grown hg hX, h.row.of_block (hg.block _ h.row.lt hO), h.ne, h.lo⟩
theorem FarB.set (h : FarB w0 X O N v0 v1 far w) (j : Nat) (x : Int) : FarB w0 X O N v0 v1 (upI far j x) (w.setCell ⟨O, j, none⟩ (.int .i64 x)) :=
  ⟨h.bel.setCell h.lo _, h.box.set (Ne.symm h.ne) _, (h.row.set j (.int .i64 x)).congr (fun v _ => by
    by_cases e : v = j
    · subst e; rw [if_pos rfl, upI_same]
    · rw [if_neg e, upI_other _ _ _ _ (by omega)]), h.ne, h.lo⟩
theorem FarB.congr {far' : Int → Int} (h : FarB w0 X O N v0 v1 far w) (hf : ∀ v : Nat, v < N → far v = far' v) : FarB w0 X O N v0 v1 far' w :=
  ⟨h.bel, h.box, h.row.congr (fun v hv => by rw [hf v hv]), h.ne, h.lo⟩
end
/-- The edge with a number is left out. -/
def skI (x : Int) (e : Nat) : Bool := decide ((e : Int) = x)
theorem skI_no {x : Int} {e : Nat} (h : ((e : Int) != x) = true) : skI x e = false := by simp [skI] at h ⊢; exact h
theorem skI_yes {x : Int} {e : Nat} (h : ((e : Int) != x) = false) : skI x e = true := by simp [skI] at h ⊢; exact h
end Go.Proofs.Ytccinfmphkihoaa
