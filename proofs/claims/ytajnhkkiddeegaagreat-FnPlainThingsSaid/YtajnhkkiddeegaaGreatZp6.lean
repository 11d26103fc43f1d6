import Derived.Laws.EntriesVeiled
import Derived.Test.YtajnhkkiddeegaaGreatZp5
set_option linter.unusedVariables false
set_option linter.unusedSimpArgs false
namespace Go.Proofs.YtajnhkkiddeegaaGreat
open Go.RowKit Go.Sort
structure Kept (S : Nat → Prop) (w w' : World) : Prop where
  os : w'.os = w.os
  tape : w'.tape = w.tape
  output : w'.output = w.output
  size : w.heap.size ≤ w'.heap.size
  block : ∀ k, k < w.heap.size → ¬ S k → w'.heap[k]? = w.heap[k]?
theorem Kept.refl (S : Nat → Prop) (w : World) : Kept S w w := ⟨rfl, rfl, rfl, Nat.le_refl _, fun _ _ _ => rfl⟩
theorem Kept.trans {S : Nat → Prop} {a b c : World} (h : Kept S a b) (k : Kept S b c) : Kept S a c :=
  ⟨k.os.trans h.os, k.tape.trans h.tape, k.output.trans h.output, Nat.le_trans h.size k.size, fun i hi hs => (k.block i (Nat.lt_of_lt_of_le hi h.size) hs).trans (h.block i hi hs)⟩
theorem Kept.wide {S T : Nat → Prop} {w w' : World} (h : Kept S w w') (hs : ∀ k, S k → T k) : Kept T w w' :=
  ⟨h.os, h.tape, h.output, h.size, fun k hk ht => h.block k hk (fun x => ht (hs k x))⟩
theorem Kept.of {S : Nat → Prop} {w w' : World} (h : Below w.heap.size w w') : Kept S w w' := ⟨h.os, h.tape, h.output, h.size, fun k hk _ => h.block k hk⟩
theorem Kept.ofB {S : Nat → Prop} {B : Nat} {w w' : World} (h : Below B w w') (hs : ∀ k, B ≤ k → k < w.heap.size → S k) : Kept S w w' := ⟨h.os, h.tape, h.output, h.size, fun k hk hn => h.block k (Nat.lt_of_not_le fun hb => hn (hs k hb hk))⟩
theorem Kept.thenB {S : Nat → Prop} {w w1 w2 : World} (h : Kept S w w1) (k : Below w1.heap.size w1 w2) : Kept S w w2 := h.trans (Kept.of k)
theorem Kept.below {S : Nat → Prop} {B : Nat} {w w' : World} (h : Kept S w w') (hB : B ≤ w.heap.size) (hs : ∀ k, S k → B ≤ k) : Below B w w' :=
  ⟨h.os, h.tape, h.output, h.size, fun k hk => h.block k (Nat.lt_of_lt_of_le hk hB) (fun x => by have := hs k x; omega)⟩
theorem Kept.setCell {S : Nat → Prop} {w w' : World} (h : Kept S w w') {a : Addr} (ha : S a.block) (v : Value) : Kept S w (w'.setCell a v) :=
  ⟨h.os, h.tape, h.output, by simpa using h.size, fun k hk hn => (Below.heap_setCell _ _ _ _ (fun e => hn (by rw [e]; exact ha))).trans (h.block k hk hn)⟩
theorem Kept.alloc {S : Nat → Prop} {w w' : World} (h : Kept S w w') (o : Obj) : Kept S w (w'.alloc o) := h.thenB ((Below.refl _ _).alloc (Nat.le_refl _) _)
theorem Kept.drew {S : Nat → Prop} {w w' : World} (h : Kept S w w') : Kept S w w'.drew := ⟨h.os, h.tape, h.output, h.size, h.block⟩
theorem Kept.cell {S : Nat → Prop} {w w' : World} (h : Kept S w w') {b : Nat} (hb : b < w.heap.size) (hs : ¬ S b) (o : Nat) : w'.cell? ⟨b, o, none⟩ = w.cell? ⟨b, o, none⟩ := World.cell?_of_block (w := w) (h.block b hb hs)
theorem Kept.frozen {S : Nat → Prop} {w w' : World} (h : Kept S w w') {b : Nat} (hb : b < w.heap.size) (hs : ¬ S b) (o : Nat) : w'.frozen? ⟨b, o, none⟩ = w.frozen? ⟨b, o, none⟩ := World.frozen?_of_block (w := w) (h.block b hb hs)
theorem Kept.lt {S : Nat → Prop} {w w' : World} (h : Kept S w w') {b : Nat} (hb : b < w.heap.size) : b < w'.heap.size := Nat.lt_of_lt_of_le hb h.size
theorem Kept.eds {S : Nat → Prop} {w w' : World} (h : Kept S w w') {b o m : Nat} {es : List (Int × Int)} (E : Eds w b o m es) (hs : ¬ S b) : Eds w' b o m es :=
  ⟨E.len, h.lt E.blk, fun j hj => (h.cell E.blk hs _).trans (E.ca j hj), fun j hj => (h.cell E.blk hs _).trans (E.cb j hj)⟩
theorem Kept.row {S : Nat → Prop} {w w' : World} (h : Kept S w w') {b : Nat} {t : TypeId} {n : Nat} {f : Nat → Value} (R : w.rowIs b t n f) (hs : ¬ S b) : w'.rowIs b t n f := R.of_block (h.block b R.lt hs)
theorem Kept.ints {S : Nat → Prop} {w w' : World} (h : Kept S w w') {b o m : Nat} {f : Nat → Int} (I : Ints w b o m f) (hs : ¬ S b) : Ints w' b o m f :=
  ⟨h.lt I.blk, fun j hj => (h.cell I.blk hs _).trans (I.c j hj)⟩
end Go.Proofs.YtajnhkkiddeegaaGreat
namespace Go.Proofs.YtajnhkkiddeegaaGreat
open Go.RowKit Go.Sort
/-- The code's bytes in memory. -/
def Bys (w : World) (A : Option Addr) (l p : Nat) : Prop := 0 < l → ∃ b o, A = some ⟨b, o, none⟩ ∧ b < w.heap.size ∧ b ≠ p ∧ ∀ i, i < l → ∃ v : Nat, v < 256 ∧ w.cell? ⟨b, o + i, none⟩ = some (.int .u8 v)
/-- A source at block p. -/
structure SR (A : Option Addr) (l c p : Nat) (w : World) : Prop where
  lt : p < w.heap.size
  code : w.cell? ⟨p, 0, none⟩ = some (.slice A l c)
  at_ : ∃ k : Nat, k ≤ l ∧ w.cell? ⟨p, 1, none⟩ = some (.int .i64 k)
  hash : ∃ h : Nat, h < 18446744073709551616 ∧ w.cell? ⟨p, 2, none⟩ = some (.int .u64 h)
  f1 : w.frozen? ⟨p, 1, none⟩ = false
  f2 : w.frozen? ⟨p, 2, none⟩ = false
  bys : Bys w A l p
def isP (p : Nat) (k : Nat) : Prop := k = p
theorem Bys.kept {w w' : World} {A : Option Addr} {l p : Nat} (h : Bys w A l p) (k : Kept (isP p) w w') : Bys w' A l p := fun hl => by
  obtain ⟨b, o, e, hb, hne, hc⟩ := h hl
  exact ⟨b, o, e, k.lt hb, hne, fun i hi => by
    obtain ⟨v, hv, hcv⟩ := hc i hi
    exact ⟨v, hv, (k.cell hb hne _).trans hcv⟩⟩
theorem SR.below {A : Option Addr} {l c p : Nat} {w w' : World} (h : SR A l c p w) (hb : Below w.heap.size w w') : SR A l c p w' where
  lt := Nat.lt_of_lt_of_le h.lt hb.size
  code := (hb.cell h.lt).trans h.code
  at_ := let ⟨k, hk, e⟩ := h.at_; ⟨k, hk, (hb.cell h.lt).trans e⟩
  hash := let ⟨k, hk, e⟩ := h.hash; ⟨k, hk, (hb.cell h.lt).trans e⟩
  f1 := (World.frozen?_of_block (w := w) (hb.block p h.lt)).trans h.f1
  f2 := (World.frozen?_of_block (w := w) (hb.block p h.lt)).trans h.f2
  bys := h.bys.kept (Kept.of hb)
/-- What the draws do to the world: the source's block is turned, and new blocks come. -/
def DR (A : Option Addr) (l c p : Nat) (w w' : World) : Prop := Kept (isP p) w w' ∧ SR A l c p w'
theorem DR.refl {A : Option Addr} {l c p : Nat} {w : World} (h : SR A l c p w) : DR A l c p w w := ⟨Kept.refl _ _, h⟩
theorem DR.trans {A : Option Addr} {l c p : Nat} {a b d : World} (h : DR A l c p a b) (k : DR A l c p b d) : DR A l c p a d := ⟨h.1.trans k.1, k.2⟩
theorem DR.thenB {A : Option Addr} {l c p : Nat} {a b d : World} (h : DR A l c p a b) (k : Below b.heap.size b d) : DR A l c p a d := ⟨h.1.thenB k, h.2.below k⟩
theorem DR.ofB {A : Option Addr} {l c p : Nat} {a b : World} (h : SR A l c p a) (k : Below a.heap.size a b) : DR A l c p a b := ⟨Kept.of k, h.below k⟩
theorem DR.cell {A : Option Addr} {l c p : Nat} {w w' : World} (D : DR A l c p w w') {a : Addr} (hb : a.block < w.heap.size) (hne : a.block ≠ p) (hs : a.spot = none) : w'.cell? a = w.cell? a := by
  obtain ⟨b, o, sp⟩ := a
  simp only at hs
  subst hs
  exact D.1.cell hb hne o
theorem SR.hashed {A : Option Addr} {l c p : Nat} {w : World} (h : SR A l c p w) {x : Nat} (hx : x < 18446744073709551616) : DR A l c p w (w.setCell ⟨p, 2, none⟩ (.int .u64 x)) := by
  have k : Kept (isP p) w (w.setCell ⟨p, 2, none⟩ (.int .u64 x)) := (Kept.refl (isP p) w).setCell (a := ⟨p, 2, none⟩) (show isP p p from rfl) _
  refine ⟨k, k.lt h.lt, ?_, ?_, ⟨x, hx, World.cell?_setCell_same _ _ _ h.hash.choose_spec.2⟩, ?_, ?_, h.bys.kept k⟩
  · rw [World.cell?_setCell_other _ _ _ _ (by intro e2; injection e2 with _ e3; cases e3)]; exact h.code
  · obtain ⟨j, hj, e⟩ := h.at_; exact ⟨j, hj, by rw [World.cell?_setCell_other _ _ _ _ (by intro e2; injection e2 with _ e3; cases e3)]; exact e⟩
  · rw [World.frozen?_setCell]; exact h.f1
  · rw [World.frozen?_setCell]; exact h.f2
theorem SR.moved {A : Option Addr} {l c p : Nat} {w : World} (h : SR A l c p w) {x : Nat} (hx : x ≤ l) : DR A l c p w (w.setCell ⟨p, 1, none⟩ (.int .i64 x)) := by
  have k : Kept (isP p) w (w.setCell ⟨p, 1, none⟩ (.int .i64 x)) := (Kept.refl (isP p) w).setCell (a := ⟨p, 1, none⟩) (show isP p p from rfl) _
  refine ⟨k, k.lt h.lt, ?_, ⟨x, hx, World.cell?_setCell_same _ _ _ h.at_.choose_spec.2⟩, ?_, ?_, ?_, h.bys.kept k⟩
  · rw [World.cell?_setCell_other _ _ _ _ (by intro e2; injection e2 with _ e3; cases e3)]; exact h.code
  · obtain ⟨j, hj, e⟩ := h.hash; exact ⟨j, hj, by rw [World.cell?_setCell_other _ _ _ _ (by intro e2; injection e2 with _ e3; cases e3)]; exact e⟩
  · rw [World.frozen?_setCell]; exact h.f1
  · rw [World.frozen?_setCell]; exact h.f2
end Go.Proofs.YtajnhkkiddeegaaGreat
