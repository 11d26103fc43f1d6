import Derived.Test.YtnoneppmeaeicaaDoorM4
import Derived.Laws.EntriesVeiled
namespace Go.Proofs.YtnoneppmeaeicaaDoor
open Go.RowKit Go.Sort
/-! ### What stays but for some blocks -/
structure Kept (S : Nat → Prop) (w w' : World) : Prop where
  os : w'.os = w.os
  tape : w'.tape = w.tape
  output : w'.output = w.output
  size : w.heap.size ≤ w'.heap.size
  block : ∀ k, k < w.heap.size → ¬ S k → w'.heap[k]? = w.heap[k]?
theorem Kept.refl (S : Nat → Prop) (w : World) : Kept S w w := ⟨rfl, rfl, rfl, Nat.le_refl _, fun _ _ _ => rfl⟩
theorem Kept.trans {S : Nat → Prop} {a b c : World} (h : Kept S a b) (k : Kept S b c) : Kept S a c :=
  ⟨k.os.trans h.os, k.tape.trans h.tape, k.output.trans h.output, Nat.le_trans h.size k.size, fun i hi hs => (k.block i (Nat.lt_of_lt_of_le hi h.size) hs).trans (h.block i hi hs)⟩
theorem Kept.wide {S T : Nat → Prop} {w w' : World} (h : Kept S w w') (hs : ∀ k, S k → T k) : Kept T w w' :=
  ⟨h.os, h.tape, h.output, h.size, fun k hk ht => h.block k hk (fun x => ht (hs k x))⟩
theorem Kept.of {S : Nat → Prop} {w w' : World} (h : Below w.heap.size w w') : Kept S w w' := ⟨h.os, h.tape, h.output, h.size, fun k hk _ => h.block k hk⟩
theorem Kept.ofB {S : Nat → Prop} {B : Nat} {w w' : World} (h : Below B w w') (hs : ∀ k, B ≤ k → k < w.heap.size → S k) : Kept S w w' := ⟨h.os, h.tape, h.output, h.size, fun k hk hn => h.block k (Nat.lt_of_not_le fun hb => hn (hs k hb hk))⟩
theorem Kept.thenB {S : Nat → Prop} {w w1 w2 : World} (h : Kept S w w1) (k : Below w1.heap.size w1 w2) : Kept S w w2 := h.trans (Kept.of k)
theorem Kept.below {S : Nat → Prop} {B : Nat} {w w' : World} (h : Kept S w w') (hB : B ≤ w.heap.size) (hs : ∀ k, S k → B ≤ k) : Below B w w' :=
  ⟨h.os, h.tape, h.output, h.size, fun k hk => h.block k (Nat.lt_of_lt_of_le hk hB) (fun x => by have := hs k x; omega)⟩
theorem Kept.setCell {S : Nat → Prop} {w w' : World} (h : Kept S w w') {a : Addr} (ha : S a.block) (v : Value) : Kept S w (w'.setCell a v) :=
  ⟨h.os, h.tape, h.output, by simpa using h.size, fun k hk hn => (Below.heap_setCell _ _ _ _ (fun e => hn (by rw [e]; exact ha))).trans (h.block k hk hn)⟩
theorem Kept.alloc {S : Nat → Prop} {w w' : World} (h : Kept S w w') (o : Obj) : Kept S w (w'.alloc o) := h.thenB ((Below.refl _ _).alloc (Nat.le_refl _) _)
theorem Kept.drew {S : Nat → Prop} {w w' : World} (h : Kept S w w') : Kept S w w'.drew := ⟨h.os, h.tape, h.output, h.size, h.block⟩
theorem Kept.cell {S : Nat → Prop} {w w' : World} (h : Kept S w w') {b : Nat} (hb : b < w.heap.size) (hs : ¬ S b) (o : Nat) : w'.cell? ⟨b, o, none⟩ = w.cell? ⟨b, o, none⟩ := World.cell?_of_block (w := w) (h.block b hb hs)
theorem Kept.frozen {S : Nat → Prop} {w w' : World} (h : Kept S w w') {b : Nat} (hb : b < w.heap.size) (hs : ¬ S b) (o : Nat) : w'.frozen? ⟨b, o, none⟩ = w.frozen? ⟨b, o, none⟩ := World.frozen?_of_block (w := w) (h.block b hb hs)
theorem Kept.lt {S : Nat → Prop} {w w' : World} (h : Kept S w w') {b : Nat} (hb : b < w.heap.size) : b < w'.heap.size := Nat.lt_of_lt_of_le hb h.size
theorem Kept.eds {S : Nat → Prop} {w w' : World} (h : Kept S w w') {b o m : Nat} {es : List (Int × Int)} (E : Eds w b o m es) (hs : ¬ S b) : Eds w' b o m es :=
  ⟨E.len, h.lt E.blk, fun j hj => (h.cell E.blk hs _).trans (E.ca j hj), fun j hj => (h.cell E.blk hs _).trans (E.cb j hj)⟩
theorem Kept.row {S : Nat → Prop} {w w' : World} (h : Kept S w w') {b : Nat} {t : TypeId} {n : Nat} {f : Nat → Value} (R : w.rowIs b t n f) (hs : ¬ S b) : w'.rowIs b t n f := R.of_block (h.block b R.lt hs)
theorem Kept.ints {S : Nat → Prop} {w w' : World} (h : Kept S w w') {b o m : Nat} {f : Nat → Int} (I : Ints w b o m f) (hs : ¬ S b) : Ints w' b o m f :=
  ⟨h.lt I.blk, fun j hj => (h.cell I.blk hs _).trans (I.c j hj)⟩
theorem Kept.ofGrown {S : Nat → Prop} {w w' : World} {row : Option Nat} (hg : w.grownBy w' row) (hr : ∀ k, row = some k → k < w.heap.size → S k) : Kept S w w' :=
  ⟨hg.os, hg.tape, hg.output, hg.size, fun k hk hn => hg.block k hk (fun e => hn (hr k e.symm hk))⟩
/-- Each found thing is handed on, until one ends it. -/
def runF {σ α : Type} (fnd : σ → α → Bool × σ) : σ → List α → Bool × σ
  | s, [] => (false, s)
  | s, x :: xs => if (fnd s x).1 then (true, (fnd s x).2) else runF fnd (fnd s x).2 xs
theorem runF_app {σ α : Type} (fnd : σ → α → Bool × σ) : ∀ (xs ys : List α) (s : σ), runF fnd s (xs ++ ys) = if (runF fnd s xs).1 then runF fnd s xs else runF fnd (runF fnd s xs).2 ys := by
  intro xs
  induction xs with
  | nil => intro ys s; simp [runF]
  | cons x xs ih =>
    intro ys s
    simp only [List.cons_append, runF]
    split <;> simp_all
end Go.Proofs.YtnoneppmeaeicaaDoor
