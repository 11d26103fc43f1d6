import Derived.Test.YtnoneppmeaeicaaDoorProg
import Derived.WalkKit
import Derived.Outline
import Derived.WalkLawsBesides
import Derived.Handy
import Derived.Lib.QuietBelow
import Derived.BigQuiet
import Derived.Lib.Hide
import Derived.Deep.RegionHeld3
import Derived.Deep.OwnRows
namespace Go.Proofs.YtnoneppmeaeicaaDoor
open Go.RowKit Go.Sort

/-! ### What a call comes to -/
/-- The call returns v; of what was there nothing has turned. -/
def Ret (v : Value) (w : World) (e : Ending) (w' : World) : Prop := e = .returned v ∧ Below w.heap.size w w'
/-- The call returns v; the world is as it was. -/
def Is (v : Value) (w : World) (e : Ending) (w' : World) : Prop := e = .returned v ∧ w = w'

theorem bcell {W w1 : World} (hb : Below W.heap.size W w1) : (∀ b o, b < W.heap.size → w1.cell? ⟨b, o, none⟩ = W.cell? ⟨b, o, none⟩) ∧ (∀ b o, b < W.heap.size → w1.frozen? ⟨b, o, none⟩ = W.frozen? ⟨b, o, none⟩) :=
  ⟨fun b o h => hb.cell (p := ⟨b, o, none⟩) h, fun b o h => hb.frozen (p := ⟨b, o, none⟩) h⟩

theorem bsz {W w1 : World} (h : Below W.heap.size W w1) (k : Nat) (hk : k < W.heap.size) : k < w1.heap.size := Nat.lt_of_lt_of_le hk h.size

theorem below_of_rg {w w' : World} (h : ∃ p : Regrown, w' = grow (redrawn w p.d) p.os) : Below w.heap.size w w' := by
  obtain ⟨p, rfl⟩ := h
  exact below_regrown w p.d p.os

theorem cell_rg (w : World) (d : Nat) (os : Array Obj) (b o : Nat) (h : b < w.heap.size) : (grow (redrawn w d) os).cell? ⟨b, o, none⟩ = w.cell? ⟨b, o, none⟩ :=
  (below_regrown w d os).cell (p := ⟨b, o, none⟩) h

theorem Ret.rg {P : Program} {f : FuncId} {args : Array Value} {w : World} {d : Nat} {os : Array Obj} {v : Value}
    (h : Calls P f args (grow (redrawn w d) os) (Ret v (grow (redrawn w d) os))) : Calls P f args (grow (redrawn w d) os) fun e w'' => e = .returned v ∧ ∃ p : Regrown, w'' = grow (redrawn w p.d) p.os :=
  Calls.regrown_of h
theorem Is.ret {P : Program} {f : FuncId} {args : Array Value} {w : World} {v : Value} (h : Calls P f args w (Is v w)) : Calls P f args w (Ret v w) :=
  h.mono fun _ _ ⟨he, hw⟩ => ⟨he, hw ▸ Below.refl _ _⟩
theorem Is.rg {P : Program} {f : FuncId} {args : Array Value} {w : World} {d : Nat} {os : Array Obj} {v : Value}
    (h : Calls P f args (grow (redrawn w d) os) (Is v (grow (redrawn w d) os))) : Calls P f args (grow (redrawn w d) os) fun e w'' => e = .returned v ∧ ∃ p : Regrown, w'' = grow (redrawn w p.d) p.os :=
  Ret.rg (Is.ret h)
theorem ret_int {k : IntKind} {a b : Int} (h : a = b) : Ending.returned (.int k a) = .returned (.int k b) := by rw [h]
theorem ret_bool {a b : Bool} (h : a = b) : Ending.returned (.bool a) = .returned (.bool b) := by rw [h]
theorem _root_.Go.RowKit.Below.thenB {B : Nat} {w w1 w2 : World} (h : Below B w w1) (hB : B ≤ w1.heap.size) (k : Below w1.heap.size w1 w2) : Below B w w2 :=
  h.trans (k.mono hB)
/-- Two steps from the call's first world on. -/
theorem _root_.Go.RowKit.Below.andB {w w1 w2 : World} (h : Below w.heap.size w w1) (k : Below w1.heap.size w1 w2) : Below w.heap.size w w2 := h.thenB h.size k

/-- A box of two cells. -/
structure Box2 (w : World) (b : Nat) (v0 v1 : Value) : Prop where
  lt : b < w.heap.size
  c0 : w.cell? ⟨b, 0, none⟩ = some v0
  c1 : w.cell? ⟨b, 1, none⟩ = some v1
theorem Box2.below {w w' : World} {b : Nat} {v0 v1 : Value} (h : Box2 w b v0 v1) (hb : Below w.heap.size w w') : Box2 w' b v0 v1 :=
  ⟨Nat.lt_of_lt_of_le h.lt hb.size, (hb.cell (p := ⟨b, 0, none⟩) h.lt).trans h.c0, (hb.cell (p := ⟨b, 1, none⟩) h.lt).trans h.c1⟩
theorem Box2.made (w : World) (v0 v1 : Value) (t : TypeId) : Box2 (w.alloc (.cells #[v0, v1] t)) w.heap.size v0 v1 := ⟨by simp, by simp, by simp⟩

/-! ### A proposition as a Bool -/
open Classical in
noncomputable def B (p : Prop) : Bool := decide p
theorem B_true {p : Prop} (h : p) : B p = true := by simp [B, h]
theorem B_false {p : Prop} (h : ¬ p) : B p = false := by simp [B, h]
theorem B_iff {p : Prop} : B p = true ↔ p := by simp [B]
theorem B_dec (p : Prop) [Decidable p] : B p = decide p := by by_cases h : p <;> simp [B, h]
theorem B_not {p : Prop} : B p = false ↔ ¬ p := by simp [B]
theorem B_congr {p q : Prop} (h : p ↔ q) : B p = B q := by rw [propext h]
theorem B_and (p q : Prop) : B (p ∧ q) = (B p && B q) := by by_cases h : p <;> by_cases h2 : q <;> simp [B, h, h2]
noncomputable def allB (m : Nat) (r : Nat → Bool) : Bool := B (∀ j, j < m → r j = true)
theorem allB_iff {m : Nat} {r : Nat → Bool} : allB m r = true ↔ ∀ j, j < m → r j = true := B_iff
theorem allB_not {m : Nat} {r : Nat → Bool} : allB m r = false ↔ ¬ ∀ j, j < m → r j = true := B_not
def inB (n l h : Int) : Bool := decide (l ≤ n ∧ n ≤ h)
theorem inB_true {n l h : Int} (h1 : l ≤ n) (h2 : n ≤ h) : inB n l h = true := by simp [inB, h1, h2]
theorem inB_false {n l h : Int} (h1 : ¬ (l ≤ n ∧ n ≤ h)) : inB n l h = false := by simp [inB]; intro; omega
theorem inB_iff {n l h : Int} : inB n l h = true ↔ l ≤ n ∧ n ≤ h := by simp [inB]
theorem inB_not {n l h : Int} : inB n l h = false ↔ ¬ (l ≤ n ∧ n ≤ h) := by rw [← inB_iff]; simp

def befB (a b c d : Int) : Bool := decide (a < c ∨ (a = c ∧ b < d))
theorem befB_iff {a b c d : Int} : befB a b c d = true ↔ (a < c ∨ (a = c ∧ b < d)) := by simp [befB]
theorem befB_not {a b c d : Int} : befB a b c d = false ↔ ¬ (a < c ∨ (a = c ∧ b < d)) := by rw [← befB_iff]; simp
def eqB (a b c d : Int) : Bool := decide (a = c ∧ b = d)
theorem eqB_iff {a b c d : Int} : eqB a b c d = true ↔ (a = c ∧ b = d) := by simp [eqB]
theorem eqB_not {a b c d : Int} : eqB a b c d = false ↔ ¬ (a = c ∧ b = d) := by rw [← eqB_iff]; simp

/-! ### Edges -/
def ea (es : List (Int × Int)) (j : Nat) : Int := (es.getD j (0, 0)).1
def eb (es : List (Int × Int)) (j : Nat) : Int := (es.getD j (0, 0)).2
theorem e_pair {es : List (Int × Int)} {j : Nat} (h : j < es.length) : es[j] = (ea es j, eb es j) := by simp [ea, eb, h]
theorem es_ext {es fs : List (Int × Int)} (h : es.length = fs.length) (hj : ∀ j, j < es.length → ea es j = ea fs j ∧ eb es j = eb fs j) : es = fs := by
  apply List.ext_getElem h
  intro j h1 h2
  rw [e_pair h1, e_pair h2, (hj j h1).1, (hj j h1).2]
/-- A slice of edges in memory. -/
structure Eds (w : World) (b o m : Nat) (es : List (Int × Int)) : Prop where
  len : es.length = m
  blk : b < w.heap.size
  ca : ∀ j, j < m → w.cell? ⟨b, o + j * 2, none⟩ = some (.int .i64 (ea es j))
  cb : ∀ j, j < m → w.cell? ⟨b, o + j * 2 + 1, none⟩ = some (.int .i64 (eb es j))
theorem Eds.below {w w' : World} {b o m : Nat} {es : List (Int × Int)} (h : Eds w b o m es) (hb : Below w.heap.size w w') : Eds w' b o m es :=
  ⟨h.len, Nat.lt_of_lt_of_le h.blk hb.size, fun j hj => (hb.cell (p := ⟨b, o + j * 2, none⟩) h.blk).trans (h.ca j hj), fun j hj => (hb.cell (p := ⟨b, o + j * 2 + 1, none⟩) h.blk).trans (h.cb j hj)⟩
theorem Eds.upto {B : Nat} {w w' : World} {b o m : Nat} {es : List (Int × Int)} (h : Eds w b o m es) (hB : b < B) (hb : Below B w w') : Eds w' b o m es :=
  ⟨h.len, Nat.lt_of_lt_of_le h.blk hb.size, fun j hj => (hb.cell (p := ⟨b, o + j * 2, none⟩) hB).trans (h.ca j hj), fun j hj => (hb.cell (p := ⟨b, o + j * 2 + 1, none⟩) hB).trans (h.cb j hj)⟩
theorem Eds.alloc {w : World} {b o m : Nat} {es : List (Int × Int)} (h : Eds w b o m es) (x : Obj) : Eds (w.alloc x) b o m es :=
  h.below ((Below.refl _ _).alloc (Nat.le_refl _) _)
/-- The cells of a list of edges. -/
def flatE (es : List (Int × Int)) : List Value := es.flatMap fun e => [.int .i64 e.1, .int .i64 e.2]
theorem flatE_length (es : List (Int × Int)) : (flatE es).length = es.length * 2 := by
  induction es with
  | nil => rfl
  | cons e es ih => simp [flatE] at ih ⊢; omega
theorem flatE_at (es : List (Int × Int)) (j : Nat) (h : j < es.length) : (flatE es)[j * 2]? = some (.int .i64 (ea es j)) ∧ (flatE es)[j * 2 + 1]? = some (.int .i64 (eb es j)) := by
  induction es generalizing j with
  | nil => simp at h
  | cons e es ih =>
    cases j with
    | zero => simp [flatE, ea, eb]
    | succ j =>
      have := ih j (by simpa using h)
      simp only [flatE, List.flatMap_cons] at this ⊢
      rw [show (j + 1) * 2 = (j * 2) + 2 from by omega]
      simpa [ea, eb] using this
theorem flatE_set (l : List (Int × Int)) (k : Nat) (a b : Int) : ((flatE l).set (k * 2) (.int .i64 a)).set (k * 2 + 1) (.int .i64 b) = flatE (l.set k (a, b)) := by
  induction l generalizing k with
  | nil => simp [flatE]
  | cons e l ih =>
    cases k with
    | zero => simp [flatE]
    | succ k =>
      have := ih k
      simp only [flatE, List.flatMap_cons, List.set_cons_succ] at this ⊢
      rw [show (k + 1) * 2 = (k * 2 + 1) + 1 from by omega]
      simpa using this
/-- A row of edges of the call's own, from block 'base' on. -/
def OwnE (base : Nat) (w : World) (g m c : Nat) (es : List (Int × Int)) : Prop := es.length = m ∧ w.ownsRow base 44 2 (.slice (some ⟨g, 0, none⟩) m c) m (flatE es)
theorem OwnE.eds {base : Nat} {w : World} {g m c : Nat} {es : List (Int × Int)} (h : OwnE base w g m c es) : Eds w g 0 m es := by
  refine ⟨h.1, (h.2.lt g rfl).2, fun j hj => ?_, fun j hj => ?_⟩
  · rw [Nat.zero_add, h.2.cellAt (j * 2) (by omega)]
    exact (flatE_at es j (by rw [h.1]; exact hj)).1
  · rw [Nat.zero_add, h.2.cellAt (j * 2 + 1) (by omega)]
    exact (flatE_at es j (by rw [h.1]; exact hj)).2
theorem OwnE.below {base : Nat} {w w' : World} {g m c : Nat} {es : List (Int × Int)} (h : OwnE base w g m c es) (hb : Below w.heap.size w w') : OwnE base w' g m c es :=
  ⟨h.1, h.2.kept (row := none) ⟨hb.os, hb.tape, hb.output, hb.size, fun i hi _ => hb.block i hi⟩ (by simp [Value.ownBlock])⟩
theorem OwnE.ge {base : Nat} {w : World} {g m c : Nat} {es : List (Int × Int)} (h : OwnE base w g m c es) : base ≤ g ∧ g < w.heap.size := h.2.lt g rfl
theorem OwnE.store {base : Nat} {w : World} {g m c : Nat} {l : List (Int × Int)} (h : OwnE base w g m c l) (k : Nat) (a b : Int) :
    OwnE base ((w.setCell ⟨g, k * 2, none⟩ (.int .i64 a)).setCell ⟨g, k * 2 + 1, none⟩ (.int .i64 b)) g m c (l.set k (a, b)) := by
  have st1 := h.2.stored (k * 2) (.int .i64 a)
  have st2 := st1.1.stored (k * 2 + 1) (.int .i64 b)
  refine ⟨by simpa using h.1, ?_⟩
  have := st2.1
  rwa [flatE_set] at this
theorem OwnE.setOther {base : Nat} {w : World} {g m c : Nat} {l : List (Int × Int)} (h : OwnE base w g m c l) {a : Addr} (ha : a.block ≠ g) (v : Value) : OwnE base (w.setCell a v) g m c l :=
  ⟨h.1, h.2.kept (row := some a.block) ⟨rfl, rfl, rfl, by simp, fun k _ hk => Below.heap_setCell _ _ _ _ (fun e => hk (by rw [e]))⟩ (.inr (by simp only [Value.ownBlock, ne_eq, Option.some.injEq]; exact fun e => ha e.symm))⟩
theorem OwnE.mono {base base' : Nat} {w : World} {g m c : Nat} {l : List (Int × Int)} (h : OwnE base w g m c l) (hb : base' ≤ base) : OwnE base' w g m c l := by
  refine ⟨h.1, h.2.1, ?_⟩
  rcases h.2.2 with hn | ⟨g', cap, cur, e, hbg, r⟩
  · exact .inl hn
  · exact .inr ⟨g', cap, cur, e, Nat.le_trans hb hbg, r⟩
/-- The call returns new edges. -/
def RetE (es : List (Int × Int)) (w : World) (e : Ending) (w' : World) : Prop := ∃ g c, e = .returned (.slice (some ⟨g, 0, none⟩) es.length c) ∧ OwnE w.heap.size w' g es.length c es ∧ Below w.heap.size w w'
/-- The call returns a new graph. -/
def RetG (n : Int) (es : List (Int × Int)) (w : World) (e : Ending) (w' : World) : Prop := ∃ g c, e = .returned (.agg #[.int .i64 n, .slice (some ⟨g, 0, none⟩) es.length c]) ∧ OwnE w.heap.size w' g es.length c es ∧ Below w.heap.size w w'

/-- What came in: maybe nil. -/
def SrcE (w : World) (A : Option Addr) (m : Nat) (es : List (Int × Int)) : Prop := es.length = m ∧ (0 < m → ∃ b o, A = some ⟨b, o, none⟩ ∧ Eds w b o m es)
theorem SrcE.below {w w' : World} {A : Option Addr} {m : Nat} {es : List (Int × Int)} (h : SrcE w A m es) (hb : Below w.heap.size w w') : SrcE w' A m es :=
  ⟨h.1, fun hm => let ⟨b, o, e, he⟩ := h.2 hm; ⟨b, o, e, he.below hb⟩⟩
theorem flatE_zeros (n : Nat) : (madeCells #[.int .i64 0, .int .i64 0] (n * 2)).toList = flatE (List.replicate n (0, 0)) := by
  have h1 : ∀ n, flatE (List.replicate n (0, 0)) = List.replicate (n * 2) (.int .i64 0) := by
    intro n
    induction n with
    | zero => rfl
    | succ n ih =>
      simp only [flatE, List.replicate_succ, List.flatMap_cons] at ih ⊢
      rw [ih, show (n + 1) * 2 = n * 2 + 1 + 1 from by omega]
      simp [List.replicate_succ]
  rw [h1]
  apply List.ext_getElem?
  intro j
  by_cases hj : j < n * 2
  · simp only [madeCells, Array.toList_map, List.getElem?_map, Array.toList_range, List.getElem?_range hj, List.getElem?_replicate, if_pos hj, Option.map_some]
    rcases Nat.mod_two_eq_zero_or_one j with h | h <;> simp [h]
  · simp [madeCells, hj]
theorem fill_step {es : List (Int × Int)} {m k : Nat} (h : es.length = m) (hk : k < m) : (es.take k ++ List.replicate (m - k) (0, 0)).set k (ea es k, eb es k) = es.take (k + 1) ++ List.replicate (m - (k + 1)) (0, 0) := by
  have hlen : (es.take k).length = k := by simp; omega
  rw [List.set_append_right _ _ (by omega), hlen, Nat.sub_self, show m - k = (m - (k + 1)) + 1 from by omega, List.replicate_succ, List.set_cons_zero, List.take_succ_eq_append_getElem (by omega), e_pair (by omega), List.append_assoc]
  rfl
/-! ### Graphs -/
/-- So many edges as have to be, of different vertices. -/
def WfP (n : Int) (es : List (Int × Int)) : Prop :=
  2 ≤ n ∧ n ≤ 20 ∧ n % 2 = 0 ∧ (es.length : Int) = 3 * n / 2 ∧ ∀ j, j < es.length → 0 ≤ ea es j ∧ ea es j ≤ n - 1 ∧ 0 ≤ eb es j ∧ eb es j ≤ n - 1 ∧ ea es j ≠ eb es j
/-- On how many ends of the first k edges a vertex is. -/
def degTo (es : List (Int × Int)) : Nat → Int → Int
  | 0, _ => 0
  | k + 1, v => degTo es k v + (if ea es k = v then 1 else 0) + (if eb es k = v then 1 else 0)
theorem degTo_bound (es : List (Int × Int)) (k : Nat) (v : Int) : 0 ≤ degTo es k v ∧ degTo es k v ≤ 2 * k := by
  induction k with
  | zero => simp [degTo]
  | succ k ih => simp only [degTo]; split <;> split <;> omega
def CubP (n : Int) (es : List (Int × Int)) : Prop := ∀ v : Int, 0 ≤ v → v < n → degTo es es.length v = 3
def SortP (es : List (Int × Int)) : Prop := ∀ j, j + 1 < es.length → ¬ (ea es (j + 1) < ea es j ∨ (ea es (j + 1) = ea es j ∧ eb es (j + 1) < eb es j))
/-- A graph. -/
def IsG (n : Int) (es : List (Int × Int)) : Prop := WfP n es ∧ CubP n es ∧ (∀ j, j < es.length → ea es j ≤ eb es j) ∧ SortP es
end Go.Proofs.YtnoneppmeaeicaaDoor
