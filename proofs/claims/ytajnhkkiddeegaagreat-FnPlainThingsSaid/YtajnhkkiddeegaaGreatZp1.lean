import Derived.Test.YtajnhkkiddeegaaGreatProg
import Derived.WalkKit
import Derived.Outline
import Derived.WalkLawsBesides
import Derived.Handy
import Derived.Lib.QuietBelow
import Derived.BigQuiet
import Derived.Lib.Hide
import Derived.Deep.RegionHeld3
import Derived.Deep.OwnRows
set_option linter.unusedVariables false
set_option linter.unusedSimpArgs false
namespace Go.Proofs.YtajnhkkiddeegaaGreat
open Go.RowKit Go.Sort
/-- The call returns v; of what was there nothing has turned. -/
def Ret (v : Value) (w : World) (e : Ending) (w' : World) : Prop := e = .returned v ∧ Below w.heap.size w w'
/-- The call returns v; the world is as it was. -/
def Is (v : Value) (w : World) (e : Ending) (w' : World) : Prop := e = .returned v ∧ w = w'
theorem bcell {W w1 : World} (hb : Below W.heap.size W w1) : (∀ b o, b < W.heap.size → w1.cell? ⟨b, o, none⟩ = W.cell? ⟨b, o, none⟩) ∧ (∀ b o, b < W.heap.size → w1.frozen? ⟨b, o, none⟩ = W.frozen? ⟨b, o, none⟩) :=
  ⟨fun b o h => hb.cell (p := ⟨b, o, none⟩) h, fun b o h => hb.frozen (p := ⟨b, o, none⟩) h⟩
theorem bsz {W w1 : World} (h : Below W.heap.size W w1) (k : Nat) (hk : k < W.heap.size) : k < w1.heap.size := Nat.lt_of_lt_of_le hk h.size
theorem below_of_rg {w w' : World} (h : ∃ p : Regrown, w' = grow (redrawn w p.d) p.os) : Below w.heap.size w w' := by
  obtain ⟨p, rfl⟩ := h
  exact below_regrown w p.d p.os
theorem cell_rg (w : World) (d : Nat) (os : Array Obj) (b o : Nat) (h : b < w.heap.size) : (grow (redrawn w d) os).cell? ⟨b, o, none⟩ = w.cell? ⟨b, o, none⟩ :=
  (below_regrown w d os).cell (p := ⟨b, o, none⟩) h
theorem Ret.rg {P : Program} {f : FuncId} {args : Array Value} {w : World} {d : Nat} {os : Array Obj} {v : Value}
    (h : Calls P f args (grow (redrawn w d) os) (Ret v (grow (redrawn w d) os))) : Calls P f args (grow (redrawn w d) os) fun e w'' => e = .returned v ∧ ∃ p : Regrown, w'' = grow (redrawn w p.d) p.os :=
  Calls.regrown_of h
theorem Is.ret {P : Program} {f : FuncId} {args : Array Value} {w : World} {v : Value} (h : Calls P f args w (Is v w)) : Calls P f args w (Ret v w) :=
  h.mono fun _ _ ⟨he, hw⟩ => ⟨he, hw ▸ Below.refl _ _⟩
theorem Is.rg {P : Program} {f : FuncId} {args : Array Value} {w : World} {d : Nat} {os : Array Obj} {v : Value}
    (h : Calls P f args (grow (redrawn w d) os) (Is v (grow (redrawn w d) os))) : Calls P f args (grow (redrawn w d) os) fun e w'' => e = .returned v ∧ ∃ p : Regrown, w'' = grow (redrawn w p.d) p.os :=
  Ret.rg (Is.ret h)
theorem ret_int {k : IntKind} {a b : Int} (h : a = b) : Ending.returned (.int k a) = .returned (.int k b) := by rw [h]
theorem ret_bool {a b : Bool} (h : a = b) : Ending.returned (.bool a) = .returned (.bool b) := by rw [h]
theorem _root_.Go.RowKit.Below.thenB {B : Nat} {w w1 w2 : World} (h : Below B w w1) (hB : B ≤ w1.heap.size) (k : Below w1.heap.size w1 w2) : Below B w w2 :=
  h.trans (k.mono hB)
/-- Two steps from the call's first world on. -/
theorem _root_.Go.RowKit.Below.andB {w w1 w2 : World} (h : Below w.heap.size w w1) (k : Below w1.heap.size w1 w2) : Below w.heap.size w w2 := h.thenB h.size k
/-- A box of two cells. -/
structure Box2 (w : World) (b : Nat) (v0 v1 : Value) : Prop where
  lt : b < w.heap.size
  c0 : w.cell? ⟨b, 0, none⟩ = some v0
  c1 : w.cell? ⟨b, 1, none⟩ = some v1
theorem Box2.below {w w' : World} {b : Nat} {v0 v1 : Value} (h : Box2 w b v0 v1) (hb : Below w.heap.size w w') : Box2 w' b v0 v1 :=
  ⟨Nat.lt_of_lt_of_le h.lt hb.size, (hb.cell (p := ⟨b, 0, none⟩) h.lt).trans h.c0, (hb.cell (p := ⟨b, 1, none⟩) h.lt).trans h.c1⟩
theorem Box2.made (w : World) (v0 v1 : Value) (t : TypeId) : Box2 (w.alloc (.cells #[v0, v1] t)) w.heap.size v0 v1 := ⟨by simp, by simp, by simp⟩
open Classical in
noncomputable def B (p : Prop) : Bool := decide p
theorem B_true {p : Prop} (h : p) : B p = true := by simp [B, h]
theorem B_false {p : Prop} (h : ¬ p) : B p = false := by simp [B, h]
theorem B_iff {p : Prop} : B p = true ↔ p := by simp [B]
theorem B_not {p : Prop} : B p = false ↔ ¬ p := by simp [B]
theorem B_congr {p q : Prop} (h : p ↔ q) : B p = B q := by rw [propext h]
theorem B_and (p q : Prop) : B (p ∧ q) = (B p && B q) := by by_cases h : p <;> by_cases h2 : q <;> simp [B, h, h2]
noncomputable def allB (m : Nat) (r : Nat → Bool) : Bool := B (∀ j, j < m → r j = true)
theorem allB_iff {m : Nat} {r : Nat → Bool} : allB m r = true ↔ ∀ j, j < m → r j = true := B_iff
theorem allB_not {m : Nat} {r : Nat → Bool} : allB m r = false ↔ ¬ ∀ j, j < m → r j = true := B_not
def inB (n l h : Int) : Bool := decide (l ≤ n ∧ n ≤ h)
theorem inB_true {n l h : Int} (h1 : l ≤ n) (h2 : n ≤ h) : inB n l h = true := by simp [inB, h1, h2]
theorem inB_false {n l h : Int} (h1 : ¬ (l ≤ n ∧ n ≤ h)) : inB n l h = false := by simp [inB]; intro; omega
theorem inB_iff {n l h : Int} : inB n l h = true ↔ l ≤ n ∧ n ≤ h := by simp [inB]
theorem inB_not {n l h : Int} : inB n l h = false ↔ ¬ (l ≤ n ∧ n ≤ h) := by rw [← inB_iff]; simp
def befB (a b c d : Int) : Bool := decide (a < c ∨ (a = c ∧ b < d))
theorem befB_iff {a b c d : Int} : befB a b c d = true ↔ (a < c ∨ (a = c ∧ b < d)) := by simp [befB]
theorem befB_not {a b c d : Int} : befB a b c d = false ↔ ¬ (a < c ∨ (a = c ∧ b < d)) := by rw [← befB_iff]; simp
def eqB (a b c d : Int) : Bool := decide (a = c ∧ b = d)
theorem eqB_iff {a b c d : Int} : eqB a b c d = true ↔ (a = c ∧ b = d) := by simp [eqB]
theorem eqB_not {a b c d : Int} : eqB a b c d = false ↔ ¬ (a = c ∧ b = d) := by rw [← eqB_iff]; simp
def ea (es : List (Int × Int)) (j : Nat) : Int := (es.getD j (0, 0)).1
def eb (es : List (Int × Int)) (j : Nat) : Int := (es.getD j (0, 0)).2
theorem e_pair {es : List (Int × Int)} {j : Nat} (h : j < es.length) : es[j] = (ea es j, eb es j) := by simp [ea, eb, h]
theorem es_ext {es fs : List (Int × Int)} (h : es.length = fs.length) (hj : ∀ j, j < es.length → ea es j = ea fs j ∧ eb es j = eb fs j) : es = fs := by
  apply List.ext_getElem h
  intro j h1 h2
  rw [e_pair h1, e_pair h2, (hj j h1).1, (hj j h1).2]
/-- A slice of edges in memory. -/
structure Eds (w : World) (b o m : Nat) (es : List (Int × Int)) : Prop where
  len : es.length = m
  blk : b < w.heap.size
  ca : ∀ j, j < m → w.cell? ⟨b, o + j * 2, none⟩ = some (.int .i64 (ea es j))
  cb : ∀ j, j < m → w.cell? ⟨b, o + j * 2 + 1, none⟩ = some (.int .i64 (eb es j))
theorem Eds.below {w w' : World} {b o m : Nat} {es : List (Int × Int)} (h : Eds w b o m es) (hb : Below w.heap.size w w') : Eds w' b o m es :=
  ⟨h.len, Nat.lt_of_lt_of_le h.blk hb.size, fun j hj => (hb.cell (p := ⟨b, o + j * 2, none⟩) h.blk).trans (h.ca j hj), fun j hj => (hb.cell (p := ⟨b, o + j * 2 + 1, none⟩) h.blk).trans (h.cb j hj)⟩
theorem Eds.upto {B : Nat} {w w' : World} {b o m : Nat} {es : List (Int × Int)} (h : Eds w b o m es) (hB : b < B) (hb : Below B w w') : Eds w' b o m es :=
  ⟨h.len, Nat.lt_of_lt_of_le h.blk hb.size, fun j hj => (hb.cell (p := ⟨b, o + j * 2, none⟩) hB).trans (h.ca j hj), fun j hj => (hb.cell (p := ⟨b, o + j * 2 + 1, none⟩) hB).trans (h.cb j hj)⟩
theorem Eds.alloc {w : World} {b o m : Nat} {es : List (Int × Int)} (h : Eds w b o m es) (x : Obj) : Eds (w.alloc x) b o m es :=
  h.below ((Below.refl _ _).alloc (Nat.le_refl _) _)
/-- The cells of a list of edges. -/
def flatE (es : List (Int × Int)) : List Value := es.flatMap fun e => [.int .i64 e.1, .int .i64 e.2]
theorem flatE_length (es : List (Int × Int)) : (flatE es).length = es.length * 2 := by
  induction es with
  | nil => rfl
  | cons e es ih => simp [flatE] at ih ⊢; omega
theorem flatE_at (es : List (Int × Int)) (j : Nat) (h : j < es.length) : (flatE es)[j * 2]? = some (.int .i64 (ea es j)) ∧ (flatE es)[j * 2 + 1]? = some (.int .i64 (eb es j)) := by
  induction es generalizing j with
  | nil => simp at h
  | cons e es ih =>
    cases j with
    | zero => simp [flatE, ea, eb]
    | succ j =>
      have := ih j (by simpa using h)
      simp only [flatE, List.flatMap_cons] at this ⊢
      rw [show (j + 1) * 2 = (j * 2) + 2 from by omega]
      simpa [ea, eb] using this
theorem flatE_set (l : List (Int × Int)) (k : Nat) (a b : Int) : ((flatE l).set (k * 2) (.int .i64 a)).set (k * 2 + 1) (.int .i64 b) = flatE (l.set k (a, b)) := by
  induction l generalizing k with
  | nil => simp [flatE]
  | cons e l ih =>
    cases k with
    | zero => simp [flatE]
    | succ k =>
      have := ih k
      simp only [flatE, List.flatMap_cons, List.set_cons_succ] at this ⊢
      rw [show (k + 1) * 2 = (k * 2 + 1) + 1 from by omega]
      simpa using this
/-- A row of edges of the call's own, from block 'base' on. -/
def OwnE (base : Nat) (w : World) (g m c : Nat) (es : List (Int × Int)) : Prop := es.length = m ∧ w.ownsRow base 78 2 (.slice (some ⟨g, 0, none⟩) m c) m (flatE es)
theorem OwnE.eds {base : Nat} {w : World} {g m c : Nat} {es : List (Int × Int)} (h : OwnE base w g m c es) : Eds w g 0 m es := by
  refine ⟨h.1, (h.2.lt g rfl).2, fun j hj => ?_, fun j hj => ?_⟩
  · rw [Nat.zero_add, h.2.cellAt (j * 2) (by omega)]
    exact (flatE_at es j (by rw [h.1]; exact hj)).1
  · rw [Nat.zero_add, h.2.cellAt (j * 2 + 1) (by omega)]
    exact (flatE_at es j (by rw [h.1]; exact hj)).2
theorem OwnE.below {base : Nat} {w w' : World} {g m c : Nat} {es : List (Int × Int)} (h : OwnE base w g m c es) (hb : Below w.heap.size w w') : OwnE base w' g m c es :=
  ⟨h.1, h.2.kept (row := none) ⟨hb.os, hb.tape, hb.output, hb.size, fun i hi _ => hb.block i hi⟩ (by simp [Value.ownBlock])⟩
theorem OwnE.ge {base : Nat} {w : World} {g m c : Nat} {es : List (Int × Int)} (h : OwnE base w g m c es) : base ≤ g ∧ g < w.heap.size := h.2.lt g rfl
theorem OwnE.store {base : Nat} {w : World} {g m c : Nat} {l : List (Int × Int)} (h : OwnE base w g m c l) (k : Nat) (a b : Int) :
    OwnE base ((w.setCell ⟨g, k * 2, none⟩ (.int .i64 a)).setCell ⟨g, k * 2 + 1, none⟩ (.int .i64 b)) g m c (l.set k (a, b)) := by
  have st1 := h.2.stored (k * 2) (.int .i64 a)
  have st2 := st1.1.stored (k * 2 + 1) (.int .i64 b)
  refine ⟨by simpa using h.1, ?_⟩
  have := st2.1
  rwa [flatE_set] at this
theorem OwnE.setOther {base : Nat} {w : World} {g m c : Nat} {l : List (Int × Int)} (h : OwnE base w g m c l) {a : Addr} (ha : a.block ≠ g) (v : Value) : OwnE base (w.setCell a v) g m c l :=
  ⟨h.1, h.2.kept (row := some a.block) ⟨rfl, rfl, rfl, by simp, fun k _ hk => Below.heap_setCell _ _ _ _ (fun e => hk (by rw [e]))⟩ (.inr (by simp only [Value.ownBlock, ne_eq, Option.some.injEq]; exact fun e => ha e.symm))⟩
theorem OwnE.mono {base base' : Nat} {w : World} {g m c : Nat} {l : List (Int × Int)} (h : OwnE base w g m c l) (hb : base' ≤ base) : OwnE base' w g m c l := by
  refine ⟨h.1, h.2.1, ?_⟩
  rcases h.2.2 with hn | ⟨g', cap, cur, e, hbg, r⟩
  · exact .inl hn
  · exact .inr ⟨g', cap, cur, e, Nat.le_trans hb hbg, r⟩
/-- The call returns new edges. -/
def RetE (es : List (Int × Int)) (w : World) (e : Ending) (w' : World) : Prop := ∃ g c, e = .returned (.slice (some ⟨g, 0, none⟩) es.length c) ∧ OwnE w.heap.size w' g es.length c es ∧ Below w.heap.size w w'
/-- The call returns a new graph. -/
def RetG (n : Int) (es : List (Int × Int)) (w : World) (e : Ending) (w' : World) : Prop := ∃ g c, e = .returned (.agg #[.int .i64 n, .slice (some ⟨g, 0, none⟩) es.length c]) ∧ OwnE w.heap.size w' g es.length c es ∧ Below w.heap.size w w'
/-- What came in: maybe nil. -/
def SrcE (w : World) (A : Option Addr) (m : Nat) (es : List (Int × Int)) : Prop := es.length = m ∧ (0 < m → ∃ b o, A = some ⟨b, o, none⟩ ∧ Eds w b o m es)
theorem SrcE.below {w w' : World} {A : Option Addr} {m : Nat} {es : List (Int × Int)} (h : SrcE w A m es) (hb : Below w.heap.size w w') : SrcE w' A m es :=
  ⟨h.1, fun hm => let ⟨b, o, e, he⟩ := h.2 hm; ⟨b, o, e, he.below hb⟩⟩
theorem flatE_zeros (n : Nat) : (madeCells #[.int .i64 0, .int .i64 0] (n * 2)).toList = flatE (List.replicate n (0, 0)) := by
  have h1 : ∀ n, flatE (List.replicate n (0, 0)) = List.replicate (n * 2) (.int .i64 0) := by
    intro n
    induction n with
    | zero => rfl
    | succ n ih =>
      simp only [flatE, List.replicate_succ, List.flatMap_cons] at ih ⊢
      rw [ih, show (n + 1) * 2 = n * 2 + 1 + 1 from by omega]
      simp [List.replicate_succ]
  rw [h1]
  apply List.ext_getElem?
  intro j
  by_cases hj : j < n * 2
  · simp only [madeCells, Array.toList_map, List.getElem?_map, Array.toList_range, List.getElem?_range hj, List.getElem?_replicate, if_pos hj, Option.map_some]
    rcases Nat.mod_two_eq_zero_or_one j with h | h <;> simp [h]
  · simp [madeCells, hj]
theorem fill_step {es : List (Int × Int)} {m k : Nat} (h : es.length = m) (hk : k < m) : (es.take k ++ List.replicate (m - k) (0, 0)).set k (ea es k, eb es k) = es.take (k + 1) ++ List.replicate (m - (k + 1)) (0, 0) := by
  have hlen : (es.take k).length = k := by simp; omega
  rw [List.set_append_right _ _ (by omega), hlen, Nat.sub_self, show m - k = (m - (k + 1)) + 1 from by omega, List.replicate_succ, List.set_cons_zero, List.take_succ_eq_append_getElem (by omega), e_pair (by omega), List.append_assoc]
  rfl
/-- So many edges as have to be, of different vertices. -/
def WfP (n : Int) (es : List (Int × Int)) : Prop :=
  2 ≤ n ∧ n ≤ 20 ∧ n % 2 = 0 ∧ (es.length : Int) = 3 * n / 2 ∧ ∀ j, j < es.length → 0 ≤ ea es j ∧ ea es j ≤ n - 1 ∧ 0 ≤ eb es j ∧ eb es j ≤ n - 1 ∧ ea es j ≠ eb es j
/-- On how many ends of the first k edges a vertex is. -/
def degTo (es : List (Int × Int)) : Nat → Int → Int
  | 0, _ => 0
  | k + 1, v => degTo es k v + (if ea es k = v then 1 else 0) + (if eb es k = v then 1 else 0)
theorem degTo_bound (es : List (Int × Int)) (k : Nat) (v : Int) : 0 ≤ degTo es k v ∧ degTo es k v ≤ 2 * k := by
  induction k with
  | zero => simp [degTo]
  | succ k ih => simp only [degTo]; split <;> split <;> omega
def CubP (n : Int) (es : List (Int × Int)) : Prop := ∀ v : Int, 0 ≤ v → v < n → degTo es es.length v = 3
def SortP (es : List (Int × Int)) : Prop := ∀ j, j + 1 < es.length → ¬ (ea es (j + 1) < ea es j ∨ (ea es (j + 1) = ea es j ∧ eb es (j + 1) < eb es j))
/-- A graph. -/
def IsG (n : Int) (es : List (Int × Int)) : Prop := WfP n es ∧ CubP n es ∧ (∀ j, j < es.length → ea es j ≤ eb es j) ∧ SortP es
end Go.Proofs.YtajnhkkiddeegaaGreat
namespace Go.Proofs.YtajnhkkiddeegaaGreat
open Go.RowKit Go.Sort
-- left out in this seat
theorem in_any (n l h : Int) (w : World) : Calls Tryz.prog 116 #[.int .i64 n, .int .i64 l, .int .i64 h] w (Is (.bool (inB n l h)) w) := by
  go_enter Tryz.func116, Tryz.ntmps116
  go_wp2
  all_goals (go_ret; exact ⟨ret_bool (by simp [inB, *]; try omega), rfl⟩)
theorem before_any (a b c d : Int) (w : World) : Calls Tryz.prog 109 #[.agg #[.int .i64 a, .int .i64 b], .agg #[.int .i64 c, .int .i64 d]] w (Ret (.bool (befB a b c d)) w) := by
  go_enter Tryz.func109, Tryz.ntmps109
  go_wp2
  all_goals (go_ret; exact ⟨ret_bool (by simp [befB, *]), by go_grown⟩)
-- left out in this seat
noncomputable def endsC (n : Int) (es : List (Int × Int)) : Int := if B (WfP n es) then 0 else 2
theorem endsC_no {n : Int} {es : List (Int × Int)} (h : ¬ WfP n es) : 2 = endsC n es := by simp [endsC, B_false h]
theorem endsC_yes {n : Int} {es : List (Int × Int)} (h : WfP n es) : 0 = endsC n es := by simp [endsC, B_true h]
set_option maxHeartbeats 400000 in
theorem ends_any (n : Int) (b o m c : Nat) (es : List (Int × Int)) (w : World) (h : Eds w b o m es) (hm : m ≤ 1048576) :
    Calls Tryz.prog 107 #[.int .i64 n, .slice (some ⟨b, o, none⟩) m c] w (Ret (.int .i64 (endsC n es)) w) := by
  have KC := cell_rg
  have hl := h.len
  by_cases h1 : 2 ≤ n ∧ n ≤ 20
  · obtain ⟨h1a, h1b⟩ := h1
    have hB : inB n 2 20 = true := inB_true h1a h1b
    by_cases h2 : n % 2 = 0
    · by_cases h3 : (m : Int) = 3 * n / 2
      · have H3 : Hid ((m : Int) = 3 * n / 2 ∧ n % 2 = 0 ∧ es.length = m) := ⟨h3, h2, hl⟩
        have h3' : ((m : Int) != 3 * n / 2) = false := by simp [h3]
        have h2' : (n % 2 != 0) = false := by simp [h2]
        clear h3 h2 hl
        go_enter Tryz.func107, Tryz.ntmps107
        go_wp2_with (go_at_call 116; refine (in_any _ _ _ _).mono ?_; rintro e w' ⟨rfl, rfl⟩)
        go_loopw [5] (fun i wr => ∃ k : Nat, k ≤ m ∧ i = .int .i64 k ∧ Hid (∀ j, j < k → 0 ≤ ea es j ∧ ea es j ≤ n - 1 ∧ 0 ≤ eb es j ∧ eb es j ≤ n - 1 ∧ ea es j ≠ eb es j) ∧ Below w.heap.size w wr) (fun i _ => m - (intOf i).toNat)
        case atStart => exact ⟨0, Nat.zero_le _, rfl, fun j hj => by omega, Below.refl _ _⟩
        case round =>
          obtain ⟨k, hk, rfl, HP, hbw⟩ := hrel
          have E := h.below hbw
          by_cases hlt : k < m
          · have e1 := E.ca k hlt
            have e2 := E.cb k hlt
            have eb1 := E.blk
            have hwn : IntKind.i64.wrap (n - 1) = n - 1 := IntWalk.i64_in _ (by omega)
            cases hA : inB (ea es k) 0 (n - 1) with
            | false =>
              have hno : ¬ WfP n es := fun hw => inB_not.1 hA (by have := hw.2.2.2.2 k (by have := h.len; omega); exact ⟨this.1, this.2.1⟩)
              go_wp2_with fail
              (refine wp_region_quiet_below (by kernel_rfl) (by kernel_rfl) ?_
               repeat (any_goals (go_big_quiet_step (first | (go_at_call 116; exact Is.rg (in_any _ _ _ _)))))
               all_goals (refine wpQuiet_nil ?_; intro wq1 hq1; replace hq1 := below_of_rg hq1))
              go_wp2
              go_ret
              exact ⟨ret_int (endsC_no hno), hbw.andB hq1⟩
            | true =>
              cases hA2 : inB (eb es k) 0 (n - 1) with
              | false =>
                have hno : ¬ WfP n es := fun hw => inB_not.1 hA2 (by have := hw.2.2.2.2 k (by have := h.len; omega); exact ⟨this.2.2.1, this.2.2.2.1⟩)
                go_wp2_with fail
                (refine wp_region_quiet_below (by kernel_rfl) (by kernel_rfl) ?_
                 repeat (any_goals (go_big_quiet_step (first | (go_at_call 116; exact Is.rg (in_any _ _ _ _)))))
                 all_goals (refine wpQuiet_nil ?_; intro wq1 hq1; replace hq1 := below_of_rg hq1))
                go_wp2
                go_ret
                exact ⟨ret_int (endsC_no hno), hbw.andB hq1⟩
              | true =>
                cases hA3 : (ea es k == eb es k) with
                | true =>
                  have hno : ¬ WfP n es := fun hw => (hw.2.2.2.2 k (by have := h.len; omega)).2.2.2.2 (by simpa using hA3)
                  go_wp2_with fail
                  (refine wp_region_quiet_below (by kernel_rfl) (by kernel_rfl) ?_
                   repeat (any_goals (go_big_quiet_step (first | (go_at_call 116; exact Is.rg (in_any _ _ _ _)))))
                   all_goals (refine wpQuiet_nil ?_; intro wq1 hq1; replace hq1 := below_of_rg hq1))
                  go_wp2
                  go_ret
                  exact ⟨ret_int (endsC_no hno), hbw.andB hq1⟩
                | false =>
                  have HP' : Hid (∀ j, j < k + 1 → 0 ≤ ea es j ∧ ea es j ≤ n - 1 ∧ 0 ≤ eb es j ∧ eb es j ≤ n - 1 ∧ ea es j ≠ eb es j) := by
                    intro j hj
                    by_cases hjk : j < k
                    · exact HP.out j hjk
                    · obtain rfl : j = k := by omega
                      have a1 := inB_iff.1 hA
                      have a2 := inB_iff.1 hA2
                      exact ⟨a1.1, a1.2, a2.1, a2.2, by simpa using hA3⟩
                  go_wp2_with fail
                  (refine wp_region_quiet_below (by kernel_rfl) (by kernel_rfl) ?_
                   repeat (any_goals (go_big_quiet_step (first | (go_at_call 116; exact Is.rg (in_any _ _ _ _)))))
                   all_goals (refine wpQuiet_nil ?_; intro wq1 hq1; replace hq1 := below_of_rg hq1))
                  go_wp2
                  go_roundw
                  case rel => exact ⟨k + 1, by omega, by go_num, HP', hbw.andB hq1⟩
                  case measure => simp [intOf]; omega
          · have hkm : k = m := by omega
            have hyes : WfP n es := ⟨h1a, h1b, H3.out.2.1, by rw [H3.out.2.2]; exact H3.out.1, fun j hj => HP.out j (by rw [H3.out.2.2] at hj; omega)⟩
            go_wp2_with fail
            go_ret
            exact ⟨ret_int (endsC_yes hyes), hbw⟩
      · have h3' : ((m : Int) != 3 * n / 2) = true := by simp [h3]
        have h2' : (n % 2 != 0) = false := by simp [h2]
        have hno : ¬ WfP n es := fun hw => h3 (by have := hw.2.2.2.1; omega)
        clear h3 h2 hl
        go_enter Tryz.func107, Tryz.ntmps107
        go_wp2_with (go_at_call 116; refine (in_any _ _ _ _).mono ?_; rintro e w' ⟨rfl, rfl⟩)
        go_ret
        exact ⟨ret_int (endsC_no hno), Below.refl _ _⟩
    · have h2' : (n % 2 != 0) = true := by simp; omega
      have hno : ¬ WfP n es := fun hw => h2 hw.2.2.1
      clear h2 hl
      go_enter Tryz.func107, Tryz.ntmps107
      go_wp2_with (go_at_call 116; refine (in_any _ _ _ _).mono ?_; rintro e w' ⟨rfl, rfl⟩)
      go_ret
      exact ⟨ret_int (endsC_no hno), Below.refl _ _⟩
  · have hB : inB n 2 20 = false := inB_false h1
    have hno : ¬ WfP n es := fun hw => h1 ⟨hw.1, hw.2.1⟩
    clear h1 hl
    go_enter Tryz.func107, Tryz.ntmps107
    go_wp2_with (go_at_call 116; refine (in_any _ _ _ _).mono ?_; rintro e w' ⟨rfl, rfl⟩)
    go_ret
    exact ⟨ret_int (endsC_no hno), Below.refl _ _⟩
theorem inf2 : (Tryz.prog.info? 2).map (fun i => (i.zero, i.size, i.bytes)) = some (some (.int .i64 0), 1, 8) := by kernel_rfl
set_option maxHeartbeats 400000 in
theorem cubic_any (N : Nat) (b o m c : Nat) (es : List (Int × Int)) (w : World) (h : Eds w b o m es) (hm : m ≤ 1048576) (hwf : WfP N es) :
    Calls Tryz.prog 108 #[.int .i64 N, .slice (some ⟨b, o, none⟩) m c] w (Ret (.bool (B (CubP N es))) w) := by
  have hN : N ≤ 20 := by have := hwf.2.1; omega
  have hmk := run_make_row' (P := Tryz.prog) 34 2 (.int .i64 0) 8 Tryz.underlying34 inf2 rfl .i64 .i64 N (by omega) (by omega)
  have hl := Lib.hid h.len
  have HWF : Hid (WfP N es) := hwf
  clear hwf
  go_enter Tryz.func108, Tryz.ntmps108
  go_wp2_with fail
  go_loopw [6] (fun i wr => ∃ k : Nat, k ≤ m ∧ i = .int .i64 k ∧ wr.rowIs w.heap.size 2 N (fun v => .int .i64 (degTo es k v)) ∧ Below w.heap.size w wr) (fun i _ => m - (intOf i).toNat)
  case atStart => exact ⟨0, Nat.zero_le _, rfl, (World.rowIs_made w _ N _).congr (fun _ _ => rfl), (Below.refl _ _).alloc (Nat.le_refl _) _⟩
  case round =>
    obtain ⟨k, hk, rfl, hrow, hbw⟩ := hrel
    by_cases hlt : k < m
    · have hw4 := HWF.out.2.2.2.2 k (by rw [hl.out]; exact hlt)
      obtain ⟨x, hx⟩ : ∃ x : Nat, ea es k = (x : Int) := ⟨(ea es k).toNat, by omega⟩
      obtain ⟨y, hy⟩ : ∃ y : Nat, eb es k = (y : Int) := ⟨(eb es k).toNat, by omega⟩
      have hxN : x < N := by omega
      have hyN : y < N := by omega
      have hxy : x ≠ y := by omega
      have E := h.upto h.blk hbw
      have e1 := E.ca k hlt
      have e2 := E.cb k hlt
      have d1 := degTo_bound es k x
      have d2 := degTo_bound es k y
      have c1 := hrow.cell hxN
      have f1 := hrow.frozen x
      have f2 := hrow.frozen y
      have hrow1 := hrow.set x (.int .i64 (degTo es k x + 1))
      have c2 := hrow1.cell hyN
      have hrow2 := hrow1.set y (.int .i64 (degTo es k y + 1))
      have hbl := Nat.ne_of_lt h.blk
      have e2' : (wr.setCell ⟨w.heap.size, x, none⟩ (.int .i64 (degTo es k x + 1))).cell? ⟨b, o + k * 2 + 1, none⟩ = some (.int .i64 (eb es k)) := by
        rw [World.cell?_setCell_other _ _ _ _ (fun hh => hbl (congrArg Addr.block hh).symm)]; exact e2
      rw [if_neg (Ne.symm hxy)] at c2
      clear hw4 hl E
      go_wp2_with fail
      go_roundw
      case rel =>
        refine ⟨k + 1, by omega, by go_num, hrow2.congr ?_, (hbw.setCell (Nat.le_refl _) _).setCell (Nat.le_refl _) _⟩
        intro v hv
        simp only [degTo, hx, hy]
        by_cases h1 : v = y
        · subst h1
          rw [if_pos rfl, if_neg (by omega), if_pos rfl]; go_num
        · rw [if_neg h1, if_neg (show ¬ (y : Int) = (v : Int) by omega)]
          by_cases h2 : v = x
          · subst h2
            rw [if_pos rfl, if_pos rfl]; go_num
          · rw [if_neg h2, if_neg (show ¬ (x : Int) = (v : Int) by omega)]; go_num
      case measure => simp [intOf]; omega
    · obtain rfl : k = m := by omega
      go_wp2_with fail
      go_loop [7] (fun i => ∃ v : Nat, v ≤ N ∧ i = .int .i64 v ∧ Hid (∀ u : Nat, u < v → degTo es k u = 3)) (fun i => N - (intOf i).toNat)
      case atStart => exact ⟨0, Nat.zero_le _, rfl, fun u hu => by omega⟩
      case round =>
        obtain ⟨v, hv, rfl, HP⟩ := hrel
        by_cases hvN : v < N
        · have cv := hrow.cell hvN
          cases h3 : (degTo es k v != 3) with
          | true =>
            go_wp2_with fail
            go_ret
            exact ⟨ret_bool (B_false fun hc => by have := hc v (by omega) (by omega); rw [hl.out] at this; simp [this] at h3).symm, hbw⟩
          | false =>
            have HP' : Hid (∀ u : Nat, u < v + 1 → degTo es k u = 3) := fun u hu => by
              by_cases huv : u < v
              · exact HP.out u huv
              · obtain rfl : u = v := by omega
                simpa using h3
            go_wp2_with fail
            go_round
            case rel => exact ⟨v + 1, by omega, by go_num, HP'⟩
            case measure => simp [intOf]; omega
        · go_wp2_with fail
          go_ret
          exact ⟨ret_bool (B_true fun u h0 h1 => by
            obtain ⟨u, rfl⟩ := Int.eq_ofNat_of_zero_le h0
            rw [hl.out]; exact HP.out u (by omega)).symm, hbw⟩
theorem isG_no1 {n : Int} {es : List (Int × Int)} (h : ¬ WfP n es) : B (IsG n es) = false := B_false fun x => h x.1
theorem isG_no2 {n : Int} {es : List (Int × Int)} (h : ¬ CubP n es) : B (IsG n es) = false := B_false fun x => h x.2.1
set_option maxHeartbeats 1000000 in
theorem l01Is_any (n : Int) (b o m c : Nat) (es : List (Int × Int)) (w : World) (h : Eds w b o m es) (hm : m ≤ 1048576) :
    Calls Tryz.prog 59 #[.agg #[.int .i64 n, .slice (some ⟨b, o, none⟩) m c]] w (Ret (.bool (B (IsG n es))) w) := by
  have KC := cell_rg
  have hl := Lib.hid h.len
  have hbl := h.blk
  by_cases hwf : WfP n es
  · have hE : endsC n es = 0 := (endsC_yes hwf).symm
    obtain ⟨N, rfl⟩ : ∃ N : Nat, n = N := ⟨n.toNat, by have := hwf.1; omega⟩
    have HWF := Lib.hid hwf
    clear hwf
    cases hC : B (CubP N es) with
    | false =>
      have hno := isG_no2 (n := N) (B_not.1 hC)
      go_enter Tryz.func59, Tryz.ntmps59
      go_wp2_with fail
      refine (ends_any _ _ _ _ _ es _ (h.alloc _) hm).mono ?_
      rintro e w1 ⟨rfl, hb1⟩
      have hc1 := (bcell hb1).1
      have s1 := bsz hb1 w.heap.size (by simp)
      go_wp2_with fail
      refine (cubic_any _ _ _ _ _ es _ ((h.alloc _).below hb1) hm HWF.out).mono ?_
      rintro e w2 ⟨rfl, hb2⟩
      go_wp2_with fail
      go_ret
      exact ⟨ret_bool hno.symm, ((by go_grown : Below _ _ (w.alloc _)).thenB (by simp) hb1).andB hb2⟩
    | true =>
      go_enter Tryz.func59, Tryz.ntmps59
      go_wp2_with fail
      refine (ends_any _ _ _ _ _ es _ (h.alloc _) hm).mono ?_
      rintro e w1 ⟨rfl, hb1⟩
      have hc1 := (bcell hb1).1
      have s1 := bsz hb1 w.heap.size (by simp)
      go_wp2_with fail
      refine (cubic_any _ _ _ _ _ es _ ((h.alloc _).below hb1) hm HWF.out).mono ?_
      rintro e w2 ⟨rfl, hb2⟩
      have hb := (by go_grown : Below w.heap.size w (w.alloc (Obj.cells #[Value.int IntKind.i64 N, Value.slice (some ⟨b, o, none⟩) m c] 26)))
      have hbw := (hb.thenB (by simp) hb1).andB hb2
      have x0 : w2.cell? ⟨w.heap.size, 0, none⟩ = some (.int .i64 N) := by rw [(bcell hb2).1 _ _ s1, hc1 _ _ (by simp)]; simp
      have x1 : w2.cell? ⟨w.heap.size, 1, none⟩ = some (.slice (some ⟨b, o, none⟩) m c) := by rw [(bcell hb2).1 _ _ s1, hc1 _ _ (by simp)]; simp
      have s2 := bsz hb2 _ s1
      clear hb1 hb2 hc1 s1 hb w1
      go_wp2_with fail
      go_loopw [3] (fun i wr => ∃ k : Nat, k ≤ m ∧ i = .int .i64 k ∧ Hid (∀ j, j < k → ea es j ≤ eb es j ∧ (0 < j → befB (ea es j) (eb es j) (ea es (j - 1)) (eb es (j - 1)) = false)) ∧ Below w2.heap.size w2 wr) (fun i _ => m - (intOf i).toNat)
      case atStart => exact ⟨0, Nat.zero_le _, rfl, fun j hj => by omega, Below.refl _ _⟩
      case round =>
        obtain ⟨k, hk, rfl, HP, hbr⟩ := hrel
        have y0 := (hbr.cell (p := ⟨w.heap.size, 0, none⟩) s2).trans x0
        have y1 := (hbr.cell (p := ⟨w.heap.size, 1, none⟩) s2).trans x1
        have s3 := bsz hbr _ s2
        by_cases hlt : k < m
        · have E := h.below (hbw.andB hbr)
          have e1 := E.ca k hlt
          have e2 := E.cb k hlt
          have eb1 := E.blk
          by_cases hA : eb es k < ea es k
          · have hA' : decide (eb es k < ea es k) = true := by simp [hA]
            go_wp2_with fail
            (refine wp_region_quiet_below (by kernel_rfl) (by kernel_rfl) ?_
             repeat (any_goals (go_big_quiet_step (first | fail)))
             all_goals (refine wpQuiet_nil ?_; intro wq1 hq1; replace hq1 := below_of_rg hq1))
            go_wp2_with fail
            go_ret
            exact ⟨ret_bool (B_false fun x => by have := x.2.2.1 k (by rw [hl.out]; exact hlt); omega).symm, (hbw.andB hbr).andB hq1⟩
          · have hA' : decide (eb es k < ea es k) = false := by simp; omega
            by_cases hk0 : k = 0
            · subst hk0
              simp only [Nat.zero_mul, Nat.add_zero] at e1 e2
              have HP' : Hid (∀ j, j < 0 + 1 → ea es j ≤ eb es j ∧ (0 < j → befB (ea es j) (eb es j) (ea es (j - 1)) (eb es (j - 1)) = false)) := fun j hj => by
                obtain rfl : j = 0 := by omega
                exact ⟨by omega, fun h => by omega⟩
              go_wp2_with fail
              (refine wp_region_quiet_below (by kernel_rfl) (by kernel_rfl) ?_
               repeat (any_goals (go_big_quiet_step (first | fail)))
               all_goals (refine wpQuiet_nil ?_; intro wq1 hq1; replace hq1 := below_of_rg hq1))
              go_wp2_with fail
              go_roundw
              case rel => exact ⟨1, by omega, by go_num, HP', hbr.andB hq1⟩
              case measure => simp [intOf]; omega
            · obtain ⟨k, rfl⟩ : ∃ k', k = k' + 1 := ⟨k - 1, by omega⟩
              have e3 := E.ca k (by omega)
              have e4 := E.cb k (by omega)
              have hw1 : IntKind.i64.wrap (k : Int) = k := IntWalk.i64_in _ (by omega)
              cases hBf : befB (ea es (k + 1)) (eb es (k + 1)) (ea es k) (eb es k) with
              | true =>
                go_wp2_with fail
                (refine wp_region_quiet_below (by kernel_rfl) (by kernel_rfl) ?_
                 repeat (any_goals (go_big_quiet_step (first | (go_at_call 109; exact Ret.rg (before_any _ _ _ _ _)))))
                 all_goals (refine wpQuiet_nil ?_; intro wq1 hq1; replace hq1 := below_of_rg hq1))
                go_wp2_with fail
                go_ret
                exact ⟨ret_bool (B_false fun x => x.2.2.2 k (by rw [hl.out]; exact hlt) (befB_iff.1 hBf)).symm, (hbw.andB hbr).andB hq1⟩
              | false =>
                have HP' : Hid (∀ j, j < (k + 1) + 1 → ea es j ≤ eb es j ∧ (0 < j → befB (ea es j) (eb es j) (ea es (j - 1)) (eb es (j - 1)) = false)) := fun j hj => by
                  by_cases hjk : j < k + 1
                  · exact HP.out j hjk
                  · obtain rfl : j = k + 1 := by omega
                    exact ⟨by omega, fun _ => by simpa using hBf⟩
                go_wp2_with fail
                (refine wp_region_quiet_below (by kernel_rfl) (by kernel_rfl) ?_
                 repeat (any_goals (go_big_quiet_step (first | (go_at_call 109; exact Ret.rg (before_any _ _ _ _ _)))))
                 all_goals (refine wpQuiet_nil ?_; intro wq1 hq1; replace hq1 := below_of_rg hq1))
                go_wp2_with fail
                go_roundw
                case rel => exact ⟨k + 1 + 1, by omega, by go_num, HP', hbr.andB hq1⟩
                case measure => simp [intOf]; omega
        · go_wp2_with fail
          go_ret
          refine ⟨ret_bool (B_true ⟨HWF.out, B_iff.1 hC, fun j hj => (HP.out j (by have := hl.out; omega)).1, fun j hj => ?_⟩).symm, hbw.andB hbr⟩
          have := (HP.out (j + 1) (by have := hl.out; omega)).2 (by omega)
          exact befB_not.1 this
  · have hE : endsC n es = 2 := (endsC_no hwf).symm
    have hno := isG_no1 hwf
    clear hwf
    go_enter Tryz.func59, Tryz.ntmps59
    go_wp2_with fail
    refine (ends_any _ _ _ _ _ es _ (h.alloc _) hm).mono ?_
    rintro e w1 ⟨rfl, hb1⟩
    go_wp2_with fail
    go_ret
    exact ⟨ret_bool hno.symm, (by go_grown : Below _ _ (w.alloc _)).thenB (by simp) hb1⟩
end Go.Proofs.YtajnhkkiddeegaaGreat
namespace Go.Proofs.YtajnhkkiddeegaaGreat
open Go.RowKit Go.Sort
noncomputable def szE (m : Nat) (l : Int) : Int := if l - m < 0 then -1 else l - m
theorem infE : (Tryz.prog.info? 78).map (fun i => (i.zero, i.size, i.bytes)) = some (some (.agg #[.int .i64 0, .int .i64 0]), 2, 16) := by kernel_rfl
-- left out in this seat
-- left out in this seat
-- left out in this seat
-- left out in this seat
end Go.Proofs.YtajnhkkiddeegaaGreat
