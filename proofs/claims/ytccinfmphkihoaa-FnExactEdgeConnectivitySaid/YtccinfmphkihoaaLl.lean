import Derived.Test.YtccinfmphkihoaaFb
namespace Go.Proofs.Ytccinfmphkihoaa
open Go.RowKit Go.Sort
/-! ### Lists of lists of the call's own -/
def ra (rows : List (List Int)) (j : Nat) : List Int := rows.getD j []
theorem ra_app_lt {rows : List (List Int)} {xs : List Int} {j : Nat} (h : j < rows.length) : ra (rows ++ [xs]) j = ra rows j := by simp [ra, List.getElem?_append_left h]
theorem ra_app_at {rows : List (List Int)} {xs : List Int} : ra (rows ++ [xs]) rows.length = xs := by simp [ra]
def apart (A B : Option Addr) : Prop := blkOf A = none ∨ blkOf A ≠ blkOf B
def rowV (As : Nat → Option Addr) (cs : Nat → Nat) (rows : List (List Int)) (m : Nat) : List Value := (List.range m).map fun j => .slice (As j) (ra rows j).length (cs j)
theorem rowV_at {As : Nat → Option Addr} {cs : Nat → Nat} {rows : List (List Int)} {m j : Nat} (h : j < m) : (rowV As cs rows m)[j]? = some (.slice (As j) (ra rows j).length (cs j)) := by simp [rowV, h]
def OwnLL (base top : Nat) (w : World) (A : Option Addr) (m c : Nat) (rows : List (List Int)) : Prop :=
  rows.length = m ∧ top ≤ w.heap.size ∧ (∀ g, blkOf A = some g → g < top) ∧ ∃ (As : Nat → Option Addr) (cs : Nat → Nat), w.ownsRow base 34 1 (.slice A m c) m (rowV As cs rows m) ∧
    (∀ j, j < m → OwnL base w (As j) (ra rows j).length (cs j) (ra rows j) ∧ (∀ g, blkOf (As j) = some g → g < top) ∧ apart (As j) A) ∧ ∀ i j, i < j → j < m → apart (As i) (As j)
theorem OwnLL.nil (base : Nat) (w : World) : OwnLL base w.heap.size w none 0 0 [] :=
  ⟨rfl, Nat.le_refl _, (fun g h => by cases h), fun _ => none, fun _ => 0, World.ownsRow_nil _ _ _ _, (fun j hj => by omega), (fun i j _ hj => by omega)⟩
theorem OwnLL.empty {base : Nat} (w : World) (hb : base ≤ w.heap.size) : OwnLL base (w.heap.size + 1) (w.alloc (.cells #[] 34)) (some ⟨w.heap.size, 0, none⟩) 0 0 [] :=
  ⟨rfl, by simp, fun g h => by simp [blkOf] at h; omega, fun _ => none, fun _ => 0, ⟨rfl, .inr ⟨w.heap.size, 0, #[], rfl, hb, heap_alloc_new w _, Nat.le_refl _, by unfold maxLen; omega, rfl, rfl⟩⟩, (fun j hj => by omega), (fun i j _ hj => by omega)⟩
theorem OwnLL.raise {base top top' : Nat} {w : World} {A : Option Addr} {m c : Nat} {rows : List (List Int)} (h : OwnLL base top w A m c rows) (h1 : top ≤ top') (h2 : top' ≤ w.heap.size) : OwnLL base top' w A m c rows := by
  obtain ⟨hl, ht, hA, As, cs, ho, hr, hp⟩ := h
  exact ⟨hl, h2, fun g hg => Nat.lt_of_lt_of_le (hA g hg) h1, As, cs, ho, fun j hj => ⟨(hr j hj).1, fun g hg => Nat.lt_of_lt_of_le ((hr j hj).2.1 g hg) h1, (hr j hj).2.2⟩, hp⟩
theorem OwnLL.kept {base top : Nat} {w w' : World} {A : Option Addr} {m c : Nat} {rows : List (List Int)} {row : Option Nat} (h : OwnLL base top w A m c rows) (hg : w.grownBy w' row) (hr : ∀ k, row = some k → top ≤ k) : OwnLL base top w' A m c rows := by
  obtain ⟨hl, ht, hA, As, cs, ho, hro, hp⟩ := h
  refine ⟨hl, Nat.le_trans ht hg.size, hA, As, cs, ?_, fun j hj => ⟨(hro j hj).1.kept hg ?_, (hro j hj).2⟩, hp⟩
  · have hne : (Value.slice A m c).ownBlock = none ∨ (Value.slice A m c).ownBlock ≠ row := by
      cases A with
      | none => exact .inl rfl
      | some a => exact .inr (fun e => by have := hr a.block e.symm; have := hA a.block rfl; omega)
    exact ho.kept hg hne
  · cases e : blkOf (As j) with
    | none => exact .inl rfl
    | some g => exact .inr (fun e2 => by have := hr g e2.symm; have := (hro j hj).2.1 g e; omega)
theorem OwnLL.below {base top : Nat} {w w' : World} {A : Option Addr} {m c : Nat} {rows : List (List Int)} (h : OwnLL base top w A m c rows) (hb : Below w.heap.size w w') : OwnLL base top w' A m c rows :=
  h.kept (row := none) (below_grownBy hb none) (fun k e => by cases e)
theorem OwnLL.mono {base base' top : Nat} {w : World} {A : Option Addr} {m c : Nat} {rows : List (List Int)} (h : OwnLL base top w A m c rows) (hb : base' ≤ base) : OwnLL base' top w A m c rows := by
  obtain ⟨hl, ht, hA, As, cs, ho, hr, hp⟩ := h
  exact ⟨hl, ht, hA, As, cs, ⟨ho.1, ho.2.imp id fun ⟨g, cap, cur, e, hg, r⟩ => ⟨g, cap, cur, e, Nat.le_trans hb hg, r⟩⟩, fun j hj => ⟨(hr j hj).1.mono hb, (hr j hj).2⟩, hp⟩
/-- What is read at a place. -/
theorem OwnLL.at {base top : Nat} {w : World} {A : Option Addr} {m c : Nat} {rows : List (List Int)} (h : OwnLL base top w A m c rows) {j : Nat} (hj : j < m) :
    ∃ g Aj cj, A = some ⟨g, 0, none⟩ ∧ base ≤ g ∧ g < w.heap.size ∧ w.cell? ⟨g, j, none⟩ = some (.slice Aj (ra rows j).length cj) ∧ OwnL base w Aj (ra rows j).length cj (ra rows j) := by
  obtain ⟨hl, ht, hA, As, cs, ho, hr, hp⟩ := h
  rcases ho.2 with ⟨_, h0⟩ | ⟨g, cap, cur, e, hb, hg, _⟩
  · omega
  · injection e with e1 e2 e3
    subst e1
    refine ⟨g, As j, cs j, rfl, hb, (Array.getElem?_eq_some_iff.1 hg).1, ?_, (hr j hj).1⟩
    rw [ho.cellAt j (by omega)]; exact rowV_at hj
theorem OwnLL.blk {base top : Nat} {w : World} {A : Option Addr} {m c : Nat} {rows : List (List Int)} (h : OwnLL base top w A m c rows) : ∀ g, blkOf A = some g → base ≤ g ∧ g < top := fun g hg => by
  obtain ⟨_, _, hA, As, cs, ho, _⟩ := h
  refine ⟨?_, hA g hg⟩
  cases A with
  | none => cases hg
  | some a => exact (ho.lt g (by simp only [blkOf, Option.map_some, Option.some.injEq] at hg; simp [Value.ownBlock, hg])).1
def RetLL (rows : List (List Int)) (w : World) (e : Ending) (w' : World) : Prop := ∃ A c, e = .returned (.slice A rows.length c) ∧ OwnLL w.heap.size w'.heap.size w' A rows.length c rows ∧ Below w.heap.size w w'
theorem infR : (Try.prog.info? 34).map (fun i => (i.zero, i.size, i.bytes)) = some (some (.slice none 0 0), 1, 24) := by kernel_rfl
/-- One row more, at the operation. -/
theorem wp_appR {o : Oper} {a : Act} {K : Act → World → Prop} {Q : Exit → Act → World → Prop} {s x : Operand}
    (ho : o.op = .call { callee := .builtin .append, args := #[s, x], argTypes := #[40, 40] })
    {base top : Nat} {A : Option Addr} {m c : Nat} {rows : List (List Int)} {w1 : World} {B : Nat} {T : TypeId} {fr : Nat × Nat} {A1 : Option Addr} {l1 c1 : Nat} {xs : List Int} (hs : a.eval s = .slice A m c) (hx : a.eval x = .slice (some ⟨B, 0, none⟩) 1 1)
    (hB : w1.heap[B]? = some (.cells #[.slice A1 l1 c1] T fr)) (hl1 : xs.length = l1)
    (hown : OwnLL base top w1 A m c rows) (hrow : OwnL base w1 A1 l1 c1 xs) (hnew : ∀ g, blkOf A1 = some g → top ≤ g) (hbase : base ≤ w1.heap.size) (hm : m ≤ 1048576)
    (h : ∀ A' c' w', OwnLL base w'.heap.size w' A' (m + 1) c' (rows ++ [xs]) → w1.grownBy w' (blkOf A) → LiesAt A A' w1 → K (a.put o.dst (.slice A' (m + 1) c')) w') :
    o.wp Try.prog a w1 K Q := by
  subst hl1
  obtain ⟨i0, hi, hz0, hz1, hz2⟩ := info_parts infR
  obtain ⟨hl, ht, hA, As, cs, hw, hr, hp⟩ := hown
  refine wp_append_lies w1 s x 40 ho base 34 i0 (.slice none 0 0) 1 24 Try.underlying40 hi hz0 hz1 hz2 rfl (by decide) (.slice A m c) m (rowV As cs rows m) hs hw
    ⟨B, 0, none⟩ 1 1 [.slice A1 xs.length c1] hx rfl (fun j u hj => by
      match j, hj with
      | 0, hj =>
        simp only [List.getElem?_cons_zero, Option.some.injEq] at hj
        subst hj
        rw [Addr.add_lit, cell_of_row w1 B _ _ _ _ hB]; rfl) (fun u hu => by simp at hu; subst hu; rfl) (by decide) (by unfold maxLen; omega) (by omega) hbase _ rfl ?_
  intro g cap w2 hown' hgrow hat hlt
  have e : (Value.slice A m c).ownBlock = blkOf A := by cases A <;> rfl
  rw [e] at hgrow hat
  have hat' : LiesAt A (some ⟨g, 0, none⟩) w1 := hat.imp (fun h => h.symm) fun h => ⟨g, rfl, by omega⟩
  have hnA : apart A1 A := by
    cases e1 : blkOf A1 with
    | none => exact .inl e1
    | some g1 => exact .inr (fun e2 => by have := hnew g1 e1; have := hA g1 (e2 ▸ e1); omega)
  have hsz := hgrow.size
  refine h _ cap w2 ⟨by simp [hl], Nat.le_refl _, fun g' e' => by simp [blkOf] at e'; omega, fun j => if j < m then As j else A1, fun j => if j < m then cs j else c1, ?_, fun j hj => ?_, fun i j hij hj => ?_⟩ hgrow hat'
  · have : rowV (fun j => if j < m then As j else A1) (fun j => if j < m then cs j else c1) (rows ++ [xs]) (m + 1) = rowV As cs rows m ++ [.slice A1 xs.length c1] := by
      simp only [rowV, List.range_succ, List.map_append, List.map_cons, List.map_nil]
      rw [if_neg (Nat.lt_irrefl m), if_neg (Nat.lt_irrefl m)]
      have e1 : ra (rows ++ [xs]) m = xs := by rw [← hl]; exact ra_app_at
      have e2 : (List.range m).map (fun j => Value.slice (if j < m then As j else A1) (ra (rows ++ [xs]) j).length (if j < m then cs j else c1)) = (List.range m).map (fun j => Value.slice (As j) (ra rows j).length (cs j)) := by
        apply List.map_congr_left
        intro j hj
        have hj : j < m := by simpa using hj
        rw [if_pos hj, if_pos hj, ra_app_lt (by omega)]
      rw [e1, e2]
    rw [this]; exact hown'
  · by_cases hjm : j < m
    · simp only [if_pos hjm]
      rw [ra_app_lt (by omega)]
      refine ⟨(hr j hjm).1.kept hgrow (hr j hjm).2.2, fun g' hg' => by have := (hr j hjm).2.1 g' hg'; omega, ?_⟩
      exact hat'.apart (fun g' hg' => by have := (hr j hjm).2.1 g' hg'; omega) (hr j hjm).2.2
    · obtain rfl : j = rows.length := by omega
      simp only [if_neg hjm]
      rw [ra_app_at]
      exact ⟨hrow.kept hgrow hnA, fun g' hg' => by have := (hrow.blk g' hg').2; omega, hat'.apart (fun g' hg' => (hrow.blk g' hg').2) hnA⟩
  · show apart (if i < m then As i else A1) (if j < m then As j else A1)
    by_cases hjm : j < m
    · rw [if_pos hjm, if_pos (by omega)]; exact hp i j hij hjm
    · rw [if_neg hjm, if_pos (by omega)]
      cases e1 : blkOf (As i) with
      | none => exact .inl e1
      | some g1 => exact .inr (fun e2 => by have := (hr i (by omega)).2.1 g1 e1; have := hnew g1 (e2 ▸ e1); omega)
theorem wp_appR1 {ops : Array Oper} {rest : List Oper} {o : Oper} {a : Act} {Q : Exit → Act → World → Prop} {s x : Operand} (hgd : o.guard = none)
    (ho : o.op = .call { callee := .builtin .append, args := #[s, x], argTypes := #[40, 40] })
    {base top : Nat} {A : Option Addr} {m c : Nat} {rows : List (List Int)} {wr : World} {T : TypeId} {A1 : Option Addr} {l1 c1 : Nat} {xs : List Int} (hs : a.eval s = .slice A m c) {H : Nat} (hx : a.eval x = .slice (some ⟨H, 0, none⟩) 1 1) (hH : wr.heap.size = H) (hl1 : xs.length = l1)
    (hown : OwnLL base top wr A m c rows) (hrow : OwnL base wr A1 l1 c1 xs) (hnew : ∀ g, blkOf A1 = some g → top ≤ g) (hbase : base ≤ wr.heap.size) (hm : m ≤ 1048576)
    (h : ∀ A' c' w', OwnLL base w'.heap.size w' A' (m + 1) c' (rows ++ [xs]) → wr.grownBy w' (blkOf A) → LiesAt A A' wr → wpList Try.prog ops Q rest (a.put o.dst (.slice A' (m + 1) c')) w') :
    wpList Try.prog ops Q (o :: rest) a (wr.alloc (.cells #[.slice A1 l1 c1] T)) := by
  subst hH
  exact wpList_plain hgd fun _ hK => wp_appR ho hs hx (heap_alloc_new wr _) hl1 (hown.below ((Below.refl _ _).alloc (Nat.le_refl _) _)) (hrow.below ((Below.refl _ _).alloc (Nat.le_refl _) _)) hnew (by simp; omega) hm
    fun A' c' w' h1 h2 h3 => hK _ _ (h A' c' w' h1 (grownTrans (below_grownBy ((Below.refl _ _).alloc (Nat.le_refl _) _) _) h2) (h3.low (by simp)))
end Go.Proofs.Ytccinfmphkihoaa
