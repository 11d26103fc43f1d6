import Derived.Test.YtnoneppmeaeicaaDoorGt2
namespace Go.Proofs.YtnoneppmeaeicaaDoor
open Go.RowKit Go.Sort
/-! ### A graph's text: the program -/
def strs (xs : List ByteArray) : List Value := xs.map Value.string
/-- A list of strings of the call's own, maybe nil. -/
def OwnS (base : Nat) (w : World) (A : Option Addr) (m c : Nat) (xs : List ByteArray) : Prop := xs.length = m ∧ w.ownsRow base 9 1 (.slice A m c) m (strs xs)
theorem OwnS.nil (base : Nat) (w : World) : OwnS base w none 0 0 [] := ⟨rfl, World.ownsRow_nil _ _ _ _⟩
theorem OwnS.kept {base : Nat} {w w' : World} {A : Option Addr} {m c : Nat} {xs : List ByteArray} {row : Option Nat} (h : OwnS base w A m c xs) (hg : w.grownBy w' row) (hne : blkOf A = none ∨ blkOf A ≠ row) : OwnS base w' A m c xs :=
  ⟨h.1, h.2.kept hg (by cases A <;> simp [Value.ownBlock, blkOf] at hne ⊢; exact hne)⟩
theorem OwnS.below {base : Nat} {w w' : World} {A : Option Addr} {m c : Nat} {xs : List ByteArray} (h : OwnS base w A m c xs) (hb : Below w.heap.size w w') : OwnS base w' A m c xs :=
  h.kept (row := none) (below_grownBy hb none) (by cases A <;> simp [blkOf])
theorem OwnS.blk {base : Nat} {w : World} {A : Option Addr} {m c : Nat} {xs : List ByteArray} (h : OwnS base w A m c xs) : ∀ g, blkOf A = some g → base ≤ g ∧ g < w.heap.size := by
  intro g hg
  rcases h.2.2 with ⟨e, e2⟩ | ⟨g', cap, cur, e, hb, hg2, _⟩
  · injection e with e1; subst e1; cases hg
  · injection e with e1; subst e1; simp [blkOf] at hg; have := (Array.getElem?_eq_some_iff.1 hg2).1; omega
theorem OwnS.cells {base : Nat} {w : World} {A : Option Addr} {m c : Nat} {xs : List ByteArray} (h : OwnS base w A m c xs) (hm : 0 < m) : ∃ g, A = some ⟨g, 0, none⟩ ∧ g < w.heap.size ∧ m ≤ c ∧ ∀ (j : Nat) x, xs[j]? = some x → w.cell? ⟨g, 0 + j, none⟩ = some (.string x) := by
  rcases h.2.2 with ⟨e, e2⟩ | ⟨g', cap, cur, e, hb, hg2, hle, _⟩
  · injection e with e1 e2; omega
  · injection e with e1 e2 e3
    subst e1
    refine ⟨g', rfl, (Array.getElem?_eq_some_iff.1 hg2).1, by omega, fun j x hj => ?_⟩
    have hlt : j < m := by have := (List.getElem?_eq_some_iff.1 hj).1; have := h.1; omega
    rw [Nat.zero_add, h.2.cellAt j (by omega)]
    simp [strs, hj]
theorem infStr9 : (Tryd.prog.info? 9).map (fun i => (i.zero, i.size, i.bytes)) = some (some (.string ⟨#[]⟩), 1, 16) := by kernel_rfl
theorem wp_appS2 {ops : Array Oper} {rest : List Oper} {o : Oper} {a : Act} {Q : Exit → Act → World → Prop} {s x : Operand} (hgd : o.guard = none)
    (ho : o.op = .call { callee := .builtin .append, args := #[s, x], argTypes := #[48, 48] })
    {base : Nat} {A : Option Addr} {m c : Nat} {xs : List ByteArray} {w1 : World} {B : Nat} {T : TypeId} {fr : Nat × Nat} {S : ByteArray} (hs : a.eval s = .slice A m c) (hx : a.eval x = .slice (some ⟨B, 0, none⟩) 1 1)
    (hB : w1.heap[B]? = some (.cells #[.string S] T fr))
    (hown : OwnS base w1 A m c xs) (hbase : base ≤ w1.heap.size) (hm : m ≤ 1048576)
    (h : ∀ A' c' w', OwnS base w' A' (m + 1) c' (xs ++ [S]) → w1.grownBy w' (blkOf A) → wpList Tryd.prog ops Q rest (a.put o.dst (.slice A' (m + 1) c')) w') :
    wpList Tryd.prog ops Q (o :: rest) a w1 := by
  obtain ⟨i0, hi, hz0, hz1, hz2⟩ := info_parts infStr9
  refine wpList_plain hgd fun K hK => wp_append_lies w1 s x 48 ho base 9 i0 (.string ⟨#[]⟩) 1 16 Tryd.underlying48 hi hz0 hz1 hz2 rfl (by decide) (.slice A m c) m (strs xs) hs hown.2
    ⟨B, 0, none⟩ 1 1 [.string S] hx rfl (World.news_of_block (cs := #[.string S]) hB) (fun u hu => by simp at hu; rcases hu with rfl; rfl) (by decide) (by unfold maxLen; omega) (by omega) hbase _ rfl ?_
  intro g' cap w2 hown' hgrow hat _
  have e : (Value.slice A m c).ownBlock = blkOf A := by cases A <;> rfl
  rw [e] at hgrow hat
  exact hK _ _ (h _ cap w2 ⟨by simp [hown.1], by simpa [strs] using hown'⟩ hgrow)
def NewSt (base : Nat) (L : List UInt8) (v : Value) (W : World) : Prop := ∃ H S, v = .slice (some ⟨H, 0, none⟩) 1 1 ∧ base ≤ H ∧ W.heap[H]? = some (.cells #[.string S] 9) ∧ S.data.toList = L
theorem NewSt.below {base : Nat} {L : List UInt8} {v : Value} {W W' : World} (h : NewSt base L v W) (hb : Below W.heap.size W W') : NewSt base L v W' := by
  obtain ⟨H, S, e, hg, hh, hS⟩ := h
  exact ⟨H, S, e, hg, (hb.block _ (Array.getElem?_eq_some_iff.1 hh).1).trans hh, hS⟩
/-- The program's text: the words joined. -/
noncomputable def wds (es : List (Int × Int)) (m : Nat) : List (List UInt8) := (List.range m).map (wdL es)
theorem joinTail_snoc (sep : List UInt8) (r : List (List UInt8)) (y : List UInt8) : Lib.joinTail sep (r ++ [y]) = Lib.joinTail sep r ++ sep ++ y := by
  have := Lib.joinTail_take_succ sep (r ++ [y]) r.length y (by simp)
  rw [List.take_of_length_le (by simp), List.take_left'  rfl] at this
  exact this
theorem wds_join (es : List (Int × Int)) (k : Nat) : Lib.join (wds es (k + 1)) [44] = if 0 < k then Lib.join (wds es k) [44] ++ [44] ++ wdL es k else wdL es k := by
  unfold wds
  cases k with
  | zero => simp [Lib.join_one]
  | succ k =>
    rw [if_pos (by omega), List.range_succ, List.map_append]
    rw [show List.range (k + 1) = 0 :: (List.range k).map (· + 1) from List.range_succ_eq_map]
    simp only [List.map_cons, List.map_nil, List.cons_append]
    rw [Lib.join_cons, Lib.join_cons, joinTail_snoc]
    simp [List.append_assoc]
theorem txT_join (N : Nat) (es : List (Int × Int)) : ∀ m, txT N es m = decL N ++ [58] ++ Lib.join (wds es m) [44]
  | 0 => by simp [txT, wds, Lib.join_nil]
  | k + 1 => by
    rw [wds_join, txT, txT_join N es k]
    split <;> simp_all [List.append_assoc, wds, Lib.join_nil]
theorem wds_len (es : List (Int × Int)) (m : Nat) (hm : m ≤ 30) : (Lib.join (wds es m) [44]).length ≤ 183 := by
  have h := txT_len 0 es m
  rw [txT_join, List.length_append] at h
  omega
end Go.Proofs.YtnoneppmeaeicaaDoor
