import Derived.ArgAppend
import Derived.Deep.AppendLies
import Derived.Test.YtajnhkkiddeegaaGreatZp7
set_option linter.unusedVariables false
set_option linter.unusedSimpArgs false
namespace Go.Proofs.YtajnhkkiddeegaaGreat
open Go.RowKit Go.Sort
theorem mut_or {S T : Nat → Prop} {bc bu n : Nat} (h : ∀ i, T i → S i ∨ n ≤ i) : ∀ i, Mut T bc bu i → Mut S bc bu i ∨ n ≤ i := fun i hi => by
  rcases hi with e | e | e
  · exact .inl (.inl e)
  · exact .inl (.inr (.inl e))
  · rcases h i e with x | x
    · exact .inl (.inr (.inr x))
    · exact .inr x
theorem Kept.srcI {S : Nat → Prop} {w w' : World} (h : Kept S w w') {A : Option Addr} {m : Nat} {f : Nat → Int} (I : SrcI w A m f) (hs : ∀ g, blkOf A = some g → ¬ S g) : SrcI w' A m f := fun hm => by
  obtain ⟨b, o, e, I1⟩ := I hm
  exact ⟨b, o, e, h.ints I1 (hs b (by rw [e]; rfl))⟩
theorem PS.kept {w w' : World} {S T : Nat → Prop} {bp bc bu N m : Nat} {A : Option Addr} {cA : Nat} {L : List Nat} {b o c cc cu : Nat} {es : List (Int × Int)} {fv : Value} (ps : PS w S bp bc bu N m A cA L b o c cc cu es fv) (k : Kept (Mut S bc bu) w w') (hT : ∀ i, T i → S i ∨ w.heap.size ≤ i) (hA : ∀ g, blkOf A = some g → g < w.heap.size) : PS w' T bp bc bu N m A cA L b o c cc cu es fv where
  p0 := (k.cell ps.pl ps.np 0).trans ps.p0
  p1 := (k.cell ps.pl ps.np 1).trans ps.p1
  p2 := (k.cell ps.pl ps.np 2).trans ps.p2
  p3 := (k.cell ps.pl ps.np 3).trans ps.p3
  p4 := (k.cell ps.pl ps.np 4).trans ps.p4
  p5 := (k.cell ps.pl ps.np 5).trans ps.p5
  pl := k.lt ps.pl
  E := k.eds ps.E ps.nb
  I := k.srcI ps.I ps.nA
  hL := ps.hL
  np := fun h => by rcases mut_or hT _ h with x | x; exact ps.np x; have := ps.pl; omega
  nb := fun h => by rcases mut_or hT _ h with x | x; exact ps.nb x; have := ps.E.blk; omega
  nA := fun g hg h => by rcases mut_or hT _ h with x | x; exact ps.nA g hg x; have := hA g hg; omega
  ne := ps.ne
theorem PS.none {w : World} {S : Nat → Prop} {bp bc bu N m : Nat} {A : Option Addr} {cA : Nat} {L : List Nat} {b o c cc cu : Nat} {es : List (Int × Int)} {fv : Value} (ps : PS w S bp bc bu N m A cA L b o c cc cu es fv) : PS w (fun _ => False) bp bc bu N m A cA L b o c cc cu es fv :=
  ⟨ps.p0, ps.p1, ps.p2, ps.p3, ps.p4, ps.p5, ps.pl, ps.E, ps.I, ps.hL, fun h => ps.np (h.imp id (Or.imp id False.elim)), fun h => ps.nb (h.imp id (Or.imp id False.elim)), fun g hg h => ps.nA g hg (h.imp id (Or.imp id False.elim)), ps.ne⟩
theorem PW.two {w w1 : World} {bc bu N m : Nat} {f : Nat → Int} {U : Nat → Nat} (h : PW w (fun _ => False) bc bu N m f U w1) : Kept (fun k => k = bc ∨ k = bu) w w1 := h.k.wide fun _ hk => hk.imp id (Or.resolve_right · id)
end Go.Proofs.YtajnhkkiddeegaaGreat
namespace Go.Proofs.YtajnhkkiddeegaaGreat
open Go.RowKit Go.Sort
def OwnQ (base : Nat) (w : World) (A : Option Addr) (m c : Nat) (xs : List Int) : Prop :=
  xs.length = m ∧ m ≤ c ∧ c ≤ maxLen ∧ ∃ g o cur, A = some ⟨g, o, none⟩ ∧ base ≤ g ∧ w.heap[g]? = some (.cells cur 2 (0, 0)) ∧ (c = 0 ∨ cur.size = o + c) ∧ ∀ j, j < m → cur[o + j]? = some (.int .i64 (ia xs j))
theorem OwnQ.len {base : Nat} {w : World} {A : Option Addr} {m c : Nat} {xs : List Int} (h : OwnQ base w A m c xs) : xs.length = m := h.1
theorem OwnQ.le {base : Nat} {w : World} {A : Option Addr} {m c : Nat} {xs : List Int} (h : OwnQ base w A m c xs) : m ≤ c ∧ c ≤ maxLen := ⟨h.2.1, h.2.2.1⟩
theorem OwnQ.src {base : Nat} {w : World} {A : Option Addr} {m c : Nat} {xs : List Int} (h : OwnQ base w A m c xs) : ∃ g o, A = some ⟨g, o, none⟩ ∧ base ≤ g ∧ g < w.heap.size ∧ Ints w g o m (ia xs) := by
  obtain ⟨_, _, _, g, o, cur, rfl, hb, hg, _, hc⟩ := h
  have hlt : g < w.heap.size := (Array.getElem?_eq_some_iff.1 hg).1
  exact ⟨g, o, rfl, hb, hlt, hlt, fun j hj => by rw [cell_of_row w g (o + j) cur 2 (0, 0) hg]; exact hc j hj⟩
theorem OwnQ.kept {base : Nat} {w w' : World} {A : Option Addr} {m c : Nat} {xs : List Int} {row : Option Nat} (h : OwnQ base w A m c xs) (hg : w.grownBy w' row) (hne : ∀ g, blkOf A = some g → some g ≠ row) : OwnQ base w' A m c xs := by
  obtain ⟨h1, h2, h3, g, o, cur, rfl, hb, hh, r⟩ := h
  exact ⟨h1, h2, h3, g, o, cur, rfl, hb, (hg.block g (Array.getElem?_eq_some_iff.1 hh).1 (hne g rfl)).trans hh, r⟩
theorem OwnQ.below {base : Nat} {w w' : World} {A : Option Addr} {m c : Nat} {xs : List Int} (h : OwnQ base w A m c xs) (hb : Below w.heap.size w w') : OwnQ base w' A m c xs :=
  h.kept (row := none) (below_grownBy hb none) (fun _ _ e => by cases e)
theorem OwnQ.blk {base : Nat} {w : World} {A : Option Addr} {m c : Nat} {xs : List Int} (h : OwnQ base w A m c xs) : ∀ g, blkOf A = some g → base ≤ g ∧ g < w.heap.size := by
  obtain ⟨g, o, rfl, hb, hg, _⟩ := h.src
  intro g' e
  simp [blkOf] at e; omega
/-- A list of one number, just laid. -/
theorem OwnQ.made (base : Nat) (w : World) (x : Int) (hb : base ≤ w.heap.size) : OwnQ base (w.alloc (.cells #[.int .i64 x] 2)) (some ⟨w.heap.size, 0, none⟩) 1 1 [x] := by
  refine ⟨rfl, Nat.le_refl _, by unfold maxLen; omega, w.heap.size, 0, #[.int .i64 x], rfl, hb, heap_alloc_new w _, .inr rfl, fun j hj => ?_⟩
  obtain rfl : j = 0 := by omega
  rfl
/-- Cut at its head. -/
theorem OwnQ.tail {base : Nat} {w : World} {g o m c : Nat} {xs : List Int} (h : OwnQ base w (some ⟨g, o, none⟩) (m + 1) c xs) : OwnQ base w (some ⟨g, if c = 1 then o else o + 1, none⟩) m (c - 1) (xs.drop 1) := by
  obtain ⟨h1, h2, h3, g', o', cur, e, hb, hh, hs, hc⟩ := h
  simp only [Option.some.injEq, Addr.mk.injEq, and_true] at e
  obtain ⟨rfl, rfl⟩ := e
  refine ⟨by simp; omega, by omega, by omega, g, _, cur, rfl, hb, hh, ?_, fun j hj => ?_⟩
  · by_cases e : c = 1
    · exact .inl (by omega)
    · rw [if_neg e]; right; omega
  · have := hc (j + 1) (by omega)
    rw [if_neg (by omega), show o + 1 + j = o + (j + 1) by omega, this]
    simp [ia]
theorem OwnQ.ofRow {base : Nat} {w : World} {v : Value} {m : Nat} {xs : List Int} (h : w.ownsRow base 2 1 v m (nums xs)) (hm : 0 < m) : ∃ g c, v = .slice (some ⟨g, 0, none⟩) m c ∧ OwnQ base w (some ⟨g, 0, none⟩) m c xs := by
  have hl : xs.length = m := by have := h.1; simp [nums] at this; omega
  rcases h.2 with ⟨_, h0⟩ | ⟨g, cap, cur, hv, hb, hh, hnc, hcm, hs, ht⟩
  · omega
  · refine ⟨g, cap, hv, hl, hnc, hcm, g, 0, cur, rfl, hb, hh, .inr (by omega), fun j hj => ?_⟩
    have hn := nums_at xs j (by omega)
    rw [← ht, List.getElem?_take_of_lt (by omega)] at hn
    rw [Nat.zero_add]
    simpa using hn
/-- The old block, or a new one. -/
def LiesAt (A A' : Option Addr) (w : World) : Prop := blkOf A' = blkOf A ∨ ∃ g, blkOf A' = some g ∧ w.heap.size ≤ g
theorem LiesAt.ne {A A' : Option Addr} {w : World} (h : LiesAt A A' w) {x : Nat} (hx : x < w.heap.size) (hn : some x ≠ blkOf A) : some x ≠ blkOf A' := by
  rcases h with h | ⟨g, h, hg⟩
  · rw [h]; exact hn
  · rw [h]; intro e; simp at e; omega
theorem LiesAt.apart {A A' AX : Option Addr} {w : World} (h : LiesAt A A' w) (hx : ∀ g, blkOf AX = some g → g < w.heap.size) (hn : blkOf AX = none ∨ blkOf AX ≠ blkOf A) : blkOf AX = none ∨ blkOf AX ≠ blkOf A' := by
  rcases h with h | ⟨g, h, hg⟩
  · rw [h]; exact hn
  · cases e : blkOf AX with
    | none => exact .inl rfl
    | some y => right; rw [h]; intro e2; have := hx y e; simp at e2; omega
theorem LiesAt.low {A A' : Option Addr} {w w1 : World} (h : LiesAt A A' w1) (hs : w.heap.size ≤ w1.heap.size) : LiesAt A A' w := h.imp id fun ⟨g, e, hg⟩ => ⟨g, e, by omega⟩
/-- One number more, at the operation. -/
theorem wp_appQ {o : Oper} {a : Act} {K : Act → World → Prop} {Q : Exit → Act → World → Prop} {s x : Operand}
    (ho : o.op = .call { callee := .builtin .append, args := #[s, x], argTypes := #[34, 34] })
    {base : Nat} {A : Option Addr} {m c : Nat} {xs : List Int} {w1 : World} {B : Nat} {T : TypeId} {fr : Nat × Nat} {k : Int} (hs : a.eval s = .slice A m c) (hx : a.eval x = .slice (some ⟨B, 0, none⟩) 1 1)
    (hB : w1.heap[B]? = some (.cells #[.int .i64 k] T fr))
    (hown : OwnQ base w1 A m c xs) (_hbase : base ≤ w1.heap.size) (hm : m ≤ 1048576)
    (h : ∀ A' c' w', OwnQ base w' A' (m + 1) c' (xs ++ [k]) → w1.grownBy w' (blkOf A) → LiesAt A A' w1 → K (a.put o.dst (.slice A' (m + 1) c')) w') :
    o.wp Tryz.prog a w1 K Q := by
  obtain ⟨i0, hi, hz0, hz1, hz2⟩ := info_parts inf2
  have hnews : ∀ j u, [Value.int .i64 k][j]? = some u → w1.cell? ((⟨B, 0, none⟩ : Addr).add j) = some u := fun j u hj => by
    match j, hj with
    | 0, hj =>
      simp only [List.getElem?_cons_zero, Option.some.injEq] at hj
      subst hj
      rw [Addr.add_lit, cell_of_row w1 B _ _ _ _ hB]; rfl
  have key : ∃ A' c' w', (Builtin.append_ #[34, 34] o.type #[.slice A m c, .slice (some ⟨B, 0, none⟩) 1 1]).run Tryz.prog w1 = .ok (.slice A' (m + 1) c') w' ∧ OwnQ base w' A' (m + 1) c' (xs ++ [k]) ∧ w1.grownBy w' (blkOf A) ∧ LiesAt A A' w1 := by
    obtain ⟨h1, h2, h3, g, off, cur, rfl, hb, hh, hsz, hc⟩ := hown
    have hg : g < w1.heap.size := (Array.getElem?_eq_some_iff.1 hh).1
    by_cases hr : m + 1 ≤ c
    · have hsz' : cur.size = off + c := by omega
      have hr' := run_append_room_cells (P := Tryz.prog) w1 34 o.type 2 i0 Tryz.underlying34 hi g off m c ⟨B, 0, none⟩ 1 1 [.int .i64 k] (by rw [hz1]; rfl) hnews (fun u hu => by simp at hu; subst hu; rfl) hr
        (fun j hj => by
          obtain rfl : j = 0 := by simpa using hj
          rw [cell_of_row w1 g _ cur 2 (0, 0) hh, hz1]
          have : off + m < cur.size := by omega
          simp [this])
        (fun j hj => frozen_of_row w1 g _ cur 2 hh)
      rw [hz1] at hr'
      refine ⟨_, _, _, hr', ?_, ?_, .inl rfl⟩
      · simp only [World.setCells, Nat.mul_one]
        refine ⟨by simp [h1], by omega, h3, g, off, _, rfl, hb, heap_setCell_same w1 g (off + m) cur 2 (.int .i64 k) hh, .inr (by simp; omega), fun j hj => ?_⟩
        by_cases e : j = m
        · subst e
          have : off + j < cur.size := by omega
          simp [this, ia, h1]
        · rw [Array.getElem?_setIfInBounds_ne (by omega), hc j (by omega)]
          simp [ia, List.getElem?_append_left (show j < xs.length by omega)]
      · simp only [World.setCells, Nat.mul_one]
        exact ⟨rfl, rfl, rfl, by simp, fun k' _ hk => Below.heap_setCell _ _ _ _ (fun e => hk (by simp [blkOf, e]))⟩
    · obtain ⟨v', w', hrun, ho', hgr⟩ := run_append_arg_grows (P := Tryz.prog) w1 34 o.type 2 i0 (.int .i64 0) 1 8 Tryz.underlying34 hi hz0 hz1 hz2 rfl (by decide) ⟨g, off, none⟩ m c (nums xs) (by simp [nums, h1])
        (fun j u hj => by
          have hjm : j < m := by have := (List.getElem?_eq_some_iff.1 hj).1; simp [nums] at this; omega
          rw [nums_at xs j (by omega)] at hj
          rw [Addr.add_lit, cell_of_row w1 g _ cur 2 (0, 0) hh, hc j hjm]; exact hj)
        ⟨B, 0, none⟩ 1 1 [.int .i64 k] rfl hnews (by omega) (by unfold maxLen; omega) (by omega)
      obtain ⟨g', c', rfl, hq⟩ := OwnQ.ofRow (xs := xs ++ [k]) (by rw [nums_append]; exact ho') (by omega)
      obtain ⟨q1, q2, q3, g2, o2, cur2, e2, hb2, r⟩ := hq
      exact ⟨_, _, w', hrun, ⟨q1, q2, q3, g2, o2, cur2, e2, by omega, r⟩, ⟨hgr.os, hgr.tape, hgr.output, hgr.size, fun i hi _ => hgr.block i hi (by simp)⟩, .inr ⟨g', rfl, by simp only [Option.some.injEq, Addr.mk.injEq, and_true] at e2; obtain ⟨rfl, _⟩ := e2; exact hb2⟩⟩
  obtain ⟨A', c', w', hr, h2, h3, h4⟩ := key
  unfold Oper.wp execOp
  simp only [ho, resolve, invoke, builtin, Sem.run_bind, Sem.run_pure, Result.andThen_ok, List.map_toArray, List.map_cons, List.map_nil, hs, hx, hr]
  exact h A' c' w' h2 h3 h4
/-- .. behind the one-element list. -/
theorem wp_appQ1 {ops : Array Oper} {rest : List Oper} {o : Oper} {a : Act} {Q : Exit → Act → World → Prop} {s x : Operand} (hgd : o.guard = none)
    (ho : o.op = .call { callee := .builtin .append, args := #[s, x], argTypes := #[34, 34] })
    {base : Nat} {A : Option Addr} {m c : Nat} {xs : List Int} {wr : World} {T : TypeId} {k : Int} (hs : a.eval s = .slice A m c) {H : Nat} (hx : a.eval x = .slice (some ⟨H, 0, none⟩) 1 1) (hH : wr.heap.size = H)
    (hown : OwnQ base wr A m c xs) (hbase : base ≤ wr.heap.size) (hm : m ≤ 1048576)
    (h : ∀ A' c' w', OwnQ base w' A' (m + 1) c' (xs ++ [k]) → wr.grownBy w' (blkOf A) → LiesAt A A' wr → wpList Tryz.prog ops Q rest (a.put o.dst (.slice A' (m + 1) c')) w') :
    wpList Tryz.prog ops Q (o :: rest) a (wr.alloc (.cells #[.int .i64 k] T)) := by
  subst hH
  exact wpList_plain hgd fun _ hK => wp_appQ ho hs hx (heap_alloc_new wr _) (hown.below ((Below.refl _ _).alloc (Nat.le_refl _) _)) (by simp; omega) hm
    fun A' c' w' h1 h2 h3 => hK _ _ (h A' c' w' h1 (grownTrans (below_grownBy ((Below.refl _ _).alloc (Nat.le_refl _) _) _) h2) (h3.low (by simp)))
/-- An own list, one number more, at the operation. -/
theorem wp_appL {o : Oper} {a : Act} {K : Act → World → Prop} {Q : Exit → Act → World → Prop} {s x : Operand}
    (ho : o.op = .call { callee := .builtin .append, args := #[s, x], argTypes := #[34, 34] })
    {base : Nat} {A : Option Addr} {m c : Nat} {xs : List Int} {w1 : World} {B : Nat} {T : TypeId} {fr : Nat × Nat} {k : Int} (hs : a.eval s = .slice A m c) (hx : a.eval x = .slice (some ⟨B, 0, none⟩) 1 1)
    (hB : w1.heap[B]? = some (.cells #[.int .i64 k] T fr))
    (hown : OwnL base w1 A m c xs) (hbase : base ≤ w1.heap.size) (hm : m ≤ 1048576)
    (h : ∀ A' c' w', OwnL base w' A' (m + 1) c' (xs ++ [k]) → w1.grownBy w' (blkOf A) → LiesAt A A' w1 → K (a.put o.dst (.slice A' (m + 1) c')) w') :
    o.wp Tryz.prog a w1 K Q := by
  obtain ⟨i0, hi, hz0, hz1, hz2⟩ := info_parts inf2
  refine wp_append_lies w1 s x 34 ho base 2 i0 (.int .i64 0) 1 8 Tryz.underlying34 hi hz0 hz1 hz2 rfl (by decide) (.slice A m c) m (nums xs) hs hown.2
    ⟨B, 0, none⟩ 1 1 [.int .i64 k] hx rfl (fun j u hj => by
      match j, hj with
      | 0, hj =>
        simp only [List.getElem?_cons_zero, Option.some.injEq] at hj
        subst hj
        rw [Addr.add_lit, cell_of_row w1 B _ _ _ _ hB]; rfl) (fun u hu => by simp at hu; subst hu; rfl) (by decide) (by unfold maxLen; omega) (by omega) hbase _ rfl ?_
  intro g cap w2 hown' hgrow hat _
  have e : (Value.slice A m c).ownBlock = blkOf A := by cases A <;> rfl
  rw [e] at hgrow hat
  exact h _ cap w2 ⟨by simp [hown.1], by rw [nums_append]; exact hown'⟩ hgrow (hat.imp (fun h => h.symm) fun h => ⟨g, rfl, by omega⟩)
/-- .. behind the one-element list. -/
theorem wp_appL1 {ops : Array Oper} {rest : List Oper} {o : Oper} {a : Act} {Q : Exit → Act → World → Prop} {s x : Operand} (hgd : o.guard = none)
    (ho : o.op = .call { callee := .builtin .append, args := #[s, x], argTypes := #[34, 34] })
    {base : Nat} {A : Option Addr} {m c : Nat} {xs : List Int} {wr : World} {T : TypeId} {k : Int} (hs : a.eval s = .slice A m c) {H : Nat} (hx : a.eval x = .slice (some ⟨H, 0, none⟩) 1 1) (hH : wr.heap.size = H)
    (hown : OwnL base wr A m c xs) (hbase : base ≤ wr.heap.size) (hm : m ≤ 1048576)
    (h : ∀ A' c' w', OwnL base w' A' (m + 1) c' (xs ++ [k]) → wr.grownBy w' (blkOf A) → LiesAt A A' wr → wpList Tryz.prog ops Q rest (a.put o.dst (.slice A' (m + 1) c')) w') :
    wpList Tryz.prog ops Q (o :: rest) a (wr.alloc (.cells #[.int .i64 k] T)) := by
  subst hH
  exact wpList_plain hgd fun _ hK => wp_appL ho hs hx (heap_alloc_new wr _) (hown.below ((Below.refl _ _).alloc (Nat.le_refl _) _)) (by simp; omega) hm
    fun A' c' w' h1 h2 h3 => hK _ _ (h A' c' w' h1 (grownTrans (below_grownBy ((Below.refl _ _).alloc (Nat.le_refl _) _) _) h2) (h3.low (by simp)))
end Go.Proofs.YtajnhkkiddeegaaGreat
