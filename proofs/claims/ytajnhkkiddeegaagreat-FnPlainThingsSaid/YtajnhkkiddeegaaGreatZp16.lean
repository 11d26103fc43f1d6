import Derived.Laws.AppendOwnNone
import Derived.Laws.OwnMore
import Derived.Test.YtajnhkkiddeegaaGreatZp15
set_option linter.unusedVariables false
set_option linter.unusedSimpArgs false
namespace Go.Proofs.YtajnhkkiddeegaaGreat
open Go.RowKit Go.Sort
def dstsTo (l : List Oper) (n1 i : Nat) : List Tmp := if i ≤ n1 then dsts (l.take (n1 + 1)) else dsts l
def StepsHT (P : Program) (l : List Oper) (F : Nat → Value → World → Prop) (dead : Nat → Option Nat) (E : Nat → World → World → Prop) (C : Bool → World → Prop) (n1 : Nat) (a0 : Act) (w0 : World) : Nat → List Oper → Prop
  | _, [] => True
  | i, o :: r => (∀ a w, C (decide (n1 < i)) w → (∀ t, (dstsTo l n1 i).contains t = false → a.tmps[t]?.getD undef = a0.eval (.tmp t)) →
      (∀ j d, (depsOf o).contains j = true → dstAt l j = some d → endOk dead j i = true → F j (a.tmps[d]?.getD undef) w) → GrowsG P l o a w (E i) (F i)) ∧ StepsHT P l F dead E C n1 a0 w0 (i + 1) r
def StepsT (P : Program) (l : List Oper) (F : Nat → Value → World → Prop) (dead : Nat → Option Nat) (E : Nat → World → World → Prop) (C : Bool → World → Prop) (n1 : Nat) (a0 : Act) (w0 : World) : Nat → List Oper → Prop
  | _, [] => True
  | i, o :: r => (∀ a w, C (decide (n1 < i)) w → (∀ t, (dstsTo l n1 i).contains t = false → a.tmps.getD t undef = a0.tmps.getD t undef) →
      (∀ e ∈ o.after, Region.binds .any e = true → endOk dead e.on i = true → ∀ (p : Oper) (d : Tmp), l[e.on]? = some p → p.dst = some d → F e.on (a.tmps.getD d undef) w) → GrowsG P l o a w (E i) (F i)) ∧ StepsT P l F dead E C n1 a0 w0 (i + 1) r
theorem StepsHT.steps {P : Program} {l : List Oper} {F : Nat → Value → World → Prop} {dead : Nat → Option Nat} {E : Nat → World → World → Prop} {C : Bool → World → Prop} {n1 : Nat} {a0 : Act} {w0 : World} : ∀ (r : List Oper) (i : Nat), StepsHT P l F dead E C n1 a0 w0 i r → StepsT P l F dead E C n1 a0 w0 i r := by
  intro r
  induction r with
  | nil => intro i _; trivial
  | cons o r ih =>
    intro i h
    refine ⟨fun a w hb hs hd => h.1 a w hb (fun t ht => by rw [← Array.getD_eq_getD_getElem?]; exact hs t ht) (fun j d hj hjd hok => ?_), ih _ h.2⟩
    simp only [depsOf, List.contains_iff_mem, List.mem_map, List.mem_filter] at hj
    obtain ⟨e, ⟨he, hb⟩, rfl⟩ := hj
    obtain ⟨p, hp, hpd⟩ := Option.bind_eq_some_iff.1 hjd
    rw [← Array.getD_eq_getD_getElem?]
    exact hd e (by simpa using he) hb hok p d hp hpd
theorem StepsT.at {P : Program} {l : List Oper} {F : Nat → Value → World → Prop} {dead : Nat → Option Nat} {E : Nat → World → World → Prop} {C : Bool → World → Prop} {n1 : Nat} {a0 : Act} {w0 : World} : ∀ (r : List Oper) (k : Nat), StepsT P l F dead E C n1 a0 w0 k r → ∀ (i : Nat) (o : Oper), r[i]? = some o →
    ∀ a w, C (decide (n1 < k + i)) w → (∀ t, (dstsTo l n1 (k + i)).contains t = false → a.tmps.getD t undef = a0.tmps.getD t undef) →
      (∀ e ∈ o.after, Region.binds .any e = true → endOk dead e.on (k + i) = true → ∀ (p : Oper) (d : Tmp), l[e.on]? = some p → p.dst = some d → F e.on (a.tmps.getD d undef) w) → GrowsG P l o a w (E (k + i)) (F (k + i)) := by
  intro r
  induction r with
  | nil => intro k _ i o h; simp at h
  | cons x r ih =>
    intro k h i o hi
    cases i with
    | zero => simp at hi; subst hi; exact h.1
    | succ i => rw [show k + (i + 1) = (k + 1) + i from by omega]; exact ih (k + 1) h.2 i o (by simpa using hi)
end Go.Proofs.YtajnhkkiddeegaaGreat
namespace Go.Proofs.YtajnhkkiddeegaaGreat
open Go.RowKit Go.Sort
theorem run_app00 (w : World) (ty : TypeId) (g : Nat) (A : Option Addr) (c : Nat) : (Builtin.append_ #[34, 34] ty #[.slice (some ⟨g, 0, none⟩) 0 0, .slice A 0 c]).run Tryz.prog w = .ok (.slice (some ⟨g, 0, none⟩) 0 0) w := by
  obtain ⟨i0, hi, hz0, hz1, hz2⟩ := info_parts inf2
  cases A with
  | none => simp [Builtin.append_, run_underlying Tryz.underlying34, sizeOf, typeInfo, hi, Builtin.lenOf, Builtin.firstCells, storeCells]
  | some a => simp [Builtin.append_, run_underlying Tryz.underlying34, sizeOf, typeInfo, hi, Builtin.lenOf, Builtin.firstCells, storeCells, loadCells, loadCellsFrom, storeCells, Result.andThen]
theorem wp_app0 {ops : Array Oper} {rest : List Oper} {o : Oper} {a : Act} {Q : Exit → Act → World → Prop} {s x : Operand} (hgd : o.guard = none)
    (ho : o.op = .call { callee := .builtin .append, args := #[s, x], argTypes := #[34, 34] })
    {A : Option Addr} {l c : Nat} {ys : List Int} {wr : World} {H : Nat} (hs : a.eval s = .slice (some ⟨H, 0, none⟩) 0 0) (hx : a.eval x = .slice A l c) (hH : wr.heap.size = H)
    (hsrc : SrcI wr A l (ia ys)) (hyl : ys.length = l) (hl : l ≤ 1048576)
    (h : ∀ A' c' w', OwnL wr.heap.size w' A' l c' ys → Below wr.heap.size wr w' → wpList Tryz.prog ops Q rest (a.put o.dst (.slice A' l c')) w') :
    wpList Tryz.prog ops Q (o :: rest) a (wr.alloc (.cells #[] 2)) := by
  subst hH
  have hb1 : Below wr.heap.size wr (wr.alloc (.cells #[] 2)) := (Below.refl _ _).alloc (Nat.le_refl _) _
  have O0 : OwnL wr.heap.size (wr.alloc (.cells #[] 2)) (some ⟨wr.heap.size, 0, none⟩) 0 0 [] := OwnL.empty _ _ _ (Nat.le_refl _) (heap_alloc_new wr _)
  by_cases h0 : l = 0
  · subst h0
    have hy : ys = [] := List.length_eq_zero_iff.1 hyl
    subst hy
    refine wpList_plain hgd fun K hK => ?_
    have hrun := run_app00 (wr.alloc (.cells #[] 2)) o.type wr.heap.size A c
    unfold Oper.wp
    simp [execOp, ho, resolve, invoke, builtin, hs, hx, hrun, Result.andThen]
    exact hK _ _ (h _ _ _ O0 hb1)
  · obtain ⟨g, o2, hA, I⟩ := hsrc (by omega)
    subst hA
    have I' := I.below hb1
    obtain ⟨i0, hi, hz0, hz1, hz2⟩ := info_parts inf2
    refine wpList_plain hgd fun K hK => wp_append_lies (wr.alloc (.cells #[] 2)) s x 34 ho wr.heap.size 2 i0 (.int .i64 0) 1 8 Tryz.underlying34 hi hz0 hz1 hz2 rfl (by decide) (.slice (some ⟨wr.heap.size, 0, none⟩) 0 0) 0 (nums []) hs O0.2
      ⟨g, o2, none⟩ l c (nums ys) hx (by simp [nums, hyl]) (fun j u hj => ?_) (fun u hu => ?_) (by omega) (by unfold maxLen; omega) (by omega) (by simp) _ rfl ?_
    · have hjl : j < ys.length := by
        have := (List.getElem?_eq_some_iff.1 hj).1
        simpa [nums] using this
      rw [Addr.add_lit, I'.c j (by omega), ← hj, nums_at ys j hjl]
    · simp only [nums, List.mem_map] at hu
      obtain ⟨y, _, rfl⟩ := hu
      rfl
    · intro g2 cap w2 hown' hgrow hat _
      rw [Nat.zero_add] at hown'
      have hk := hK _ _ (h (some ⟨g2, 0, none⟩) cap w2 ⟨hyl, by simpa [nums] using hown'⟩ (hb1.grown hgrow (by simp) (fun y hy => by simp [Value.ownBlock] at hy; omega)))
      simpa using hk
set_option maxRecDepth 100000 in
theorem l01Own_any (A : Option Addr) (l c : Nat) (ys : List Int) (w : World) (hsrc : SrcI w A l (ia ys)) (hyl : ys.length = l) (hl : l ≤ 1048576) : Calls Tryz.prog 114 #[.slice A l c] w (RetL ys w) := by
  have HY := Lib.hid hyl
  have HR : Hid (∀ A' c' w', OwnL w.heap.size w' A' l c' ys → Below w.heap.size w w' → RetL ys w (.returned (.slice A' l c')) w') := fun A' c' w' O hb => by subst hyl; exact ⟨A', c', rfl, O, hb⟩
  clear hyl
  go_enter Tryz.func114, Tryz.ntmps114
  go_wp2_with (at_builtin; refine wp_app0 rfl rfl rfl rfl rfl hsrc HY.out hl ?_; intro A' c' w' O hb)
  go_ret
  exact HR.out A' c' w' O hb
end Go.Proofs.YtajnhkkiddeegaaGreat
namespace Go.Proofs.YtajnhkkiddeegaaGreat
open Go.RowKit Go.Sort
theorem grows_appL {o : Oper} {a : Act} {W : World} {E : World → World → Prop} {G : Value → World → Prop} {s x : Operand}
    (ho : o.op = .call { callee := .builtin .append, args := #[s, x], argTypes := #[34, 34] })
    {base : Nat} {A : Option Addr} {m c B : Nat} {xs : List Int} {k : Int} (hs : a.eval s = .slice A m c) (hx : a.eval x = .slice (some ⟨B, 0, none⟩) 1 1) (I : Ints W B 0 1 (fun _ => k))
    (hown : OwnL base W A m c xs) (hbase : base ≤ W.heap.size) (hm : m ≤ 1048576)
    (h : ∀ A' c' w', OwnL base w' A' (m + 1) c' (xs ++ [k]) → W.grownBy w' (blkOf A) → E W w' ∧ G (.slice A' (m + 1) c') w') :
    GrowsE Tryz.prog o a W E G := by
  obtain ⟨i0, hi, hz0, hz1, hz2⟩ := info_parts inf2
  obtain ⟨g, cap, w', hr, h2, h3, h4, h5⟩ := run_append_lies (P := Tryz.prog) W 34 o.type base 2 i0 (.int .i64 0) 1 8 Tryz.underlying34 hi hz0 hz1 hz2 rfl (by decide) (.slice A m c) m (nums xs) hown.2
    ⟨B, 0, none⟩ 1 1 [.int .i64 k] rfl (fun j u hj => by
      match j, hj with
      | 0, hj =>
        simp only [List.getElem?_cons_zero, Option.some.injEq] at hj
        subst hj
        rw [Addr.add_lit]; exact I.c 0 (by omega)) (fun u hu => by simp at hu; subst hu; rfl) (by decide) (by unfold maxLen; omega) (by omega) hbase _ rfl
  have e : (Value.slice A m c).ownBlock = blkOf A := by cases A <;> rfl
  rw [e] at h3
  unfold GrowsE execOp
  simp only [ho, resolve, invoke, builtin, Sem.run_bind, Sem.run_pure, Result.andThen_ok, List.map_toArray, List.map_cons, List.map_nil, hs, hx, hr]
  exact h _ cap w' ⟨by simp [hown.1], by rw [nums_append]; exact h2⟩ h3
end Go.Proofs.YtajnhkkiddeegaaGreat
namespace Go.Proofs.YtajnhkkiddeegaaGreat
open Go.RowKit Go.Sort
/-- Lists of lists, grown: in the block of the one that was handed over, or in a new one. -/
def LLo (B : Nat) (A : Option Addr) (n : Nat) (R : List (List Int)) (v : Value) (W : World) : Prop := ∃ A2 c2, v = .slice A2 R.length c2 ∧ (∃ top, OwnLL B top W A2 R.length c2 R) ∧ ∀ g, blkOf A2 = some g → blkOf A = some g ∨ n ≤ g
theorem LLo.below {B : Nat} {A : Option Addr} {n : Nat} {R : List (List Int)} {v : Value} {W W' : World} (h : LLo B A n R v W) (hb : Below W.heap.size W W') : LLo B A n R v W' := let ⟨A2, c2, e, ⟨t, ho⟩, hn⟩ := h; ⟨A2, c2, e, ⟨t, ho.below hb⟩, hn⟩
end Go.Proofs.YtajnhkkiddeegaaGreat
