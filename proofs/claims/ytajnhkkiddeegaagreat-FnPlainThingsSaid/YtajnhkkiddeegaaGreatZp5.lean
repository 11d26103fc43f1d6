import Derived.Test.YtajnhkkiddeegaaGreatZp3
set_option linter.unusedVariables false
set_option linter.unusedSimpArgs false
namespace Go.Proofs.YtajnhkkiddeegaaGreat
open Go.RowKit Go.Sort
/-- A list as a function. -/
def ia (xs : List Int) (j : Nat) : Int := xs.getD j 0
def nums (xs : List Int) : List Value := xs.map (Value.int .i64)
theorem nums_at (xs : List Int) (j : Nat) (h : j < xs.length) : (nums xs)[j]? = some (.int .i64 (ia xs j)) := by simp [nums, ia, h]
/-- A list of the call's own, maybe nil. -/
def OwnL (base : Nat) (w : World) (A : Option Addr) (m c : Nat) (xs : List Int) : Prop := xs.length = m ∧ w.ownsRow base 2 1 (.slice A m c) m (nums xs)
/-- The block of a slice. -/
def blkOf (A : Option Addr) : Option Nat := A.map (·.block)
theorem OwnL.nil (base : Nat) (w : World) : OwnL base w none 0 0 [] := ⟨rfl, World.ownsRow_nil _ _ _ _⟩
theorem OwnL.cases {base : Nat} {w : World} {A : Option Addr} {m c : Nat} {xs : List Int} (h : OwnL base w A m c xs) : (A = none ∧ m = 0 ∧ c = 0) ∨ ∃ g, A = some ⟨g, 0, none⟩ ∧ base ≤ g ∧ g < w.heap.size := by
  rcases h.2.2 with ⟨e, e2⟩ | ⟨g, cap, cur, e, hb, hg, _⟩
  · injection e with e1 e3 e4; exact .inl ⟨e1, e3, e4⟩
  · injection e with e1 e3 e4; exact .inr ⟨g, e1, hb, (Array.getElem?_eq_some_iff.1 hg).1⟩
theorem OwnL.src {base : Nat} {w : World} {A : Option Addr} {m c : Nat} {xs : List Int} (h : OwnL base w A m c xs) : SrcI w A m (ia xs) := by
  intro hm
  rcases h.cases with ⟨_, h0, _⟩ | ⟨g, rfl, hb, hg⟩
  · omega
  · exact ⟨g, 0, rfl, hg, fun j hj => by rw [Nat.zero_add, h.2.cellAt j (by omega)]; exact nums_at xs j (by rw [h.1]; exact hj)⟩
theorem OwnL.kept {base : Nat} {w w' : World} {A : Option Addr} {m c : Nat} {xs : List Int} {row : Option Nat} (h : OwnL base w A m c xs) (hg : w.grownBy w' row) (hne : blkOf A = none ∨ blkOf A ≠ row) : OwnL base w' A m c xs :=
  ⟨h.1, h.2.kept hg (by cases A <;> simp [Value.ownBlock, blkOf] at hne ⊢; exact hne)⟩
theorem below_grownBy {w w' : World} (hb : Below w.heap.size w w') (row : Option Nat) : w.grownBy w' row := ⟨hb.os, hb.tape, hb.output, hb.size, fun i hi _ => hb.block i hi⟩
theorem OwnL.below {base : Nat} {w w' : World} {A : Option Addr} {m c : Nat} {xs : List Int} (h : OwnL base w A m c xs) (hb : Below w.heap.size w w') : OwnL base w' A m c xs :=
  h.kept (row := none) (below_grownBy hb none) (by cases A <;> simp [blkOf])
theorem OwnL.mono {base base' : Nat} {w : World} {A : Option Addr} {m c : Nat} {xs : List Int} (h : OwnL base w A m c xs) (hb : base' ≤ base) : OwnL base' w A m c xs := by
  refine ⟨h.1, h.2.1, ?_⟩
  rcases h.2.2 with hn | ⟨g', cap, cur, e, hbg, r⟩
  · exact .inl hn
  · exact .inr ⟨g', cap, cur, e, Nat.le_trans hb hbg, r⟩
theorem OwnL.blk {base : Nat} {w : World} {A : Option Addr} {m c : Nat} {xs : List Int} (h : OwnL base w A m c xs) : ∀ g, blkOf A = some g → base ≤ g ∧ g < w.heap.size := by
  intro g hg
  rcases h.cases with ⟨rfl, _⟩ | ⟨g', rfl, hb, hl⟩
  · cases hg
  · simp [blkOf] at hg; omega
/-- The call returns a new list, maybe nil. -/
def RetL (xs : List Int) (w : World) (e : Ending) (w' : World) : Prop := ∃ A c, e = .returned (.slice A xs.length c) ∧ OwnL w.heap.size w' A xs.length c xs ∧ Below w.heap.size w w'
theorem grownTrans {a b c : World} {row : Option Nat} (h : a.grownBy b row) (k : b.grownBy c row) : a.grownBy c row :=
  ⟨k.os.trans h.os, k.tape.trans h.tape, k.output.trans h.output, Nat.le_trans h.size k.size, fun i hi hne => (k.block i (Nat.lt_of_lt_of_le hi h.size) hne).trans (h.block i hi hne)⟩
end Go.Proofs.YtajnhkkiddeegaaGreat
namespace Go.Proofs.YtajnhkkiddeegaaGreat
open Go.RowKit Go.Sort
theorem IsG.wf {n : Int} {es : List (Int × Int)} (h : IsG n es) : WfP n es := h.1
noncomputable def vtxC (n : Int) (es : List (Int × Int)) (k : Nat) (g : Nat → Int) : Int := if B (IsG n es) then (if B (∀ j, j < k → 0 ≤ g j ∧ g j ≤ n - 1) then 0 else 2) else 1
theorem vtxC_1 {n : Int} {es : List (Int × Int)} {k : Nat} {g : Nat → Int} (h : ¬ IsG n es) : vtxC n es k g = 1 := by simp [vtxC, B_false h]
theorem vtxC_2 {n : Int} {es : List (Int × Int)} {k : Nat} {g : Nat → Int} (h : IsG n es) (h2 : ¬ ∀ j, j < k → 0 ≤ g j ∧ g j ≤ n - 1) : vtxC n es k g = 2 := by simp only [vtxC, B_true h, B_false h2]; rfl
theorem vtxC_0 {n : Int} {es : List (Int × Int)} {k : Nat} {g : Nat → Int} (h : IsG n es) (h2 : ∀ j, j < k → 0 ≤ g j ∧ g j ≤ n - 1) : vtxC n es k g = 0 := by simp only [vtxC, B_true h, B_true h2]; rfl
theorem vertices_any (n : Int) (b o m c b2 o2 k c2 : Nat) (es : List (Int × Int)) (g : Nat → Int) (w : World) (h : Eds w b o m es) (hm : m ≤ 1048576) (h2 : Ints w b2 o2 k g) (hk : k ≤ 1048576) :
    Calls Tryz.prog 92 #[.agg #[.int .i64 n, .slice (some ⟨b, o, none⟩) m c], .slice (some ⟨b2, o2, none⟩) k c2] w (Ret (.int .i64 (vtxC n es k g)) w) := by
  have KC := cell_rg
  have hbox := Box2.made w (.int .i64 n) (.slice (some ⟨b, o, none⟩) m c) 26
  have hbb := (by go_grown : Below w.heap.size w (w.alloc (.cells #[.int .i64 n, .slice (some ⟨b, o, none⟩) m c] 26)))
  cases hG : B (IsG n es) with
  | false =>
    have HV := Lib.hid (vtxC_1 (k := k) (g := g) (B_not.1 hG))
    go_enter Tryz.func92, Tryz.ntmps92
    go_wp2_with fail
    refine (l01Is_any _ _ _ _ _ es _ (h.alloc _) hm).mono ?_
    rintro e w1 ⟨rfl, hb1⟩
    go_wp2_with fail
    go_ret
    exact ⟨ret_int HV.out.symm, hbb.thenB (by simp) hb1⟩
  | true =>
    have HG := Lib.hid (B_iff.1 hG)
    have hn := HG.out.wf
    have hn1 := hn.1
    have hn2 := hn.2.1
    have hwn : IntKind.i64.wrap (n - 1) = n - 1 := IntWalk.i64_in _ (by omega)
    clear hn
    go_enter Tryz.func92, Tryz.ntmps92
    go_wp2_with fail
    refine (l01Is_any _ _ _ _ _ es _ (h.alloc _) hm).mono ?_
    rintro e w1 ⟨rfl, hb1⟩
    obtain ⟨s1, p1, q1⟩ := hbox.below hb1
    have hB1 := hbb.thenB (by simp) hb1
    clear hb1 hbox hbb
    go_wp2_with fail
    go_loopw [5] (fun i wr => ∃ j : Nat, j ≤ k ∧ i = .int .i64 j ∧ Hid (∀ u, u < j → 0 ≤ g u ∧ g u ≤ n - 1) ∧ Below w1.heap.size w1 wr) (fun i _ => k - (intOf i).toNat)
    case atStart => exact ⟨0, Nat.zero_le _, rfl, fun u hu => absurd hu (by omega), Below.refl _ _⟩
    case round =>
      obtain ⟨j, hj, rfl, HP, hbr⟩ := hrel
      by_cases hlt : j < k
      · have I := h2.below (hB1.andB hbr)
        have e1 := I.c j hlt
        have e2 := I.blk
        have y0 := (hbr.cell (p := ⟨w.heap.size, 0, none⟩) s1).trans p1
        have s3 := bsz hbr _ s1
        clear I
        cases hA : inB (g j) 0 (n - 1) with
        | false =>
          have HV := Lib.hid (vtxC_2 (k := k) (g := g) HG.out (fun x => inB_not.1 hA (x j hlt)))
          go_wp2_with fail
          (refine wp_region_quiet_below (by kernel_rfl) (by kernel_rfl) ?_
           repeat (any_goals (go_big_quiet_step (first | (go_at_call 116; exact Is.rg (in_any _ _ _ _)))))
           all_goals (refine wpQuiet_nil ?_; intro wq1 hq1; replace hq1 := below_of_rg hq1))
          go_wp2_with fail
          go_ret
          exact ⟨ret_int HV.out.symm, (hB1.andB hbr).andB hq1⟩
        | true =>
          have HP' : Hid (∀ u, u < j + 1 → 0 ≤ g u ∧ g u ≤ n - 1) := fun u hu => by
            by_cases huj : u < j
            · exact HP.out u huj
            · obtain rfl : u = j := by omega
              exact inB_iff.1 hA
          go_wp2_with fail
          (refine wp_region_quiet_below (by kernel_rfl) (by kernel_rfl) ?_
           repeat (any_goals (go_big_quiet_step (first | (go_at_call 116; exact Is.rg (in_any _ _ _ _)))))
           all_goals (refine wpQuiet_nil ?_; intro wq1 hq1; replace hq1 := below_of_rg hq1))
          go_wp2_with fail
          go_roundw
          case rel => exact ⟨j + 1, by omega, by go_num, HP', hbr.andB hq1⟩
          case measure => simp [intOf]; omega
      · have HV := Lib.hid (vtxC_0 (k := k) (g := g) HG.out (fun u hu => HP.out u (by omega)))
        go_wp2_with fail
        go_ret
        exact ⟨ret_int HV.out.symm, hB1.andB hbr⟩
theorem spOther_any (n : Int) (b o m c : Nat) (es : List (Int × Int)) (j : Nat) (v : Int) (w : World) (h : Eds w b o m es) (hj : j < m) (_hm : m ≤ 1048576) (hn : WfP n es) (hv : 0 ≤ v) (hv2 : v ≤ 100) :
    Calls Tryz.prog 134 #[.agg #[.int .i64 n, .slice (some ⟨b, o, none⟩) m c], .int .i64 j, .int .i64 v] w (Ret (.int .i64 (ea es j + eb es j - v)) w) := by
  have KC := cell_rg
  have hx := hn.2.2.2.2 j (by rw [h.len]; exact hj)
  have hn2 := hn.2.1
  have e1 := h.ca j hj
  have e2 := h.cb j hj
  have e3 := h.blk
  have e4 : b < w.heap.size + 1 := by omega
  have x1 : IntKind.i64.wrap (ea es j + eb es j) = ea es j + eb es j := IntWalk.i64_in _ (by omega)
  have x2 : IntKind.i64.wrap (ea es j + eb es j - v) = ea es j + eb es j - v := IntWalk.i64_in _ (by omega)
  clear hx hn
  go_enter Tryz.func134, Tryz.ntmps134
  go_wp2_with fail
  (refine wp_region_quiet_below (by kernel_rfl) (by kernel_rfl) ?_
   repeat (any_goals (go_big_quiet_step (first | fail)))
   all_goals (refine wpQuiet_nil ?_; intro wq1 hq1; replace hq1 := below_of_rg hq1))
  go_wp2_with fail
  go_ret
  exact ⟨rfl, (by go_grown : Below _ _ (w.alloc _)).thenB (by simp) hq1⟩
theorem isOn_any (a b v : Int) (w : World) : Calls Tryz.prog 138 #[.agg #[.int .i64 a, .int .i64 b], .int .i64 v] w (Ret (.bool (decide (a = v ∨ b = v))) w) := by
  go_enter Tryz.func138, Tryz.ntmps138
  go_wp2
  all_goals (go_ret; exact ⟨ret_bool (by rw [Bool.eq_iff_iff]; simp [*]), by go_grown⟩)
theorem other_any (a b v : Int) (w : World) (h1 : 0 ≤ a) (h2 : a ≤ 100) (h3 : 0 ≤ b) (h4 : b ≤ 100) (h5 : 0 ≤ v) (h6 : v ≤ 100) : Calls Tryz.prog 126 #[.agg #[.int .i64 a, .int .i64 b], .int .i64 v] w (Ret (.int .i64 (a + b - v)) w) := by
  go_enter Tryz.func126, Tryz.ntmps126
  go_wp2
  all_goals (go_ret; exact ⟨ret_int (by omega), by go_grown⟩)
def vxB (n v : Int) : Bool := inB v 0 (wrap64 (n - 1))
theorem vxB_wf {n v : Int} (h1 : 2 ≤ n) (h2 : n ≤ 20) : vxB n v = inB v 0 (n - 1) := by
  unfold vxB
  rw [IntWalk.wrap64_in (n - 1) (by omega)]
theorem isVertex_any (n : Int) (A : Option Addr) (m c : Nat) (v : Int) (w : World) : Calls Tryz.prog 91 #[.agg #[.int .i64 n, .slice A m c], .int .i64 v] w (Ret (.bool (vxB n v)) w) := by
  go_enter Tryz.func91, Tryz.ntmps91
  go_wp2_with (go_at_call 124; refine (within_any _ _ _ _).mono ?_; rintro e w' ⟨rfl, rfl⟩)
  go_ret
  exact ⟨rfl, by go_grown⟩
noncomputable def gcC (n : Int) (es : List (Int × Int)) (r : Bool) : Int := if B (IsG n es) then (if r then 0 else 2) else 1
theorem graphCode_any (n : Int) (b o m c : Nat) (es : List (Int × Int)) (r : Bool) (w : World) (h : Eds w b o m es) (hm : m ≤ 1048576) :
    Calls Tryz.prog 52 #[.agg #[.int .i64 n, .slice (some ⟨b, o, none⟩) m c], .bool r] w (Ret (.int .i64 (gcC n es r)) w) := by
  have hbb := (by go_grown : Below w.heap.size w (w.alloc (.cells #[.int .i64 n, .slice (some ⟨b, o, none⟩) m c] 26)))
  cases hG : B (IsG n es) with
  | false =>
    have HV : Hid (gcC n es r = 1) := by simp [Hid, gcC, hG]
    go_enter Tryz.func52, Tryz.ntmps52
    go_wp2_with fail
    refine (implIs_any _ _ _ _ _ es _ (h.alloc _) hm).mono ?_
    rintro e w1 ⟨rfl, hb1⟩
    go_wp2_with fail
    go_ret
    exact ⟨ret_int HV.out.symm, hbb.thenB (by simp) hb1⟩
  | true =>
    cases r with
    | false =>
      have HV : Hid (gcC n es false = 2) := by simp [Hid, gcC, hG]
      go_enter Tryz.func52, Tryz.ntmps52
      go_wp2_with fail
      refine (implIs_any _ _ _ _ _ es _ (h.alloc _) hm).mono ?_
      rintro e w1 ⟨rfl, hb1⟩
      go_wp2_with fail
      go_ret
      exact ⟨ret_int HV.out.symm, hbb.thenB (by simp) hb1⟩
    | true =>
      have HV : Hid (gcC n es true = 0) := by simp [Hid, gcC, hG]
      go_enter Tryz.func52, Tryz.ntmps52
      go_wp2_with fail
      refine (implIs_any _ _ _ _ _ es _ (h.alloc _) hm).mono ?_
      rintro e w1 ⟨rfl, hb1⟩
      go_wp2_with fail
      go_ret
      exact ⟨ret_int HV.out.symm, hbb.thenB (by simp) hb1⟩
end Go.Proofs.YtajnhkkiddeegaaGreat
namespace Go.Proofs.YtajnhkkiddeegaaGreat
open Go.RowKit Go.Sort
theorem nums_append (xs ys : List Int) : nums (xs ++ ys) = nums xs ++ nums ys := by simp [nums]
theorem OwnL.empty (base : Nat) (w : World) (g : Nat) (hb : base ≤ g) (h : w.heap[g]? = some (.cells #[] 2 (0, 0))) : OwnL base w (some ⟨g, 0, none⟩) 0 0 [] :=
  ⟨rfl, rfl, .inr ⟨g, 0, #[], rfl, hb, h, Nat.le_refl _, by unfold maxLen; omega, rfl, rfl⟩⟩
theorem cell1 (w : World) (x : Value) (t : TypeId) : ∀ j u, [x][j]? = some u → (w.alloc (.cells #[x] t)).cell? ((⟨w.heap.size, 0, none⟩ : Addr).add j) = some u := by
  intro j u hj
  match j, hj with
  | 0, hj =>
    simp only [List.getElem?_cons_zero, Option.some.injEq] at hj
    subst hj
    simp [go_sem, Addr.add]
/-- One number more behind a list of the call's own. -/
theorem wp_app1 {ops : Array Oper} {rest : List Oper} {o : Oper} {a : Act} {Q : Exit → Act → World → Prop} {s x : Operand} (hgd : o.guard = none)
    (ho : o.op = .call { callee := .builtin .append, args := #[s, x], argTypes := #[34, 34] })
    {base : Nat} {A : Option Addr} {m c : Nat} {xs : List Int} {wr : World} {T : TypeId} {k : Int} (hs : a.eval s = .slice A m c) (hx : a.eval x = .slice (some ⟨wr.heap.size, 0, none⟩) 1 1)
    (hown : OwnL base wr A m c xs) (hbase : base ≤ wr.heap.size) (hm : m ≤ 1048576)
    (h : ∀ A' c' w', OwnL base w' A' (m + 1) c' (xs ++ [k]) → (∀ B w0, Below B w0 wr → B ≤ base → Below B w0 w') → wr.grownBy w' (blkOf A) → wpList Tryz.prog ops Q rest (a.put o.dst (.slice A' (m + 1) c')) w') :
    wpList Tryz.prog ops Q (o :: rest) a (wr.alloc (.cells #[.int .i64 k] T)) := by
  obtain ⟨i0, hi, hz0, hz1, hz2⟩ := info_parts inf2
  refine wpList_append_own _ hgd s x 34 ho base 2 i0 (.int .i64 0) 1 8 Tryz.underlying34 hi hz0 hz1 hz2 rfl (by decide) (.slice A m c) m (nums xs) hs ((hown.below ((Below.refl _ _).alloc (Nat.le_refl _) _)).2)
    ⟨wr.heap.size, 0, none⟩ 1 1 [.int .i64 k] hx rfl (cell1 _ _ _) (fun u hu => by simp at hu; subst hu; rfl) (by unfold maxLen; omega) (by omega) (by simp; omega) ?_
  intro v' w1 hown' hgrow _
  have hlt := hown.blk
  have hgr : (wr.grownBy w1 (blkOf A)) := by
    have e : (Value.slice A m c).ownBlock = blkOf A := by cases A <;> rfl
    rw [e] at hgrow
    exact grownTrans (below_grownBy ((Below.refl _ _).alloc (Nat.le_refl _) _) _) hgrow
  obtain ⟨A', c', rfl⟩ : ∃ A' c', v' = .slice A' (m + 1) c' := by
    rcases hown'.2 with ⟨_, h⟩ | ⟨g3, cap3, _, h, _⟩
    · omega
    · exact ⟨_, cap3, h⟩
  refine h A' c' w1 ⟨by simp [hown.1], by rw [nums_append]; exact hown'⟩ (fun B w0 hb hB => hb.grown hgr (by omega) (fun q hq => by have := hlt q hq; omega)) hgr
end Go.Proofs.YtajnhkkiddeegaaGreat
namespace Go.Proofs.YtajnhkkiddeegaaGreat
open Go.RowKit Go.Sort
def setN (ls : Nat → Int) : Nat → Nat
  | 0 => 0
  | k + 1 => setN ls k ||| 2 ^ (ls k).toNat
def hasB (s : Nat) (v : Int) : Bool := s.testBit v.toNat
theorem setN_bit (ls : Nat → Int) (k i : Nat) : (setN ls k).testBit i = true ↔ ∃ j, j < k ∧ (ls j).toNat = i := by
  induction k with
  | zero => simp [setN]
  | succ k ih =>
    simp only [setN, Nat.testBit_or, Bool.or_eq_true, ih, Nat.testBit_two_pow, decide_eq_true_eq]
    constructor
    · rintro (⟨j, hj, e⟩ | e)
      · exact ⟨j, by omega, e⟩
      · exact ⟨k, by omega, e⟩
    · rintro ⟨j, hj, e⟩
      by_cases hk : j = k
      · subst hk; exact .inr e
      · exact .inl ⟨j, by omega, e⟩
theorem has_any (s : Nat) (v : Int) (w : World) (hs : s < 18446744073709551616) (h0 : 0 ≤ v) (h1 : v ≤ 63) : Calls Tryz.prog 105 #[.int .u64 s, .int .i64 v] w (Is (.bool (hasB s v)) w) := by
  go_enter Tryz.func105, Tryz.ntmps105
  go_wp2
  go_ret
  have e : ((s : Int) / 2 ^ v.toNat) = ((s / 2 ^ v.toNat : Nat) : Int) := by simp
  have hd : s / 2 ^ v.toNat < 18446744073709551616 := Nat.lt_of_le_of_lt (Nat.div_le_self _ _) hs
  have e2 : bits .and .u64 ((s : Int) / 2 ^ v.toNat) 1 = ((s / 2 ^ v.toNat % 2 : Nat) : Int) := by
    rw [e, show (1 : Int) = ((1 : Nat) : Int) from rfl, u64_and_nat _ _ hd (by omega), Nat.and_one_is_mod]
  refine ⟨ret_bool ?_, rfl⟩
  rw [Bool.eq_iff_iff]
  simp only [hasB, Nat.testBit_eq_decide_div_mod_eq, decide_eq_true_eq, e2, beq_iff_eq]
  omega
attribute [irreducible] hasB
end Go.Proofs.YtajnhkkiddeegaaGreat
namespace Go.Proofs.YtajnhkkiddeegaaGreat
theorem inj_le : ∀ (n k : Nat) (f : Nat → Nat), (∀ a, a < k → f a < n) → (∀ a b, a < k → b < k → f a = f b → a = b) → k ≤ n := by
  intro n
  induction n with
  | zero => intro k f h _; exact Nat.le_of_not_lt fun hk => by have := h 0 hk; omega
  | succ n ih =>
    intro k f h hi
    by_cases hx : ∃ a, a < k ∧ f a = n
    · obtain ⟨a0, ha0, e0⟩ := hx
      have := ih (k - 1) (fun a => f (if a < a0 then a else a + 1)) (fun a ha => by
        show f (if a < a0 then a else a + 1) < n
        have hne : (if a < a0 then a else a + 1) ≠ a0 := by split <;> omega
        have hlt : (if a < a0 then a else a + 1) < k := by split <;> omega
        have h1 := h _ hlt
        have h2 : f (if a < a0 then a else a + 1) ≠ n := fun e => hne (hi _ _ hlt ha0 (e.trans e0.symm))
        omega) (fun a b ha hb e => by
        have := hi _ _ (by split <;> omega) (by split <;> omega) e
        split at this <;> split at this <;> omega)
      omega
    · have := ih k f (fun a ha => by have := h a ha; have : f a ≠ n := fun e => hx ⟨a, ha, e⟩; omega) hi
      omega
theorem surj_of_inj {n : Nat} {f : Nat → Nat} (h : ∀ a, a < n → f a < n) (hi : ∀ a b, a < n → b < n → f a = f b → a = b) (v : Nat) (hv : v < n) : ∃ a, a < n ∧ f a = v := by
  by_cases hx : ∃ a, a < n ∧ f a = v
  · exact hx
  · exfalso
    have := inj_le (n - 1) n (fun a => if f a = n - 1 then v else f a) (fun a ha => by
      have h1 := h a ha
      have h2 : f a ≠ v := fun e => hx ⟨a, ha, e⟩
      by_cases h3 : f a = n - 1
      · simp only [h3, if_pos]; omega
      · simp only [if_neg h3]; omega) (fun a b ha hb e => by
      have h2 : f a ≠ v := fun e => hx ⟨a, ha, e⟩
      have h4 : f b ≠ v := fun e => hx ⟨b, hb, e⟩
      apply hi a b ha hb
      by_cases h3 : f a = n - 1 <;> by_cases h5 : f b = n - 1 <;> simp_all)
    omega
theorem inj_of_surj {n : Nat} {f : Nat → Nat} (h : ∀ v, v < n → ∃ a, a < n ∧ f a = v) : ∀ a b, a < n → b < n → f a = f b → a = b := by
  have hr : ∀ v, ∃ a, v < n → a < n ∧ f a = v := fun v => by
    by_cases hv : v < n
    · obtain ⟨a, ha⟩ := h v hv; exact ⟨a, fun _ => ha⟩
    · exact ⟨0, fun h => absurd h hv⟩
  obtain ⟨r, hr⟩ := Classical.axiomOfChoice hr
  have hs := surj_of_inj (n := n) (f := r) (fun v hv => (hr v hv).1) (fun u v hu hv e => by rw [← (hr u hu).2, ← (hr v hv).2, e])
  intro a b ha hb e
  obtain ⟨u, hu, rfl⟩ := hs a ha
  obtain ⟨v, hv, rfl⟩ := hs b hb
  rw [(hr u hu).2, (hr v hv).2] at e
  rw [e]
/-- All different. -/
def NP (Q : Nat → Int) (k : Nat) : Prop := ∀ a b, a < k → b < k → Q a = Q b → a = b
theorem NP.zero (Q : Nat → Int) : NP Q 0 := fun _ _ h => absurd h (by omega)
theorem NP.succ {Q : Nat → Int} {k : Nat} (h : NP Q k) (hq : ∀ a, a ≤ k → 0 ≤ Q a) (hn : hasB (setN Q k) (Q k) = false) : NP Q (k + 1) := by
  have hne : ∀ a, a < k → Q a ≠ Q k := fun a ha e => by
    have := (setN_bit Q k (Q k).toNat).2 ⟨a, ha, by rw [e]⟩
    simp only [hasB] at hn
    rw [hn] at this
    cases this
  intro a b ha hb e
  by_cases h1 : a = k <;> by_cases h2 : b = k
  · omega
  · subst h1; exact absurd e.symm (hne b (by omega))
  · subst h2; exact absurd e (hne a (by omega))
  · exact h a b (by omega) (by omega) e
theorem NP.not {Q : Nat → Int} {k l : Nat} (hq : ∀ a, a ≤ k → 0 ≤ Q a) (hn : hasB (setN Q k) (Q k) = true) (hl : k < l) : ¬ NP Q l := fun h => by
  simp only [hasB] at hn
  obtain ⟨a, ha, e⟩ := (setN_bit Q k (Q k).toNat).1 hn
  have h1 := hq a (by omega)
  have h2 := hq k (by omega)
  have := h a k (by omega) hl (by omega)
  omega
/-- The set is full just if all are different. -/
theorem full_iff {Q : Nat → Int} {n : Nat} (h : ∀ a, a < n → 0 ≤ Q a ∧ Q a < n) : setN Q n = 2 ^ n - 1 ↔ NP Q n := by
  constructor
  · intro e a b ha hb eq
    have hs : ∀ v, v < n → ∃ a, a < n ∧ (Q a).toNat = v := fun v hv => (setN_bit Q n v).1 (by rw [e, Nat.testBit_two_pow_sub_one]; simpa using hv)
    exact inj_of_surj hs a b ha hb (by rw [eq])
  · intro hp
    apply Nat.eq_of_testBit_eq
    intro i
    rw [Nat.testBit_two_pow_sub_one, Bool.eq_iff_iff, setN_bit, decide_eq_true_eq]
    constructor
    · rintro ⟨a, ha, rfl⟩; have := h a ha; omega
    · intro hi
      exact surj_of_inj (fun a ha => by have := h a ha; omega) (fun a b ha hb e => hp a b ha hb (by have := h a ha; have := h b hb; omega)) i hi
end Go.Proofs.YtajnhkkiddeegaaGreat
namespace Go.Proofs.YtajnhkkiddeegaaGreat
open Go.RowKit Go.Sort
def SetP (ls : Nat → Int) (l : Nat) (u : Int) : Prop := ∀ j, j < l → (0 ≤ ls j ∧ ls j ≤ u) ∧ (0 < j → ls (j - 1) < ls j)
theorem SetP.succ {ls : Nat → Int} {j : Nat} {u : Int} (h : SetP ls j u) (h1 : inB (ls j) 0 u = true) (h2 : 0 < j → ls (j - 1) < ls j) : SetP ls (j + 1) u := fun i hi => by
  by_cases e : i = j
  · subst e; exact ⟨inB_iff.1 h1, h2⟩
  · exact h i (by omega)
end Go.Proofs.YtajnhkkiddeegaaGreat
namespace Go.Proofs.YtajnhkkiddeegaaGreat
open Go.RowKit Go.Sort
theorem hasB_succ (ls : Nat → Int) (k v : Nat) : hasB (setN ls (k + 1)) (v : Int) = if v = (ls k).toNat then true else hasB (setN ls k) (v : Int) := by
  simp only [hasB, setN, Nat.testBit_or, Nat.testBit_two_pow, Int.toNat_natCast]
  by_cases h : v = (ls k).toNat
  · simp [h]
  · rw [if_neg h, decide_eq_false (fun e => h e.symm), Bool.or_false]
theorem infB : (Tryz.prog.info? 4).map (fun i => (i.zero, i.size, i.bytes)) = some (some (.bool false), 1, 1) := by kernel_rfl
end Go.Proofs.YtajnhkkiddeegaaGreat
namespace Go.Proofs.YtajnhkkiddeegaaGreat
open Go.RowKit Go.Sort
end Go.Proofs.YtajnhkkiddeegaaGreat
namespace Go.Proofs.YtajnhkkiddeegaaGreat
open Go.RowKit Go.Sort
theorem closL_any (f : FuncId) (caps : Array Value) (bx : Nat) (a : Int) (r : Bool) (w : World) (he : Enters f) (hc : w.cell? ⟨bx, 0, none⟩ = some (.func (.func f) #[] caps))
    (hf : ∀ w', Below w.heap.size w w' → Calls Tryz.prog f (#[.int .i64 a] ++ caps) w' (Ret (.bool r) w')) :
    Calls Tryz.prog 142 #[.int .i64 a, .pointer (some ⟨bx, 0, none⟩)] w (Ret (.bool (!r)) w) := by
  have hbx : bx < w.heap.size := World.block_lt_of_cell? w _ hc
  have hF := Lib.hid hf
  have he1 := he
  unfold Enters at he1
  clear hf he
  go_enter Tryz.func142, Tryz.ntmps142
  go_wp2_with fail
  refine (hF.out _ (by go_grown)).mono ?_
  rintro e w1 ⟨rfl, hb1⟩
  go_wp2_with fail
  go_ret
  exact ⟨rfl, hb1⟩
theorem indexFuncL_any (f : FuncId) (caps : Array Value) (bx : Nat) (r : Nat → Bool) (b o m c : Nat) (g : Nat → Int) (w : World) (h : Ints w b o m g) (hm : m ≤ 1048576) (he : Enters f) (hc : w.cell? ⟨bx, 0, none⟩ = some (.func (.func f) #[] caps))
    (hf : ∀ j, j < m → ∀ w', Below w.heap.size w w' → Calls Tryz.prog f (#[.int .i64 (g j)] ++ caps) w' (Ret (.bool (r j)) w')) :
    Calls Tryz.prog 155 #[.slice (some ⟨b, o, none⟩) m c, .func (.func 142) #[] #[.pointer (some ⟨bx, 0, none⟩)]] w (Ret (.int .i64 (fstI (fun j => !(r j)) m)) w) := by
  have hbx : bx < w.heap.size := World.block_lt_of_cell? w _ hc
  have hF := Lib.hid hf
  have hE := Lib.hid he
  have hC := Lib.hid hc
  clear hf he hc
  go_enter Tryz.func155, Tryz.ntmps155
  go_wp2_with fail
  go_loopw [8] (fun i wr => ∃ k : Nat, k ≤ m ∧ i = .int .i64 k ∧ Hid (∀ j, j < k → (!(r j)) = false) ∧ Below w.heap.size w wr) (fun i _ => m - (intOf i).toNat)
  case atStart => exact ⟨0, Nat.zero_le _, rfl, fun j hj => by omega, Below.refl _ _⟩
  case round =>
    obtain ⟨k, hk, rfl, HP, hbw⟩ := hrel
    by_cases hlt : k < m
    · have E := h.below hbw
      have e1 := E.c k hlt
      cases hq : r k with
      | true =>
        have HP' : Hid (∀ j, j < k + 1 → (!(r j)) = false) := fun j hj => by
          by_cases hjk : j < k
          · exact HP.out j hjk
          · obtain rfl : j = k := by omega
            rw [hq]; rfl
        clear E
        go_wp2_with fail
        refine (closL_any f caps bx _ (r k) _ hE.out ((hbw.cell (p := ⟨bx, 0, none⟩) hbx).trans hC.out) (fun w' hw' => hF.out k hlt w' (hbw.andB hw'))).mono ?_
        rintro e w2 ⟨rfl, hb2⟩
        rw [hq]
        go_wp2_with fail
        go_roundw
        case rel => exact ⟨k + 1, by omega, by go_num, HP', hbw.andB hb2⟩
        case measure => simp [intOf]; omega
      | false =>
        clear E
        go_wp2_with fail
        refine (closL_any f caps bx _ (r k) _ hE.out ((hbw.cell (p := ⟨bx, 0, none⟩) hbx).trans hC.out) (fun w' hw' => hF.out k hlt w' (hbw.andB hw'))).mono ?_
        rintro e w2 ⟨rfl, hb2⟩
        rw [hq]
        go_wp2_with fail
        go_ret
        exact ⟨ret_int (fstI_at hlt (by rw [hq]; rfl) HP.out).symm, hbw.andB hb2⟩
    · go_wp2_with fail
      go_ret
      exact ⟨ret_int (fstI_none fun j hj => HP.out j (by omega)).symm, hbw⟩
theorem areAllL_any (f : FuncId) (caps : Array Value) (r : Nat → Bool) (b o m c : Nat) (g : Nat → Int) (w : World) (h : Ints w b o m g) (hm : m ≤ 1048576) (he : Enters f)
    (hf : ∀ j, j < m → ∀ w', Below w.heap.size w w' → Calls Tryz.prog f (#[.int .i64 (g j)] ++ caps) w' (Ret (.bool (r j)) w')) :
    Calls Tryz.prog 117 #[.slice (some ⟨b, o, none⟩) m c, .func (.func f) #[] caps] w (Ret (.bool (allB m r)) w) := by
  have hF := Lib.hid hf
  have hE := Lib.hid he
  have hx := fstI_cases (fun j => !(r j)) m
  have hQ : ∃ t : Bool, allB m r = !t ∧ decide (0 ≤ fstI (fun j => !(r j)) m) = t := by
    rcases hx with ⟨h1, h2⟩ | ⟨h1, j, h2, h3⟩
    · exact ⟨false, B_true (fun j hj => by simpa using h2 j hj), by rw [h1]; rfl⟩
    · exact ⟨true, B_false (fun hh => by rw [hh j h2] at h3; simp at h3), by simp [h1]⟩
  obtain ⟨t, hQ1, hQ2⟩ := hQ
  have HQ := Lib.hid hQ1
  clear hf he hx hQ1
  go_enter Tryz.func117, Tryz.ntmps117
  go_wp2_with fail
  have hin : Calls Tryz.prog 141 #[.slice (some ⟨b, o, none⟩) m c, .func (.func 142) #[] #[.pointer (some ⟨w.heap.size, 0, none⟩)]] (w.alloc (.cells #[.func (.func f) #[] caps] 93)) (Ret (.bool t) (w.alloc (.cells #[.func (.func f) #[] caps] 93))) := by
    go_enter Tryz.func141, Tryz.ntmps141
    go_wp2_with fail
    refine (indexFuncL_any f caps w.heap.size r b o m c g _ (h.alloc _) hm hE.out (by simp) (fun j hj w' hw' => hF.out j hj w' ((by go_grown : Below _ _ (w.alloc _)).thenB (by simp) hw'))).mono ?_
    rintro e w2 ⟨rfl, hb2⟩
    go_wp2_with fail
    go_ret
    exact ⟨rfl, hb2⟩
  refine hin.mono ?_
  rintro e w2 ⟨rfl, hb2⟩
  go_wp2_with fail
  go_ret
  exact ⟨ret_bool HQ.out.symm, (by go_grown : Below _ _ (w.alloc _)).thenB (by simp) hb2⟩
end Go.Proofs.YtajnhkkiddeegaaGreat
namespace Go.Proofs.YtajnhkkiddeegaaGreat
open Go.RowKit Go.Sort
theorem pow64 {x : Nat} (h : x ≤ 63) : (2 : Nat) ^ x < 18446744073709551616 := Nat.lt_of_lt_of_le (Nat.pow_lt_pow_of_lt (a := 2) (by decide) (by omega : x < 64)) (by decide)
theorem wrap_pow {x : Nat} (h : x ≤ 63) : IntKind.u64.wrap (2 ^ x) = ((2 ^ x : Nat) : Int) := by
  have hp := pow64 h
  rw [show ((2 : Int) ^ x) = ((2 ^ x : Nat) : Int) by simp, IntKind.wrap_u64]
  generalize (2 : Nat) ^ x = y at hp
  omega
noncomputable def imC (n : Int) (es : List (Int × Int)) : Int := if B (IsG n es) then 0 else 1
theorem retBC {a a' : Bool} {k k' : Int} (h : a = a') (h2 : k = k') : Ending.returned (.tuple #[.bool a, .int .i64 k]) = .returned (.tuple #[.bool a', .int .i64 k']) := by rw [h, h2]
end Go.Proofs.YtajnhkkiddeegaaGreat
namespace Go.Proofs.YtajnhkkiddeegaaGreat
open Go.RowKit Go.Sort
def atTo (es : List (Int × Int)) (v : Int) : Nat → List Int
  | 0 => []
  | k + 1 => atTo es v k ++ (if ea es k = v ∨ eb es k = v then [(k : Int)] else [])
theorem atTo_len (es : List (Int × Int)) (v : Int) (k : Nat) : (atTo es v k).length ≤ k := by
  induction k with
  | zero => simp [atTo]
  | succ k ih => simp only [atTo, List.length_append]; split <;> simp <;> omega
def atL (es : List (Int × Int)) (v : Int) : List Int := atTo es v es.length
theorem atTo_yes {es : List (Int × Int)} {v : Int} {k : Nat} (h : ea es k = v ∨ eb es k = v) : atTo es v (k + 1) = atTo es v k ++ [(k : Int)] := by simp [atTo, h]
theorem atTo_no {es : List (Int × Int)} {v : Int} {k : Nat} (h : ¬ (ea es k = v ∨ eb es k = v)) : atTo es v (k + 1) = atTo es v k := by simp [atTo, h]
set_option maxHeartbeats 800000 in
theorem l01At_any (n : Int) (b o m c : Nat) (es : List (Int × Int)) (v : Int) (w : World) (h : Eds w b o m es) (hm : m ≤ 1048576) :
    Calls Tryz.prog 112 #[.agg #[.int .i64 n, .slice (some ⟨b, o, none⟩) m c], .int .i64 v] w (RetL (atL es v) w) := by
  have hl := Lib.hid h.len
  go_enter Tryz.func112, Tryz.ntmps112
  go_wp2_with fail
  obtain ⟨w1, hw1⟩ : ∃ w1, w1 = w.alloc (Obj.cells #[Value.int IntKind.i64 n, Value.slice (some ⟨b, o, none⟩) m c] 26) := ⟨_, rfl⟩
  have hs1 : w1.heap.size = w.heap.size + 1 := by rw [hw1]; simp [go_sem]
  have hb1 : Below w.heap.size w w1 := by rw [hw1]; exact (Below.refl _ _).alloc (Nat.le_refl _) _
  have s1 : w1.cell? ⟨w.heap.size, 0, none⟩ = some (.int .i64 n) := by rw [hw1]; simp [go_sem]
  have s2 : w1.cell? ⟨w.heap.size, 1, none⟩ = some (.slice (some ⟨b, o, none⟩) m c) := by rw [hw1]; simp [go_sem]
  rw [← hw1]
  clear hw1
  go_loopw [5, 6] (fun v1 i wr => ∃ j : Nat, j ≤ m ∧ i = .int .i64 j ∧ (∃ A c', v1 = .slice A (atTo es v j).length c' ∧ OwnL (w.heap.size + 1) wr A (atTo es v j).length c' (atTo es v j)) ∧ Below (w.heap.size + 1) w1 wr) (fun _ i _ => m - (intOf i).toNat)
  case atStart => exact ⟨0, Nat.zero_le _, rfl, ⟨_, _, rfl, OwnL.empty _ _ _ (Nat.le_refl _) (by show (w1.heap.push _)[w.heap.size + 1]? = _; rw [← hs1]; simp)⟩, (Below.refl _ _).alloc (by omega) _⟩
  case round =>
    obtain ⟨j, hj, rfl, ⟨A, c', rfl, hown⟩, hbr⟩ := hrel
    have hE := h.below (hb1.trans (hbr.mono (by omega)))
    have k1 := (hbr.cell (p := ⟨w.heap.size, 0, none⟩) (Nat.lt_succ_self _)).trans s1
    have k2 := (hbr.cell (p := ⟨w.heap.size, 1, none⟩) (Nat.lt_succ_self _)).trans s2
    have hsz := hbr.size
    have hle := atTo_len es v j
    by_cases hlt : j < m
    · have c1 := hE.ca j hlt
      have c2 := hE.cb j hlt
      go_wp2_with (first
        | (at_builtin; refine wp_app1 rfl rfl rfl rfl hown (by omega) (by omega) ?_; intro A' c'' w2 hown' hbel' hgr'))
      · have e := atTo_yes (es := es) (v := v) (k := j) (Or.inl (by assumption))
        have e2 : (atTo es v (j + 1)).length = (atTo es v j).length + 1 := by rw [e]; simp
        go_roundw
        case rel => first | exact ⟨j + 1, by omega, by go_num, ⟨A', c'', by rw [e2], by rw [e2, e]; exact hown'⟩, hbel' _ _ hbr (Nat.le_refl _)⟩ | ((repeat apply Exists.intro); exact ⟨⟨j + 1, by omega, by go_num, ⟨A', c'', by rw [e2], by rw [e2, e]; exact hown'⟩, hbel' _ _ hbr (Nat.le_refl _)⟩, rfl⟩)
        case measure => simp [intOf]; omega
      · have hx : ea es j = v ∨ eb es j = v := by simp_all
        have e := atTo_yes hx
        have e2 : (atTo es v (j + 1)).length = (atTo es v j).length + 1 := by rw [e]; simp
        go_roundw
        case rel => first | exact ⟨j + 1, by omega, by go_num, ⟨A', c'', by rw [e2], by rw [e2, e]; exact hown'⟩, hbel' _ _ hbr (Nat.le_refl _)⟩ | ((repeat apply Exists.intro); exact ⟨⟨j + 1, by omega, by go_num, ⟨A', c'', by rw [e2], by rw [e2, e]; exact hown'⟩, hbel' _ _ hbr (Nat.le_refl _)⟩, rfl⟩)
        case measure => simp [intOf]; omega
      · have hx : ¬ (ea es j = v ∨ eb es j = v) := by simp_all
        have e := atTo_no hx
        go_roundw
        case rel => first | exact ⟨j + 1, by omega, by go_num, ⟨A, c', by rw [e], by rw [e]; exact hown⟩, hbr⟩ | ((repeat apply Exists.intro); exact ⟨⟨j + 1, by omega, by go_num, ⟨A, c', by rw [e], by rw [e]; exact hown⟩, hbr⟩, rfl⟩)
        case measure => simp [intOf]; omega
    · obtain rfl : j = m := by omega
      have e : atL es v = atTo es v j := by simp only [atL]; rw [hl.out]
      go_wp2_with fail
      go_ret
      exact ⟨A, c', by rw [e]; rfl, by rw [e]; exact hown.mono (by omega), hb1.trans (hbr.mono (by omega))⟩
set_option maxHeartbeats 800000 in
theorem at_any (n : Int) (b o m c : Nat) (es : List (Int × Int)) (v : Int) (w : World) (h : Eds w b o m es) (hm : m ≤ 1048576) :
    Calls Tryz.prog 103 #[.agg #[.int .i64 n, .slice (some ⟨b, o, none⟩) m c], .int .i64 v] w (RetL (atL es v) w) := by
  have hl := Lib.hid h.len
  go_enter Tryz.func103, Tryz.ntmps103
  go_wp2_with fail
  go_loopw [5, 11] (fun v1 i wr => ∃ j : Nat, j ≤ m ∧ i = .int .i64 j ∧ (∃ A c', v1 = .slice A (atTo es v j).length c' ∧ OwnL w.heap.size wr A (atTo es v j).length c' (atTo es v j)) ∧ Below w.heap.size w wr) (fun _ i _ => m - (intOf i).toNat)
  case atStart => exact ⟨0, Nat.zero_le _, rfl, ⟨_, _, rfl, OwnL.nil _ _⟩, (Below.refl _ _).alloc (Nat.le_refl _) _⟩
  case round =>
    obtain ⟨j, hj, rfl, ⟨A, c', rfl, hown⟩, hbr⟩ := hrel
    have hE := h.below hbr
    have hsz := hbr.size
    have hle := atTo_len es v j
    by_cases hlt : j < m
    · have c1 := hE.ca j hlt
      have c2 := hE.cb j hlt
      by_cases hx : ea es j = v ∨ eb es j = v
      · have hI : ∀ W, Calls Tryz.prog 138 #[.agg #[.int .i64 (ea es j), .int .i64 (eb es j)], .int .i64 v] W (Ret (.bool true) W) := fun W => by
          have := isOn_any (ea es j) (eb es j) v W
          rw [decide_eq_true hx] at this
          exact this
        have e := atTo_yes hx
        have e2 : (atTo es v (j + 1)).length = (atTo es v j).length + 1 := by rw [e]; simp
        clear hx
        go_wp2_with (first
          | (go_at_call 138; refine (hI _).mono ?_; rintro _ w2 ⟨rfl, hb2⟩; have hb3 : Below wr.heap.size wr w2 := ((Below.refl _ _).alloc (Nat.le_refl _) _).thenB (by simp [go_sem]) hb2)
          | (at_builtin; refine wp_app1 rfl rfl rfl rfl (hown.below hb3) (by have := hb3.size; omega) (by omega) ?_; intro A' c'' w4 hown' hbel' hgr'))
        go_roundw
        case rel => first | exact ⟨j + 1, by omega, by go_num, ⟨A', c'', by rw [e2], by rw [e2, e]; exact hown'⟩, hbel' _ _ (hbr.andB hb3) (Nat.le_refl _)⟩ | ((repeat apply Exists.intro); exact ⟨⟨j + 1, by omega, by go_num, ⟨A', c'', by rw [e2], by rw [e2, e]; exact hown'⟩, hbel' _ _ (hbr.andB hb3) (Nat.le_refl _)⟩, rfl⟩)
        case measure => simp [intOf]; omega
      · have hI : ∀ W, Calls Tryz.prog 138 #[.agg #[.int .i64 (ea es j), .int .i64 (eb es j)], .int .i64 v] W (Ret (.bool false) W) := fun W => by
          have := isOn_any (ea es j) (eb es j) v W
          rw [decide_eq_false hx] at this
          exact this
        have e := atTo_no hx
        clear hx
        go_wp2_with (first
          | (go_at_call 138; refine (hI _).mono ?_; rintro _ w2 ⟨rfl, hb2⟩; have hb3 : Below wr.heap.size wr w2 := ((Below.refl _ _).alloc (Nat.le_refl _) _).thenB (by simp [go_sem]) hb2))
        go_roundw
        case rel => first | exact ⟨j + 1, by omega, by go_num, ⟨A, c', by rw [e], by rw [e]; exact hown.below hb3⟩, hbr.andB hb3⟩ | ((repeat apply Exists.intro); exact ⟨⟨j + 1, by omega, by go_num, ⟨A, c', by rw [e], by rw [e]; exact hown.below hb3⟩, hbr.andB hb3⟩, rfl⟩)
        case measure => simp [intOf]; omega
    · obtain rfl : j = m := by omega
      have e : atL es v = atTo es v j := by simp only [atL]; rw [hl.out]
      go_wp2_with fail
      go_ret
      exact ⟨A, c', by rw [e]; rfl, by rw [e]; exact hown, hbr⟩
end Go.Proofs.YtajnhkkiddeegaaGreat
namespace Go.Proofs.YtajnhkkiddeegaaGreat
open Go.RowKit Go.Sort
def oth (es : List (Int × Int)) (e : Nat) (u : Int) : Int := ea es e + eb es e - u
def upI (f : Int → Int) (v x : Int) (u : Int) : Int := if u = v then x else f u
theorem upI_same (f : Int → Int) (v x : Int) : upI f v x v = x := by simp [upI]
theorem upI_other (f : Int → Int) (v x u : Int) (h : u ≠ v) : upI f v x u = f u := by simp [upI, h]
/-- Where a search stands: distances, and the vertices met. -/
structure BS where
  far : Int → Int
  q : List Int
def bStep (es : List (Int × Int)) (sk : Nat → Bool) (u : Int) (s : BS) (e : Nat) : BS :=
  if sk e = false ∧ s.far (oth es e u) < 0 then ⟨upI s.far (oth es e u) (s.far u + 1), s.q ++ [oth es e u]⟩ else s
theorem bStep_yes {es : List (Int × Int)} {sk : Nat → Bool} {u : Int} {s : BS} {e : Nat} (h1 : sk e = false) (h2 : s.far (oth es e u) < 0) : bStep es sk u s e = ⟨upI s.far (oth es e u) (s.far u + 1), s.q ++ [oth es e u]⟩ := by simp [bStep, h1, h2]
theorem bStep_no {es : List (Int × Int)} {sk : Nat → Bool} {u : Int} {s : BS} {e : Nat} (h : ¬ (sk e = false ∧ s.far (oth es e u) < 0)) : bStep es sk u s e = s := by rw [bStep, if_neg h]
def bVis (es : List (Int × Int)) (sk : Nat → Bool) (u : Int) (L : List Int) (s : BS) : Nat → BS
  | 0 => s
  | k + 1 => bStep es sk u (bVis es sk u L s k) (ia L k).toNat
def bNext (es : List (Int × Int)) (sk : Nat → Bool) (s : BS) (i : Nat) : BS := bVis es sk (ia s.q i) (atL es (ia s.q i)) s (atL es (ia s.q i)).length
def bfs (es : List (Int × Int)) (sk : Nat → Bool) (a : Int) : Nat → BS
  | 0 => ⟨fun v => if v = a then 0 else -1, [a]⟩
  | i + 1 => if i < (bfs es sk a i).q.length then bNext es sk (bfs es sk a i) i else bfs es sk a i
theorem memAt {es : List (Int × Int)} {v x : Int} : ∀ {k : Nat}, x ∈ atTo es v k → ∃ f : Nat, f < k ∧ x = f ∧ (ea es f = v ∨ eb es f = v) := by
  intro k
  induction k with
  | zero => intro h; simp [atTo] at h
  | succ k ih =>
    intro h
    simp only [atTo, List.mem_append] at h
    rcases h with h | h
    · obtain ⟨f, hf, h⟩ := ih h
      exact ⟨f, by omega, h⟩
    · split at h
      · simp at h; exact ⟨k, by omega, h, by assumption⟩
      · simp at h
theorem atMem {es : List (Int × Int)} {v : Int} : ∀ {k f : Nat}, f < k → (ea es f = v ∨ eb es f = v) → (f : Int) ∈ atTo es v k := by
  intro k
  induction k with
  | zero => intro f h; omega
  | succ k ih =>
    intro f h hv
    simp only [atTo, List.mem_append]
    by_cases e : f = k
    · subst e; exact .inr (by rw [if_pos hv]; simp)
    · exact .inl (ih (by omega) hv)
theorem iaMem {xs : List Int} {i : Nat} (h : i < xs.length) : ia xs i ∈ xs := by simp [ia, h]
theorem memIa {xs : List Int} {x : Int} (h : x ∈ xs) : ∃ i, i < xs.length ∧ ia xs i = x := by
  obtain ⟨i, hi, rfl⟩ := List.mem_iff_getElem.1 h
  exact ⟨i, hi, by simp [ia, hi]⟩
theorem ia_app {xs ys : List Int} {i : Nat} (h : i < xs.length) : ia (xs ++ ys) i = ia xs i := by simp [ia, List.getElem?_append_left h]
theorem atL_at {es : List (Int × Int)} {u : Int} {k : Nat} (hk : k < (atL es u).length) : ∃ f : Nat, f < es.length ∧ ia (atL es u) k = f ∧ (ea es f = u ∨ eb es f = u) := memAt (iaMem hk)
theorem oth_in {n : Int} {es : List (Int × Int)} (hn : WfP n es) {u : Int} {f : Nat} (hf : f < es.length) (h : ea es f = u ∨ eb es f = u) : 0 ≤ oth es f u ∧ oth es f u ≤ n - 1 ∧ oth es f u ≠ u := by
  have := hn.2.2.2.2 f hf
  unfold oth
  rcases h with h | h <;> omega
structure BInv (n a : Int) (s : BS) : Prop where
  nd : s.q.Nodup
  mem : ∀ v, 0 ≤ s.far v ↔ v ∈ s.q
  rng : ∀ v, v ∈ s.q → 0 ≤ v ∧ v ≤ n - 1
  lo : ∀ v, -1 ≤ s.far v
  hi : ∀ v, s.far v < s.q.length
  a0 : s.far a = 0
  pos : ∀ v, v ≠ a → s.far v ≠ 0
  aq : a ∈ s.q
theorem BInv.start {n a : Int} (h0 : 0 ≤ a) (h1 : a ≤ n - 1) : BInv n a ⟨fun v => if v = a then 0 else -1, [a]⟩ where
  nd := by simp
  mem := fun v => by by_cases h : v = a <;> simp [h]
  rng := fun v hv => by simp at hv; subst hv; exact ⟨h0, h1⟩
  lo := fun v => by by_cases h : v = a <;> simp [h]
  hi := fun v => by by_cases h : v = a <;> simp [h]
  a0 := by simp
  pos := fun v h => by simp [h]
  aq := by simp
theorem BInv.step {n a : Int} {es : List (Int × Int)} {sk : Nat → Bool} {u : Int} {s : BS} (h : BInv n a s) (hn : WfP n es) (hu : u ∈ s.q) {f : Nat} (hf : f < es.length) (hv : ea es f = u ∨ eb es f = u) : BInv n a (bStep es sk u s f) := by
  by_cases hc : sk f = false ∧ s.far (oth es f u) < 0
  · rw [bStep_yes hc.1 hc.2]
    have ho := oth_in hn hf hv
    have hnm : oth es f u ∉ s.q := fun hm => by have := (h.mem _).2 hm; omega
    have hua := (h.mem u).2 hu
    have hne : oth es f u ≠ a := fun e => by have := h.a0; rw [← e] at this; omega
    refine ⟨?_, fun v => ?_, fun v hv => ?_, fun v => ?_, fun v => ?_, ?_, fun v hva => ?_, ?_⟩
    · simp only
      rw [List.nodup_append]
      exact ⟨h.nd, by simp, fun x hx y hy => by simp at hy; subst hy; exact fun e => hnm (e ▸ hx)⟩
    · simp only [upI, List.mem_append, List.mem_singleton]
      split
      · simp [*]; omega
      · rw [h.mem]; simp [*]
    · simp only [List.mem_append, List.mem_singleton] at hv
      rcases hv with hv | rfl
      · exact h.rng v hv
      · exact ⟨ho.1, ho.2.1⟩
    · simp only [upI]; split
      · omega
      · exact h.lo v
    · simp only [upI, List.length_append, List.length_singleton]
      split
      · have := h.hi u; omega
      · have := h.hi v; omega
    · simp only [upI]; rw [if_neg (Ne.symm hne)]; exact h.a0
    · simp only [upI]; split
      · omega
      · exact h.pos v hva
    · simp only [List.mem_append]; exact .inl h.aq
  · rw [bStep_no hc]; exact h
theorem bStep_q {es : List (Int × Int)} {sk : Nat → Bool} {u : Int} {s : BS} {f : Nat} : ∃ ys, (bStep es sk u s f).q = s.q ++ ys := by
  by_cases hc : sk f = false ∧ s.far (oth es f u) < 0
  · rw [bStep_yes hc.1 hc.2]; exact ⟨_, rfl⟩
  · rw [bStep_no hc]; exact ⟨[], by simp⟩
theorem bVis_q {es : List (Int × Int)} {sk : Nat → Bool} {u : Int} {L : List Int} {s : BS} (k : Nat) : ∃ ys, (bVis es sk u L s k).q = s.q ++ ys := by
  induction k with
  | zero => exact ⟨[], by simp [bVis]⟩
  | succ k ih =>
    obtain ⟨ys, h⟩ := ih
    obtain ⟨zs, h2⟩ := bStep_q (es := es) (sk := sk) (u := u) (s := bVis es sk u L s k) (f := (ia L k).toNat)
    exact ⟨ys ++ zs, by simp only [bVis]; rw [h2, h, List.append_assoc]⟩
theorem BInv.vis {n a : Int} {es : List (Int × Int)} {sk : Nat → Bool} {u : Int} {s : BS} (h : BInv n a s) (hn : WfP n es) (hu : u ∈ s.q) : ∀ k, k ≤ (atL es u).length → BInv n a (bVis es sk u (atL es u) s k) := by
  intro k
  induction k with
  | zero => intro _; exact h
  | succ k ih =>
    intro hk
    obtain ⟨f, hf, e, hv⟩ := atL_at (es := es) (u := u) (k := k) (by omega)
    obtain ⟨ys, hq⟩ := bVis_q (es := es) (sk := sk) (u := u) (L := atL es u) (s := s) k
    simp only [bVis]
    rw [e, Int.toNat_natCast]
    exact (ih (by omega)).step hn (by rw [hq]; exact List.mem_append_left _ hu) hf hv
theorem BInv.next {n a : Int} {es : List (Int × Int)} {sk : Nat → Bool} {s : BS} (h : BInv n a s) (hn : WfP n es) {i : Nat} (hi : i < s.q.length) : BInv n a (bNext es sk s i) :=
  h.vis hn (iaMem hi) _ (Nat.le_refl _)
theorem BInv.bfs {n a : Int} {es : List (Int × Int)} {sk : Nat → Bool} (hn : WfP n es) (h0 : 0 ≤ a) (h1 : a ≤ n - 1) : ∀ i, BInv n a (bfs es sk a i) := by
  intro i
  induction i with
  | zero => exact BInv.start h0 h1
  | succ i ih =>
    rw [Go.Proofs.YtajnhkkiddeegaaGreat.bfs]
    split
    · exact ih.next hn (by assumption)
    · exact ih
theorem BInv.len {n a : Int} {s : BS} (h : BInv n a s) : s.q.length ≤ n.toNat := by
  refine inj_le n.toNat s.q.length (fun i => (ia s.q i).toNat) (fun i hi => ?_) (fun i j hi hj e => ?_)
  · have := h.rng _ (iaMem hi); omega
  · have h1 := h.rng _ (iaMem hi)
    have h2 := h.rng _ (iaMem hj)
    have e2 : ia s.q i = ia s.q j := by omega
    have hp := List.pairwise_iff_getElem.1 h.nd
    have e3 : s.q[i] = s.q[j] := by simpa [ia, hi, hj] using e2
    rcases Nat.lt_trichotomy i j with hlt | heq | hgt
    · exact absurd e3 (hp i j hi hj hlt)
    · exact heq
    · exact absurd e3.symm (hp j i hj hi hgt)
theorem bfs_succ {es : List (Int × Int)} {sk : Nat → Bool} {a : Int} {i : Nat} (h : i < (bfs es sk a i).q.length) : bfs es sk a (i + 1) = bNext es sk (bfs es sk a i) i := by rw [bfs, if_pos h]
theorem bfs_done {es : List (Int × Int)} {sk : Nat → Bool} {a : Int} {i : Nat} (h : ¬ i < (bfs es sk a i).q.length) : ∀ j, i ≤ j → bfs es sk a j = bfs es sk a i := by
  intro j hj
  induction j with
  | zero => rw [show i = 0 by omega]
  | succ j ih =>
    by_cases e : i = j + 1
    · rw [e]
    · have := ih (by omega)
      rw [bfs, this, if_neg (by omega)]
/-- The distances from a vertex. -/
def farF (es : List (Int × Int)) (sk : Nat → Bool) (n a : Int) : Int → Int := (bfs es sk a n.toNat).far
theorem farF_at {n a : Int} {es : List (Int × Int)} {sk : Nat → Bool} (hn : WfP n es) (h0 : 0 ≤ a) (h1 : a ≤ n - 1) {i : Nat} (h : ¬ i < (bfs es sk a i).q.length) (hi : i ≤ (bfs es sk a i).q.length) : farF es sk n a = (bfs es sk a i).far := by
  have := (BInv.bfs (sk := sk) hn h0 h1 i).len
  rw [farF, bfs_done h _ (by omega)]
theorem farF_inv {n a : Int} {es : List (Int × Int)} {sk : Nat → Bool} (hn : WfP n es) (h0 : 0 ≤ a) (h1 : a ≤ n - 1) : BInv n a (bfs es sk a n.toNat) := BInv.bfs hn h0 h1 _
theorem farF_bd {n a : Int} {es : List (Int × Int)} {sk : Nat → Bool} (hn : WfP n es) (h0 : 0 ≤ a) (h1 : a ≤ n - 1) (v : Int) : -1 ≤ farF es sk n a v ∧ farF es sk n a v ≤ 19 := by
  have h := farF_inv (sk := sk) hn h0 h1
  have := h.lo v
  have := h.hi v
  have := h.len
  have := hn.2.1
  unfold farF
  omega
theorem farF_pos {n a : Int} {es : List (Int × Int)} {sk : Nat → Bool} (hn : WfP n es) (h0 : 0 ≤ a) (h1 : a ≤ n - 1) {v : Int} (hv : v ≠ a) : 0 ≤ farF es sk n a v ↔ 0 < farF es sk n a v := by
  have := (farF_inv (sk := sk) hn h0 h1).pos v hv
  unfold farF
  omega
def AdjE (es : List (Int × Int)) (sk : Nat → Bool) (u v : Int) : Prop := ∃ e, e < es.length ∧ sk e = false ∧ ((ea es e = u ∧ eb es e = v) ∨ (eb es e = u ∧ ea es e = v))
theorem AdjE.symm {es : List (Int × Int)} {sk : Nat → Bool} {u v : Int} (h : AdjE es sk u v) : AdjE es sk v u := by
  obtain ⟨e, he, hs, h⟩ := h
  exact ⟨e, he, hs, h.elim (fun h => .inr ⟨h.2, h.1⟩) (fun h => .inl ⟨h.2, h.1⟩)⟩
def RchK (es : List (Int × Int)) (sk : Nat → Bool) : Nat → Int → Int → Prop
  | 0, u, v => u = v
  | k + 1, u, v => ∃ x, RchK es sk k u x ∧ AdjE es sk x v
def Rch (es : List (Int × Int)) (sk : Nat → Bool) (u v : Int) : Prop := ∃ k, RchK es sk k u v
theorem Rch.refl (es : List (Int × Int)) (sk : Nat → Bool) (u : Int) : Rch es sk u u := ⟨0, rfl⟩
theorem Rch.step {es : List (Int × Int)} {sk : Nat → Bool} {u x v : Int} (h : Rch es sk u x) (k : AdjE es sk x v) : Rch es sk u v := let ⟨m, hm⟩ := h; ⟨m + 1, x, hm, k⟩
theorem Rch.trans {es : List (Int × Int)} {sk : Nat → Bool} {u x v : Int} (h : Rch es sk u x) (k : Rch es sk x v) : Rch es sk u v := by
  obtain ⟨m, hm⟩ := k
  induction m generalizing v with
  | zero => obtain rfl : x = v := hm; exact h
  | succ m ih => obtain ⟨y, hy, ha⟩ := hm; exact (ih hy).step ha
theorem Rch.adj {es : List (Int × Int)} {sk : Nat → Bool} {u v : Int} (k : AdjE es sk u v) : Rch es sk u v := (Rch.refl es sk u).step k
theorem Rch.symm {es : List (Int × Int)} {sk : Nat → Bool} {u v : Int} (h : Rch es sk u v) : Rch es sk v u := by
  obtain ⟨m, hm⟩ := h
  induction m generalizing v with
  | zero => obtain rfl : u = v := hm; exact Rch.refl _ _ _
  | succ m ih => obtain ⟨y, hy, ha⟩ := hm; exact (Rch.adj ha.symm).trans (ih hy)
theorem adj_oth {es : List (Int × Int)} {sk : Nat → Bool} {u : Int} {f : Nat} (hf : f < es.length) (hs : sk f = false) (hv : ea es f = u ∨ eb es f = u) : AdjE es sk u (oth es f u) := by
  refine ⟨f, hf, hs, ?_⟩
  unfold oth
  rcases hv with h | h
  · exact .inl ⟨h, by omega⟩
  · exact .inr ⟨h, by omega⟩
/-- All that is met is reached. -/
theorem bVis_sound {es : List (Int × Int)} {sk : Nat → Bool} {a u : Int} {s : BS} (hu : u ∈ s.q) (h : ∀ v, v ∈ s.q → Rch es sk a v) : ∀ k, k ≤ (atL es u).length → ∀ v, v ∈ (bVis es sk u (atL es u) s k).q → Rch es sk a v := by
  intro k
  induction k with
  | zero => intro _; exact h
  | succ k ih =>
    intro hk v hv
    obtain ⟨f, hf, e, hvv⟩ := atL_at (es := es) (u := u) (k := k) (by omega)
    simp only [bVis] at hv
    rw [e, Int.toNat_natCast] at hv
    by_cases hc : sk f = false ∧ (bVis es sk u (atL es u) s k).far (oth es f u) < 0
    · rw [bStep_yes hc.1 hc.2] at hv
      simp only [List.mem_append, List.mem_singleton] at hv
      rcases hv with hv | rfl
      · exact ih (by omega) v hv
      · exact (h u hu).step (adj_oth hf hc.1 hvv)
    · rw [bStep_no hc] at hv; exact ih (by omega) v hv
theorem bfs_sound {es : List (Int × Int)} {sk : Nat → Bool} {a : Int} : ∀ i v, v ∈ (bfs es sk a i).q → Rch es sk a v := by
  intro i
  induction i with
  | zero => intro v hv; simp [bfs] at hv; subst hv; exact Rch.refl _ _ _
  | succ i ih =>
    intro v hv
    rw [bfs] at hv
    split at hv
    · exact bVis_sound (iaMem (by assumption)) ih _ (Nat.le_refl _) v hv
    · exact ih v hv
/-- Behind a vertex's visit all its neighbours are met. -/
theorem bVis_full {n a : Int} {es : List (Int × Int)} {sk : Nat → Bool} {u : Int} {s : BS} (h : BInv n a s) (hn : WfP n es) (hu : u ∈ s.q) : ∀ k, k ≤ (atL es u).length → ∀ j, j < k → sk (ia (atL es u) j).toNat = false → oth es (ia (atL es u) j).toNat u ∈ (bVis es sk u (atL es u) s k).q := by
  intro k
  induction k with
  | zero => intro _ j hj; omega
  | succ k ih =>
    intro hk j hj hs
    obtain ⟨ys, hq⟩ := bStep_q (es := es) (sk := sk) (u := u) (s := bVis es sk u (atL es u) s k) (f := (ia (atL es u) k).toNat)
    simp only [bVis]
    by_cases e : j = k
    · subst e
      by_cases hc : (bVis es sk u (atL es u) s j).far (oth es (ia (atL es u) j).toNat u) < 0
      · rw [bStep_yes hs hc]; simp
      · rw [hq]
        exact List.mem_append_left _ (((h.vis (sk := sk) hn hu j (by omega)).mem _).1 (by omega))
    · rw [hq]; exact List.mem_append_left _ (ih (by omega) j (by omega) hs)
theorem bfs_pre {es : List (Int × Int)} {sk : Nat → Bool} {a : Int} (i : Nat) : ∃ ys, (bfs es sk a (i + 1)).q = (bfs es sk a i).q ++ ys := by
  rw [bfs]
  split
  · exact bVis_q _
  · exact ⟨[], by simp⟩
theorem bfs_closed {n a : Int} {es : List (Int × Int)} {sk : Nat → Bool} (hn : WfP n es) (h0 : 0 ≤ a) (h1 : a ≤ n - 1) : ∀ i j, j < i → j < (bfs es sk a i).q.length → ∀ v, AdjE es sk (ia (bfs es sk a i).q j) v → v ∈ (bfs es sk a i).q := by
  intro i
  induction i with
  | zero => intro j hj; omega
  | succ i ih =>
    intro j hj hjl v hv
    by_cases hi : i < (bfs es sk a i).q.length
    · obtain ⟨ys, hq⟩ := bfs_pre (es := es) (sk := sk) (a := a) i
      have hjl' : j < (bfs es sk a i).q.length := by omega
      have e : ia (bfs es sk a (i + 1)).q j = ia (bfs es sk a i).q j := by rw [hq, ia_app hjl']
      rw [e] at hv
      by_cases hji : j = i
      · subst hji
        rw [bfs_succ hi]
        obtain ⟨f, hf, hs, hh⟩ := hv
        obtain ⟨k, hk, ek⟩ := memIa (atMem (es := es) (v := ia (bfs es sk a j).q j) (k := es.length) hf (hh.elim (fun h => .inl h.1) (fun h => .inr h.1)))
        have := bVis_full (sk := sk) (BInv.bfs (sk := sk) hn h0 h1 j) hn (iaMem hi) _ (Nat.le_refl _) k hk (by simp only [atL]; rw [ek, Int.toNat_natCast]; exact hs)
        simp only [atL] at this
        rw [ek, Int.toNat_natCast] at this
        rw [show v = oth es f (ia (bfs es sk a j).q j) from by unfold oth; rcases hh with hh | hh <;> omega]
        exact this
      · rw [hq]; exact List.mem_append_left _ (ih j (by omega) hjl' v hv)
    · rw [bfs_done hi (i + 1) (by omega)] at hjl hv ⊢
      exact ih j (by omega) hjl v hv
theorem bfs_end {n a : Int} {es : List (Int × Int)} {sk : Nat → Bool} (hn : WfP n es) (h0 : 0 ≤ a) (h1 : a ≤ n - 1) {v : Int} : v ∈ (bfs es sk a n.toNat).q ↔ Rch es sk a v := by
  refine ⟨bfs_sound _ v, ?_⟩
  have hI := BInv.bfs (sk := sk) hn h0 h1 n.toNat
  rintro ⟨k, hk⟩
  induction k generalizing v with
  | zero => obtain rfl : a = v := hk; exact hI.aq
  | succ k ih =>
    obtain ⟨x, hx, ha⟩ := hk
    obtain ⟨j, hj, e⟩ := memIa (ih hx)
    exact bfs_closed hn h0 h1 n.toNat j (by have := hI.len; omega) hj v (by rw [e]; exact ha)
theorem farF_iff {n a : Int} {es : List (Int × Int)} {sk : Nat → Bool} (hn : WfP n es) (h0 : 0 ≤ a) (h1 : a ≤ n - 1) (v : Int) : 0 ≤ farF es sk n a v ↔ Rch es sk a v := by
  rw [← bfs_end hn h0 h1, ← (farF_inv (sk := sk) hn h0 h1).mem v, farF]
theorem Rch.rng {n : Int} {es : List (Int × Int)} {sk : Nat → Bool} (hn : WfP n es) {u v : Int} (h : Rch es sk u v) (h0 : 0 ≤ u ∧ u ≤ n - 1) : 0 ≤ v ∧ v ≤ n - 1 := by
  obtain ⟨k, hk⟩ := h
  induction k generalizing v with
  | zero => obtain rfl : u = v := hk; exact h0
  | succ k ih =>
    obtain ⟨x, hx, e, he, _, hh⟩ := hk
    have := hn.2.2.2.2 e he
    rcases hh with hh | hh <;> omega
end Go.Proofs.YtajnhkkiddeegaaGreat
namespace Go.Proofs.YtajnhkkiddeegaaGreat
open Go.RowKit Go.Sort
theorem ret2 {a b a' b' : Int} (h1 : a = a') (h2 : b = b') : Ending.returned (.tuple #[.int .i64 a, .int .i64 b]) = .returned (.tuple #[.int .i64 a', .int .i64 b']) := by rw [h1, h2]
theorem ints1 (w : World) (v : Int) (t : TypeId) : Ints (w.alloc (.cells #[.int .i64 v] t)) w.heap.size 0 1 (fun _ => v) :=
  ⟨by simp, fun j hj => by obtain rfl : j = 0 := by omega
                           simp⟩
end Go.Proofs.YtajnhkkiddeegaaGreat
namespace Go.Proofs.YtajnhkkiddeegaaGreat
open Go.RowKit Go.Sort
end Go.Proofs.YtajnhkkiddeegaaGreat
namespace Go.Proofs.YtajnhkkiddeegaaGreat
open Go.RowKit Go.Sort
/-- A new list, as a fact of an operation. -/
def NewL (base : Nat) (xs : List Int) (v : Value) (W : World) : Prop := ∃ A c, v = .slice A xs.length c ∧ OwnL base W A xs.length c xs
theorem NewL.below {base : Nat} {xs : List Int} {v : Value} {W W' : World} (h : NewL base xs v W) (hb : Below W.heap.size W W') : NewL base xs v W' := let ⟨A, c, e, ho⟩ := h; ⟨A, c, e, ho.below hb⟩
end Go.Proofs.YtajnhkkiddeegaaGreat
namespace Go.Proofs.YtajnhkkiddeegaaGreat
open Go.RowKit Go.Sort
def vE (es : List (Int × Int)) (t : Nat) : Int := if t % 2 = 0 then ea es (t / 2) else eb es (t / 2)
theorem ia_mem {xs : List Int} {i : Nat} (h : i < xs.length) : ia xs i ∈ xs := by simp [ia, h]
end Go.Proofs.YtajnhkkiddeegaaGreat
namespace Go.Proofs.YtajnhkkiddeegaaGreat
open Go.RowKit Go.Sort
end Go.Proofs.YtajnhkkiddeegaaGreat
namespace Go.Proofs.YtajnhkkiddeegaaGreat
open Go.RowKit Go.Sort
def adjP (es : List (Int × Int)) (d e : Nat) : Prop := (ea es d = ea es e ∨ eb es d = ea es e) ∨ (ea es d = eb es e ∨ eb es d = eb es e)
structure Part (es : List (Int × Int)) (L0 : List Nat) (G : Nat → Int) : Prop where
  asc : L0.Pairwise (· < ·)
  lt : ∀ d, d ∈ L0 → d < es.length
  closed : ∀ d e, d < es.length → e ∈ L0 → adjP es d e → d ∈ L0
  giv : ∀ d, G d ≠ -1 → d ∈ L0 ∧ 0 ≤ G d ∧ G d ≤ 2
theorem Part.nodup {es : List (Int × Int)} {L0 : List Nat} {G : Nat → Int} (h : Part es L0 G) : L0.Nodup := h.asc.imp fun h => by omega
end Go.Proofs.YtajnhkkiddeegaaGreat
namespace Go.Proofs.YtajnhkkiddeegaaGreat
open Go.RowKit Go.Sort
end Go.Proofs.YtajnhkkiddeegaaGreat
