import Derived.Test.YtnoneppmeaeicaaDoorM3
import Derived.Test.YtnoneppmeaeicaaDoorM1
import Derived.Test.YtnoneppmeaeicaaDoorM2
namespace Go.Proofs.YtnoneppmeaeicaaDoor
open Go.RowKit Go.Sort
/-- A list as a function. -/
def ia (xs : List Int) (j : Nat) : Int := xs.getD j 0
theorem ia_ext {xs ys : List Int} (h : xs.length = ys.length) (hj : ∀ j, j < xs.length → ia xs j = ia ys j) : xs = ys := by
  apply List.ext_getElem h
  intro j h1 h2
  have := hj j h1
  simpa [ia, h1, h2] using this
def nums (xs : List Int) : List Value := xs.map (Value.int .i64)
theorem nums_at (xs : List Int) (j : Nat) (h : j < xs.length) : (nums xs)[j]? = some (.int .i64 (ia xs j)) := by simp [nums, ia, h]
/-- A list of the call's own, maybe nil. -/
def OwnL (base : Nat) (w : World) (A : Option Addr) (m c : Nat) (xs : List Int) : Prop := xs.length = m ∧ w.ownsRow base 2 1 (.slice A m c) m (nums xs)
/-- The block of a slice. -/
def blkOf (A : Option Addr) : Option Nat := A.map (·.block)
theorem OwnL.nil (base : Nat) (w : World) : OwnL base w none 0 0 [] := ⟨rfl, World.ownsRow_nil _ _ _ _⟩
theorem OwnL.cases {base : Nat} {w : World} {A : Option Addr} {m c : Nat} {xs : List Int} (h : OwnL base w A m c xs) : (A = none ∧ m = 0 ∧ c = 0) ∨ ∃ g, A = some ⟨g, 0, none⟩ ∧ base ≤ g ∧ g < w.heap.size := by
  rcases h.2.2 with ⟨e, e2⟩ | ⟨g, cap, cur, e, hb, hg, _⟩
  · injection e with e1 e3 e4; exact .inl ⟨e1, e3, e4⟩
  · injection e with e1 e3 e4; exact .inr ⟨g, e1, hb, (Array.getElem?_eq_some_iff.1 hg).1⟩
theorem OwnL.src {base : Nat} {w : World} {A : Option Addr} {m c : Nat} {xs : List Int} (h : OwnL base w A m c xs) : SrcI w A m (ia xs) := by
  intro hm
  rcases h.cases with ⟨_, h0, _⟩ | ⟨g, rfl, hb, hg⟩
  · omega
  · exact ⟨g, 0, rfl, hg, fun j hj => by rw [Nat.zero_add, h.2.cellAt j (by omega)]; exact nums_at xs j (by rw [h.1]; exact hj)⟩
theorem OwnL.kept {base : Nat} {w w' : World} {A : Option Addr} {m c : Nat} {xs : List Int} {row : Option Nat} (h : OwnL base w A m c xs) (hg : w.grownBy w' row) (hne : blkOf A = none ∨ blkOf A ≠ row) : OwnL base w' A m c xs :=
  ⟨h.1, h.2.kept hg (by cases A <;> simp [Value.ownBlock, blkOf] at hne ⊢; exact hne)⟩
theorem below_grownBy {w w' : World} (hb : Below w.heap.size w w') (row : Option Nat) : w.grownBy w' row := ⟨hb.os, hb.tape, hb.output, hb.size, fun i hi _ => hb.block i hi⟩
theorem OwnL.below {base : Nat} {w w' : World} {A : Option Addr} {m c : Nat} {xs : List Int} (h : OwnL base w A m c xs) (hb : Below w.heap.size w w') : OwnL base w' A m c xs :=
  h.kept (row := none) (below_grownBy hb none) (by cases A <;> simp [blkOf])
theorem OwnL.mono {base base' : Nat} {w : World} {A : Option Addr} {m c : Nat} {xs : List Int} (h : OwnL base w A m c xs) (hb : base' ≤ base) : OwnL base' w A m c xs := by
  refine ⟨h.1, h.2.1, ?_⟩
  rcases h.2.2 with hn | ⟨g', cap, cur, e, hbg, r⟩
  · exact .inl hn
  · exact .inr ⟨g', cap, cur, e, Nat.le_trans hb hbg, r⟩
theorem OwnL.blk {base : Nat} {w : World} {A : Option Addr} {m c : Nat} {xs : List Int} (h : OwnL base w A m c xs) : ∀ g, blkOf A = some g → base ≤ g ∧ g < w.heap.size := by
  intro g hg
  rcases h.cases with ⟨rfl, _⟩ | ⟨g', rfl, hb, hl⟩
  · cases hg
  · simp [blkOf] at hg; omega
/-- The call returns a new list, maybe nil. -/
def RetL (xs : List Int) (w : World) (e : Ending) (w' : World) : Prop := ∃ A c, e = .returned (.slice A xs.length c) ∧ OwnL w.heap.size w' A xs.length c xs ∧ Below w.heap.size w w'
/-- The call returns a new list, maybe nil, and a code. -/
def RetLC (xs : List Int) (k : Int) (w : World) (e : Ending) (w' : World) : Prop := ∃ A c, e = .returned (.tuple #[.slice A xs.length c, .int .i64 k]) ∧ OwnL w.heap.size w' A xs.length c xs ∧ Below w.heap.size w w'
theorem Below.ofGrown {B : Nat} {w0 w w' : World} {row : Option Nat} (h : Below B w0 w) (hg : w.grownBy w' row) (hB : B ≤ w.heap.size) (hr : ∀ k, row = some k → B ≤ k) : Below B w0 w' := h.grown hg hB hr
theorem grownTrans {a b c : World} {row : Option Nat} (h : a.grownBy b row) (k : b.grownBy c row) : a.grownBy c row :=
  ⟨k.os.trans h.os, k.tape.trans h.tape, k.output.trans h.output, Nat.le_trans h.size k.size, fun i hi hne => (k.block i (Nat.lt_of_lt_of_le hi h.size) hne).trans (h.block i hi hne)⟩
-- left out in this seat
-- left out in this seat
-- left out in this seat
theorem flatE_set1 (l : List (Int × Int)) (k : Nat) (a : Int) (h : k < l.length) : (flatE l).set (k * 2) (.int .i64 a) = flatE (l.set k (a, eb l k)) ∧ (flatE l).set (k * 2 + 1) (.int .i64 a) = flatE (l.set k (ea l k, a)) := by
  induction l generalizing k with
  | nil => simp at h
  | cons e l ih =>
    cases k with
    | zero => simp [flatE, ea, eb]
    | succ k =>
      have := ih k (by simpa using h)
      simp only [flatE, List.flatMap_cons, List.set_cons_succ] at this ⊢
      rw [show (k + 1) * 2 = (k * 2 + 1) + 1 from by omega]
      simpa [ea, eb] using this
/-- Whatever edges they are now. -/
def AnyE (base : Nat) (w : World) (g m c : Nat) : Prop := ∃ es, OwnE base w g m c es
-- left out in this seat
end Go.Proofs.YtnoneppmeaeicaaDoor
namespace Go.Proofs.YtnoneppmeaeicaaDoor
open Go.RowKit Go.Sort
theorem IsG.wf {n : Int} {es : List (Int × Int)} (h : IsG n es) : WfP n es := h.1
/-! ### Codes -/
noncomputable def vtxC (n : Int) (es : List (Int × Int)) (k : Nat) (g : Nat → Int) : Int := if B (IsG n es) then (if B (∀ j, j < k → 0 ≤ g j ∧ g j ≤ n - 1) then 0 else 2) else 1
theorem vtxC_1 {n : Int} {es : List (Int × Int)} {k : Nat} {g : Nat → Int} (h : ¬ IsG n es) : vtxC n es k g = 1 := by simp [vtxC, B_false h]
theorem vtxC_2 {n : Int} {es : List (Int × Int)} {k : Nat} {g : Nat → Int} (h : IsG n es) (h2 : ¬ ∀ j, j < k → 0 ≤ g j ∧ g j ≤ n - 1) : vtxC n es k g = 2 := by simp only [vtxC, B_true h, B_false h2]; rfl
theorem vtxC_0 {n : Int} {es : List (Int × Int)} {k : Nat} {g : Nat → Int} (h : IsG n es) (h2 : ∀ j, j < k → 0 ≤ g j ∧ g j ≤ n - 1) : vtxC n es k g = 0 := by simp only [vtxC, B_true h, B_true h2]; rfl
-- left out in this seat
/-- The other end, and whether a vertex is on an edge. -/
def onB (es : List (Int × Int)) (j : Nat) (v : Int) : Bool := decide (ea es j = v ∨ eb es j = v)
-- left out in this seat
-- left out in this seat
-- left out in this seat
def vxB (n v : Int) : Bool := inB v 0 (wrap64 (n - 1))
theorem vxB_wf {n v : Int} (h1 : 2 ≤ n) (h2 : n ≤ 20) : vxB n v = inB v 0 (n - 1) := by
  unfold vxB
  rw [IntWalk.wrap64_in (n - 1) (by omega)]
-- left out in this seat
-- left out in this seat
noncomputable def gcC (n : Int) (es : List (Int × Int)) (r : Bool) : Int := if B (IsG n es) then (if r then 0 else 2) else 1
theorem graphCode_any (n : Int) (b o m c : Nat) (es : List (Int × Int)) (r : Bool) (w : World) (h : Eds w b o m es) (hm : m ≤ 1048576) :
    Calls Tryd.prog 13 #[.agg #[.int .i64 n, .slice (some ⟨b, o, none⟩) m c], .bool r] w (Ret (.int .i64 (gcC n es r)) w) := by
  have hbb := (by go_grown : Below w.heap.size w (w.alloc (.cells #[.int .i64 n, .slice (some ⟨b, o, none⟩) m c] 30)))
  cases hG : B (IsG n es) with
  | false =>
    have HV : Hid (gcC n es r = 1) := by simp [Hid, gcC, hG]
    go_enter Tryd.func13, Tryd.ntmps13
    go_wp2_with fail
    refine (implIs_any _ _ _ _ _ es _ (h.alloc _) hm).mono ?_
    rintro e w1 ⟨rfl, hb1⟩
    go_wp2_with fail
    go_ret
    exact ⟨ret_int HV.out.symm, hbb.thenB (by simp) hb1⟩
  | true =>
    cases r with
    | false =>
      have HV : Hid (gcC n es false = 2) := by simp [Hid, gcC, hG]
      go_enter Tryd.func13, Tryd.ntmps13
      go_wp2_with fail
      refine (implIs_any _ _ _ _ _ es _ (h.alloc _) hm).mono ?_
      rintro e w1 ⟨rfl, hb1⟩
      go_wp2_with fail
      go_ret
      exact ⟨ret_int HV.out.symm, hbb.thenB (by simp) hb1⟩
    | true =>
      have HV : Hid (gcC n es true = 0) := by simp [Hid, gcC, hG]
      go_enter Tryd.func13, Tryd.ntmps13
      go_wp2_with fail
      refine (implIs_any _ _ _ _ _ es _ (h.alloc _) hm).mono ?_
      rintro e w1 ⟨rfl, hb1⟩
      go_wp2_with fail
      go_ret
      exact ⟨ret_int HV.out.symm, hbb.thenB (by simp) hb1⟩
/-! ### OtherEnd -/
noncomputable def oeC (n : Int) (es : List (Int × Int)) (e v : Int) : Int :=
  if B (IsG n es) then (if inB v 0 (n - 1) && inB e 0 (es.length - 1) then (if onB es e.toNat v then 0 else 5) else 2) else 1
noncomputable def oeV (n : Int) (es : List (Int × Int)) (e v : Int) : Int := if oeC n es e v = 0 then ea es e.toNat + eb es e.toNat - v else 0
end Go.Proofs.YtnoneppmeaeicaaDoor
namespace Go.Proofs.YtnoneppmeaeicaaDoor
open Go.RowKit Go.Sort
theorem nums_append (xs ys : List Int) : nums (xs ++ ys) = nums xs ++ nums ys := by simp [nums]
theorem nums_length (xs : List Int) : (nums xs).length = xs.length := by simp [nums]
theorem OwnL.empty (base : Nat) (w : World) (g : Nat) (hb : base ≤ g) (h : w.heap[g]? = some (.cells #[] 2 (0, 0))) : OwnL base w (some ⟨g, 0, none⟩) 0 0 [] :=
  ⟨rfl, rfl, .inr ⟨g, 0, #[], rfl, hb, h, Nat.le_refl _, by unfold maxLen; omega, rfl, rfl⟩⟩
theorem cell1 (w : World) (x : Value) (t : TypeId) : ∀ j u, [x][j]? = some u → (w.alloc (.cells #[x] t)).cell? ((⟨w.heap.size, 0, none⟩ : Addr).add j) = some u := by
  intro j u hj
  match j, hj with
  | 0, hj =>
    simp only [List.getElem?_cons_zero, Option.some.injEq] at hj
    subst hj
    simp [go_sem, Addr.add]
/-- One number more behind a list of the call's own. -/
theorem wp_app1 {ops : Array Oper} {rest : List Oper} {o : Oper} {a : Act} {Q : Exit → Act → World → Prop} {s x : Operand} (hgd : o.guard = none)
    (ho : o.op = .call { callee := .builtin .append, args := #[s, x], argTypes := #[51, 51] })
    {base : Nat} {A : Option Addr} {m c : Nat} {xs : List Int} {wr : World} {T : TypeId} {k : Int} (hs : a.eval s = .slice A m c) (hx : a.eval x = .slice (some ⟨wr.heap.size, 0, none⟩) 1 1)
    (hown : OwnL base wr A m c xs) (hbase : base ≤ wr.heap.size) (hm : m ≤ 1048576)
    (h : ∀ A' c' w', OwnL base w' A' (m + 1) c' (xs ++ [k]) → (∀ B w0, Below B w0 wr → B ≤ base → Below B w0 w') → wr.grownBy w' (blkOf A) → wpList Tryd.prog ops Q rest (a.put o.dst (.slice A' (m + 1) c')) w') :
    wpList Tryd.prog ops Q (o :: rest) a (wr.alloc (.cells #[.int .i64 k] T)) := by
  obtain ⟨i0, hi, hz0, hz1, hz2⟩ := info_parts inf2
  refine wpList_append_own _ hgd s x 51 ho base 2 i0 (.int .i64 0) 1 8 Tryd.underlying51 hi hz0 hz1 hz2 rfl (by decide) (.slice A m c) m (nums xs) hs ((hown.below ((Below.refl _ _).alloc (Nat.le_refl _) _)).2)
    ⟨wr.heap.size, 0, none⟩ 1 1 [.int .i64 k] hx rfl (cell1 _ _ _) (fun u hu => by simp at hu; subst hu; rfl) (by unfold maxLen; omega) (by omega) (by simp; omega) ?_
  intro v' w1 hown' hgrow _
  have hlt := hown.blk
  have hgr : (wr.grownBy w1 (blkOf A)) := by
    have e : (Value.slice A m c).ownBlock = blkOf A := by cases A <;> rfl
    rw [e] at hgrow
    exact grownTrans (below_grownBy ((Below.refl _ _).alloc (Nat.le_refl _) _) _) hgrow
  obtain ⟨A', c', rfl⟩ : ∃ A' c', v' = .slice A' (m + 1) c' := by
    rcases hown'.2 with ⟨_, h⟩ | ⟨g3, cap3, _, h, _⟩
    · omega
    · exact ⟨_, cap3, h⟩
  refine h A' c' w1 ⟨by simp [hown.1], by rw [nums_append]; exact hown'⟩ (fun B w0 hb hB => hb.grown hgr (by omega) (fun q hq => by have := hlt q hq; omega)) hgr
end Go.Proofs.YtnoneppmeaeicaaDoor
namespace Go.Proofs.YtnoneppmeaeicaaDoor
open Go.RowKit Go.Sort
/-! ### Sets as bits -/
def setN (ls : Nat → Int) : Nat → Nat
  | 0 => 0
  | k + 1 => setN ls k ||| 2 ^ (ls k).toNat
def hasB (s : Nat) (v : Int) : Bool := s.testBit v.toNat
theorem setN_lt {ls : Nat → Int} {k : Nat} (h : ∀ j, j < k → ls j ≤ 63) : setN ls k < 18446744073709551616 := by
  induction k with
  | zero => simp [setN]
  | succ k ih =>
    have h1 := ih (fun j hj => h j (by omega))
    have h2 := h k (by omega)
    have h3 : 2 ^ (ls k).toNat < 2 ^ 64 := Nat.pow_lt_pow_of_lt (by decide) (by omega)
    exact Nat.or_lt_two_pow (n := 64) (by simpa using h1) h3
theorem setN_bit (ls : Nat → Int) (k i : Nat) : (setN ls k).testBit i = true ↔ ∃ j, j < k ∧ (ls j).toNat = i := by
  induction k with
  | zero => simp [setN]
  | succ k ih =>
    simp only [setN, Nat.testBit_or, Bool.or_eq_true, ih, Nat.testBit_two_pow, decide_eq_true_eq]
    constructor
    · rintro (⟨j, hj, e⟩ | e)
      · exact ⟨j, by omega, e⟩
      · exact ⟨k, by omega, e⟩
    · rintro ⟨j, hj, e⟩
      by_cases hk : j = k
      · subst hk; exact .inr e
      · exact .inl ⟨j, by omega, e⟩
-- left out in this seat
attribute [irreducible] hasB
-- left out in this seat
end Go.Proofs.YtnoneppmeaeicaaDoor
namespace Go.Proofs.YtnoneppmeaeicaaDoor
/-! ### As many values as places: all different just if all met -/
theorem inj_le : ∀ (n k : Nat) (f : Nat → Nat), (∀ a, a < k → f a < n) → (∀ a b, a < k → b < k → f a = f b → a = b) → k ≤ n := by
  intro n
  induction n with
  | zero => intro k f h _; exact Nat.le_of_not_lt fun hk => by have := h 0 hk; omega
  | succ n ih =>
    intro k f h hi
    by_cases hx : ∃ a, a < k ∧ f a = n
    · obtain ⟨a0, ha0, e0⟩ := hx
      have := ih (k - 1) (fun a => f (if a < a0 then a else a + 1)) (fun a ha => by
        show f (if a < a0 then a else a + 1) < n
        have hne : (if a < a0 then a else a + 1) ≠ a0 := by split <;> omega
        have hlt : (if a < a0 then a else a + 1) < k := by split <;> omega
        have h1 := h _ hlt
        have h2 : f (if a < a0 then a else a + 1) ≠ n := fun e => hne (hi _ _ hlt ha0 (e.trans e0.symm))
        omega) (fun a b ha hb e => by
        have := hi _ _ (by split <;> omega) (by split <;> omega) e
        split at this <;> split at this <;> omega)
      omega
    · have := ih k f (fun a ha => by have := h a ha; have : f a ≠ n := fun e => hx ⟨a, ha, e⟩; omega) hi
      omega
theorem surj_of_inj {n : Nat} {f : Nat → Nat} (h : ∀ a, a < n → f a < n) (hi : ∀ a b, a < n → b < n → f a = f b → a = b) (v : Nat) (hv : v < n) : ∃ a, a < n ∧ f a = v := by
  by_cases hx : ∃ a, a < n ∧ f a = v
  · exact hx
  · exfalso
    have := inj_le (n - 1) n (fun a => if f a = n - 1 then v else f a) (fun a ha => by
      have h1 := h a ha
      have h2 : f a ≠ v := fun e => hx ⟨a, ha, e⟩
      by_cases h3 : f a = n - 1
      · simp only [h3, if_pos]; omega
      · simp only [if_neg h3]; omega) (fun a b ha hb e => by
      have h2 : f a ≠ v := fun e => hx ⟨a, ha, e⟩
      have h4 : f b ≠ v := fun e => hx ⟨b, hb, e⟩
      apply hi a b ha hb
      by_cases h3 : f a = n - 1 <;> by_cases h5 : f b = n - 1 <;> simp_all)
    omega
theorem inj_of_surj {n : Nat} {f : Nat → Nat} (h : ∀ v, v < n → ∃ a, a < n ∧ f a = v) : ∀ a b, a < n → b < n → f a = f b → a = b := by
  have hr : ∀ v, ∃ a, v < n → a < n ∧ f a = v := fun v => by
    by_cases hv : v < n
    · obtain ⟨a, ha⟩ := h v hv; exact ⟨a, fun _ => ha⟩
    · exact ⟨0, fun h => absurd h hv⟩
  obtain ⟨r, hr⟩ := Classical.axiomOfChoice hr
  have hs := surj_of_inj (n := n) (f := r) (fun v hv => (hr v hv).1) (fun u v hu hv e => by rw [← (hr u hu).2, ← (hr v hv).2, e])
  intro a b ha hb e
  obtain ⟨u, hu, rfl⟩ := hs a ha
  obtain ⟨v, hv, rfl⟩ := hs b hb
  rw [(hr u hu).2, (hr v hv).2] at e
  rw [e]
/-- All different. -/
def NP (Q : Nat → Int) (k : Nat) : Prop := ∀ a b, a < k → b < k → Q a = Q b → a = b
theorem NP.zero (Q : Nat → Int) : NP Q 0 := fun _ _ h => absurd h (by omega)
theorem NP.succ {Q : Nat → Int} {k : Nat} (h : NP Q k) (hq : ∀ a, a ≤ k → 0 ≤ Q a) (hn : hasB (setN Q k) (Q k) = false) : NP Q (k + 1) := by
  have hne : ∀ a, a < k → Q a ≠ Q k := fun a ha e => by
    have := (setN_bit Q k (Q k).toNat).2 ⟨a, ha, by rw [e]⟩
    simp only [hasB] at hn
    rw [hn] at this
    cases this
  intro a b ha hb e
  by_cases h1 : a = k <;> by_cases h2 : b = k
  · omega
  · subst h1; exact absurd e.symm (hne b (by omega))
  · subst h2; exact absurd e (hne a (by omega))
  · exact h a b (by omega) (by omega) e
theorem NP.not {Q : Nat → Int} {k l : Nat} (hq : ∀ a, a ≤ k → 0 ≤ Q a) (hn : hasB (setN Q k) (Q k) = true) (hl : k < l) : ¬ NP Q l := fun h => by
  simp only [hasB] at hn
  obtain ⟨a, ha, e⟩ := (setN_bit Q k (Q k).toNat).1 hn
  have h1 := hq a (by omega)
  have h2 := hq k (by omega)
  have := h a k (by omega) hl (by omega)
  omega
/-- The set is full just if all are different. -/
theorem full_iff {Q : Nat → Int} {n : Nat} (h : ∀ a, a < n → 0 ≤ Q a ∧ Q a < n) : setN Q n = 2 ^ n - 1 ↔ NP Q n := by
  constructor
  · intro e a b ha hb eq
    have hs : ∀ v, v < n → ∃ a, a < n ∧ (Q a).toNat = v := fun v hv => (setN_bit Q n v).1 (by rw [e, Nat.testBit_two_pow_sub_one]; simpa using hv)
    exact inj_of_surj hs a b ha hb (by rw [eq])
  · intro hp
    apply Nat.eq_of_testBit_eq
    intro i
    rw [Nat.testBit_two_pow_sub_one, Bool.eq_iff_iff, setN_bit, decide_eq_true_eq]
    constructor
    · rintro ⟨a, ha, rfl⟩; have := h a ha; omega
    · intro hi
      exact surj_of_inj (fun a ha => by have := h a ha; omega) (fun a b ha hb e => hp a b ha hb (by have := h a ha; have := h b hb; omega)) i hi
/-- The ends of the edges in a list. -/
def endQ (es : List (Int × Int)) (ls : Nat → Int) (a : Nat) : Int := if a % 2 = 0 then ea es (ls (a / 2)).toNat else eb es (ls (a / 2)).toNat
theorem endQ_0 (es : List (Int × Int)) (ls : Nat → Int) (j : Nat) : endQ es ls (2 * j) = ea es (ls j).toNat := by
  simp only [endQ, show (2 * j) % 2 = 0 from by omega, if_true, show 2 * j / 2 = j from by omega]
theorem endQ_1 (es : List (Int × Int)) (ls : Nat → Int) (j : Nat) : endQ es ls (2 * j + 1) = eb es (ls j).toNat := by
  simp only [endQ, show ¬ (2 * j + 1) % 2 = 0 from by omega, if_false, show (2 * j + 1) / 2 = j from by omega]
end Go.Proofs.YtnoneppmeaeicaaDoor
