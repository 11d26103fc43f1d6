import Derived.Deep.LoopGhost
import Derived.StillTailTactics
import Derived.Test.YtajnhkkiddeegaaGreatZp9
set_option linter.unusedVariables false
set_option linter.unusedSimpArgs false
namespace Go.Proofs.YtajnhkkiddeegaaGreat
open Go.RowKit Go.Sort
def noSk : Nat → Bool := fun _ => false
/-- The least vertex that is reached. -/
noncomputable def leadF (es : List (Int × Int)) (sk : Nat → Bool) (v : Int) : Int := ((leastOf fun u : Nat => Rch es sk v u : Nat) : Int)
theorem leadF_spec {es : List (Int × Int)} {sk : Nat → Bool} {v : Int} (h0 : 0 ≤ v) : Rch es sk v (leadF es sk v) ∧ ∀ u : Nat, Rch es sk v u → leadF es sk v ≤ u := by
  obtain ⟨x, rfl⟩ := Int.eq_ofNat_of_zero_le h0
  have h := leastOf_spec (p := fun u : Nat => Rch es sk x u) ⟨x, Rch.refl _ _ _⟩
  exact ⟨h.1, fun u hu => by have := h.2 u hu; unfold leadF; omega⟩
theorem leadF_nonneg (es : List (Int × Int)) (sk : Nat → Bool) (v : Int) : 0 ≤ leadF es sk v := Int.natCast_nonneg _
theorem leadF_le {es : List (Int × Int)} {sk : Nat → Bool} {v : Int} (h0 : 0 ≤ v) : leadF es sk v ≤ v := by
  have := (leadF_spec (es := es) (sk := sk) h0).2 v.toNat (by rw [Int.toNat_of_nonneg h0]; exact Rch.refl _ _ _)
  omega
theorem leadF_eq {es : List (Int × Int)} {sk : Nat → Bool} {u v : Int} (hu : 0 ≤ u) (hv : 0 ≤ v) (h : Rch es sk u v) : leadF es sk u = leadF es sk v := by
  have a := leadF_spec (es := es) (sk := sk) hu
  have b := leadF_spec (es := es) (sk := sk) hv
  have na := leadF_nonneg es sk u
  have nb := leadF_nonneg es sk v
  have h1 := a.2 (leadF es sk v).toNat (by rw [Int.toNat_of_nonneg nb]; exact h.trans b.1)
  have h2 := b.2 (leadF es sk u).toNat (by rw [Int.toNat_of_nonneg na]; exact h.symm.trans a.1)
  omega
theorem leadF_iff {es : List (Int × Int)} {sk : Nat → Bool} {u v : Int} (hu : 0 ≤ u) (hv : 0 ≤ v) : leadF es sk u = leadF es sk v ↔ Rch es sk u v := by
  refine ⟨fun h => ?_, leadF_eq hu hv⟩
  have a := (leadF_spec (es := es) (sk := sk) hu).1
  have b := (leadF_spec (es := es) (sk := sk) hv).1
  rw [h] at a
  exact a.trans b.symm
theorem leadF_lead {es : List (Int × Int)} {sk : Nat → Bool} {v : Int} (h0 : 0 ≤ v) : leadF es sk (leadF es sk v) = leadF es sk v :=
  leadF_eq (leadF_nonneg _ _ _) h0 (leadF_spec h0).1.symm
def ldStep (es : List (Int × Int)) (f : Int → Int) (e : Nat) : Int → Int :=
  if f (ea es e) = f (eb es e) then f else upI (upI f (ea es e) (min (f (ea es e)) (f (eb es e)))) (eb es e) (min (f (ea es e)) (f (eb es e)))
def ldPass (es : List (Int × Int)) (f : Int → Int) : Nat → Int → Int
  | 0 => f
  | k + 1 => ldStep es (ldPass es f k) k
def ldMore (es : List (Int × Int)) (f : Int → Int) : Nat → Bool
  | 0 => false
  | k + 1 => ldMore es f k || decide (ldPass es f k (ea es k) ≠ ldPass es f k (eb es k))
def ldSum (f : Int → Int) : Nat → Nat
  | 0 => 0
  | n + 1 => ldSum f n + (f n).toNat
theorem ldSum_le {f g : Int → Int} : ∀ {n : Nat}, (∀ i : Nat, i < n → g i ≤ f i) → ldSum g n ≤ ldSum f n := by
  intro n
  induction n with
  | zero => intro _; exact Nat.le_refl _
  | succ n ih =>
    intro h
    have h1 := ih (fun i hi => h i (by omega))
    have h2 := h n (by omega)
    simp only [ldSum]; omega
theorem ldSum_lt {f g : Int → Int} : ∀ {n : Nat}, (∀ i : Nat, i < n → g i ≤ f i) → (∃ i : Nat, i < n ∧ 0 ≤ g i ∧ g i < f i) → ldSum g n < ldSum f n := by
  intro n
  induction n with
  | zero => rintro _ ⟨i, hi, _⟩; omega
  | succ n ih =>
    rintro h ⟨i, hi, h0, hlt⟩
    have h2 := h n (by omega)
    simp only [ldSum]
    by_cases e : i = n
    · subst e
      have := ldSum_le (f := f) (g := g) (n := i) (fun j hj => h j (by omega))
      omega
    · have := ih (fun j hj => h j (by omega)) ⟨i, by omega, h0, hlt⟩
      omega
/-- Edges between vertices. -/
def InR (n : Int) (es : List (Int × Int)) : Prop := ∀ j, j < es.length → 0 ≤ ea es j ∧ ea es j ≤ n - 1 ∧ 0 ≤ eb es j ∧ eb es j ≤ n - 1
theorem WfP.inR {n : Int} {es : List (Int × Int)} (h : WfP n es) : InR n es := fun j hj => by have := h.2.2.2.2 j hj; omega
structure LdI (n : Int) (es : List (Int × Int)) (f : Int → Int) : Prop where
  lo : ∀ v, 0 ≤ v → v ≤ n - 1 → 0 ≤ f v ∧ f v ≤ v ∧ Rch es noSk v (f v)
theorem LdI.start (n : Int) (es : List (Int × Int)) : LdI n es (fun v => v) := ⟨fun _ h _ => ⟨h, Int.le_refl _, Rch.refl _ _ _⟩⟩
theorem ldStep_eq {es : List (Int × Int)} {f : Int → Int} {e : Nat} (h : f (ea es e) = f (eb es e)) : ldStep es f e = f := by rw [ldStep, if_pos h]
theorem ldStep_ne {es : List (Int × Int)} {f : Int → Int} {e : Nat} (h : ¬ f (ea es e) = f (eb es e)) : ldStep es f e = upI (upI f (ea es e) (min (f (ea es e)) (f (eb es e)))) (eb es e) (min (f (ea es e)) (f (eb es e))) := by rw [ldStep, if_neg h]
theorem LdI.step {n : Int} {es : List (Int × Int)} {f : Int → Int} (h : LdI n es f) (hR : InR n es) {e : Nat} (he : e < es.length) : LdI n es (ldStep es f e) := by
  by_cases hc : f (ea es e) = f (eb es e)
  · rw [ldStep_eq hc]; exact h
  · rw [ldStep_ne hc]
    have r := hR e he
    have a := h.lo _ r.1 r.2.1
    have b := h.lo _ r.2.2.1 r.2.2.2
    have hadj : Rch es noSk (ea es e) (eb es e) := Rch.adj ⟨e, he, rfl, .inl ⟨rfl, rfl⟩⟩
    have hm : Rch es noSk (ea es e) (min (f (ea es e)) (f (eb es e))) := by
      rcases Int.le_total (f (ea es e)) (f (eb es e)) with h1 | h1
      · rw [Int.min_eq_left h1]; exact a.2.2
      · rw [Int.min_eq_right h1]; exact hadj.trans b.2.2
    refine ⟨fun v h0 h1 => ?_⟩
    by_cases e1 : v = eb es e
    · subst e1
      rw [upI_same]
      exact ⟨by omega, by omega, hadj.symm.trans hm⟩
    · rw [upI_other _ _ _ _ e1]
      by_cases e2 : v = ea es e
      · subst e2
        rw [upI_same]
        exact ⟨by omega, by omega, hm⟩
      · rw [upI_other _ _ _ _ e2]
        exact h.lo v h0 h1
theorem ldStep_le {n : Int} {es : List (Int × Int)} {f : Int → Int} (h : LdI n es f) (hR : InR n es) {e : Nat} (he : e < es.length) : (∀ u, ldStep es f e u ≤ f u) ∧ (¬ f (ea es e) = f (eb es e) → ∃ i : Nat, i < n.toNat ∧ 0 ≤ ldStep es f e i ∧ ldStep es f e i < f i) := by
  have r := hR e he
  have hs := (h.step hR he).lo
  by_cases hc : f (ea es e) = f (eb es e)
  · rw [ldStep_eq hc]; exact ⟨fun v => Int.le_refl _, fun h => absurd hc h⟩
  · have hle : ∀ v, ldStep es f e v ≤ f v := fun v => by
      rw [ldStep_ne hc]
      by_cases e1 : v = eb es e
      · subst e1; rw [upI_same]; omega
      · rw [upI_other _ _ _ _ e1]
        by_cases e2 : v = ea es e
        · subst e2; rw [upI_same]; omega
        · rw [upI_other _ _ _ _ e2]; exact Int.le_refl _
    refine ⟨hle, fun _ => ?_⟩
    obtain ⟨x, hx⟩ := Int.eq_ofNat_of_zero_le r.1
    obtain ⟨y, hy⟩ := Int.eq_ofNat_of_zero_le r.2.2.1
    have hsx := hs x (by omega) (by omega)
    have hsy := hs y (by omega) (by omega)
    have ey : ldStep es f e y = min (f x) (f y) := by rw [ldStep_ne hc, ← hy, upI_same, ← hx]
    have ex : ldStep es f e x = min (f x) (f y) := by
      by_cases exy : x = y
      · subst exy; exact ey
      · rw [ldStep_ne hc, upI_other _ _ _ _ (by omega), ← hx, upI_same, ← hy]
    rw [hx, hy] at hc
    by_cases hlt : f x < f y
    · exact ⟨y, by omega, hsy.1, by omega⟩
    · exact ⟨x, by omega, hsx.1, by omega⟩
theorem ldPass_inv {n : Int} {es : List (Int × Int)} {f : Int → Int} (h : LdI n es f) (hR : InR n es) : ∀ k, k ≤ es.length → LdI n es (ldPass es f k) := by
  intro k
  induction k with
  | zero => intro _; exact h
  | succ k ih => intro hk; exact (ih (by omega)).step hR (by omega)
theorem ldPass_no {es : List (Int × Int)} {f : Int → Int} : ∀ k, ldMore es f k = false → ldPass es f k = f ∧ ∀ j, j < k → f (ea es j) = f (eb es j) := by
  intro k
  induction k with
  | zero => intro _; exact ⟨rfl, fun j hj => absurd hj (by omega)⟩
  | succ k ih =>
    intro h
    simp only [ldMore, Bool.or_eq_false_iff, decide_eq_false_iff_not, ne_eq, Classical.not_not] at h
    obtain ⟨h1, h2⟩ := h
    obtain ⟨i1, i2⟩ := ih h1
    rw [i1] at h2
    refine ⟨by simp only [ldPass]; rw [i1, ldStep_eq h2], fun j hj => ?_⟩
    by_cases e : j = k
    · subst e; exact h2
    · exact i2 j (by omega)
theorem ldPass_le {n : Int} {es : List (Int × Int)} {f : Int → Int} (h : LdI n es f) (hR : InR n es) : ∀ k, k ≤ es.length → ldSum (ldPass es f k) n.toNat ≤ ldSum f n.toNat := by
  intro k
  induction k with
  | zero => intro _; exact Nat.le_refl _
  | succ k ih =>
    intro hk
    have := ih (by omega)
    have h2 := ldSum_le (n := n.toNat) (fun i _ => (ldStep_le (ldPass_inv h hR k (by omega)) hR (by omega : k < es.length)).1 (i : Int))
    simp only [ldPass]; omega
theorem ldPass_lt {n : Int} {es : List (Int × Int)} {f : Int → Int} (h : LdI n es f) (hR : InR n es) : ∀ k, k ≤ es.length → ldMore es f k = true → ldSum (ldPass es f k) n.toNat < ldSum f n.toNat := by
  intro k
  induction k with
  | zero => intro _ h; cases h
  | succ k ih =>
    intro hk hm
    have hI := ldPass_inv h hR k (by omega)
    have hle := ldPass_le h hR k (by omega)
    have hs := ldStep_le hI hR (by omega : k < es.length)
    have h2 := ldSum_le (n := n.toNat) (fun i _ => hs.1 (i : Int))
    simp only [ldPass]
    by_cases hc : ldPass es f k (ea es k) = ldPass es f k (eb es k)
    · simp only [ldMore, hc, ne_eq, not_true_eq_false, decide_false, Bool.or_false] at hm
      have := ih (by omega) hm
      omega
    · have := ldSum_lt (n := n.toNat) (fun i _ => hs.1 (i : Int)) (hs.2 hc)
      omega
theorem ld_end {n : Int} {es : List (Int × Int)} {f : Int → Int} (h : LdI n es f) (hR : InR n es) (hq : ∀ j, j < es.length → f (ea es j) = f (eb es j)) : ∀ v, 0 ≤ v → v ≤ n - 1 → f v = leadF es noSk v := by
  intro v h0 h1
  have hl := h.lo v h0 h1
  have key : ∀ k u, RchK es noSk k v u → 0 ≤ u ∧ u ≤ n - 1 ∧ f u = f v := by
    intro k
    induction k with
    | zero => intro u hu; obtain rfl : v = u := hu; exact ⟨h0, h1, rfl⟩
    | succ k ih =>
      rintro u ⟨x, hx, e, he, _, hh⟩
      have := ih x hx
      have r := hR e he
      have q := hq e he
      rcases hh with hh | hh
      · rw [hh.1, hh.2] at q; rw [hh.1, hh.2] at r; exact ⟨r.2.2.1, r.2.2.2, by omega⟩
      · rw [hh.1, hh.2] at q; rw [hh.1, hh.2] at r; exact ⟨r.1, r.2.1, by omega⟩
  have s := leadF_spec (es := es) (sk := noSk) h0
  have n0 := leadF_nonneg es noSk v
  have hle := s.2 (f v).toNat (by rw [Int.toNat_of_nonneg hl.1]; exact hl.2.2)
  obtain ⟨k, hk⟩ := s.1
  have := key k _ hk
  have := h.lo _ this.1 this.2.1
  omega
/-- The vertices that are reached from a vertex, ascending. -/
noncomputable def cmTo (es : List (Int × Int)) (sk : Nat → Bool) (v : Int) : Nat → List Int
  | 0 => []
  | k + 1 => cmTo es sk v k ++ (if B (Rch es sk v k) then [(k : Int)] else [])
noncomputable def sdTo (es : List (Int × Int)) (sk : Nat → Bool) (N : Nat) : Nat → List (List Int)
  | 0 => []
  | k + 1 => sdTo es sk N k ++ (if leadF es sk k = k then [cmTo es sk k N] else [])
/-- How many of the first so many vertices lead. -/
noncomputable def ldCnt (es : List (Int × Int)) (sk : Nat → Bool) : Nat → Nat
  | 0 => 0
  | k + 1 => ldCnt es sk k + (if leadF es sk k = k then 1 else 0)
theorem ldCnt_le (es : List (Int × Int)) (sk : Nat → Bool) (k : Nat) : ldCnt es sk k ≤ k := by
  induction k with
  | zero => exact Nat.le_refl _
  | succ k ih => simp only [ldCnt]; split <;> omega
theorem sdTo_len (es : List (Int × Int)) (sk : Nat → Bool) (N k : Nat) : (sdTo es sk N k).length = ldCnt es sk k := by
  induction k with
  | zero => rfl
  | succ k ih => simp only [sdTo, ldCnt, List.length_append, ih]; split <;> simp
theorem cmTo_len (es : List (Int × Int)) (sk : Nat → Bool) (v : Int) (k : Nat) : (cmTo es sk v k).length ≤ k := by
  induction k with
  | zero => simp [cmTo]
  | succ k ih => simp only [cmTo, List.length_append]; split <;> simp <;> omega
theorem cmTo_low {es : List (Int × Int)} {sk : Nat → Bool} {v : Nat} (h : leadF es sk v = v) : cmTo es sk v v = [] := by
  have key : ∀ k, k ≤ v → cmTo es sk v k = [] := by
    intro k
    induction k with
    | zero => intro _; rfl
    | succ k ih =>
      intro hk
      simp only [cmTo]
      rw [ih (by omega), if_neg, List.nil_append]
      intro hB
      have := (leadF_spec (es := es) (sk := sk) (v := v) (by omega)).2 k (B_iff.1 hB)
      omega
  exact key v (Nat.le_refl _)
theorem lead_is {es : List (Int × Int)} {sk : Nat → Bool} {v w : Nat} (h : leadF es sk v = v) : leadF es sk w = v ↔ Rch es sk v w := by
  rw [← leadF_iff (Int.natCast_nonneg _) (Int.natCast_nonneg _), h]
  exact eq_comm
end Go.Proofs.YtajnhkkiddeegaaGreat
namespace Go.Proofs.YtajnhkkiddeegaaGreat
open Go.RowKit Go.Sort
theorem Box2.kept {w w' : World} {b : Nat} {v0 v1 : Value} {row : Option Nat} (h : Box2 w b v0 v1) (hg : w.grownBy w' row) (hne : some b ≠ row) : Box2 w' b v0 v1 :=
  ⟨Nat.lt_of_lt_of_le h.lt hg.size, (World.cell?_of_block (w := w) (a := ⟨b, 0, none⟩) (hg.block b h.lt hne)).trans h.c0, (World.cell?_of_block (w := w) (a := ⟨b, 1, none⟩) (hg.block b h.lt hne)).trans h.c1⟩
theorem OwnL.ofRow {w : World} {g m base : Nat} {f : Nat → Int} (h : w.rowIs g 2 m (fun v => .int .i64 (f v))) (hb : base ≤ g) (hm : m ≤ 1048576) : OwnL base w (some ⟨g, 0, none⟩) m m ((List.range m).map f) := by
  obtain ⟨c, hc, hs, hi⟩ := h
  refine ⟨by simp, by simp [nums], .inr ⟨g, m, c, rfl, hb, hc, Nat.le_refl _, by unfold maxLen; omega, by omega, ?_⟩⟩
  apply List.ext_getElem
  · simp [nums, hs]
  · intro j h1 h2
    have hj : j < m := by simp [nums] at h2; exact h2
    have h3 := hi j hj
    have h4 : c[j]'(by omega) = .int .i64 (f j) := by
      rw [Array.getElem?_eq_getElem (by omega)] at h3
      exact Option.some.inj h3
    simp [nums, List.getElem_take, h4]
theorem blk_apart' {A0 A1 : Option Addr} {s : Nat} (h0 : ∀ g, blkOf A0 = some g → s ≤ g) (h1 : ∀ g, blkOf A1 = some g → g < s) : blkOf A0 = none ∨ blkOf A0 ≠ blkOf A1 := by
  cases e : blkOf A0 with
  | none => exact .inl rfl
  | some g => exact .inr (fun e2 => by have := h0 g e; have := h1 g e2.symm; omega)
end Go.Proofs.YtajnhkkiddeegaaGreat
namespace Go.Proofs.YtajnhkkiddeegaaGreat
open Go.RowKit Go.Sort
theorem Box2.set {w : World} {b : Nat} {v0 v1 : Value} (h : Box2 w b v0 v1) {a : Addr} (ha : a.block ≠ b) (v : Value) : Box2 (w.setCell a v) b v0 v1 :=
  ⟨by simpa using h.lt, by rw [World.cell?_setCell_other _ _ _ _ (fun e => ha (congrArg Addr.block e))]; exact h.c0, by rw [World.cell?_setCell_other _ _ _ _ (fun e => ha (congrArg Addr.block e))]; exact h.c1⟩
theorem Box2.grown {w w' : World} {b : Nat} {v0 v1 : Value} {row : Option Nat} (h : Box2 w b v0 v1) (hg : w.grownBy w' row) (hne : some b ≠ row) : Box2 w' b v0 v1 :=
  ⟨Nat.lt_of_lt_of_le h.lt hg.size, (World.cell?_of_block (w := w) (a := ⟨b, 0, none⟩) (hg.block b h.lt hne)).trans h.c0, (World.cell?_of_block (w := w) (a := ⟨b, 1, none⟩) (hg.block b h.lt hne)).trans h.c1⟩
theorem Ints.kept {w w' : World} {b o m : Nat} {g : Nat → Int} {row : Option Nat} (h : Ints w b o m g) (hg : w.grownBy w' row) (hne : some b ≠ row) : Ints w' b o m g :=
  ⟨Nat.lt_of_lt_of_le h.blk hg.size, fun j hj => (World.cell?_of_block (w := w) (a := ⟨b, o + j, none⟩) (hg.block b h.blk hne)).trans (h.c j hj)⟩
theorem Ints.set {w : World} {b o m : Nat} {g : Nat → Int} (h : Ints w b o m g) {a : Addr} (ha : a.block ≠ b) (v : Value) : Ints (w.setCell a v) b o m g :=
  ⟨by simpa using h.blk, fun j hj => by rw [World.cell?_setCell_other _ _ _ _ (fun e => ha (congrArg Addr.block e))]; exact h.c j hj⟩
theorem OwnL.setOther {base : Nat} {w : World} {A : Option Addr} {m c : Nat} {xs : List Int} (h : OwnL base w A m c xs) {a : Addr} (ha : some a.block ≠ blkOf A) (v : Value) : OwnL base (w.setCell a v) A m c xs :=
  h.kept (row := some a.block) ⟨rfl, rfl, rfl, by simp, fun k _ hk => Below.heap_setCell _ _ _ _ (fun e => hk (by rw [e]))⟩ (by cases h0 : blkOf A <;> simp [h0] at ha ⊢; exact fun e => ha e.symm)
theorem OwnQ.setOther {base : Nat} {w : World} {A : Option Addr} {m c : Nat} {xs : List Int} (h : OwnQ base w A m c xs) {a : Addr} (ha : some a.block ≠ blkOf A) (v : Value) : OwnQ base (w.setCell a v) A m c xs :=
  h.kept (row := some a.block) ⟨rfl, rfl, rfl, by simp, fun k _ hk => Below.heap_setCell _ _ _ _ (fun e => hk (by rw [e]))⟩ (fun g hg e => ha (by rw [hg, e]))
theorem blk_ne {A : Option Addr} {base x : Nat} (h : ∀ g, blkOf A = some g → base ≤ g) (hx : x < base) : some x ≠ blkOf A := fun e => by have := h x e.symm; omega
/-- The graph's box, the row of distances, and all that was there. -/
structure FarB (w0 : World) (X O N : Nat) (v0 v1 : Value) (far : Int → Int) (w : World) : Prop where
  bel : Below w0.heap.size w0 w
  box : Box2 w X v0 v1
  row : w.rowIs O 2 N (fun v => .int .i64 (far v))
  ne : X ≠ O
  lo : w0.heap.size ≤ O
section
variable {w0 w w' : World} {X O N : Nat} {v0 v1 : Value} {far : Int → Int}
theorem FarB.below (h : FarB w0 X O N v0 v1 far w) (hb : Below w.heap.size w w') : FarB w0 X O N v0 v1 far w' :=
  ⟨h.bel.andB hb, h.box.below hb, h.row.of_block (hb.block _ h.row.lt), h.ne, h.lo⟩
theorem FarB.grown {row : Option Nat} (h : FarB w0 X O N v0 v1 far w) (hg : w.grownBy w' row) (hX : some X ≠ row) (hO : some O ≠ row) (hr : ∀ k, row = some k → w0.heap.size ≤ k) : FarB w0 X O N v0 v1 far w' :=
  ⟨h.bel.grown hg h.bel.size hr, h.box.grown hg hX, h.row.of_block (hg.block _ h.row.lt hO), h.ne, h.lo⟩
theorem FarB.set (h : FarB w0 X O N v0 v1 far w) (j : Nat) (x : Int) : FarB w0 X O N v0 v1 (upI far j x) (w.setCell ⟨O, j, none⟩ (.int .i64 x)) :=
  ⟨h.bel.setCell h.lo _, h.box.set (Ne.symm h.ne) _, (h.row.set j (.int .i64 x)).congr (fun v _ => by
    by_cases e : v = j
    · subst e; rw [if_pos rfl, upI_same]
    · rw [if_neg e, upI_other _ _ _ _ (by omega)]), h.ne, h.lo⟩
theorem FarB.congr {far' : Int → Int} (h : FarB w0 X O N v0 v1 far w) (hf : ∀ v : Nat, v < N → far v = far' v) : FarB w0 X O N v0 v1 far' w :=
  ⟨h.bel, h.box, h.row.congr (fun v hv => by rw [hf v hv]), h.ne, h.lo⟩
end
/-- The edge with a number is left out. -/
def skI (x : Int) (e : Nat) : Bool := decide ((e : Int) = x)
theorem skI_no {x : Int} {e : Nat} (h : ((e : Int) != x) = true) : skI x e = false := by simp [skI] at h ⊢; exact h
theorem skI_yes {x : Int} {e : Nat} (h : ((e : Int) != x) = false) : skI x e = true := by simp [skI] at h ⊢; exact h
end Go.Proofs.YtajnhkkiddeegaaGreat
namespace Go.Proofs.YtajnhkkiddeegaaGreat
open Go.RowKit Go.Sort
def ra (rows : List (List Int)) (j : Nat) : List Int := rows.getD j []
theorem ra_app_lt {rows : List (List Int)} {xs : List Int} {j : Nat} (h : j < rows.length) : ra (rows ++ [xs]) j = ra rows j := by simp [ra, List.getElem?_append_left h]
theorem ra_app_at {rows : List (List Int)} {xs : List Int} : ra (rows ++ [xs]) rows.length = xs := by simp [ra]
def apart (A B : Option Addr) : Prop := blkOf A = none ∨ blkOf A ≠ blkOf B
def rowV (As : Nat → Option Addr) (cs : Nat → Nat) (rows : List (List Int)) (m : Nat) : List Value := (List.range m).map fun j => .slice (As j) (ra rows j).length (cs j)
theorem rowV_at {As : Nat → Option Addr} {cs : Nat → Nat} {rows : List (List Int)} {m j : Nat} (h : j < m) : (rowV As cs rows m)[j]? = some (.slice (As j) (ra rows j).length (cs j)) := by simp [rowV, h]
def OwnLL (base top : Nat) (w : World) (A : Option Addr) (m c : Nat) (rows : List (List Int)) : Prop :=
  rows.length = m ∧ top ≤ w.heap.size ∧ (∀ g, blkOf A = some g → g < top) ∧ ∃ (As : Nat → Option Addr) (cs : Nat → Nat), w.ownsRow base 34 1 (.slice A m c) m (rowV As cs rows m) ∧
    (∀ j, j < m → OwnL base w (As j) (ra rows j).length (cs j) (ra rows j) ∧ (∀ g, blkOf (As j) = some g → g < top) ∧ apart (As j) A) ∧ ∀ i j, i < j → j < m → apart (As i) (As j)
theorem OwnLL.nil (base : Nat) (w : World) : OwnLL base w.heap.size w none 0 0 [] :=
  ⟨rfl, Nat.le_refl _, (fun g h => by cases h), fun _ => none, fun _ => 0, World.ownsRow_nil _ _ _ _, (fun j hj => by omega), (fun i j _ hj => by omega)⟩
theorem OwnLL.empty {base : Nat} (w : World) (hb : base ≤ w.heap.size) : OwnLL base (w.heap.size + 1) (w.alloc (.cells #[] 34)) (some ⟨w.heap.size, 0, none⟩) 0 0 [] :=
  ⟨rfl, by simp, fun g h => by simp [blkOf] at h; omega, fun _ => none, fun _ => 0, ⟨rfl, .inr ⟨w.heap.size, 0, #[], rfl, hb, heap_alloc_new w _, Nat.le_refl _, by unfold maxLen; omega, rfl, rfl⟩⟩, (fun j hj => by omega), (fun i j _ hj => by omega)⟩
theorem OwnLL.raise {base top top' : Nat} {w : World} {A : Option Addr} {m c : Nat} {rows : List (List Int)} (h : OwnLL base top w A m c rows) (h1 : top ≤ top') (h2 : top' ≤ w.heap.size) : OwnLL base top' w A m c rows := by
  obtain ⟨hl, ht, hA, As, cs, ho, hr, hp⟩ := h
  exact ⟨hl, h2, fun g hg => Nat.lt_of_lt_of_le (hA g hg) h1, As, cs, ho, fun j hj => ⟨(hr j hj).1, fun g hg => Nat.lt_of_lt_of_le ((hr j hj).2.1 g hg) h1, (hr j hj).2.2⟩, hp⟩
theorem OwnLL.kept {base top : Nat} {w w' : World} {A : Option Addr} {m c : Nat} {rows : List (List Int)} {row : Option Nat} (h : OwnLL base top w A m c rows) (hg : w.grownBy w' row) (hr : ∀ k, row = some k → top ≤ k) : OwnLL base top w' A m c rows := by
  obtain ⟨hl, ht, hA, As, cs, ho, hro, hp⟩ := h
  refine ⟨hl, Nat.le_trans ht hg.size, hA, As, cs, ?_, fun j hj => ⟨(hro j hj).1.kept hg ?_, (hro j hj).2⟩, hp⟩
  · have hne : (Value.slice A m c).ownBlock = none ∨ (Value.slice A m c).ownBlock ≠ row := by
      cases A with
      | none => exact .inl rfl
      | some a => exact .inr (fun e => by have := hr a.block e.symm; have := hA a.block rfl; omega)
    exact ho.kept hg hne
  · cases e : blkOf (As j) with
    | none => exact .inl rfl
    | some g => exact .inr (fun e2 => by have := hr g e2.symm; have := (hro j hj).2.1 g e; omega)
theorem OwnLL.below {base top : Nat} {w w' : World} {A : Option Addr} {m c : Nat} {rows : List (List Int)} (h : OwnLL base top w A m c rows) (hb : Below w.heap.size w w') : OwnLL base top w' A m c rows :=
  h.kept (row := none) (below_grownBy hb none) (fun k e => by cases e)
theorem OwnLL.mono {base base' top : Nat} {w : World} {A : Option Addr} {m c : Nat} {rows : List (List Int)} (h : OwnLL base top w A m c rows) (hb : base' ≤ base) : OwnLL base' top w A m c rows := by
  obtain ⟨hl, ht, hA, As, cs, ho, hr, hp⟩ := h
  exact ⟨hl, ht, hA, As, cs, ⟨ho.1, ho.2.imp id fun ⟨g, cap, cur, e, hg, r⟩ => ⟨g, cap, cur, e, Nat.le_trans hb hg, r⟩⟩, fun j hj => ⟨(hr j hj).1.mono hb, (hr j hj).2⟩, hp⟩
/-- What is read at a place. -/
theorem OwnLL.at {base top : Nat} {w : World} {A : Option Addr} {m c : Nat} {rows : List (List Int)} (h : OwnLL base top w A m c rows) {j : Nat} (hj : j < m) :
    ∃ g Aj cj, A = some ⟨g, 0, none⟩ ∧ base ≤ g ∧ g < w.heap.size ∧ w.cell? ⟨g, j, none⟩ = some (.slice Aj (ra rows j).length cj) ∧ OwnL base w Aj (ra rows j).length cj (ra rows j) := by
  obtain ⟨hl, ht, hA, As, cs, ho, hr, hp⟩ := h
  rcases ho.2 with ⟨_, h0⟩ | ⟨g, cap, cur, e, hb, hg, _⟩
  · omega
  · injection e with e1 e2 e3
    subst e1
    refine ⟨g, As j, cs j, rfl, hb, (Array.getElem?_eq_some_iff.1 hg).1, ?_, (hr j hj).1⟩
    rw [ho.cellAt j (by omega)]; exact rowV_at hj
theorem OwnLL.blk {base top : Nat} {w : World} {A : Option Addr} {m c : Nat} {rows : List (List Int)} (h : OwnLL base top w A m c rows) : ∀ g, blkOf A = some g → base ≤ g ∧ g < top := fun g hg => by
  obtain ⟨_, _, hA, As, cs, ho, _⟩ := h
  refine ⟨?_, hA g hg⟩
  cases A with
  | none => cases hg
  | some a => exact (ho.lt g (by simp only [blkOf, Option.map_some, Option.some.injEq] at hg; simp [Value.ownBlock, hg])).1
def RetLL (rows : List (List Int)) (w : World) (e : Ending) (w' : World) : Prop := ∃ A c, e = .returned (.slice A rows.length c) ∧ OwnLL w.heap.size w'.heap.size w' A rows.length c rows ∧ Below w.heap.size w w'
theorem infR : (Tryz.prog.info? 34).map (fun i => (i.zero, i.size, i.bytes)) = some (some (.slice none 0 0), 1, 24) := by kernel_rfl
/-- One row more, at the operation. -/
theorem wp_appR {o : Oper} {a : Act} {K : Act → World → Prop} {Q : Exit → Act → World → Prop} {s x : Operand}
    (ho : o.op = .call { callee := .builtin .append, args := #[s, x], argTypes := #[28, 28] })
    {base top : Nat} {A : Option Addr} {m c : Nat} {rows : List (List Int)} {w1 : World} {B : Nat} {T : TypeId} {fr : Nat × Nat} {A1 : Option Addr} {l1 c1 : Nat} {xs : List Int} (hs : a.eval s = .slice A m c) (hx : a.eval x = .slice (some ⟨B, 0, none⟩) 1 1)
    (hB : w1.heap[B]? = some (.cells #[.slice A1 l1 c1] T fr)) (hl1 : xs.length = l1)
    (hown : OwnLL base top w1 A m c rows) (hrow : OwnL base w1 A1 l1 c1 xs) (hnew : ∀ g, blkOf A1 = some g → top ≤ g) (hbase : base ≤ w1.heap.size) (hm : m ≤ 1048576)
    (h : ∀ A' c' w', OwnLL base w'.heap.size w' A' (m + 1) c' (rows ++ [xs]) → w1.grownBy w' (blkOf A) → LiesAt A A' w1 → K (a.put o.dst (.slice A' (m + 1) c')) w') :
    o.wp Tryz.prog a w1 K Q := by
  subst hl1
  obtain ⟨i0, hi, hz0, hz1, hz2⟩ := info_parts infR
  obtain ⟨hl, ht, hA, As, cs, hw, hr, hp⟩ := hown
  refine wp_append_lies w1 s x 28 ho base 34 i0 (.slice none 0 0) 1 24 Tryz.underlying28 hi hz0 hz1 hz2 rfl (by decide) (.slice A m c) m (rowV As cs rows m) hs hw
    ⟨B, 0, none⟩ 1 1 [.slice A1 xs.length c1] hx rfl (fun j u hj => by
      match j, hj with
      | 0, hj =>
        simp only [List.getElem?_cons_zero, Option.some.injEq] at hj
        subst hj
        rw [Addr.add_lit, cell_of_row w1 B _ _ _ _ hB]; rfl) (fun u hu => by simp at hu; subst hu; rfl) (by decide) (by unfold maxLen; omega) (by omega) hbase _ rfl ?_
  intro g cap w2 hown' hgrow hat hlt
  have e : (Value.slice A m c).ownBlock = blkOf A := by cases A <;> rfl
  rw [e] at hgrow hat
  have hat' : LiesAt A (some ⟨g, 0, none⟩) w1 := hat.imp (fun h => h.symm) fun h => ⟨g, rfl, by omega⟩
  have hnA : apart A1 A := by
    cases e1 : blkOf A1 with
    | none => exact .inl e1
    | some g1 => exact .inr (fun e2 => by have := hnew g1 e1; have := hA g1 (e2 ▸ e1); omega)
  have hsz := hgrow.size
  refine h _ cap w2 ⟨by simp [hl], Nat.le_refl _, fun g' e' => by simp [blkOf] at e'; omega, fun j => if j < m then As j else A1, fun j => if j < m then cs j else c1, ?_, fun j hj => ?_, fun i j hij hj => ?_⟩ hgrow hat'
  · have : rowV (fun j => if j < m then As j else A1) (fun j => if j < m then cs j else c1) (rows ++ [xs]) (m + 1) = rowV As cs rows m ++ [.slice A1 xs.length c1] := by
      simp only [rowV, List.range_succ, List.map_append, List.map_cons, List.map_nil]
      rw [if_neg (Nat.lt_irrefl m), if_neg (Nat.lt_irrefl m)]
      have e1 : ra (rows ++ [xs]) m = xs := by rw [← hl]; exact ra_app_at
      have e2 : (List.range m).map (fun j => Value.slice (if j < m then As j else A1) (ra (rows ++ [xs]) j).length (if j < m then cs j else c1)) = (List.range m).map (fun j => Value.slice (As j) (ra rows j).length (cs j)) := by
        apply List.map_congr_left
        intro j hj
        have hj : j < m := by simpa using hj
        rw [if_pos hj, if_pos hj, ra_app_lt (by omega)]
      rw [e1, e2]
    rw [this]; exact hown'
  · by_cases hjm : j < m
    · simp only [if_pos hjm]
      rw [ra_app_lt (by omega)]
      refine ⟨(hr j hjm).1.kept hgrow (hr j hjm).2.2, fun g' hg' => by have := (hr j hjm).2.1 g' hg'; omega, ?_⟩
      exact hat'.apart (fun g' hg' => by have := (hr j hjm).2.1 g' hg'; omega) (hr j hjm).2.2
    · obtain rfl : j = rows.length := by omega
      simp only [if_neg hjm]
      rw [ra_app_at]
      exact ⟨hrow.kept hgrow hnA, fun g' hg' => by have := (hrow.blk g' hg').2; omega, hat'.apart (fun g' hg' => (hrow.blk g' hg').2) hnA⟩
  · show apart (if i < m then As i else A1) (if j < m then As j else A1)
    by_cases hjm : j < m
    · rw [if_pos hjm, if_pos (by omega)]; exact hp i j hij hjm
    · rw [if_neg hjm, if_pos (by omega)]
      cases e1 : blkOf (As i) with
      | none => exact .inl e1
      | some g1 => exact .inr (fun e2 => by have := (hr i (by omega)).2.1 g1 e1; have := hnew g1 (e2 ▸ e1); omega)
theorem wp_appR1 {ops : Array Oper} {rest : List Oper} {o : Oper} {a : Act} {Q : Exit → Act → World → Prop} {s x : Operand} (hgd : o.guard = none)
    (ho : o.op = .call { callee := .builtin .append, args := #[s, x], argTypes := #[28, 28] })
    {base top : Nat} {A : Option Addr} {m c : Nat} {rows : List (List Int)} {wr : World} {T : TypeId} {A1 : Option Addr} {l1 c1 : Nat} {xs : List Int} (hs : a.eval s = .slice A m c) {H : Nat} (hx : a.eval x = .slice (some ⟨H, 0, none⟩) 1 1) (hH : wr.heap.size = H) (hl1 : xs.length = l1)
    (hown : OwnLL base top wr A m c rows) (hrow : OwnL base wr A1 l1 c1 xs) (hnew : ∀ g, blkOf A1 = some g → top ≤ g) (hbase : base ≤ wr.heap.size) (hm : m ≤ 1048576)
    (h : ∀ A' c' w', OwnLL base w'.heap.size w' A' (m + 1) c' (rows ++ [xs]) → wr.grownBy w' (blkOf A) → LiesAt A A' wr → wpList Tryz.prog ops Q rest (a.put o.dst (.slice A' (m + 1) c')) w') :
    wpList Tryz.prog ops Q (o :: rest) a (wr.alloc (.cells #[.slice A1 l1 c1] T)) := by
  subst hH
  exact wpList_plain hgd fun _ hK => wp_appR ho hs hx (heap_alloc_new wr _) hl1 (hown.below ((Below.refl _ _).alloc (Nat.le_refl _) _)) (hrow.below ((Below.refl _ _).alloc (Nat.le_refl _) _)) hnew (by simp; omega) hm
    fun A' c' w' h1 h2 h3 => hK _ _ (h A' c' w' h1 (grownTrans (below_grownBy ((Below.refl _ _).alloc (Nat.le_refl _) _) _) h2) (h3.low (by simp)))
end Go.Proofs.YtajnhkkiddeegaaGreat
namespace Go.Proofs.YtajnhkkiddeegaaGreat
open Go.RowKit Go.Sort
def NewI (base N : Nat) (f : Nat → Int) (v : Value) (W : World) : Prop := ∃ g, v = .slice (some ⟨g, 0, none⟩) N N ∧ base ≤ g ∧ W.rowIs g 2 N (fun j => .int .i64 (f j))
theorem NewI.below {base N : Nat} {f : Nat → Int} {v : Value} {W W' : World} (h : NewI base N f v W) (hb : Below W.heap.size W W') : NewI base N f v W' := let ⟨g, e, hg, R⟩ := h; ⟨g, e, hg, R.of_block (hb.block _ R.lt)⟩
def NewLL (base : Nat) (rows : List (List Int)) (v : Value) (W : World) : Prop := ∃ A c, v = .slice A rows.length c ∧ ∃ top, OwnLL base top W A rows.length c rows
theorem NewLL.below {base : Nat} {rows : List (List Int)} {v : Value} {W W' : World} (h : NewLL base rows v W) (hb : Below W.heap.size W W') : NewLL base rows v W' := let ⟨A, c, e, t, ho⟩ := h; ⟨A, c, e, t, ho.below hb⟩
def PtrV (x : Value) (v : Value) (W : World) : Prop := ∃ p : Addr, p.block < W.heap.size ∧ v = .pointer (some p) ∧ W.cell? p = some x
theorem PtrV.below {x v : Value} {W W' : World} (h : PtrV x v W) (hb : Below W.heap.size W W') : PtrV x v W' := let ⟨p, hp, e, hc⟩ := h; ⟨p, Nat.lt_of_lt_of_le hp hb.size, e, (hb.cell (p := p) hp).trans hc⟩
def NewE (base : Nat) (es : List (Int × Int)) (v : Value) (W : World) : Prop := ∃ g c, v = .slice (some ⟨g, 0, none⟩) es.length c ∧ OwnE base W g es.length c es
theorem NewE.below {base : Nat} {es : List (Int × Int)} {v : Value} {W W' : World} (h : NewE base es v W) (hb : Below W.heap.size W W') : NewE base es v W' := let ⟨g, c, e, ho⟩ := h; ⟨g, c, e, ho.below hb⟩
def NewS (x : Int) (v : Value) (W : World) : Prop := ∃ g, v = .slice (some ⟨g, 0, none⟩) 1 1 ∧ Ints W g 0 1 (fun _ => x)
theorem NewS.below {x : Int} {v : Value} {W W' : World} (h : NewS x v W) (hb : Below W.heap.size W W') : NewS x v W' := let ⟨g, e, I⟩ := h; ⟨g, e, I.below hb⟩
end Go.Proofs.YtajnhkkiddeegaaGreat
