import Derived.Test.YtccinfmphkihoaaRc
import Derived.Deep.LoopGhost
namespace Go.Proofs.Ytccinfmphkihoaa
open Go.RowKit Go.Sort
/-! ### Leaders, plain -/
def noSk : Nat → Bool := fun _ => false
/-- The least vertex that is reached. -/
noncomputable def leadF (es : List (Int × Int)) (sk : Nat → Bool) (v : Int) : Int := ((leastOf fun u : Nat => Rch es sk v u : Nat) : Int)
theorem leadF_spec {es : List (Int × Int)} {sk : Nat → Bool} {v : Int} (h0 : 0 ≤ v) : Rch es sk v (leadF es sk v) ∧ ∀ u : Nat, Rch es sk v u → leadF es sk v ≤ u := by
  obtain ⟨x, rfl⟩ := Int.eq_ofNat_of_zero_le h0
  have h := leastOf_spec (p := fun u : Nat => Rch es sk x u) ⟨x, Rch.refl _ _ _⟩
  exact ⟨h.1, fun u hu => by have := h.2 u hu; unfold leadF; omega⟩
theorem leadF_nonneg (es : List (Int × Int)) (sk : Nat → Bool) (v : Int) : 0 ≤ leadF es sk v := Int.natCast_nonneg _
theorem leadF_le {es : List (Int × Int)} {sk : Nat → Bool} {v : Int} (h0 : 0 ≤ v) : leadF es sk v ≤ v := by
  have := (leadF_spec (es := es) (sk := sk) h0).2 v.toNat (by rw [Int.toNat_of_nonneg h0]; exact Rch.refl _ _ _)
  omega
theorem leadF_eq {es : List (Int × Int)} {sk : Nat → Bool} {u v : Int} (hu : 0 ≤ u) (hv : 0 ≤ v) (h : Rch es sk u v) : leadF es sk u = leadF es sk v := by
  have a := leadF_spec (es := es) (sk := sk) hu
  have b := leadF_spec (es := es) (sk := sk) hv
  have na := leadF_nonneg es sk u
  have nb := leadF_nonneg es sk v
  have h1 := a.2 (leadF es sk v).toNat (by rw [Int.toNat_of_nonneg nb]; exact h.trans b.1)
  have h2 := b.2 (leadF es sk u).toNat (by rw [Int.toNat_of_nonneg na]; exact h.symm.trans a.1)
  omega
theorem leadF_iff {es : List (Int × Int)} {sk : Nat → Bool} {u v : Int} (hu : 0 ≤ u) (hv : 0 ≤ v) : leadF es sk u = leadF es sk v ↔ Rch es sk u v := by
  refine ⟨fun h => ?_, leadF_eq hu hv⟩
  have a := (leadF_spec (es := es) (sk := sk) hu).1
  have b := (leadF_spec (es := es) (sk := sk) hv).1
  rw [h] at a
  exact a.trans b.symm
theorem leadF_lead {es : List (Int × Int)} {sk : Nat → Bool} {v : Int} (h0 : 0 ≤ v) : leadF es sk (leadF es sk v) = leadF es sk v :=
  leadF_eq (leadF_nonneg _ _ _) h0 (leadF_spec h0).1.symm
/-! What the reference's search for leaders does. -/
def ldStep (es : List (Int × Int)) (f : Int → Int) (e : Nat) : Int → Int :=
  if f (ea es e) = f (eb es e) then f else upI (upI f (ea es e) (min (f (ea es e)) (f (eb es e)))) (eb es e) (min (f (ea es e)) (f (eb es e)))
def ldPass (es : List (Int × Int)) (f : Int → Int) : Nat → Int → Int
  | 0 => f
  | k + 1 => ldStep es (ldPass es f k) k
def ldMore (es : List (Int × Int)) (f : Int → Int) : Nat → Bool
  | 0 => false
  | k + 1 => ldMore es f k || decide (ldPass es f k (ea es k) ≠ ldPass es f k (eb es k))
def ldSum (f : Int → Int) : Nat → Nat
  | 0 => 0
  | n + 1 => ldSum f n + (f n).toNat
theorem ldSum_le {f g : Int → Int} : ∀ {n : Nat}, (∀ i : Nat, i < n → g i ≤ f i) → ldSum g n ≤ ldSum f n := by
  intro n
  induction n with
  | zero => intro _; exact Nat.le_refl _
  | succ n ih =>
    intro h
    have h1 := ih (fun i hi => h i (by omega))
    have h2 := h n (by omega)
    simp only [ldSum]; omega
theorem ldSum_lt {f g : Int → Int} : ∀ {n : Nat}, (∀ i : Nat, i < n → g i ≤ f i) → (∃ i : Nat, i < n ∧ 0 ≤ g i ∧ g i < f i) → ldSum g n < ldSum f n := by
  intro n
  induction n with
  | zero => rintro _ ⟨i, hi, _⟩; omega
  | succ n ih =>
    rintro h ⟨i, hi, h0, hlt⟩
    have h2 := h n (by omega)
    simp only [ldSum]
    by_cases e : i = n
    · subst e
      have := ldSum_le (f := f) (g := g) (n := i) (fun j hj => h j (by omega))
      omega
    · have := ih (fun j hj => h j (by omega)) ⟨i, by omega, h0, hlt⟩
      omega
/-- Edges between vertices. -/
def InR (n : Int) (es : List (Int × Int)) : Prop := ∀ j, j < es.length → 0 ≤ ea es j ∧ ea es j ≤ n - 1 ∧ 0 ≤ eb es j ∧ eb es j ≤ n - 1
theorem WfP.inR {n : Int} {es : List (Int × Int)} (h : WfP n es) : InR n es := fun j hj => by have := h.2.2.2.2 j hj; omega
structure LdI (n : Int) (es : List (Int × Int)) (f : Int → Int) : Prop where
  lo : ∀ v, 0 ≤ v → v ≤ n - 1 → 0 ≤ f v ∧ f v ≤ v ∧ Rch es noSk v (f v)
theorem LdI.start (n : Int) (es : List (Int × Int)) : LdI n es (fun v => v) := ⟨fun _ h _ => ⟨h, Int.le_refl _, Rch.refl _ _ _⟩⟩
theorem ldStep_eq {es : List (Int × Int)} {f : Int → Int} {e : Nat} (h : f (ea es e) = f (eb es e)) : ldStep es f e = f := by rw [ldStep, if_pos h]
theorem ldStep_ne {es : List (Int × Int)} {f : Int → Int} {e : Nat} (h : ¬ f (ea es e) = f (eb es e)) : ldStep es f e = upI (upI f (ea es e) (min (f (ea es e)) (f (eb es e)))) (eb es e) (min (f (ea es e)) (f (eb es e))) := by rw [ldStep, if_neg h]
theorem LdI.step {n : Int} {es : List (Int × Int)} {f : Int → Int} (h : LdI n es f) (hR : InR n es) {e : Nat} (he : e < es.length) : LdI n es (ldStep es f e) := by
  by_cases hc : f (ea es e) = f (eb es e)
  · rw [ldStep_eq hc]; exact h
  · rw [ldStep_ne hc]
    have r := hR e he
    have a := h.lo _ r.1 r.2.1
    have b := h.lo _ r.2.2.1 r.2.2.2
    have hadj : Rch es noSk (ea es e) (eb es e) := Rch.adj ⟨e, he, rfl, .inl ⟨rfl, rfl⟩⟩
    have hm : Rch es noSk (ea es e) (min (f (ea es e)) (f (eb es e))) := by
      rcases Int.le_total (f (ea es e)) (f (eb es e)) with h1 | h1
      · rw [Int.min_eq_left h1]; exact a.2.2
      · rw [Int.min_eq_right h1]; exact hadj.trans b.2.2
    refine ⟨fun v h0 h1 => ?_⟩
    by_cases e1 : v = eb es e
    · subst e1
      rw [upI_same]
      exact ⟨by omega, by omega, hadj.symm.trans hm⟩
    · rw [upI_other _ _ _ _ e1]
      by_cases e2 : v = ea es e
      · subst e2
        rw [upI_same]
        exact ⟨by omega, by omega, hm⟩
      · rw [upI_other _ _ _ _ e2]
        exact h.lo v h0 h1
theorem ldStep_le {n : Int} {es : List (Int × Int)} {f : Int → Int} (h : LdI n es f) (hR : InR n es) {e : Nat} (he : e < es.length) : (∀ u, ldStep es f e u ≤ f u) ∧ (¬ f (ea es e) = f (eb es e) → ∃ i : Nat, i < n.toNat ∧ 0 ≤ ldStep es f e i ∧ ldStep es f e i < f i) := by
  have r := hR e he
  have hs := (h.step hR he).lo
  by_cases hc : f (ea es e) = f (eb es e)
  · rw [ldStep_eq hc]; exact ⟨fun v => Int.le_refl _, fun h => absurd hc h⟩
  · have hle : ∀ v, ldStep es f e v ≤ f v := fun v => by
      rw [ldStep_ne hc]
      by_cases e1 : v = eb es e
      · subst e1; rw [upI_same]; omega
      · rw [upI_other _ _ _ _ e1]
        by_cases e2 : v = ea es e
        · subst e2; rw [upI_same]; omega
        · rw [upI_other _ _ _ _ e2]; exact Int.le_refl _
    refine ⟨hle, fun _ => ?_⟩
    obtain ⟨x, hx⟩ := Int.eq_ofNat_of_zero_le r.1
    obtain ⟨y, hy⟩ := Int.eq_ofNat_of_zero_le r.2.2.1
    have hsx := hs x (by omega) (by omega)
    have hsy := hs y (by omega) (by omega)
    have ey : ldStep es f e y = min (f x) (f y) := by rw [ldStep_ne hc, ← hy, upI_same, ← hx]
    have ex : ldStep es f e x = min (f x) (f y) := by
      by_cases exy : x = y
      · subst exy; exact ey
      · rw [ldStep_ne hc, upI_other _ _ _ _ (by omega), ← hx, upI_same, ← hy]
    rw [hx, hy] at hc
    by_cases hlt : f x < f y
    · exact ⟨y, by omega, hsy.1, by omega⟩
    · exact ⟨x, by omega, hsx.1, by omega⟩
theorem ldPass_inv {n : Int} {es : List (Int × Int)} {f : Int → Int} (h : LdI n es f) (hR : InR n es) : ∀ k, k ≤ es.length → LdI n es (ldPass es f k) := by
  intro k
  induction k with
  | zero => intro _; exact h
  | succ k ih => intro hk; exact (ih (by omega)).step hR (by omega)
theorem ldPass_no {es : List (Int × Int)} {f : Int → Int} : ∀ k, ldMore es f k = false → ldPass es f k = f ∧ ∀ j, j < k → f (ea es j) = f (eb es j) := by
  intro k
  induction k with
  | zero => intro _; exact ⟨rfl, fun j hj => absurd hj (by omega)⟩
  | succ k ih =>
    intro h
    simp only [ldMore, Bool.or_eq_false_iff, decide_eq_false_iff_not, ne_eq, Classical.not_not] at h
    obtain ⟨h1, h2⟩ := h
    obtain ⟨i1, i2⟩ := ih h1
    rw [i1] at h2
    refine ⟨by simp only [ldPass]; rw [i1, ldStep_eq h2], fun j hj => ?_⟩
    by_cases e : j = k
    · subst e; exact h2
    · exact i2 j (by omega)
theorem ldPass_le {n : Int} {es : List (Int × Int)} {f : Int → Int} (h : LdI n es f) (hR : InR n es) : ∀ k, k ≤ es.length → ldSum (ldPass es f k) n.toNat ≤ ldSum f n.toNat := by
  intro k
  induction k with
  | zero => intro _; exact Nat.le_refl _
  | succ k ih =>
    intro hk
    have := ih (by omega)
    have h2 := ldSum_le (n := n.toNat) (fun i _ => (ldStep_le (ldPass_inv h hR k (by omega)) hR (by omega : k < es.length)).1 (i : Int))
    simp only [ldPass]; omega
theorem ldPass_lt {n : Int} {es : List (Int × Int)} {f : Int → Int} (h : LdI n es f) (hR : InR n es) : ∀ k, k ≤ es.length → ldMore es f k = true → ldSum (ldPass es f k) n.toNat < ldSum f n.toNat := by
  intro k
  induction k with
  | zero => intro _ h; cases h
  | succ k ih =>
    intro hk hm
    have hI := ldPass_inv h hR k (by omega)
    have hle := ldPass_le h hR k (by omega)
    have hs := ldStep_le hI hR (by omega : k < es.length)
    have h2 := ldSum_le (n := n.toNat) (fun i _ => hs.1 (i : Int))
    simp only [ldPass]
    by_cases hc : ldPass es f k (ea es k) = ldPass es f k (eb es k)
    · simp only [ldMore, hc, ne_eq, not_true_eq_false, decide_false, Bool.or_false] at hm
      have := ih (by omega) hm
      omega
    · have := ldSum_lt (n := n.toNat) (fun i _ => hs.1 (i : Int)) (hs.2 hc)
      omega
theorem ld_end {n : Int} {es : List (Int × Int)} {f : Int → Int} (h : LdI n es f) (hR : InR n es) (hq : ∀ j, j < es.length → f (ea es j) = f (eb es j)) : ∀ v, 0 ≤ v → v ≤ n - 1 → f v = leadF es noSk v := by
  intro v h0 h1
  have hl := h.lo v h0 h1
  have key : ∀ k u, RchK es noSk k v u → 0 ≤ u ∧ u ≤ n - 1 ∧ f u = f v := by
    intro k
    induction k with
    | zero => intro u hu; obtain rfl : v = u := hu; exact ⟨h0, h1, rfl⟩
    | succ k ih =>
      rintro u ⟨x, hx, e, he, _, hh⟩
      have := ih x hx
      have r := hR e he
      have q := hq e he
      rcases hh with hh | hh
      · rw [hh.1, hh.2] at q; rw [hh.1, hh.2] at r; exact ⟨r.2.2.1, r.2.2.2, by omega⟩
      · rw [hh.1, hh.2] at q; rw [hh.1, hh.2] at r; exact ⟨r.1, r.2.1, by omega⟩
  have s := leadF_spec (es := es) (sk := noSk) h0
  have n0 := leadF_nonneg es noSk v
  have hle := s.2 (f v).toNat (by rw [Int.toNat_of_nonneg hl.1]; exact hl.2.2)
  obtain ⟨k, hk⟩ := s.1
  have := key k _ hk
  have := h.lo _ this.1 this.2.1
  omega
/-- The leaders of the first so many vertices, as a list. -/
noncomputable def ldTo (es : List (Int × Int)) (sk : Nat → Bool) : Nat → List Int
  | 0 => []
  | k + 1 => ldTo es sk k ++ [leadF es sk k]
/-! ### Edges left out -/
def restTo (es : List (Int × Int)) (sk : Nat → Bool) : Nat → List (Int × Int)
  | 0 => []
  | k + 1 => restTo es sk k ++ (if sk k then [] else [(ea es k, eb es k)])
def restE (es : List (Int × Int)) (sk : Nat → Bool) : List (Int × Int) := restTo es sk es.length
theorem restTo_len (es : List (Int × Int)) (sk : Nat → Bool) (k : Nat) : (restTo es sk k).length ≤ k := by
  induction k with
  | zero => simp [restTo]
  | succ k ih => simp only [restTo, List.length_append]; split <;> simp <;> omega
theorem mem_restTo {es : List (Int × Int)} {sk : Nat → Bool} {p : Int × Int} : ∀ {k : Nat}, p ∈ restTo es sk k ↔ ∃ j, j < k ∧ sk j = false ∧ p = (ea es j, eb es j) := by
  intro k
  induction k with
  | zero => simp [restTo]
  | succ k ih =>
    simp only [restTo, List.mem_append, ih]
    constructor
    · rintro (⟨j, hj, h⟩ | h)
      · exact ⟨j, by omega, h⟩
      · split at h
        · simp at h
        · simp at h; exact ⟨k, by omega, by simpa using ‹¬ sk k = true›, h⟩
    · rintro ⟨j, hj, hs, h⟩
      by_cases e : j = k
      · subst e; exact .inr (by rw [if_neg (by rw [hs]; decide), h]; simp)
      · exact .inl ⟨j, by omega, hs, h⟩
theorem mem_restE {es : List (Int × Int)} {sk : Nat → Bool} {p : Int × Int} : p ∈ restE es sk ↔ ∃ j, j < es.length ∧ sk j = false ∧ p = (ea es j, eb es j) := mem_restTo
theorem mem_pair {fs : List (Int × Int)} {j : Nat} (h : j < fs.length) : (ea fs j, eb fs j) ∈ fs := by rw [← e_pair h]; exact List.getElem_mem h
theorem pair_mem {fs : List (Int × Int)} {p : Int × Int} (h : p ∈ fs) : ∃ j, j < fs.length ∧ ea fs j = p.1 ∧ eb fs j = p.2 := by
  obtain ⟨j, hj, rfl⟩ := List.mem_iff_getElem.1 h
  exact ⟨j, hj, by simp [ea, hj], by simp [eb, hj]⟩
theorem adj_rest {es : List (Int × Int)} {sk : Nat → Bool} {u v : Int} : AdjE (restE es sk) noSk u v ↔ AdjE es sk u v := by
  constructor
  · rintro ⟨e, he, _, h⟩
    obtain ⟨j, hj, hs, hp⟩ := mem_restE.1 (mem_pair he)
    obtain ⟨h1, h2⟩ := Prod.mk.inj hp
    rw [h1, h2] at h
    exact ⟨j, hj, hs, h⟩
  · rintro ⟨e, he, hs, h⟩
    obtain ⟨j, hj, h1, h2⟩ := pair_mem (mem_restE.2 ⟨e, he, hs, rfl⟩)
    exact ⟨j, hj, rfl, by rw [h1, h2]; exact h⟩
theorem rch_rest {es : List (Int × Int)} {sk : Nat → Bool} {u v : Int} : Rch (restE es sk) noSk u v ↔ Rch es sk u v := by
  have key : ∀ k v, RchK (restE es sk) noSk k u v ↔ RchK es sk k u v := by
    intro k
    induction k with
    | zero => intro v; exact Iff.rfl
    | succ k ih =>
      intro v
      simp only [RchK]
      exact ⟨fun ⟨x, hx, ha⟩ => ⟨x, (ih x).1 hx, adj_rest.1 ha⟩, fun ⟨x, hx, ha⟩ => ⟨x, (ih x).2 hx, adj_rest.2 ha⟩⟩
  exact ⟨fun ⟨k, h⟩ => ⟨k, (key k v).1 h⟩, fun ⟨k, h⟩ => ⟨k, (key k v).2 h⟩⟩
theorem lead_rest (es : List (Int × Int)) (sk : Nat → Bool) (v : Int) : leadF (restE es sk) noSk v = leadF es sk v := by
  unfold leadF
  congr 1
  exact congrArg leastOf (funext fun u => propext rch_rest)
theorem inR_rest {n : Int} {es : List (Int × Int)} {sk : Nat → Bool} (h : InR n es) : InR n (restE es sk) := fun j hj => by
  obtain ⟨i, hi, _, hp⟩ := mem_restE.1 (mem_pair hj)
  obtain ⟨h1, h2⟩ := Prod.mk.inj hp
  rw [h1, h2]
  exact h i hi
/-! ### Sides -/
/-- The vertices that are reached from a vertex, ascending. -/
noncomputable def cmTo (es : List (Int × Int)) (sk : Nat → Bool) (v : Int) : Nat → List Int
  | 0 => []
  | k + 1 => cmTo es sk v k ++ (if B (Rch es sk v k) then [(k : Int)] else [])
noncomputable def sdTo (es : List (Int × Int)) (sk : Nat → Bool) (N : Nat) : Nat → List (List Int)
  | 0 => []
  | k + 1 => sdTo es sk N k ++ (if leadF es sk k = k then [cmTo es sk k N] else [])
/-- How many of the first so many vertices lead. -/
noncomputable def ldCnt (es : List (Int × Int)) (sk : Nat → Bool) : Nat → Nat
  | 0 => 0
  | k + 1 => ldCnt es sk k + (if leadF es sk k = k then 1 else 0)
theorem ldCnt_le (es : List (Int × Int)) (sk : Nat → Bool) (k : Nat) : ldCnt es sk k ≤ k := by
  induction k with
  | zero => exact Nat.le_refl _
  | succ k ih => simp only [ldCnt]; split <;> omega
theorem sdTo_len (es : List (Int × Int)) (sk : Nat → Bool) (N k : Nat) : (sdTo es sk N k).length = ldCnt es sk k := by
  induction k with
  | zero => rfl
  | succ k ih => simp only [sdTo, ldCnt, List.length_append, ih]; split <;> simp
theorem cmTo_len (es : List (Int × Int)) (sk : Nat → Bool) (v : Int) (k : Nat) : (cmTo es sk v k).length ≤ k := by
  induction k with
  | zero => simp [cmTo]
  | succ k ih => simp only [cmTo, List.length_append]; split <;> simp <;> omega
theorem cmTo_low {es : List (Int × Int)} {sk : Nat → Bool} {v : Nat} (h : leadF es sk v = v) : cmTo es sk v v = [] := by
  have key : ∀ k, k ≤ v → cmTo es sk v k = [] := by
    intro k
    induction k with
    | zero => intro _; rfl
    | succ k ih =>
      intro hk
      simp only [cmTo]
      rw [ih (by omega), if_neg, List.nil_append]
      intro hB
      have := (leadF_spec (es := es) (sk := sk) (v := v) (by omega)).2 k (B_iff.1 hB)
      omega
  exact key v (Nat.le_refl _)
theorem lead_is {es : List (Int × Int)} {sk : Nat → Bool} {v w : Nat} (h : leadF es sk v = v) : leadF es sk w = v ↔ Rch es sk v w := by
  rw [← leadF_iff (Int.natCast_nonneg _) (Int.natCast_nonneg _), h]
  exact eq_comm
end Go.Proofs.Ytccinfmphkihoaa
