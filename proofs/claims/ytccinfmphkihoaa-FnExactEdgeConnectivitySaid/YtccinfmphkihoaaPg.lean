import Derived.Test.YtccinfmphkihoaaBs
namespace Go.Proofs.Ytccinfmphkihoaa
/-! ### As many values as places: all different just if all met -/
theorem inj_le : ∀ (n k : Nat) (f : Nat → Nat), (∀ a, a < k → f a < n) → (∀ a b, a < k → b < k → f a = f b → a = b) → k ≤ n := by
  intro n
  induction n with
  | zero => intro k f h _; exact Nat.le_of_not_lt fun hk => by have := h 0 hk; omega
  | succ n ih =>
    intro k f h hi
    by_cases hx : ∃ a, a < k ∧ f a = n
    · obtain ⟨a0, ha0, e0⟩ := hx
      have := ih (k - 1) (fun a => f (if a < a0 then a else a + 1)) (fun a ha => by
        show f (if a < a0 then a else a + 1) < n
        have hne : (if a < a0 then a else a + 1) ≠ a0 := by split <;> omega
        have hlt : (if a < a0 then a else a + 1) < k := by split <;> omega
        have h1 := h _ hlt
        have h2 : f (if a < a0 then a else a + 1) ≠ n := fun e => hne (hi _ _ hlt ha0 (e.trans e0.symm))
        omega) (fun a b ha hb e => by
        have := hi _ _ (by split <;> omega) (by split <;> omega) e
        split at this <;> split at this <;> omega)
      omega
    · have := ih k f (fun a ha => by have := h a ha; have : f a ≠ n := fun e => hx ⟨a, ha, e⟩; omega) hi
      omega
theorem surj_of_inj {n : Nat} {f : Nat → Nat} (h : ∀ a, a < n → f a < n) (hi : ∀ a b, a < n → b < n → f a = f b → a = b) (v : Nat) (hv : v < n) : ∃ a, a < n ∧ f a = v := by
  by_cases hx : ∃ a, a < n ∧ f a = v
  · exact hx
  · exfalso
    have := inj_le (n - 1) n (fun a => if f a = n - 1 then v else f a) (fun a ha => by
      have h1 := h a ha
      have h2 : f a ≠ v := fun e => hx ⟨a, ha, e⟩
      by_cases h3 : f a = n - 1
      · simp only [h3, if_pos]; omega
      · simp only [if_neg h3]; omega) (fun a b ha hb e => by
      have h2 : f a ≠ v := fun e => hx ⟨a, ha, e⟩
      have h4 : f b ≠ v := fun e => hx ⟨b, hb, e⟩
      apply hi a b ha hb
      by_cases h3 : f a = n - 1 <;> by_cases h5 : f b = n - 1 <;> simp_all)
    omega
theorem inj_of_surj {n : Nat} {f : Nat → Nat} (h : ∀ v, v < n → ∃ a, a < n ∧ f a = v) : ∀ a b, a < n → b < n → f a = f b → a = b := by
  have hr : ∀ v, ∃ a, v < n → a < n ∧ f a = v := fun v => by
    by_cases hv : v < n
    · obtain ⟨a, ha⟩ := h v hv; exact ⟨a, fun _ => ha⟩
    · exact ⟨0, fun h => absurd h hv⟩
  obtain ⟨r, hr⟩ := Classical.axiomOfChoice hr
  have hs := surj_of_inj (n := n) (f := r) (fun v hv => (hr v hv).1) (fun u v hu hv e => by rw [← (hr u hu).2, ← (hr v hv).2, e])
  intro a b ha hb e
  obtain ⟨u, hu, rfl⟩ := hs a ha
  obtain ⟨v, hv, rfl⟩ := hs b hb
  rw [(hr u hu).2, (hr v hv).2] at e
  rw [e]
/-- All different. -/
def NP (Q : Nat → Int) (k : Nat) : Prop := ∀ a b, a < k → b < k → Q a = Q b → a = b
theorem NP.zero (Q : Nat → Int) : NP Q 0 := fun _ _ h => absurd h (by omega)
theorem NP.succ {Q : Nat → Int} {k : Nat} (h : NP Q k) (hq : ∀ a, a ≤ k → 0 ≤ Q a) (hn : hasB (setN Q k) (Q k) = false) : NP Q (k + 1) := by
  have hne : ∀ a, a < k → Q a ≠ Q k := fun a ha e => by
    have := (setN_bit Q k (Q k).toNat).2 ⟨a, ha, by rw [e]⟩
    simp only [hasB] at hn
    rw [hn] at this
    cases this
  intro a b ha hb e
  by_cases h1 : a = k <;> by_cases h2 : b = k
  · omega
  · subst h1; exact absurd e.symm (hne b (by omega))
  · subst h2; exact absurd e (hne a (by omega))
  · exact h a b (by omega) (by omega) e
theorem NP.not {Q : Nat → Int} {k l : Nat} (hq : ∀ a, a ≤ k → 0 ≤ Q a) (hn : hasB (setN Q k) (Q k) = true) (hl : k < l) : ¬ NP Q l := fun h => by
  simp only [hasB] at hn
  obtain ⟨a, ha, e⟩ := (setN_bit Q k (Q k).toNat).1 hn
  have h1 := hq a (by omega)
  have h2 := hq k (by omega)
  have := h a k (by omega) hl (by omega)
  omega
/-- The set is full just if all are different. -/
theorem full_iff {Q : Nat → Int} {n : Nat} (h : ∀ a, a < n → 0 ≤ Q a ∧ Q a < n) : setN Q n = 2 ^ n - 1 ↔ NP Q n := by
  constructor
  · intro e a b ha hb eq
    have hs : ∀ v, v < n → ∃ a, a < n ∧ (Q a).toNat = v := fun v hv => (setN_bit Q n v).1 (by rw [e, Nat.testBit_two_pow_sub_one]; simpa using hv)
    exact inj_of_surj hs a b ha hb (by rw [eq])
  · intro hp
    apply Nat.eq_of_testBit_eq
    intro i
    rw [Nat.testBit_two_pow_sub_one, Bool.eq_iff_iff, setN_bit, decide_eq_true_eq]
    constructor
    · rintro ⟨a, ha, rfl⟩; have := h a ha; omega
    · intro hi
      exact surj_of_inj (fun a ha => by have := h a ha; omega) (fun a b ha hb e => hp a b ha hb (by have := h a ha; have := h b hb; omega)) i hi
/-- The ends of the edges in a list. -/
def endQ (es : List (Int × Int)) (ls : Nat → Int) (a : Nat) : Int := if a % 2 = 0 then ea es (ls (a / 2)).toNat else eb es (ls (a / 2)).toNat
theorem endQ_0 (es : List (Int × Int)) (ls : Nat → Int) (j : Nat) : endQ es ls (2 * j) = ea es (ls j).toNat := by
  simp only [endQ, show (2 * j) % 2 = 0 from by omega, if_true, show 2 * j / 2 = j from by omega]
theorem endQ_1 (es : List (Int × Int)) (ls : Nat → Int) (j : Nat) : endQ es ls (2 * j + 1) = eb es (ls j).toNat := by
  simp only [endQ, show ¬ (2 * j + 1) % 2 = 0 from by omega, if_false, show (2 * j + 1) / 2 = j from by omega]
end Go.Proofs.Ytccinfmphkihoaa
