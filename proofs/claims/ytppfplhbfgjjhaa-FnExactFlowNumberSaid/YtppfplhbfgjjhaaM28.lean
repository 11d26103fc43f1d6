import Derived.Test.YtppfplhbfgjjhaaM16
import Derived.Test.YtppfplhbfgjjhaaM6
import Derived.Test.YtppfplhbfgjjhaaM27
namespace Go.Proofs.Ytppfplhbfgjjhaa
open Go.RowKit Go.Sort
/-! ### IsBipartite -/
noncomputable def bdF (n : Int) (es : List (Int × Int)) (e : Nat) (v : Int) : Int := farF es noSk n (leadF es noSk (ea es e)) v
noncomputable def bdP (n : Int) (es : List (Int × Int)) (e : Nat) : Prop := (bdF n es e (ea es e) + bdF n es e (eb es e)) % 2 = 0
noncomputable def bpB (n : Int) (es : List (Int × Int)) (m : Nat) : Bool := B (∀ e, e < m → ¬ bdP n es e)
theorem bd_in {n : Int} {es : List (Int × Int)} (hn : WfP n es) {e : Nat} (he : e < es.length) :
    (0 ≤ leadF es noSk (ea es e) ∧ leadF es noSk (ea es e) ≤ n - 1) ∧ (0 ≤ bdF n es e (ea es e) ∧ bdF n es e (ea es e) ≤ 19) ∧ 0 ≤ bdF n es e (eb es e) ∧ bdF n es e (eb es e) ≤ 19 := by
  have r := hn.2.2.2.2 e he
  have h0 := leadF_nonneg es noSk (ea es e)
  have h1 := leadF_le (es := es) (sk := noSk) (v := ea es e) r.1
  have hr := (leadF_spec (es := es) (sk := noSk) (v := ea es e) r.1).1.symm
  have ha : AdjE es noSk (ea es e) (eb es e) := ⟨e, he, rfl, .inl ⟨rfl, rfl⟩⟩
  have b1 := farF_bd (sk := noSk) hn (a := leadF es noSk (ea es e)) h0 (by omega) (ea es e)
  have b2 := farF_bd (sk := noSk) hn (a := leadF es noSk (ea es e)) h0 (by omega) (eb es e)
  have f1 := (farF_iff (sk := noSk) hn (a := leadF es noSk (ea es e)) h0 (by omega) (ea es e)).2 hr
  have f2 := (farF_iff (sk := noSk) hn (a := leadF es noSk (ea es e)) h0 (by omega) (eb es e)).2 (hr.step ha)
  exact ⟨⟨h0, by omega⟩, ⟨f1, b1.2⟩, f2, b2.2⟩
theorem sdTo_row {es : List (Int × Int)} {sk : Nat → Bool} {N : Nat} : ∀ k j, j < (sdTo es sk N k).length → ∃ v : Nat, v < k ∧ leadF es sk v = v ∧ ra (sdTo es sk N k) j = cmTo es sk v N := by
  intro k
  induction k with
  | zero => intro j hj; simp [sdTo] at hj
  | succ k ih =>
    intro j hj
    by_cases hc : leadF es sk k = k
    · rw [sdTo_yes hc] at hj ⊢
      by_cases hjl : j < (sdTo es sk N k).length
      · obtain ⟨v, hv, h⟩ := ih j hjl
        exact ⟨v, by omega, h.1, by rw [ra_app_lt hjl]; exact h.2⟩
      · obtain rfl : j = (sdTo es sk N k).length := by simp at hj; omega
        exact ⟨k, by omega, hc, ra_app_at⟩
    · rw [sdTo_no hc] at hj ⊢
      obtain ⟨v, hv, h⟩ := ih j hj
      exact ⟨v, by omega, h⟩
theorem sdTo_all {es : List (Int × Int)} {sk : Nat → Bool} {N : Nat} : ∀ k (v : Nat), v < k → leadF es sk v = v → ∃ j, j < (sdTo es sk N k).length ∧ ra (sdTo es sk N k) j = cmTo es sk v N := by
  intro k
  induction k with
  | zero => intro v hv; omega
  | succ k ih =>
    intro v hv hl
    by_cases e : v = k
    · subst e
      rw [sdTo_yes hl]
      exact ⟨(sdTo es sk N v).length, by simp, ra_app_at⟩
    · obtain ⟨j, hj, h⟩ := ih v (by omega) hl
      by_cases hc : leadF es sk k = k
      · rw [sdTo_yes hc]; exact ⟨j, by simp; omega, by rw [ra_app_lt hj]; exact h⟩
      · rw [sdTo_no hc]; exact ⟨j, hj, h⟩
/-- The first of a part is its leader. -/
theorem cmTo_first {es : List (Int × Int)} {sk : Nat → Bool} {v : Nat} (h : leadF es sk v = v) : ∀ k, v < k → 1 ≤ (cmTo es sk v k).length ∧ ia (cmTo es sk v k) 0 = v := by
  intro k
  induction k with
  | zero => intro hk; omega
  | succ k ih =>
    intro hk
    by_cases e : v = k
    · subst e
      rw [cmTo_yes (Rch.refl _ _ _), cmTo_low h]
      exact ⟨by simp, by simp [ia]⟩
    · have := ih (by omega)
      simp only [cmTo, List.length_append]
      exact ⟨by omega, by rw [ia_app (by omega)]; exact this.2⟩
-- left out in this seat
-- left out in this seat
end Go.Proofs.Ytppfplhbfgjjhaa
namespace Go.Proofs.Ytppfplhbfgjjhaa
open Go.RowKit Go.Sort
/-! ### IsConnected -/
noncomputable def icnV (n : Int) (es : List (Int × Int)) : Bool := B (IsG n es) && cnB' n es
-- left out in this seat
-- left out in this seat
end Go.Proofs.Ytppfplhbfgjjhaa
