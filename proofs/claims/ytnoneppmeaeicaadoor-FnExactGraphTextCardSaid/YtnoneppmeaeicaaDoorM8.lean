import Derived.Test.YtnoneppmeaeicaaDoorM5
import Derived.Test.YtnoneppmeaeicaaDoorM7
import Derived.Test.YtnoneppmeaeicaaDoorM6
namespace Go.Proofs.YtnoneppmeaeicaaDoor
open Go.RowKit Go.Sort
noncomputable def elC (n : Int) (es : List (Int × Int)) (ls : Nat → Int) (l : Nat) : Int := if B (IsG n es) then setC ls l (n - 1) else 1
noncomputable def elL (n : Int) (es : List (Int × Int)) (ls : Nat → Int) (l : Nat) : List Int := if elC n es ls l = 0 then lvL es ls l else []
theorem elL_0 {n : Int} {es : List (Int × Int)} {ls : Nat → Int} {l : Nat} (h : elC n es ls l = 0) : elL n es ls l = lvL es ls l := by simp [elL, h]
theorem elL_n {n : Int} {es : List (Int × Int)} {ls : Nat → Int} {l : Nat} (h : elC n es ls l ≠ 0) : elL n es ls l = [] := by simp [elL, h]
theorem elL_len (n : Int) (es : List (Int × Int)) (ls : Nat → Int) (l : Nat) : (elL n es ls l).length ≤ es.length := by
  unfold elL
  split
  · exact lvTo_len _ _ _
  · simp
theorem setB_iff {ls : Nat → Int} {l : Nat} {u : Int} : setB ls l u = true ↔ SetP ls l u := B_iff
theorem el_cases (n : Int) (es : List (Int × Int)) (ls : Nat → Int) (l : Nat) :
    (¬ IsG n es ∧ elC n es ls l = 1) ∨ (IsG n es ∧ ¬ SetP ls l (n - 1) ∧ elC n es ls l = 2) ∨ (IsG n es ∧ SetP ls l (n - 1) ∧ elC n es ls l = 0) := by
  by_cases h1 : IsG n es
  · by_cases h2 : SetP ls l (n - 1)
    · exact .inr (.inr ⟨h1, h2, by simp [elC, B_true h1, setC_0 h2]⟩)
    · exact .inr (.inl ⟨h1, h2, by simp [elC, B_true h1, setC_2 h2]⟩)
  · exact .inl ⟨h1, by simp [elC, B_false h1]⟩
-- left out in this seat
/-- A new list, as a fact of an operation. -/
def NewL (base : Nat) (xs : List Int) (v : Value) (W : World) : Prop := ∃ A c, v = .slice A xs.length c ∧ OwnL base W A xs.length c xs
theorem NewL.below {base : Nat} {xs : List Int} {v : Value} {W W' : World} (h : NewL base xs v W) (hb : Below W.heap.size W W') : NewL base xs v W' := let ⟨A, c, e, ho⟩ := h; ⟨A, c, e, ho.below hb⟩
-- left out in this seat
end Go.Proofs.YtnoneppmeaeicaaDoor
namespace Go.Proofs.YtnoneppmeaeicaaDoor
open Go.RowKit Go.Sort
/-! ### Colourings -/
def vE (es : List (Int × Int)) (t : Nat) : Int := if t % 2 = 0 then ea es (t / 2) else eb es (t / 2)
theorem vE_0 (es : List (Int × Int)) (j : Nat) : vE es (2 * j) = ea es j := by
  simp only [vE, show (2 * j) % 2 = 0 from by omega, if_true, show 2 * j / 2 = j from by omega]
theorem vE_1 (es : List (Int × Int)) (j : Nat) : vE es (2 * j + 1) = eb es j := by
  simp only [vE, show ¬ (2 * j + 1) % 2 = 0 from by omega, if_false, show (2 * j + 1) / 2 = j from by omega]
theorem vE_in {n : Int} {es : List (Int × Int)} (hn : WfP n es) (t : Nat) (ht : t < 2 * es.length) : 0 ≤ vE es t ∧ vE es t ≤ n - 1 := by
  have h2 := hn.2.2.2.2 (t / 2) (by omega)
  unfold vE
  split <;> omega
theorem vE_cell {w : World} {b o m : Nat} {es : List (Int × Int)} {x k : Nat} (h : Eds w b o m es) (hm : x < m) (hk : k < 2) : w.cell? ⟨b, o + x * 2 + k, none⟩ = some (.int .i64 (vE es (2 * x + k))) := by
  rcases (show k = 0 ∨ k = 1 by omega) with rfl | rfl
  · rw [Nat.add_zero, Nat.add_zero, vE_0]; exact h.ca x hm
  · rw [vE_1]; exact h.cb x hm
def ConfP (es : List (Int × Int)) (cs : Nat → Int) (t : Nat) : Prop := ∃ s, s < t ∧ vE es s = vE es t ∧ cs (s / 2) = cs (t / 2)
def ColP (es : List (Int × Int)) (cs : Nat → Int) : Prop := (∀ e, e < es.length → 0 ≤ cs e ∧ cs e ≤ 2) ∧ ∀ t, t < 2 * es.length → ¬ ConfP es cs t
noncomputable def colB (es : List (Int × Int)) (cs : Nat → Int) (l : Nat) : Bool := B (l = es.length ∧ ColP es cs)
def FitK (es : List (Int × Int)) (cs : Nat → Int) (e k : Nat) : Prop := ∀ f, f < e → (ea es f = vE es (2 * e + k) ∨ eb es f = vE es (2 * e + k)) → cs f ≠ cs e
def FitP (es : List (Int × Int)) (cs : Nat → Int) (e : Nat) : Prop := ∀ k, k < 2 → FitK es cs e k
theorem fitK_iff {n : Int} {es : List (Int × Int)} {cs : Nat → Int} {e k : Nat} (hn : WfP n es) (he : e < es.length) (hk : k < 2) : FitK es cs e k ↔ ¬ ConfP es cs (2 * e + k) := by
  have hne := (hn.2.2.2.2 e he).2.2.2.2
  have hd : (2 * e + k) / 2 = e := by omega
  constructor
  · rintro h ⟨s, hs, h1, h2⟩
    rw [hd] at h2
    by_cases hf : s / 2 < e
    · refine h (s / 2) hf ?_ h2
      unfold vE at h1 ⊢
      by_cases hp : s % 2 = 0
      · rw [if_pos hp] at h1; exact .inl h1
      · rw [if_neg hp] at h1; exact .inr h1
    · have e1 : s = 2 * e := by omega
      have e2 : k = 1 := by omega
      subst e1 e2
      rw [vE_0, vE_1] at h1
      exact hne h1
  · intro h f hf hv hc
    rcases hv with hv | hv
    · exact h ⟨2 * f, by omega, by rw [vE_0]; exact hv, by rw [hd, show 2 * f / 2 = f by omega]; exact hc⟩
    · exact h ⟨2 * f + 1, by omega, by rw [vE_1]; exact hv, by rw [hd, show (2 * f + 1) / 2 = f by omega]; exact hc⟩
theorem fitP_iff {n : Int} {es : List (Int × Int)} {cs : Nat → Int} {e : Nat} (hn : WfP n es) (he : e < es.length) : FitP es cs e ↔ ¬ ConfP es cs (2 * e) ∧ ¬ ConfP es cs (2 * e + 1) :=
  ⟨fun h => ⟨(fitK_iff (k := 0) hn he (by omega)).1 (h 0 (by omega)), (fitK_iff (k := 1) hn he (by omega)).1 (h 1 (by omega))⟩,
   fun h k hk => by
    rcases (show k = 0 ∨ k = 1 by omega) with rfl | rfl
    · exact (fitK_iff hn he hk).2 h.1
    · exact (fitK_iff hn he hk).2 h.2⟩
theorem mem_atTo {es : List (Int × Int)} {v x : Int} {k : Nat} : x ∈ atTo es v k ↔ ∃ f : Nat, f < k ∧ x = f ∧ (ea es f = v ∨ eb es f = v) := by
  induction k with
  | zero => simp [atTo]
  | succ k ih =>
    simp only [atTo, List.mem_append, ih]
    constructor
    · rintro (⟨f, hf, h⟩ | h)
      · exact ⟨f, by omega, h⟩
      · split at h
        · simp at h; exact ⟨k, by omega, h, by assumption⟩
        · simp at h
    · rintro ⟨f, hf, rfl, h⟩
      by_cases hk : f = k
      · subst hk; exact .inr (by rw [if_pos h]; simp)
      · exact .inl ⟨f, by omega, rfl, h⟩
theorem atTo_deg {n : Int} {es : List (Int × Int)} {v : Int} (hn : WfP n es) : ∀ k, k ≤ es.length → ((atTo es v k).length : Int) = degTo es k v := by
  intro k
  induction k with
  | zero => intro _; simp [atTo, degTo]
  | succ k ih =>
    intro hk
    have h1 := ih (by omega)
    have hne := (hn.2.2.2.2 k (by omega)).2.2.2.2
    simp only [atTo, degTo, List.length_append]
    by_cases ha : ea es k = v
    · have hb : eb es k ≠ v := fun e => hne (ha.trans e.symm)
      simp [ha, hb]; omega
    · by_cases hb : eb es k = v
      · simp [ha, hb]; omega
      · simp [ha, hb]; omega
theorem atL_3 {n : Int} {es : List (Int × Int)} {v : Int} (hG : IsG n es) (h1 : 0 ≤ v) (h2 : v ≤ n - 1) : (atL es v).length = 3 := by
  have := atTo_deg (v := v) hG.wf es.length (Nat.le_refl _)
  rw [hG.2.1 v h1 (by omega)] at this
  simp only [atL]; omega
theorem ia_mem {xs : List Int} {i : Nat} (h : i < xs.length) : ia xs i ∈ xs := by simp [ia, h]
theorem mem_ia {xs : List Int} {x : Int} (h : x ∈ xs) : ∃ i, i < xs.length ∧ ia xs i = x := by
  obtain ⟨i, hi, rfl⟩ := List.mem_iff_getElem.1 h
  exact ⟨i, hi, by simp [ia, hi]⟩
theorem fitK_at {es : List (Int × Int)} {cs : Nat → Int} {e k : Nat} (he : e < es.length) :
    FitK es cs e k ↔ ∀ i, i < (atL es (vE es (2 * e + k))).length → ia (atL es (vE es (2 * e + k))) i < e → cs (ia (atL es (vE es (2 * e + k))) i).toNat ≠ cs e := by
  constructor
  · intro h i hi hlt
    obtain ⟨f, hf, e1, hv⟩ := mem_atTo.1 (ia_mem hi)
    have e1 : ia (atL es (vE es (2 * e + k))) i = f := e1
    rw [e1] at hlt ⊢
    rw [Int.toNat_natCast]
    exact h f (by omega) hv
  · intro h f hf hv
    obtain ⟨i, hi, e1⟩ := mem_ia (mem_atTo.2 ⟨f, by omega, rfl, hv⟩ : (f : Int) ∈ atTo es (vE es (2 * e + k)) es.length)
    have := h i hi (by simp only [atL]; rw [e1]; omega)
    simp only [atL] at this
    rw [e1, Int.toNat_natCast] at this
    exact this
/-! What impl's sets of colours are. -/
def seenS (es : List (Int × Int)) (cs : Nat → Int) : Nat → Int → Nat
  | 0, _ => 0
  | t + 1, v => if vE es t = v then seenS es cs t v ||| 2 ^ (cs (t / 2)).toNat else seenS es cs t v
theorem seenS_bit (es : List (Int × Int)) (cs : Nat → Int) (t : Nat) (v : Int) (i : Nat) : (seenS es cs t v).testBit i = true ↔ ∃ s, s < t ∧ vE es s = v ∧ (cs (s / 2)).toNat = i := by
  induction t with
  | zero => simp [seenS]
  | succ t ih =>
    simp only [seenS]
    constructor
    · intro h
      split at h
      · rw [Nat.testBit_or, Bool.or_eq_true, Nat.testBit_two_pow, decide_eq_true_eq, ih] at h
        rcases h with ⟨s, hs, h⟩ | h
        · exact ⟨s, by omega, h⟩
        · exact ⟨t, by omega, by assumption, h⟩
      · obtain ⟨s, hs, h⟩ := ih.1 h
        exact ⟨s, by omega, h⟩
    · rintro ⟨s, hs, hv, hc⟩
      by_cases hst : s = t
      · subst hst
        rw [if_pos hv, Nat.testBit_or, Nat.testBit_two_pow, hc]; simp
      · have := ih.2 ⟨s, by omega, hv, hc⟩
        split
        · rw [Nat.testBit_or, this]; rfl
        · exact this
theorem seenS_lt {es : List (Int × Int)} {cs : Nat → Int} (t : Nat) (v : Int) (h : ∀ s, s < t → cs (s / 2) ≤ 63) : seenS es cs t v < 18446744073709551616 := by
  induction t with
  | zero => simp [seenS]
  | succ t ih =>
    have h1 := ih (fun s hs => h s (by omega))
    have h2 := h t (by omega)
    simp only [seenS]
    split
    · have h3 : 2 ^ (cs (t / 2)).toNat < 2 ^ 64 := Nat.pow_lt_pow_of_lt (by decide) (by omega)
      exact Nat.or_lt_two_pow (n := 64) (by simpa using h1) h3
    · exact h1
theorem conf_iff {es : List (Int × Int)} {cs : Nat → Int} {t : Nat} (h : ∀ s, s ≤ t → 0 ≤ cs (s / 2)) : hasB (seenS es cs t (vE es t)) (cs (t / 2)) = true ↔ ConfP es cs t := by
  simp only [hasB]
  rw [seenS_bit]
  constructor
  · rintro ⟨s, hs, hv, hc⟩
    exact ⟨s, hs, hv, by have := h s (by omega); have := h t (by omega); omega⟩
  · rintro ⟨s, hs, hv, hc⟩
    exact ⟨s, hs, hv, by rw [hc]⟩
end Go.Proofs.YtnoneppmeaeicaaDoor
