import Derived.Test.YtnoneppmeaeicaaDoorPo
import Derived.Test.YtnoneppmeaeicaaDoorM4
import Derived.Test.YtnoneppmeaeicaaDoorM16
import Derived.Test.YtnoneppmeaeicaaDoorM6
namespace Go.Proofs.YtnoneppmeaeicaaDoor
open Go.RowKit Go.Sort
/-! ### Sides with a cycle, plain -/
def cntTo (p : Nat → Bool) : Nat → Nat
  | 0 => 0
  | k + 1 => cntTo p k + (if p k then 1 else 0)
theorem cntTo_le (p : Nat → Bool) (k : Nat) : cntTo p k ≤ k := by
  induction k with
  | zero => exact Nat.le_refl _
  | succ k ih => simp only [cntTo]; split <;> omega
theorem cntTo_yes {p : Nat → Bool} {k : Nat} (h : p k = true) : cntTo p (k + 1) = cntTo p k + 1 := by simp [cntTo, h]
theorem cntTo_no {p : Nat → Bool} {k : Nat} (h : p k = false) : cntTo p (k + 1) = cntTo p k := by simp [cntTo, h]
theorem cntTo_s {p : Nat → Bool} {k : Nat} {b : Bool} (h : p k = b) : cntTo p (k + 1) = cntTo p k + b.toNat := by subst h; simp only [cntTo]; cases p k <;> rfl
theorem cntTo_congr {p q : Nat → Bool} {k : Nat} (h : ∀ j, j < k → p j = q j) : cntTo p k = cntTo q k := by
  induction k with
  | zero => rfl
  | succ k ih => simp only [cntTo]; rw [ih (fun j hj => h j (by omega)), h k (by omega)]
theorem cm_cnt {es : List (Int × Int)} {sk : Nat → Bool} {v : Nat} (h : leadF es sk v = v) (k : Nat) : (cmTo es sk v k).length = cntTo (fun u => decide (leadF es sk u = (v : Int))) k := by
  induction k with
  | zero => rfl
  | succ k ih =>
    by_cases hr : Rch es sk v k
    · rw [cmTo_yes hr, List.length_append, ih, cntTo_yes (by simpa using (lead_is h).2 hr)]; rfl
    · rw [cmTo_no hr, ih, cntTo_no (by simpa using fun e => hr ((lead_is h).1 e))]
theorem ea_app_lt {xs ys : List (Int × Int)} {j : Nat} (h : j < xs.length) : ea (xs ++ ys) j = ea xs j := by simp [ea, List.getElem?_append_left h]
theorem ea_app_at {xs : List (Int × Int)} {p : Int × Int} : ea (xs ++ [p]) xs.length = p.1 := by simp [ea]
theorem rest_cnt (es : List (Int × Int)) (sk : Nat → Bool) (g : Int → Bool) (k : Nat) : cntTo (fun j => g (ea (restTo es sk k) j)) (restTo es sk k).length = cntTo (fun i => !sk i && g (ea es i)) k := by
  induction k with
  | zero => rfl
  | succ k ih =>
    cases hs : sk k with
    | true =>
      rw [cntTo_no (by simp [hs]), ← ih]
      simp only [restTo, hs, if_true, List.append_nil]
    | false =>
      have e : restTo es sk (k + 1) = restTo es sk k ++ [(ea es k, eb es k)] := by simp [restTo, hs]
      rw [e, List.length_append]
      show cntTo _ ((restTo es sk k).length + 1) = _
      rw [cntTo_s (b := g (ea es k)) (by show g _ = _; rw [ea_app_at]), cntTo_s (p := fun i => !sk i && g (ea es i)) (b := g (ea es k)) (by simp [hs]), ← ih, cntTo_congr (q := fun j => g (ea (restTo es sk k) j)) (fun j hj => by rw [ea_app_lt hj])]
noncomputable def vcF (es : List (Int × Int)) (sk : Nat → Bool) (N : Nat) (v : Nat) : Nat := cntTo (fun u => decide (leadF es sk u = (v : Int))) N
noncomputable def inF (es : List (Int × Int)) (sk : Nat → Bool) (v : Nat) : Nat := cntTo (fun i => !sk i && decide (leadF es sk (ea es i) = (v : Int))) es.length
noncomputable def cyT (es : List (Int × Int)) (sk : Nat → Bool) (N : Nat) : Nat → Nat := cntTo (fun v => decide (leadF es sk v = (v : Int) ∧ vcF es sk N v ≤ inF es sk v))
theorem mem_cmTo {es : List (Int × Int)} {sk : Nat → Bool} {v x : Int} : ∀ {k : Nat}, x ∈ cmTo es sk v k ↔ ∃ u : Nat, u < k ∧ x = u ∧ Rch es sk v u := by
  intro k
  induction k with
  | zero => simp [cmTo]
  | succ k ih =>
    by_cases hr : Rch es sk v k
    · rw [cmTo_yes hr, List.mem_append, ih]
      constructor
      · rintro (⟨u, hu, e, r⟩ | h)
        · exact ⟨u, by omega, e, r⟩
        · simp at h; exact ⟨k, by omega, h, hr⟩
      · rintro ⟨u, hu, e, r⟩
        by_cases huk : u = k
        · subst huk; right; simp [e]
        · left; exact ⟨u, by omega, e, r⟩
    · rw [cmTo_no hr, ih]
      constructor
      · rintro ⟨u, hu, e, r⟩; exact ⟨u, by omega, e, r⟩
      · rintro ⟨u, hu, e, r⟩
        by_cases huk : u = k
        · subst huk; exact absurd r hr
        · exact ⟨u, by omega, e, r⟩
/-- A list as a set has a number. -/
def hasL (xs : List Int) (x : Int) : Bool := hasB (setN (ia xs) xs.length) x
theorem hasL_iff {xs : List Int} {x : Int} (h0 : 0 ≤ x) (hx : ∀ y ∈ xs, 0 ≤ y) : hasL xs x = true ↔ x ∈ xs := by
  simp only [hasL, hasB]
  rw [setN_bit]
  constructor
  · rintro ⟨j, hj, e⟩
    have h1 := hx _ (iaMem hj)
    have : ia xs j = x := by omega
    rw [← this]; exact iaMem hj
  · intro h
    obtain ⟨i, hi, e⟩ := memIa h
    exact ⟨i, hi, by rw [e]⟩
def joF (es : List (Int × Int)) (sk : Nat → Bool) (xs : List Int) : Nat → Nat := cntTo (fun i => hasL xs (ea es i) && hasL xs (eb es i) && !sk i)
def rowC (es : List (Int × Int)) (sk : Nat → Bool) (xs : List Int) : Bool := decide (xs.length ≤ joF es sk xs es.length)
theorem rowC_cm {n : Int} {es : List (Int × Int)} {sk : Nat → Bool} {N k : Nat} (hn : WfP n es) (hN : n = N) (h : leadF es sk k = k) : rowC es sk (cmTo es sk k N) = decide (vcF es sk N k ≤ inF es sk k) := by
  have hp : ∀ y ∈ cmTo es sk k N, 0 ≤ y := fun y hy => by obtain ⟨u, _, e, _⟩ := mem_cmTo.1 hy; omega
  have key : ∀ x : Int, 0 ≤ x → x ≤ n - 1 → hasL (cmTo es sk k N) x = decide (leadF es sk x = (k : Int)) := fun x h0 h1 => by
    obtain ⟨u, rfl⟩ := Int.eq_ofNat_of_zero_le h0
    rw [Bool.eq_iff_iff, hasL_iff h0 hp, mem_cmTo, decide_eq_true_eq, lead_is h]
    constructor
    · rintro ⟨v, hv, e, r⟩
      rw [e]; exact r
    · intro r; exact ⟨u, by omega, rfl, r⟩
  have hj : joF es sk (cmTo es sk k N) es.length = inF es sk k := by
    refine cntTo_congr fun i hi => ?_
    have hx := hn.2.2.2.2 i hi
    rw [key _ (by omega) (by omega), key _ (by omega) (by omega)]
    cases hs : sk i with
    | true => simp
    | false =>
      have : leadF es sk (ea es i) = leadF es sk (eb es i) := leadF_eq (by omega) (by omega) (Rch.adj ⟨i, hi, hs, .inl ⟨rfl, rfl⟩⟩)
      rw [this]; simp
  unfold rowC vcF
  rw [hj, cm_cnt h]
theorem rows_cnt {n : Int} {es : List (Int × Int)} {sk : Nat → Bool} {N : Nat} (hn : WfP n es) (hN : n = N) (k : Nat) : cntTo (fun j => rowC es sk (ra (sdTo es sk N k) j)) (sdTo es sk N k).length = cyT es sk N k := by
  induction k with
  | zero => rfl
  | succ k ih =>
    by_cases h : leadF es sk k = k
    · rw [sdTo_yes h, List.length_append]
      show cntTo _ ((sdTo es sk N k).length + 1) = _
      unfold cyT at ih ⊢
      rw [cntTo_s (b := decide (vcF es sk N k ≤ inF es sk k)) (by show rowC _ _ _ = _; rw [ra_app_at, rowC_cm hn hN h]), cntTo_s (p := fun v => decide (leadF es sk v = (v : Int) ∧ vcF es sk N v ≤ inF es sk v)) (b := decide (vcF es sk N k ≤ inF es sk k)) (by simp [h]), ← ih, cntTo_congr (q := fun j => rowC es sk (ra (sdTo es sk N k) j)) (fun j hj => by rw [ra_app_lt hj])]
    · rw [sdTo_no h, ih]
      unfold cyT
      rw [cntTo_no (by simp [h])]
end Go.Proofs.YtnoneppmeaeicaaDoor
namespace Go.Proofs.YtnoneppmeaeicaaDoor
open Go.RowKit Go.Sort
-- left out in this seat
noncomputable def fdV (n : Int) (es : List (Int × Int)) : Int := if B (IsG n es) then (es.length : Int) - n + ldCnt es noSk n.toNat else 0
-- left out in this seat
-- left out in this seat
end Go.Proofs.YtnoneppmeaeicaaDoor
namespace Go.Proofs.YtnoneppmeaeicaaDoor
open Go.RowKit Go.Sort
/-! ### Sides with a cycle, the program -/
theorem sd_row {es : List (Int × Int)} {sk : Nat → Bool} {N : Nat} : ∀ {k : Nat}, k ≤ N → ∀ j, j < (sdTo es sk N k).length → ∃ v : Nat, v < N ∧ leadF es sk v = v ∧ ra (sdTo es sk N k) j = cmTo es sk v N := by
  intro k
  induction k with
  | zero => intro _ j hj; simp [sdTo] at hj
  | succ k ih =>
    intro hk j hj
    by_cases h : leadF es sk k = k
    · rw [sdTo_yes h] at hj ⊢
      by_cases hjl : j < (sdTo es sk N k).length
      · rw [ra_app_lt hjl]; exact ih (by omega) j hjl
      · have : j = (sdTo es sk N k).length := by simp at hj; omega
        subst this
        exact ⟨k, by omega, h, ra_app_at⟩
    · rw [sdTo_no h] at hj ⊢; exact ih (by omega) j hj
theorem cm_pos {es : List (Int × Int)} {sk : Nat → Bool} {N v : Nat} (hv : v < N) : 0 < (cmTo es sk v N).length := List.length_pos_of_mem (mem_cmTo.2 ⟨v, hv, rfl, Rch.refl _ _ _⟩)
theorem cm_rng {es : List (Int × Int)} {sk : Nat → Bool} {N v j : Nat} (hj : j < (cmTo es sk v N).length) : 0 ≤ ia (cmTo es sk v N) j ∧ ia (cmTo es sk v N) j < N := by
  obtain ⟨u, hu, e, _⟩ := mem_cmTo.1 (iaMem hj)
  omega
theorem joF_yes {es : List (Int × Int)} {sk : Nat → Bool} {xs : List Int} {i : Nat} (h : (hasL xs (ea es i) && hasL xs (eb es i) && !sk i) = true) : joF es sk xs (i + 1) = joF es sk xs i + 1 := cntTo_yes h
theorem joF_no {es : List (Int × Int)} {sk : Nat → Bool} {xs : List Int} {i : Nat} (h : (hasL xs (ea es i) && hasL xs (eb es i) && !sk i) = false) : joF es sk xs (i + 1) = joF es sk xs i := cntTo_no h
-- left out in this seat
end Go.Proofs.YtnoneppmeaeicaaDoor
