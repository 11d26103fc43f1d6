import Derived.Test.YtppfplhbfgjjhaaCf
namespace Go.Proofs.Ytppfplhbfgjjhaa
open Go.RowKit Go.Sort
/-! ### Renaming colours, plain -/
theorem cnt_off {vals : List Int} {P : (Nat → Int) → Bool} {D : Nat → Prop} (hP : ∀ g g' : Nat → Int, (∀ d, D d ∨ g d = g' d) → P g = P g') : ∀ (L : List Nat) (f f' : Nat → Int), (∀ d, d ∈ L ∨ D d ∨ f d = f' d) → cntG vals P L f = cntG vals P L f' := by
  intro L
  induction L with
  | nil => intro f f' h; simp only [cntG]; rw [hP f f' (fun d => (h d).resolve_left (by simp))]
  | cons e L ih =>
    intro f f' h
    simp only [cntG]
    congr 1
    refine List.map_congr_left fun x _ => ih _ _ fun d => ?_
    by_cases hd : d = e
    · subst hd; right; right; rw [upF_same, upF_same]
    · rw [upF_other hd, upF_other hd]
      rcases h d with h1 | h1
      · rcases List.mem_cons.1 h1 with h2 | h2
        · exact absurd h2 hd
        · exact .inl h2
      · exact .inr h1
theorem cnt_put {vals : List Int} {P : (Nat → Int) → Bool} {e : Nat} {y : Int} : ∀ (L : List Nat) (f : Nat → Int), e ∉ L → cntG vals (fun g => P (upF g e y)) L f = cntG vals P L (upF f e y) := by
  intro L
  induction L with
  | nil => intro f _; rfl
  | cons d L ih =>
    intro f he
    have hde : d ≠ e := fun h => he (by rw [h]; exact List.mem_cons_self)
    simp only [cntG]
    congr 1
    refine List.map_congr_left fun x _ => ?_
    rw [ih _ (fun h => he (List.mem_cons_of_mem _ h)), upF_comm hde]
def renF (σ : Int → Int) (L : List Nat) (g : Nat → Int) : Nat → Int := fun d => if d ∈ L then σ (g d) else g d
theorem sum_perm {a b : List Nat} (h : a.Perm b) : a.sum = b.sum := by
  induction h with
  | nil => rfl
  | cons x _ ih => simp only [List.sum_cons, ih]
  | swap x y l => simp only [List.sum_cons]; omega
  | trans _ _ h1 h2 => exact h1.trans h2
theorem cnt_ren {vals : List Int} {σ : Int → Int} (hσ : (vals.map σ).Perm vals) : ∀ (L : List Nat) (P : (Nat → Int) → Bool) (f : Nat → Int), L.Nodup → cntG vals (fun g => P (renF σ L g)) L f = cntG vals P L f := by
  intro L
  induction L with
  | nil =>
    intro P f _
    have h1 : renF σ [] f = f := by funext d; simp [renF]
    simp only [cntG, h1]
  | cons e L ih =>
    intro P f hn
    obtain ⟨he, hn2⟩ := List.nodup_cons.1 hn
    have key : ∀ x, cntG vals (fun g => P (renF σ (e :: L) g)) L (upF f e x) = cntG vals P L (upF f e (σ x)) := fun x => by
      have h1 : cntG vals (fun g => P (renF σ (e :: L) g)) L (upF f e x) = cntG vals (fun g => P (renF σ L (upF g e (σ x)))) L (upF f e x) := by
        refine cnt_congr L _ fun g hg => ?_
        have hge : g e = x := by
          have := ((mem_allG hn2).1 hg).1 e he
          rw [this, upF_same]
        congr 1
        funext d
        simp only [renF]
        by_cases hd : d = e
        · subst hd; rw [if_pos List.mem_cons_self, if_neg he, upF_same, hge]
        · by_cases hdl : d ∈ L
          · rw [if_pos (List.mem_cons_of_mem _ hdl), if_pos hdl, upF_other hd]
          · rw [if_neg (by simp [hd, hdl]), if_neg hdl, upF_other hd]
      rw [h1, cnt_put (P := fun g => P (renF σ L g)) L _ he]
      have h2 : upF (upF f e x) e (σ x) = upF f e (σ x) := by funext d; by_cases hd : d = e <;> simp [upF, hd]
      rw [h2, ih P _ hn2]
    simp only [cntG]
    rw [List.map_congr_left (fun x _ => key x)]
    have h3 : (vals.map fun x => cntG vals P L (upF f e (σ x))) = (vals.map σ).map fun x => cntG vals P L (upF f e x) := by rw [List.map_map]; rfl
    rw [h3]
    exact sum_perm (hσ.map _)
/-- Each thing that is counted has one of the keys. -/
theorem sum_ite {T : Type} [DecidableEq T] {k : T} : ∀ {ts : List T}, ts.Nodup → k ∈ ts → (ts.map fun t => if k = t then 1 else 0).sum = 1 := by
  intro ts
  induction ts with
  | nil => intro _ h; cases h
  | cons t ts ih =>
    intro hn hk
    obtain ⟨h1, h2⟩ := List.nodup_cons.1 hn
    simp only [List.map_cons, List.sum_cons]
    by_cases e : k = t
    · subst e
      rw [if_pos rfl]
      have : (ts.map fun t => if k = t then 1 else 0).sum = 0 := by
        have hz : ∀ x ∈ ts.map (fun t => if k = t then 1 else 0), x = 0 := by
          intro x hx
          obtain ⟨t, ht, rfl⟩ := List.mem_map.1 hx
          have hne : ¬ k = t := fun e => h1 (by rw [e]; exact ht)
          rw [if_neg hne]
        clear hk ih hn h2 h1
        generalize ts.map (fun t => if k = t then 1 else 0) = l at hz
        induction l with
        | nil => rfl
        | cons a l ih => rw [List.sum_cons, hz a List.mem_cons_self, ih (fun x hx => hz x (List.mem_cons_of_mem _ hx))]
      omega
    · rw [if_neg e, Nat.zero_add]
      exact ih h2 ((List.mem_cons.1 hk).resolve_left e)
theorem sum_add {T : Type} (a b : T → Nat) : ∀ ts : List T, (ts.map fun t => a t + b t).sum = (ts.map a).sum + (ts.map b).sum := by
  intro ts
  induction ts with
  | nil => rfl
  | cons t ts ih => simp only [List.map_cons, List.sum_cons, ih]; omega
theorem count_keys {α T : Type} [DecidableEq T] {P : α → Bool} {k : α → T} {ts : List T} (hn : ts.Nodup) : ∀ X : List α, (∀ x, x ∈ X → P x = true → k x ∈ ts) → (X.filter P).length = (ts.map fun t => (X.filter fun x => P x && decide (k x = t)).length).sum := by
  intro X
  induction X with
  | nil =>
    intro _
    simp only [List.filter_nil, List.length_nil]
    clear hn
    induction ts with
    | nil => rfl
    | cons t ts ih => simpa using ih
  | cons x X ih =>
    intro h
    have ih := ih (fun y hy => h y (List.mem_cons_of_mem _ hy))
    by_cases hp : P x = true
    · have e1 : (fun t => ((x :: X).filter fun x => P x && decide (k x = t)).length) = fun t => (if k x = t then 1 else 0) + (X.filter fun x => P x && decide (k x = t)).length := by
        funext t
        rw [List.filter_cons, hp]
        by_cases e : k x = t
        · simp [e]; omega
        · simp [e]
      rw [e1, sum_add, sum_ite hn (h x List.mem_cons_self hp), ← ih, List.filter_cons, if_pos hp]
      simp; omega
    · have hp' : P x = false := by simpa using hp
      have e1 : (fun t => ((x :: X).filter fun x => P x && decide (k x = t)).length) = fun t => (X.filter fun x => P x && decide (k x = t)).length := by
        funext t
        rw [List.filter_cons, hp']; simp
      rw [e1, ← ih, List.filter_cons, if_neg hp]
def perms3 : List (Int × Int × Int) := [(0, 1, 2), (0, 2, 1), (1, 0, 2), (1, 2, 0), (2, 0, 1), (2, 1, 0)]
def sig (t : Int × Int × Int) (x : Int) : Int := if x = 0 then t.1 else if x = 1 then t.2.1 else t.2.2
theorem sig_perm : ∀ t ∈ perms3, (col3.map (sig t)).Perm col3 := by decide
theorem sig_inj : ∀ t ∈ perms3, ∀ x ∈ col3, ∀ y ∈ col3, sig t x = sig t y → x = y := by decide
theorem sig_012 : ∀ t ∈ perms3, (sig t 0, sig t 1, sig t 2) = t := by decide
theorem perms_nodup : perms3.Nodup := by decide
theorem perms_all : ∀ x ∈ col3, ∀ y ∈ col3, ∀ z ∈ col3, x ≠ y → x ≠ z → y ≠ z → (x, y, z) ∈ perms3 := by decide
def noG : Nat → Int := fun _ => -1
theorem okP_noG {es : List (Int × Int)} {L : List Nat} {g : Nat → Int} : okP es noG L g = true ↔ ∀ d e, d ∈ L → e ∈ L → adjP es d e → d ≠ e → g d ≠ g e := by
  rw [okP_iff]
  exact ⟨fun h => h.2, fun h => ⟨fun d _ hd => absurd rfl hd, h⟩⟩
/-- There are six colourings for each one with the colours 0, 1 and 2, in order, at a vertex. -/
theorem sixfold {es : List (Int × Int)} {L : List Nat} {G : Nat → Int} {e0 e1 e2 : Nat} (hL : L.Nodup) (h0 : e0 ∈ L) (h1 : e1 ∈ L) (h2 : e2 ∈ L) (a01 : adjP es e0 e1) (a02 : adjP es e0 e2) (a12 : adjP es e1 e2) (n01 : e0 ≠ e1) (n02 : e0 ≠ e2) (n12 : e1 ≠ e2)
    (hG : ∀ d, G d ≠ -1 → d = e0 ∨ d = e1 ∨ d = e2) (g0 : G e0 = 0) (g1 : G e1 = 1) (g2 : G e2 = 2) (f : Nat → Int) :
    cntG col3 (okP es noG L) L f = 6 * cntG col3 (okP es G L) L f := by
  have hk := count_keys (P := okP es noG L) (k := fun g : Nat → Int => (g e0, g e1, g e2)) perms_nodup (allG col3 L f) (fun g hg hp => by
    have hv := ((mem_allG hL).1 hg).2
    have hp := okP_noG.1 hp
    exact perms_all _ (hv e0 h0) _ (hv e1 h1) _ (hv e2 h2) (hp e0 e1 h0 h1 a01 n01) (hp e0 e2 h0 h2 a02 n02) (hp e1 e2 h1 h2 a12 n12))
  rw [cnt_len] at hk
  rw [hk]
  have key : ∀ t ∈ perms3, ((allG col3 L f).filter fun g => okP es noG L g && decide ((g e0, g e1, g e2) = t)).length = cntG col3 (okP es G L) L f := by
    intro t ht
    rw [cnt_len, ← cnt_ren (sig_perm t ht) L (fun g => okP es noG L g && decide ((g e0, g e1, g e2) = t)) f hL]
    refine cnt_congr L f fun g hg => ?_
    have hv := ((mem_allG hL).1 hg).2
    have hr : ∀ d, d ∈ L → renF (sig t) L g d = sig t (g d) := fun d hd => by simp [renF, hd]
    have hi := sig_inj t ht
    have hs := sig_012 t ht
    have c0 : (0 : Int) ∈ col3 := by decide
    have c1 : (1 : Int) ∈ col3 := by decide
    have c2 : (2 : Int) ∈ col3 := by decide
    rw [Bool.eq_iff_iff, Bool.and_eq_true, decide_eq_true_iff, okP_noG, okP_iff, hr e0 h0, hr e1 h1, hr e2 h2]
    constructor
    · rintro ⟨hp, ht2⟩
      rw [← hs] at ht2
      simp only [Prod.mk.injEq] at ht2
      have x0 := hi _ (hv e0 h0) _ c0 ht2.1
      have x1 := hi _ (hv e1 h1) _ c1 ht2.2.1
      have x2 := hi _ (hv e2 h2) _ c2 ht2.2.2
      refine ⟨fun d _ hd => ?_, fun d e hd he ha hne heq => hp d e hd he ha hne (by rw [hr d hd, hr e he, heq])⟩
      rcases hG d hd with rfl | rfl | rfl
      · rw [x0, g0]
      · rw [x1, g1]
      · rw [x2, g2]
    · rintro ⟨hg2, hp⟩
      have x0 := hg2 e0 h0 (by rw [g0]; decide)
      have x1 := hg2 e1 h1 (by rw [g1]; decide)
      have x2 := hg2 e2 h2 (by rw [g2]; decide)
      refine ⟨fun d e hd he ha hne heq => ?_, by rw [x0, x1, x2, g0, g1, g2]; exact hs⟩
      rw [hr d hd, hr e he] at heq
      exact hp d e hd he ha hne (hi _ (hv d hd) _ (hv e he) heq)
  rw [List.map_congr_left key]
  simp only [perms3, List.map_cons, List.map_nil, List.sum_cons, List.sum_nil]
  omega
end Go.Proofs.Ytppfplhbfgjjhaa
