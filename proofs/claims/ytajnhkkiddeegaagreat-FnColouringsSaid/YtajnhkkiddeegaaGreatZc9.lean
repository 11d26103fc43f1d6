import Derived.Test.YtajnhkkiddeegaaGreatZc5
set_option linter.unusedVariables false
set_option linter.unusedSimpArgs false
namespace Go.Proofs.YtajnhkkiddeegaaGreat
open Go.RowKit Go.Sort
def upF (f : Nat → Int) (e : Nat) (x : Int) : Nat → Int := fun d => if d = e then x else f d
theorem upF_same (f : Nat → Int) (e : Nat) (x : Int) : upF f e x e = x := by simp [upF]
theorem upF_other {f : Nat → Int} {e d : Nat} {x : Int} (h : d ≠ e) : upF f e x d = f d := by simp [upF, h]
theorem upF_comm {f : Nat → Int} {e d : Nat} {x y : Int} (h : e ≠ d) : upF (upF f e x) d y = upF (upF f d y) e x := by
  funext t; simp only [upF]; by_cases h1 : t = d <;> by_cases h2 : t = e <;> simp_all
theorem upF_self (f : Nat → Int) (e : Nat) : upF f e (f e) = f := by
  funext t; simp only [upF]; split <;> simp_all
def treeG (vals : List Int) (ok : (Nat → Int) → Nat → Int → Bool) : List Nat → (Nat → Int) → List (Nat → Int)
  | [], f => [f]
  | e :: L, f => vals.flatMap fun x => if ok f e x then treeG vals ok L (upF f e x) else []
def allG (vals : List Int) : List Nat → (Nat → Int) → List (Nat → Int)
  | [], f => [f]
  | e :: L, f => vals.flatMap fun x => allG vals L (upF f e x)
theorem tree_filter {vals : List Int} {ok : (Nat → Int) → Nat → Int → Bool} {P : (Nat → Int) → Bool} (Inv : List Nat → (Nat → Int) → Prop)
    (h0 : ∀ f, Inv [] f → P f = true)
    (h1 : ∀ e L f x, x ∈ vals → Inv (e :: L) f → ok f e x = true → Inv L (upF f e x))
    (h2 : ∀ e L f x, x ∈ vals → Inv (e :: L) f → ok f e x = false → ∀ g, g ∈ allG vals L (upF f e x) → P g = false) :
    ∀ L f, Inv L f → treeG vals ok L f = (allG vals L f).filter P := by
  intro L
  induction L with
  | nil => intro f hI; simp [treeG, allG, h0 f hI]
  | cons e L ih =>
    intro f hI
    simp only [treeG, allG, List.filter_flatMap]
    have : ∀ (vs : List Int), (∀ x, x ∈ vs → x ∈ vals) → vs.flatMap (fun x => if ok f e x = true then treeG vals ok L (upF f e x) else []) = vs.flatMap (fun x => List.filter P (allG vals L (upF f e x))) := by
      intro vs
      induction vs with
      | nil => intro _; rfl
      | cons x vs ih2 =>
        intro hv
        simp only [List.flatMap_cons]
        rw [ih2 (fun y hy => hv y (List.mem_cons_of_mem _ hy))]
        congr 1
        have hx := hv x List.mem_cons_self
        cases hok : ok f e x with
        | true => simp [ih _ (h1 e L f x hx hI hok)]
        | false =>
          have := h2 e L f x hx hI hok
          simp only [Bool.false_eq_true, if_false]
          symm
          rw [List.filter_eq_nil_iff]
          intro g hg
          rw [this g hg]; decide
    exact this vals (fun _ h => h)
/-- What is in 'all': like f but for the edges of the list, whose values are in the list of values. -/
theorem mem_allG {vals : List Int} : ∀ {L : List Nat} {f g : Nat → Int}, L.Nodup → (g ∈ allG vals L f ↔ (∀ d, d ∉ L → g d = f d) ∧ ∀ d, d ∈ L → g d ∈ vals) := by
  intro L
  induction L with
  | nil =>
    intro f g _
    simp only [allG, List.mem_singleton]
    exact ⟨fun h => ⟨fun _ _ => by rw [h], fun _ h => absurd h (by simp)⟩, fun h => funext fun d => h.1 d (by simp)⟩
  | cons e L ih =>
    intro f g hnd
    have hnd' := (List.nodup_cons.1 hnd)
    simp only [allG, List.mem_flatMap]
    constructor
    · rintro ⟨x, hx, hg⟩
      obtain ⟨g1, g2⟩ := (ih hnd'.2).1 hg
      refine ⟨fun d hd => ?_, fun d hd => ?_⟩
      · have hd' : d ≠ e ∧ d ∉ L := by simpa using hd
        rw [g1 d hd'.2, upF_other hd'.1]
      · rcases List.mem_cons.1 hd with rfl | hd
        · rw [g1 _ hnd'.1, upF_same]; exact hx
        · exact g2 d hd
    · rintro ⟨g1, g2⟩
      refine ⟨g e, g2 e List.mem_cons_self, (ih hnd'.2).2 ⟨fun d hd => ?_, fun d hd => g2 d (List.mem_cons_of_mem _ hd)⟩⟩
      by_cases h : d = e
      · subst h; rw [upF_same]
      · rw [upF_other h]; exact g1 d (by simp [h, hd])
/-- How many of 'all' are as told. -/
def cntG (vals : List Int) (P : (Nat → Int) → Bool) : List Nat → (Nat → Int) → Nat
  | [], f => if P f then 1 else 0
  | e :: L, f => (vals.map fun x => cntG vals P L (upF f e x)).sum
theorem cnt_len {vals : List Int} {P : (Nat → Int) → Bool} : ∀ (L : List Nat) (f : Nat → Int), ((allG vals L f).filter P).length = cntG vals P L f := by
  intro L
  induction L with
  | nil => intro f; simp only [allG, cntG, List.filter_cons, List.filter_nil]; split <;> rfl
  | cons e L ih =>
    intro f
    simp only [allG, cntG, List.filter_flatMap, List.length_flatMap]
    congr 1
    exact List.map_congr_left fun x _ => ih _
theorem sum_swap {α β : Type} (F : α → β → Nat) : ∀ (xs : List α) (ys : List β), (xs.map fun x => (ys.map fun y => F x y).sum).sum = (ys.map fun y => (xs.map fun x => F x y).sum).sum := by
  intro xs
  induction xs with
  | nil => intro ys; simp only [List.map_nil, List.sum_nil]; induction ys with
    | nil => rfl
    | cons y ys ih => simpa using ih
  | cons x xs ih =>
    intro ys
    simp only [List.map_cons, List.sum_cons, ih]
    induction ys with
    | nil => rfl
    | cons y ys ih2 => simp only [List.map_cons, List.sum_cons] at ih2 ⊢; omega
theorem cnt_perm {vals : List Int} {P : (Nat → Int) → Bool} {L L' : List Nat} (h : L.Perm L') : L.Nodup → ∀ f, cntG vals P L f = cntG vals P L' f := by
  induction h with
  | nil => intro _ f; rfl
  | cons e _ ih => intro hn f; simp only [cntG]; congr 1; exact List.map_congr_left fun x _ => ih (List.nodup_cons.1 hn).2 _
  | swap a b l =>
    intro hn f
    have hab : b ≠ a := by
      intro e; subst e
      exact (List.nodup_cons.1 hn).1 List.mem_cons_self
    simp only [cntG]
    rw [sum_swap]
    congr 1
    refine List.map_congr_left fun x _ => ?_
    congr 1
    refine List.map_congr_left fun y _ => ?_
    rw [upF_comm hab]
  | trans h1 _ ih1 ih2 => intro hn f; rw [ih1 hn f, ih2 (h1.nodup_iff.1 hn) f]
theorem cnt_congr {vals : List Int} {P Q : (Nat → Int) → Bool} : ∀ (L : List Nat) (f : Nat → Int), (∀ g, g ∈ allG vals L f → P g = Q g) → cntG vals P L f = cntG vals Q L f := by
  intro L
  induction L with
  | nil => intro f h; simp only [cntG, h f (by simp [allG])]
  | cons e L ih =>
    intro f h
    simp only [cntG]
    congr 1
    refine List.map_congr_left fun x hx => ih _ fun g hg => h g ?_
    simp only [allG, List.mem_flatMap]
    exact ⟨x, hx, hg⟩
/-- Not turned by the values at some edges. -/
def Indep (Q : (Nat → Int) → Bool) (L : List Nat) : Prop := ∀ g e x, e ∈ L → Q (upF g e x) = Q g
theorem cnt_indep {vals : List Int} {Q : (Nat → Int) → Bool} : ∀ (L : List Nat) (f : Nat → Int) (e : Nat) (x : Int), (∀ g x, Q (upF g e x) = Q g) → e ∉ L → cntG vals Q L (upF f e x) = cntG vals Q L f := by
  intro L
  induction L with
  | nil => intro f e x h _; simp only [cntG, h]
  | cons d L ih =>
    intro f e x h hn
    have hn' : e ≠ d ∧ e ∉ L := by simpa using hn
    simp only [cntG]
    congr 1
    refine List.map_congr_left fun y _ => ?_
    rw [upF_comm hn'.1, ih _ e x h hn'.2]
theorem sum_mul {α : Type} (k : Nat) (F : α → Nat) : ∀ l : List α, (l.map fun x => k * F x).sum = k * (l.map F).sum := by
  intro l
  induction l with
  | nil => simp
  | cons v l ih => simp only [List.map_cons, List.sum_cons, Nat.mul_add, ih]
theorem cnt_mul0 {vals : List Int} {P Q : (Nat → Int) → Bool} : ∀ (L : List Nat) (f : Nat → Int), Indep P L → cntG vals (fun g => P g && Q g) L f = (if P f then 1 else 0) * cntG vals Q L f := by
  intro L
  induction L with
  | nil => intro f _; simp only [cntG]; by_cases h1 : P f = true <;> by_cases h2 : Q f = true <;> simp [h1, h2]
  | cons e L ih =>
    intro f hP
    have hP' : Indep P L := fun g d x hd => hP g d x (List.mem_cons_of_mem _ hd)
    simp only [cntG]
    have : (vals.map fun x => cntG vals (fun g => P g && Q g) L (upF f e x)) = vals.map fun x => (if P f then 1 else 0) * cntG vals Q L (upF f e x) := by
      refine List.map_congr_left fun x _ => ?_
      rw [ih _ hP', hP f e x List.mem_cons_self]
    rw [this]
    exact sum_mul _ _ _
theorem cnt_mul {vals : List Int} {P Q : (Nat → Int) → Bool} : ∀ (L1 L2 : List Nat) (f : Nat → Int), (L1 ++ L2).Nodup → Indep P L2 → Indep Q L1 → cntG vals (fun g => P g && Q g) (L1 ++ L2) f = cntG vals P L1 f * cntG vals Q L2 f := by
  intro L1
  induction L1 with
  | nil => intro L2 f _ hP _; simp only [List.nil_append]; rw [cnt_mul0 L2 f hP]; rfl
  | cons e L1 ih =>
    intro L2 f hn hP hQ
    have hn' := List.nodup_cons.1 hn
    have hQ' : Indep Q L1 := fun g d x hd => hQ g d x (List.mem_cons_of_mem _ hd)
    have he2 : e ∉ L2 := fun h => hn'.1 (List.mem_append_right _ h)
    simp only [List.cons_append, cntG]
    have : (vals.map fun x => cntG vals (fun g => P g && Q g) (L1 ++ L2) (upF f e x)) = vals.map fun x => cntG vals Q L2 f * cntG vals P L1 (upF f e x) := by
      refine List.map_congr_left fun x _ => ?_
      rw [ih L2 _ hn'.2 hP hQ', cnt_indep L2 f e x (fun g y => hQ g e y List.mem_cons_self) he2, Nat.mul_comm]
    rw [this, sum_mul, Nat.mul_comm]
/-- The first of 'all' that is as told is the least: at the first edge where another one parts from it, that has the greater value. -/
theorem find_least {vals : List Int} {P : (Nat → Int) → Bool} (hv : vals.Pairwise (· < ·)) : ∀ (L : List Nat) (f g : Nat → Int), L.Nodup → (allG vals L f).find? P = some g →
    ∀ g', g' ∈ allG vals L f → P g' = true → ∀ pre e post, L = pre ++ e :: post → (∀ d, d ∈ pre → g' d = g d) → g e ≤ g' e := by
  intro L
  induction L with
  | nil => intro f g _ _ g' _ _ pre e post h; simp at h
  | cons d L ih =>
    intro f g hn hf g' hg' hP pre e post hL hpre
    have hn' := List.nodup_cons.1 hn
    have key : ∀ vs : List Int, (∀ x, x ∈ vs → x ∈ vals) → vs.Pairwise (· < ·) → (vs.flatMap fun x => allG vals L (upF f d x)).find? P = some g → (∃ x, x ∈ vs ∧ g' ∈ allG vals L (upF f d x)) → g e ≤ g' e := by
      intro vs
      induction vs with
      | nil => rintro _ _ _ ⟨x, hx, _⟩; simp at hx
      | cons v vs ih2 =>
        intro hvs hpw hfind hmem
        rw [List.flatMap_cons, List.find?_append] at hfind
        have hpw' := List.pairwise_cons.1 hpw
        obtain ⟨x, hx, hgx⟩ := hmem
        have gd : g' d = x := by
          have := (mem_allG hn'.2).1 hgx
          rw [this.1 d hn'.1, upF_same]
        cases hfv : (allG vals L (upF f d v)).find? P with
        | none =>
          rw [hfv, Option.none_or] at hfind
          have hxv : x ≠ v := by
            rintro rfl
            have := List.find?_eq_none.1 hfv g' hgx
            exact this hP
          refine ih2 (fun y hy => hvs y (List.mem_cons_of_mem _ hy)) hpw'.2 hfind ⟨x, ?_, hgx⟩
          exact (List.mem_cons.1 hx).resolve_left hxv
        | some g0 =>
          rw [hfv] at hfind
          have hg0 : g0 = g := by simpa using hfind
          subst hg0
          have g0m := List.mem_of_find?_eq_some hfv
          have g0d : g0 d = v := by
            have := (mem_allG hn'.2).1 g0m
            rw [this.1 d hn'.1, upF_same]
          cases pre with
          | nil =>
            obtain ⟨rfl, rfl⟩ : d = e ∧ L = post := by simpa using hL
            rw [g0d, gd]
            rcases List.mem_cons.1 hx with rfl | hx
            · exact Int.le_refl _
            · have := hpw'.1 x hx; omega
          | cons p pre =>
            obtain ⟨rfl, hL2⟩ : d = p ∧ L = pre ++ e :: post := by simpa using hL
            have hdv := hpre d List.mem_cons_self
            rw [gd, g0d] at hdv
            subst hdv
            exact ih _ _ hn'.2 hfv g' hgx hP pre e post hL2 (fun t ht => hpre t (List.mem_cons_of_mem _ ht))
    refine key vals (fun _ h => h) hv hf ?_
    simp only [allG, List.mem_flatMap] at hg'
    exact hg'
/-- Two that are each least are the same at the edges. -/
theorem least_eq {L : List Nat} {g g' : Nat → Int}
    (h1 : ∀ pre e post, L = pre ++ e :: post → (∀ d, d ∈ pre → g' d = g d) → g e ≤ g' e)
    (h2 : ∀ pre e post, L = pre ++ e :: post → (∀ d, d ∈ pre → g d = g' d) → g' e ≤ g e) : ∀ d, d ∈ L → g d = g' d := by
  have : ∀ k, ∀ pre post, pre.length = k → L = pre ++ post → ∀ d, d ∈ pre → g d = g' d := by
    intro k
    induction k with
    | zero => intro pre post hk _ d hd; rw [List.length_eq_zero_iff] at hk; subst hk; simp at hd
    | succ k ih =>
      intro pre post hk hL d hd
      obtain ⟨p, e, rfl⟩ : ∃ p e, pre = p ++ [e] := ⟨pre.dropLast, pre.getLast (by intro h; simp [h] at hk), (List.dropLast_concat_getLast _).symm⟩
      have hp := ih p (e :: post) (by simpa using hk) (by simpa using hL)
      rcases List.mem_append.1 hd with h | h
      · exact hp d h
      · obtain rfl : d = e := by simpa using h
        exact Int.le_antisymm (h1 p d post (by simpa using hL) (fun t ht => (hp t ht).symm)) (h2 p d post (by simpa using hL) (fun t ht => hp t ht))
  exact this L.length L [] rfl (by simp)
end Go.Proofs.YtajnhkkiddeegaaGreat
namespace Go.Proofs.YtajnhkkiddeegaaGreat
open Go.RowKit Go.Sort
def col3 : List Int := [0, 1, 2]
theorem mem_col3 {x : Int} : x ∈ col3 ↔ 0 ≤ x ∧ x ≤ 2 := by simp only [col3, List.mem_cons, List.not_mem_nil, or_false]; omega
def adjP (es : List (Int × Int)) (d e : Nat) : Prop := (ea es d = ea es e ∨ eb es d = ea es e) ∨ (ea es d = eb es e ∨ eb es d = eb es e)
theorem adjP_symm {es : List (Int × Int)} {d e : Nat} (h : adjP es d e) : adjP es e d := by unfold adjP at h ⊢; omega
/-- No two edges at a vertex have a colour, and what is given is kept. -/
noncomputable def okP (es : List (Int × Int)) (G : Nat → Int) (L0 : List Nat) (g : Nat → Int) : Bool :=
  B ((∀ d, d ∈ L0 → G d ≠ -1 → g d = G d) ∧ ∀ d e, d ∈ L0 → e ∈ L0 → adjP es d e → d ≠ e → g d ≠ g e)
noncomputable def okI (es : List (Int × Int)) (m : Nat) (f : Nat → Int) (e : Nat) (x : Int) : Bool :=
  if f e ≠ -1 then B (x = f e) else B (∀ d, d < m → adjP es d e → f d ≠ x)
noncomputable def okS (es : List (Int × Int)) (G : Nat → Int) (f : Nat → Int) (e : Nat) (x : Int) : Bool :=
  B ((G e ≠ -1 → x = G e) ∧ ∀ d, d < e → adjP es d e → f d ≠ x)
structure Part (es : List (Int × Int)) (L0 : List Nat) (G : Nat → Int) : Prop where
  asc : L0.Pairwise (· < ·)
  lt : ∀ d, d ∈ L0 → d < es.length
  closed : ∀ d e, d < es.length → e ∈ L0 → adjP es d e → d ∈ L0
  giv : ∀ d, G d ≠ -1 → d ∈ L0 ∧ 0 ≤ G d ∧ G d ≤ 2
theorem Part.nodup {es : List (Int × Int)} {L0 : List Nat} {G : Nat → Int} (h : Part es L0 G) : L0.Nodup := h.asc.imp fun h => by omega
theorem treeI {es : List (Int × Int)} {L0 : List Nat} {G : Nat → Int} (h : Part es L0 G) (hG : ∀ d e, adjP es d e → d ≠ e → G d = G e → G d = -1) :
    treeG col3 (okI es es.length) L0 G = (allG col3 L0 G).filter (okP es G L0) := by
  refine tree_filter (fun L f => ∃ pre, L0 = pre ++ L ∧ (∀ d, d ∈ pre → 0 ≤ f d ∧ f d ≤ 2) ∧ (∀ d, d ∉ pre → f d = G d) ∧ (∀ d, G d ≠ -1 → f d = G d) ∧ ∀ d e, adjP es d e → d ≠ e → f d = f e → f d = -1) ?_ ?_ ?_ L0 G ⟨[], rfl, by simp, fun _ _ => rfl, fun _ _ => rfl, hG⟩
  · rintro f ⟨pre, hL, h1, h2, h3, h4⟩
    have hL' : L0 = pre := by simpa using hL
    subst hL'
    exact B_true ⟨fun d hd hg => h3 d hg, fun d e hd he ha hne hf => by have := h4 d e ha hne hf; have := h1 d hd; omega⟩
  · rintro e L f x hx ⟨pre, hL, h1, h2, h3, h4⟩ hok
    have hnd := h.nodup
    rw [hL] at hnd
    have hep : e ∉ pre := fun hp => by
      have := List.nodup_append.1 hnd
      exact this.2.2 e hp e List.mem_cons_self rfl
    have he0 : e ∈ L0 := by rw [hL]; simp
    have hx' := mem_col3.1 hx
    unfold okI at hok
    by_cases hfe : f e ≠ -1
    · rw [if_pos hfe] at hok
      have hxe := B_iff.1 hok
      subst hxe
      rw [upF_self]
      refine ⟨pre ++ [e], by simp [hL], fun d hd => ?_, fun d hd => h2 d (fun hp => hd (List.mem_append_left _ hp)), h3, h4⟩
      rcases List.mem_append.1 hd with hd | hd
      · exact h1 d hd
      · obtain rfl : d = e := by simpa using hd
        exact hx'
    · rw [if_neg hfe] at hok
      have hok := B_iff.1 hok
      have hfe' : f e = -1 := by omega
      have hge : G e = -1 := by rw [← h2 e hep]; exact hfe'
      refine ⟨pre ++ [e], by simp [hL], fun d hd => ?_, fun d hd => ?_, fun d hd => ?_, fun d t ha hne hf => ?_⟩
      · rcases List.mem_append.1 hd with hd1 | hd1
        · rw [upF_other (by rintro rfl; exact hep hd1)]; exact h1 d hd1
        · obtain rfl : d = e := by simpa using hd1
          rw [upF_same]; exact hx'
      · have hde : d ≠ e := fun hde => hd (by rw [hde]; simp)
        rw [upF_other hde]; exact h2 d (fun hp => hd (List.mem_append_left _ hp))
      · have hde : d ≠ e := fun hde => hd (by rw [hde]; exact hge)
        rw [upF_other hde]; exact h3 d hd
      · by_cases hde : d = e
        · subst hde
          rw [upF_same, upF_other (Ne.symm hne)] at hf
          have : t < es.length ∨ ¬ t < es.length := by omega
          rcases this with ht | ht
          · exact absurd hf.symm (hok t ht (adjP_symm ha))
          · have : t ∉ pre := fun hp => ht (h.lt t (by rw [hL]; exact List.mem_append_left _ hp))
            have hgt : G t = -1 := by
              apply Classical.byContradiction
              intro hg; exact ht (h.lt t (h.giv t hg).1)
            rw [h2 t this, hgt] at hf; omega
        · by_cases hte : t = e
          · subst hte
            rw [upF_same, upF_other hde] at hf
            rw [upF_other hde]
            have : d < es.length ∨ ¬ d < es.length := by omega
            rcases this with ht | ht
            · exact absurd hf (hok d ht ha)
            · have : d ∉ pre := fun hp => ht (h.lt d (by rw [hL]; exact List.mem_append_left _ hp))
              have hgt : G d = -1 := by
                apply Classical.byContradiction
                intro hg; exact ht (h.lt d (h.giv d hg).1)
              rw [h2 d this]; exact hgt
          · rw [upF_other hde, upF_other hte] at hf
            rw [upF_other hde]
            exact h4 d t ha hne hf
  · rintro e L f x hx ⟨pre, hL, h1, h2, h3, h4⟩ hok g hg
    have hnd := h.nodup
    rw [hL] at hnd
    have hna := List.nodup_append.1 hnd
    have hep : e ∉ pre := fun hp => hna.2.2 e hp e List.mem_cons_self rfl
    have heL := (List.nodup_cons.1 hna.2.1)
    have he0 : e ∈ L0 := by rw [hL]; simp
    have hx' := mem_col3.1 hx
    obtain ⟨g1, g2⟩ := (mem_allG heL.2).1 hg
    have hge : g e = x := by rw [g1 e heL.1, upF_same]
    refine B_false ?_
    rintro ⟨p1, p2⟩
    unfold okI at hok
    by_cases hfe : f e ≠ -1
    · rw [if_pos hfe] at hok
      have hxe := B_not.1 hok
      have : G e ≠ -1 := by rw [← h2 e hep]; exact hfe
      have := p1 e he0 this
      exact hxe (by rw [h2 e hep, ← this, hge])
    · rw [if_neg hfe] at hok
      have hok := B_not.1 hok
      have hfe' : f e = -1 := by omega
      apply hok
      intro d hd ha hfd
      have hde : d ≠ e := by rintro rfl; omega
      have hd0 := h.closed d e hd he0 ha
      by_cases hdp : d ∈ pre
      · have hdL : d ∉ L := fun hl => hna.2.2 d hdp d (List.mem_cons_of_mem _ hl) rfl
        have := g1 d hdL
        rw [upF_other hde] at this
        exact p2 d e hd0 he0 ha hde (by rw [this, hfd, hge])
      · have hgd : G d = x := by rw [← h2 d hdp]; exact hfd
        have := p1 d hd0 (by rw [hgd]; omega)
        exact p2 d e hd0 he0 ha hde (by rw [this, hgd, hge])
theorem treeS {es : List (Int × Int)} {L0 : List Nat} {G : Nat → Int} (h : Part es L0 G) (f0 : Nat → Int) :
    treeG col3 (okS es G) L0 f0 = (allG col3 L0 f0).filter (okP es G L0) := by
  refine tree_filter (fun L f => ∃ pre, L0 = pre ++ L ∧ (∀ d, d ∈ pre → G d ≠ -1 → f d = G d) ∧ ∀ d e, d ∈ pre → e ∈ pre → adjP es d e → d ≠ e → f d ≠ f e) ?_ ?_ ?_ L0 f0 ⟨[], rfl, by simp, by simp⟩
  · rintro f ⟨pre, hL, h1, h2⟩
    have hL' : L0 = pre := by simpa using hL
    subst hL'
    exact B_true ⟨h1, h2⟩
  · rintro e L f x hx ⟨pre, hL, h1, h2⟩ hok
    have hnd := h.nodup
    have hasc := h.asc
    rw [hL] at hnd hasc
    have hna := List.nodup_append.1 hnd
    have hep : e ∉ pre := fun hp => hna.2.2 e hp e List.mem_cons_self rfl
    have hlt : ∀ d, d ∈ pre → d < e := fun d hd => (List.pairwise_append.1 hasc).2.2 d hd e List.mem_cons_self
    obtain ⟨k1, k2⟩ := B_iff.1 hok
    refine ⟨pre ++ [e], by simp [hL], fun d hd hg => ?_, fun d t hd ht ha hne => ?_⟩
    · rcases List.mem_append.1 hd with hd1 | hd1
      · rw [upF_other (by rintro rfl; exact hep hd1)]; exact h1 d hd1 hg
      · obtain rfl : d = e := by simpa using hd1
        rw [upF_same]; exact k1 hg
    · rcases List.mem_append.1 hd with hd1 | hd1
      · have hde : d ≠ e := by rintro rfl; exact hep hd1
        rw [upF_other hde]
        rcases List.mem_append.1 ht with ht1 | ht1
        · rw [upF_other (by rintro rfl; exact hep ht1)]; exact h2 d t hd1 ht1 ha hne
        · have hte : t = e := by simpa using ht1
          rw [hte] at ha ⊢
          rw [upF_same]; exact k2 d (hlt d hd1) ha
      · have hde : d = e := by simpa using hd1
        rw [hde] at ha ⊢
        rw [upF_same]
        rcases List.mem_append.1 ht with ht1 | ht1
        · rw [upF_other (by rintro rfl; exact hep ht1)]; exact (k2 t (hlt t ht1) (adjP_symm ha)).symm
        · have hte : t = e := by simpa using ht1
          exact absurd (hde.trans hte.symm) hne
  · rintro e L f x hx ⟨pre, hL, h1, h2⟩ hok g hg
    have hnd := h.nodup
    have hasc := h.asc
    rw [hL] at hnd hasc
    have hna := List.nodup_append.1 hnd
    have hep : e ∉ pre := fun hp => hna.2.2 e hp e List.mem_cons_self rfl
    have hgt : ∀ d, d ∈ L → e < d := fun d hd => (List.pairwise_cons.1 (List.pairwise_append.1 hasc).2.1).1 d hd
    have heL := (List.nodup_cons.1 hna.2.1)
    have he0 : e ∈ L0 := by rw [hL]; simp
    obtain ⟨g1, g2⟩ := (mem_allG heL.2).1 hg
    have hge : g e = x := by rw [g1 e heL.1, upF_same]
    refine B_false ?_
    rintro ⟨p1, p2⟩
    refine B_not.1 hok ⟨fun hG => by rw [← hge]; exact p1 e he0 hG, fun d hd ha hfd => ?_⟩
    have hd0 := h.closed d e (by have := h.lt e he0; omega) he0 ha
    have hdL : d ∉ L := fun hl => by have := hgt d hl; omega
    have := g1 d hdL
    rw [upF_other (by omega)] at this
    exact p2 d e hd0 he0 ha (by omega) (by rw [this, hfd, hge])
end Go.Proofs.YtajnhkkiddeegaaGreat
namespace Go.Proofs.YtajnhkkiddeegaaGreat
open Go.RowKit Go.Sort
def va (es : List (Int × Int)) (e : Nat) : Nat := (ea es e).toNat
def vb (es : List (Int × Int)) (e : Nat) : Nat := (eb es e).toNat
def givU (es : List (Int × Int)) (U : Nat → Nat) (e : Nat) (x : Nat) : Nat → Nat := fun v => if v = va es e ∨ v = vb es e then U v ||| 2 ^ x else U v
def colT (es : List (Int × Int)) (rec : (Nat → Int) → (Nat → Nat) → List (Nat → Int)) (e : Nat) (f : Nat → Int) (U : Nat → Nat) : Nat → List (Nat → Int)
  | 0 => []
  | j + 1 => colT es rec e f U j ++ (if (U (va es e) ||| U (vb es e)).testBit j then [] else rec (upF f e j) (givU es U e j))
def colF (es : List (Int × Int)) : List Nat → (Nat → Int) → (Nat → Nat) → List (Nat → Int)
  | [], f, _ => [f]
  | e :: L, f, U => if f e ≠ -1 then colF es L f U else colT es (colF es L) e f U 3
/-- What is used at a vertex: the colours of the edges at it. -/
def UsI (n : Int) (es : List (Int × Int)) (f : Nat → Int) (U : Nat → Nat) : Prop :=
  ∀ v : Nat, (v : Int) < n → U v < 8 ∧ ∀ x : Nat, x < 3 → ((U v).testBit x = true ↔ ∃ d, d < es.length ∧ (ea es d = v ∨ eb es d = v) ∧ f d = x)
theorem UsI.give {n : Int} {es : List (Int × Int)} {f : Nat → Int} {U : Nat → Nat} (h : UsI n es f U) (hn : WfP n es) {e x : Nat} (he : e < es.length) (hx : x < 3) (hf : f e = -1) : UsI n es (upF f e x) (givU es U e x) := by
  intro v hv
  obtain ⟨h1, h2⟩ := h v hv
  have hw := hn.2.2.2.2 e he
  have hon : (v = va es e ∨ v = vb es e) ↔ (ea es e = v ∨ eb es e = v) := by unfold va vb; omega
  have hp : 2 ^ x < 8 := by
    have : x = 0 ∨ x = 1 ∨ x = 2 := by omega
    rcases this with rfl | rfl | rfl <;> decide
  refine ⟨?_, fun y hy => ?_⟩
  · simp only [givU]
    split
    · exact Nat.or_lt_two_pow (n := 3) h1 hp
    · exact h1
  · simp only [givU]
    by_cases hc : v = va es e ∨ v = vb es e
    · rw [if_pos hc, Nat.testBit_or, Bool.or_eq_true, h2 y hy, Nat.testBit_two_pow, decide_eq_true_eq]
      constructor
      · rintro (⟨d, hd, ho, hfd⟩ | rfl)
        · refine ⟨d, hd, ho, ?_⟩
          rw [upF_other]; exact hfd
          rintro rfl; omega
        · exact ⟨e, he, hon.1 hc, upF_same _ _ _⟩
      · rintro ⟨d, hd, ho, hfd⟩
        by_cases hde : d = e
        · subst hde; rw [upF_same] at hfd; right; omega
        · rw [upF_other hde] at hfd; exact .inl ⟨d, hd, ho, hfd⟩
    · rw [if_neg hc, h2 y hy]
      constructor
      · rintro ⟨d, hd, ho, hfd⟩
        refine ⟨d, hd, ho, ?_⟩
        rw [upF_other]; exact hfd
        rintro rfl; omega
      · rintro ⟨d, hd, ho, hfd⟩
        have hde : d ≠ e := by rintro rfl; exact hc (hon.2 ho)
        rw [upF_other hde] at hfd
        exact ⟨d, hd, ho, hfd⟩
theorem UsI.bit {n : Int} {es : List (Int × Int)} {f : Nat → Int} {U : Nat → Nat} (h : UsI n es f U) (hn : WfP n es) {e x : Nat} (he : e < es.length) (hx : x < 3) :
    (U (va es e) ||| U (vb es e)).testBit x = true ↔ ∃ d, d < es.length ∧ adjP es d e ∧ f d = x := by
  have hw := hn.2.2.2.2 e he
  have ha : ((va es e : Nat) : Int) = ea es e := by unfold va; omega
  have hb : ((vb es e : Nat) : Int) = eb es e := by unfold vb; omega
  rw [Nat.testBit_or, Bool.or_eq_true, (h (va es e) (by omega)).2 x hx, (h (vb es e) (by omega)).2 x hx, ha, hb]
  constructor
  · rintro (⟨d, h1, h2, h3⟩ | ⟨d, h1, h2, h3⟩)
    · exact ⟨d, h1, .inl h2, h3⟩
    · exact ⟨d, h1, .inr h2, h3⟩
  · rintro ⟨d, h1, h2 | h2, h3⟩
    · exact .inl ⟨d, h1, h2, h3⟩
    · exact .inr ⟨d, h1, h2, h3⟩
theorem colT_flat (es : List (Int × Int)) (rec : (Nat → Int) → (Nat → Nat) → List (Nat → Int)) (e : Nat) (f : Nat → Int) (U : Nat → Nat) :
    colT es rec e f U 3 = [0, 1, 2].flatMap fun j : Nat => if (U (va es e) ||| U (vb es e)).testBit j then [] else rec (upF f e j) (givU es U e j) := by
  simp only [colT, List.flatMap_cons, List.flatMap_nil, List.nil_append, List.append_nil, List.append_assoc]
theorem col_tree {n : Int} {es : List (Int × Int)} (hn : WfP n es) : ∀ (L : List Nat) (f : Nat → Int) (U : Nat → Nat), UsI n es f U → (∀ d, d ∈ L → d < es.length) → (∀ d, d ∈ L → -1 ≤ f d ∧ f d ≤ 2) → L.Nodup →
    colF es L f U = treeG col3 (okI es es.length) L f := by
  intro L
  induction L with
  | nil => intro f U _ _ _ _; rfl
  | cons e L ih =>
    intro f U hU hL hR hnd
    have hnd' := List.nodup_cons.1 hnd
    have hLt : ∀ d, d ∈ L → d < es.length := fun d hd => hL d (List.mem_cons_of_mem _ hd)
    have hRt : ∀ d, d ∈ L → -1 ≤ f d ∧ f d ≤ 2 := fun d hd => hR d (List.mem_cons_of_mem _ hd)
    have he := hL e List.mem_cons_self
    have hfe := hR e List.mem_cons_self
    simp only [colF, treeG, col3, List.flatMap_cons, List.flatMap_nil, List.append_nil]
    by_cases h : f e ≠ -1
    · rw [if_pos h, ih f U hU hLt hRt hnd'.2]
      have h3 : f e = 0 ∨ f e = 1 ∨ f e = 2 := by omega
      have hs := upF_self f e
      have hok : ∀ x, okI es es.length f e x = B (x = f e) := fun x => by simp only [okI]; rw [if_pos h]
      simp only [hok]
      rcases h3 with h3 | h3 | h3 <;> rw [h3] at hs ⊢ <;> simp [B_dec, hs, col3]
    · have hfe' : f e = -1 := by omega
      rw [if_neg h, colT_flat]
      have hok : ∀ x : Nat, x < 3 → okI es es.length f e x = !(U (va es e) ||| U (vb es e)).testBit x := fun x hx => by
        simp only [okI]
        rw [if_neg h, Bool.eq_iff_iff, B_iff, Bool.not_eq_true', ← Bool.not_eq_true, UsI.bit hU hn he hx]
        constructor
        · rintro h1 ⟨d, h2, h3, h4⟩; exact h1 d h2 h3 h4
        · intro h1 d h2 h3 h4; exact h1 ⟨d, h2, h3, h4⟩
      have hstep : ∀ x : Nat, x < 3 → (if (U (va es e) ||| U (vb es e)).testBit x = true then [] else colF es L (upF f e x) (givU es U e x)) = if okI es es.length f e x = true then treeG col3 (okI es es.length) L (upF f e x) else [] := fun x hx => by
        rw [hok x hx]
        cases hb : (U (va es e) ||| U (vb es e)).testBit x with
        | true => simp
        | false =>
          simp only [Bool.false_eq_true, if_false, Bool.not_false, if_true]
          refine ih _ _ (hU.give hn he hx hfe') hLt (fun d hd => ?_) hnd'.2
          rw [upF_other (by rintro rfl; exact hnd'.1 hd)]; exact hRt d hd
      have s0 := hstep 0 (by omega)
      have s1 := hstep 1 (by omega)
      have s2 := hstep 2 (by omega)
      have c0 : ((0 : Nat) : Int) = 0 := rfl
      have c1 : ((1 : Nat) : Int) = 1 := rfl
      have c2 : ((2 : Nat) : Int) = 2 := rfl
      simp only [List.flatMap_cons, List.flatMap_nil, List.append_nil]
      simp only [c0, c1, c2] at s0 s1 s2 ⊢
      rw [s0, s1, s2]
      rfl
end Go.Proofs.YtajnhkkiddeegaaGreat
namespace Go.Proofs.YtajnhkkiddeegaaGreat
open Go.RowKit Go.Sort
set_option maxRecDepth 100000 in
set_option maxHeartbeats 2000000 in
theorem l02FitsX_any (n : Int) (b o m c b2 o2 l c2 e : Nat) (es : List (Int × Int)) (cs0 cs : Nat → Int) (w : World) (h : Eds w b o m es) (hm : m ≤ 1048576) (hG : IsG n es) (h2 : Ints w b2 o2 l cs0) (he : e < m) (hel : e ≤ l) (hc0 : ∀ f, f < e → cs0 f = cs f) :
    Calls Tryz.prog 113 #[.agg #[.int .i64 n, .slice (some ⟨b, o, none⟩) m c], .slice (some ⟨b2, o2, none⟩) l c2, .int .i64 e, .int .i64 (cs e)] w (Ret (.bool (B (FitP es cs e))) w) := by
  have hl := Lib.hid h.len
  have HG := Lib.hid hG
  have hbx := Box2.made w (.int .i64 n) (.slice (some ⟨b, o, none⟩) m c) 26
  have hbb := (by go_grown : Below w.heap.size w (w.alloc (.cells #[.int .i64 n, .slice (some ⟨b, o, none⟩) m c] 26)))
  have HC0 := Lib.hid hc0
  clear hG hc0
  go_enter Tryz.func113, Tryz.ntmps113
  go_wp2_with fail
  obtain ⟨w1, hw1⟩ : ∃ w1, w1 = w.alloc (Obj.cells #[Value.int IntKind.i64 n, Value.slice (some ⟨b, o, none⟩) m c] 26) := ⟨_, rfl⟩
  rw [← hw1] at hbx hbb ⊢
  clear hw1
  have E1 := h.below hbb
  have I1 := h2.below hbb
  obtain ⟨s1, p1, q1⟩ := hbx
  go_loopw [9] (fun kv wv => ∃ k : Nat, k ≤ 2 ∧ kv = .int .i64 k ∧ Hid (∀ k', k' < k → FitK es cs e k') ∧ Below w1.heap.size w1 wv) (fun k _ => 2 - (intOf k).toNat)
  case atStart => exact ⟨0, by omega, rfl, fun k hk => absurd hk (by omega), Below.refl _ _⟩
  case round =>
    obtain ⟨k, hk, rfl, HF, hbr⟩ := hrel
    have hsz := hbr.size
    by_cases hk2 : k < 2
    · have E := E1.below hbr
      have k1 := (hbr.cell (p := ⟨w.heap.size, 0, none⟩) s1).trans p1
      have k2 := (hbr.cell (p := ⟨w.heap.size, 1, none⟩) s1).trans q1
      have s2 : w.heap.size < wr.heap.size := by omega
      have ce := vE_cell E he hk2
      have hv := vE_in HG.out.wf (2 * e + k) (by rw [hl.out]; omega)
      obtain ⟨L, hL⟩ : ∃ L, L = atL es (vE es (2 * e + k)) := ⟨_, rfl⟩
      have hL3 : L.length = 3 := by rw [hL]; exact atL_3 HG.out hv.1 hv.2
      have HL3 := Lib.hid hL3
      have HLm := Lib.hid (show ∀ i, i < 3 → 0 ≤ ia L i ∧ ia L i < m from fun i hi => by
        obtain ⟨f, hf, e1, _⟩ := mem_atTo.1 (show ia L i ∈ atTo es (vE es (2 * e + k)) es.length by have := ia_mem (xs := L) (i := i) (by omega); rw [hL] at this ⊢; exact this)
        rw [hl.out] at hf
        omega)
      have HAT := Lib.hid (fitK_at (cs := cs) (e := e) (k := k) (by rw [hl.out]; exact he : e < es.length))
      have HRL := Lib.hid (show ∀ W, Below wr.heap.size wr W → Calls Tryz.prog 112 #[.agg #[.int .i64 n, .slice (some ⟨b, o, none⟩) m c], .int .i64 (vE es (2 * e + k))] W (RetL L W) from fun W hW => by rw [hL]; exact l01At_any n b o m c es _ W (E.below hW) hm)
      rw [← hL] at HAT
      clear hL hL3 hv
      go_wp2_with fail
      refine wp_region_facts (fun i v W => match i with
        | 0 => v = .agg #[.int .i64 n, .slice (some ⟨b, o, none⟩) m c]
        | 1 => v = .pointer (some ⟨w.heap.size, 1, none⟩)
        | 2 => v = .slice (some ⟨b, o, none⟩) m c
        | 3 => v = .int .i64 e
        | 4 => v = .int .i64 k
        | 5 => v = .pointer (some ⟨b, o + e * 2, none⟩)
        | 6 => v = .pointer (some ⟨b, o + e * 2 + k, none⟩)
        | 7 => v = .int .i64 (vE es (2 * e + k))
        | _ => NewL wr.heap.size L v W) (by kernel_rfl) (by kernel_rfl) ?_ ?_ ?_
      · intro i v W W' hf hb
        match i, hf with
        | 0, hf => exact hf
        | 1, hf => exact hf
        | 2, hf => exact hf
        | 3, hf => exact hf
        | 4, hf => exact hf
        | 5, hf => exact hf
        | 6, hf => exact hf
        | 7, hf => exact hf
        | (i + 8), hf => exact NewL.below hf hb
      · refine ⟨?_, ?_, ?_, ?_, ?_, ?_, ?_, ?_, ?_, ?_, trivial⟩
        · intro a W hW hs hd
          have e5 : a.tmps[4]?.getD undef = .pointer (some ⟨w.heap.size, 0, none⟩) := hs 4 (by kernel_rfl)
          have k0 := (hW.cell (p := ⟨w.heap.size, 0, none⟩) s2).trans k1
          have k1 := (hW.cell (p := ⟨w.heap.size, 1, none⟩) s2).trans k2
          clear hs hd
          unfold Grows
          go_simp
          exact Below.refl _ _
        · intro a W hW hs hd
          have e5 : a.tmps[4]?.getD undef = .pointer (some ⟨w.heap.size, 0, none⟩) := hs 4 (by kernel_rfl)
          have k0 := (hW.cell (p := ⟨w.heap.size, 0, none⟩) s2).trans k1
          have k1 := (hW.cell (p := ⟨w.heap.size, 1, none⟩) s2).trans k2
          clear hs hd
          unfold Grows
          go_simp
          exact Below.refl _ _
        · intro a W hW hs hd
          have e5 : a.tmps[17]?.getD undef = .pointer (some ⟨w.heap.size, 1, none⟩) := hd 1 17 (by kernel_rfl) (by kernel_rfl)
          have k1 := (hW.cell (p := ⟨w.heap.size, 1, none⟩) s2).trans k2
          clear hs hd
          unfold Grows
          go_simp
          exact Below.refl _ _
        · intro a W hW hs hd
          have e5 : a.tmps[2]?.getD undef = .int .i64 e := hs 2 (by kernel_rfl)
          clear hs hd
          unfold Grows
          go_simp
          exact Below.refl _ _
        · intro a W hW hs hd
          have e5 : a.tmps[9]?.getD undef = .int .i64 k := hs 9 (by kernel_rfl)
          clear hs hd
          unfold Grows
          go_simp
          exact Below.refl _ _
        · intro a W hW hs hd
          have e5 : a.tmps[18]?.getD undef = .slice (some ⟨b, o, none⟩) m c := hd 2 18 (by kernel_rfl) (by kernel_rfl)
          have e6 : a.tmps[19]?.getD undef = .int .i64 e := hd 3 19 (by kernel_rfl) (by kernel_rfl)
          have EW := E.below hW
          have d1 := EW.ca e he
          have d2 := EW.cb e he
          clear hs hd EW
          unfold Grows
          go_simp
          exact Below.refl _ _
        · intro a W hW hs hd
          have e5 : a.tmps[21]?.getD undef = .pointer (some ⟨b, o + e * 2, none⟩) := hd 5 21 (by kernel_rfl) (by kernel_rfl)
          have e6 : a.tmps[20]?.getD undef = .int .i64 k := hd 4 20 (by kernel_rfl) (by kernel_rfl)
          clear hs hd
          unfold Grows
          go_simp
          exact Below.refl _ _
        · intro a W hW hs hd
          have e5 : a.tmps[22]?.getD undef = .pointer (some ⟨b, o + e * 2 + k, none⟩) := hd 6 22 (by kernel_rfl) (by kernel_rfl)
          have d1 := vE_cell (E.below hW) he hk2
          clear hs hd
          unfold Grows
          go_simp
          exact Below.refl _ _
        · intro a W hW hs hd
          have e16 : a.tmps[16]?.getD undef = .agg #[.int .i64 n, .slice (some ⟨b, o, none⟩) m c] := hd 0 16 (by kernel_rfl) (by kernel_rfl)
          have e18 : a.tmps[23]?.getD undef = .int .i64 (vE es (2 * e + k)) := hd 7 23 (by kernel_rfl) (by kernel_rfl)
          clear hs hd
          unfold Grows
          go_simp
          refine ⟨Below.refl _ _, (HRL.out W hW).mono ?_⟩
          rintro e w6 ⟨A, c', rfl, ho, hb6⟩
          exact ⟨_, rfl, hb6, A, c', rfl, ho.mono hW.size⟩
        · intro a W hW hs hd
          have e19 : NewL wr.heap.size L (a.tmps[24]?.getD undef) W := hd 8 24 (by kernel_rfl) (by kernel_rfl)
          obtain ⟨A, c', e19, ho⟩ := e19
          clear hs hd
          unfold Grows
          go_simp
          exact ⟨Below.refl _ _, A, c', rfl, ho⟩
      intro vs W hW hf
      have f10 : NewL wr.heap.size L (vs 10) W := hf 9 10 (by kernel_rfl)
      obtain ⟨A, c', f10, ho⟩ := f10
      obtain ⟨b3, o3, rfl, I3⟩ := ho.src (by rw [HL3.out]; decide)
      rw [HL3.out] at f10 I3
      have I2 := (I1.below hbr).below hW
      have s3 := I3.blk
      have s4 := I2.blk
      simp only [dsts, List.filterMap_cons, List.filterMap_nil, List.foldl_cons, List.foldl_nil, Act.put, List.setIfInBounds_toArray, List.set_cons_succ, List.set_cons_zero, f10]
      clear hf f10 ho E ce k1 k2 HRL
      have hbW := hbr.andB hW
      clear hW
      go_wp2_with fail
      go_loop [11] (fun iv => ∃ i : Nat, i ≤ 3 ∧ iv = .int .i64 i ∧ Hid (∀ i', i' < i → ia L i' < e → cs (ia L i').toNat ≠ cs e)) (fun i => 3 - (intOf i).toNat)
      case atStart => exact ⟨0, by omega, rfl, fun i hi => absurd hi (by omega)⟩
      case round =>
        obtain ⟨i, hi, rfl, HI⟩ := hrel
        by_cases hi3 : i < 3
        · have c1 := I3.c i hi3
          have hx := HLm.out i hi3
          obtain ⟨x, hxe⟩ : ∃ x : Nat, ia L i = x := ⟨(ia L i).toNat, by omega⟩
          have hxm : x < m := by omega
          rw [hxe] at c1
          have HX := Lib.hid hxe
          clear hxe hx
          by_cases hlt : x < e
          · have c2 := I2.c x (by omega)
            rw [HC0.out x hlt] at c2
            have hxl : x < l := by omega
            by_cases hcs : cs x = cs e
            · have HV : Hid (B (FitP es cs e) = false) := B_false fun hf => HAT.out.1 (hf k hk2) i (by rw [HL3.out]; exact hi3) (by rw [HX.out]; omega) (by rw [HX.out, Int.toNat_natCast]; exact hcs)
              go_wp2_with fail
              go_ret
              exact ⟨ret_bool HV.out.symm, hbb.andB hbW⟩
            · have HI' : Hid (∀ i', i' < i + 1 → ia L i' < e → cs (ia L i').toNat ≠ cs e) := fun u hu hul => by
                by_cases hui : u = i
                · subst hui; rw [HX.out, Int.toNat_natCast]; exact hcs
                · exact HI.out u (by omega) hul
              go_wp2_with fail
              go_round
              case rel => exact ⟨i + 1, by omega, by go_num, HI'⟩
              case measure => simp [intOf]; omega
          · have HI' : Hid (∀ i', i' < i + 1 → ia L i' < e → cs (ia L i').toNat ≠ cs e) := fun u hu hul => by
              by_cases hui : u = i
              · subst hui; rw [HX.out] at hul; omega
              · exact HI.out u (by omega) hul
            go_wp2_with fail
            go_round
            case rel => exact ⟨i + 1, by omega, by go_num, HI'⟩
            case measure => simp [intOf]; omega
        · obtain rfl : i = 3 := by omega
          have HF' : Hid (∀ k', k' < k + 1 → FitK es cs e k') := fun u hu => by
            by_cases huk : u = k
            · subst huk; exact HAT.out.2 fun i hi => HI.out i (by rw [HL3.out] at hi; exact hi)
            · exact HF.out u (by omega)
          go_wp2_with fail
          go_roundw
          case rel => exact ⟨k + 1, by omega, by go_num, HF', hbW⟩
          case measure => simp [intOf]; omega
    · obtain rfl : k = 2 := by omega
      have HV : Hid (B (FitP es cs e) = true) := B_true fun k hk => HF.out k hk
      go_wp2_with fail
      go_ret
      exact ⟨ret_bool HV.out.symm, hbb.andB hbr⟩
end Go.Proofs.YtajnhkkiddeegaaGreat
