import Derived.Test.YtppfplhbfgjjhaaFa56
import Derived.Test.YtppfplhbfgjjhaaCk3
namespace Go.Proofs.Ytppfplhbfgjjhaa
open Go.RowKit Go.Sort
/-! ### Counts of flows (plain): the search's leaves are the flows -/
def valsF (md : Nat) : List Int := (List.range (md - 1)).map fun k => ((k + 1 : Nat) : Int)
theorem csP_range (f : Nat → Nat) : ∀ k, csP f (k + 1) = ((List.range k).map fun j => f (j + 1)).sum := by
  intro k
  induction k with
  | zero => simp [csP]
  | succ k ih =>
    rw [List.range_succ, List.map_append, List.sum_append, ← ih]
    show csP f (k + 1) + (if k + 1 = 0 then 0 else f (k + 1)) = _
    rw [if_neg (by omega)]
    simp
theorem csP_sum (f : Nat → Nat) {md : Nat} (h : 1 ≤ md) : csP f md = ((valsF md).map fun x => f x.toNat).sum := by
  rw [show md = (md - 1) + 1 by omega, csP_range, valsF, List.map_map]
  rw [show md - 1 + 1 - 1 = md - 1 by omega]
  rfl
noncomputable def netG (kd : Int) (es : List (Int × Int)) : List Nat → (Nat → Int) → (Nat → Int) → (Nat → Int)
  | [], _, nt => nt
  | e :: L, g, nt => netG kd es L g (stpF kd es e nt (g e).toNat)
theorem netG_append {kd : Int} {es : List (Int × Int)} : ∀ (L L' : List Nat) (g nt : Nat → Int), netG kd es (L ++ L') g nt = netG kd es L' g (netG kd es L g nt) := by
  intro L
  induction L with
  | nil => intro L' g nt; rfl
  | cons e L ih => intro L' g nt; exact ih L' g _
theorem netG_congr {kd : Int} {es : List (Int × Int)} : ∀ (L : List Nat) (g g' nt : Nat → Int), (∀ d, d ∈ L → g d = g' d) → netG kd es L g nt = netG kd es L g' nt := by
  intro L
  induction L with
  | nil => intro g g' nt _; rfl
  | cons e L ih =>
    intro g g' nt h
    show netG kd es L g _ = netG kd es L g' _
    rw [h e List.mem_cons_self, ih g g' _ (fun d hd => h d (List.mem_cons_of_mem _ hd))]
theorem netG_stay {kd : Int} {es : List (Int × Int)} {v : Nat} : ∀ (L : List Nat) (g nt : Nat → Int), (∀ d, d ∈ L → v ≠ (ea es d).toNat ∧ v ≠ (eb es d).toNat) → netG kd es L g nt v = nt v := by
  intro L
  induction L with
  | nil => intro g nt _; rfl
  | cons e L ih =>
    intro g nt h
    show netG kd es L g _ v = _
    rw [ih g _ (fun d hd => h d (List.mem_cons_of_mem _ hd))]
    have := h e List.mem_cons_self
    simp only [stpF, put2]
    rw [if_neg this.2, if_neg this.1]
noncomputable def okT (kd md : Int) (es : List (Int × Int)) (f : Nat → Int) (e : Nat) (x : Int) : Bool := okF kd md es e (netG kd es (List.range (e + 1)) (upF f e x) (fun _ => 0))
theorem netG_step {kd : Int} {es : List (Int × Int)} (f : Nat → Int) (e : Nat) (x : Int) : netG kd es (List.range (e + 1)) (upF f e x) (fun _ => 0) = stpF kd es e (netG kd es (List.range e) f (fun _ => 0)) x.toNat := by
  rw [List.range_succ, netG_append]
  show stpF kd es e (netG kd es (List.range e) (upF f e x) (fun _ => 0)) (upF f e x e).toNat = _
  rw [upF_same, netG_congr (List.range e) (upF f e x) f _ (fun d hd => upF_other (by have := List.mem_range.1 hd; omega))]
theorem cntF_tree {kd : Int} {md : Nat} {es : List (Int × Int)} (hmd : 1 ≤ md) : ∀ (d e : Nat) (f : Nat → Int), cntF kd md es d e (netG kd es (List.range e) f (fun _ => 0)) = (treeG (valsF md) (okT kd md es) (List.range' e d) f).length := by
  intro d
  induction d with
  | zero => intro e f; rfl
  | succ d ih =>
    intro e f
    rw [List.range'_succ]
    show csP _ md = ((valsF md).flatMap _).length
    rw [csP_sum _ hmd, List.length_flatMap]
    congr 1
    refine List.map_congr_left fun x hx => ?_
    show (if okF kd md es e (stpF kd es e (netG kd es (List.range e) f (fun _ => 0)) x.toNat) then cntF kd md es d (e + 1) (stpF kd es e (netG kd es (List.range e) f (fun _ => 0)) x.toNat) else 0) = List.length (if okT kd md es f e x = true then treeG (valsF md) (okT kd md es) (List.range' (e + 1) d) (upF f e x) else [])
    unfold okT
    rw [← netG_step, ih]
    split <;> rfl
theorem lasF_at {es : List (Int × Int)} {v : Nat} : ∀ k, (∃ j, j < k ∧ ((v : Int) = ea es j ∨ (v : Int) = eb es j)) → ∃ j : Nat, lasF es k v = j ∧ j < k ∧ ((v : Int) = ea es j ∨ (v : Int) = eb es j) ∧ ∀ i, j < i → i < k → (v : Int) ≠ ea es i ∧ (v : Int) ≠ eb es i := by
  intro k
  induction k with
  | zero => intro ⟨j, hj, _⟩; omega
  | succ k ih =>
    intro ⟨j, hj, hv⟩
    by_cases h1 : (v : Int) = eb es k
    · exact ⟨k, by simp only [lasF]; rw [if_pos h1], by omega, Or.inr h1, fun i h2 h3 => by omega⟩
    · by_cases h2 : (v : Int) = ea es k
      · exact ⟨k, by simp only [lasF]; rw [if_neg h1, if_pos h2], by omega, Or.inl h2, fun i h2 h3 => by omega⟩
      · have hjk : j < k := by
          rcases Nat.lt_or_ge j k with h | h
          · exact h
          · obtain rfl : j = k := by omega
            rcases hv with hv | hv
            · exact absurd hv h2
            · exact absurd hv h1
        obtain ⟨i, e1, e2, e3, e4⟩ := ih ⟨j, hjk, hv⟩
        refine ⟨i, by simp only [lasF]; rw [if_neg h1, if_neg h2, e1], by omega, e3, fun t t1 t2 => ?_⟩
        rcases Nat.lt_or_ge t k with h | h
        · exact e4 t t1 h
        · obtain rfl : t = k := by omega
          exact ⟨h2, h1⟩
/-- All vertices have sums that count as nothing. -/
noncomputable def zeroF (kd md : Int) (es : List (Int × Int)) (N : Nat) (g : Nat → Int) : Bool := B (∀ v, v < N → zrF kd md (netG kd es (List.range es.length) g (fun _ => 0) v) = true)
theorem tree_flows {kd : Int} {md N : Nat} {es : List (Int × Int)} (hn : WfP N es) (hat : ∀ v : Nat, v < N → ∃ j, j < es.length ∧ ((v : Int) = ea es j ∨ (v : Int) = eb es j)) (f : Nat → Int) :
    treeG (valsF md) (okT kd md es) (List.range es.length) f = (allG (valsF md) (List.range es.length) f).filter (zeroF kd md es N) := by
  refine tree_filter (fun L f => ∃ e, L = List.range' e (es.length - e) ∧ e ≤ es.length ∧ ∀ v : Nat, v < N → lasF es es.length v < e → zrF kd md (netG kd es (List.range e) f (fun _ => 0) v) = true) ?_ ?_ ?_ _ f ⟨0, by rw [List.range_eq_range', Nat.sub_zero], by omega, fun v hv h => by obtain ⟨j, e1, _⟩ := lasF_at _ (hat v hv); omega⟩
  · intro f ⟨e, hL, he, h⟩
    have hem : e = es.length := by
      have := congrArg List.length hL
      simp at this
      omega
    subst hem
    unfold zeroF
    rw [B_iff]
    intro v hv
    obtain ⟨j, e1, e2, _⟩ := lasF_at _ (hat v hv)
    exact h v hv (by omega)
  · intro d L f x hx ⟨e, hL, he, h⟩ hok
    have hlt : e < es.length := by
      rcases Nat.lt_or_ge e es.length with h1 | h1
      · exact h1
      · rw [show es.length - e = 0 by omega] at hL; cases hL
    rw [show es.length - e = (es.length - (e + 1)) + 1 by omega, List.range'_succ] at hL
    injection hL with hd hL
    subst hd
    refine ⟨d + 1, hL, by omega, fun v hv hl => ?_⟩
    obtain ⟨j, e1, e2, e3, e4⟩ := lasF_at _ (hat v hv)
    have hw := hn.2.2.2.2 d hlt
    rcases Nat.lt_or_ge j d with hj | hj
    · rw [netG_step]
      have h1 := e4 d hj hlt
      have : stpF kd es d (netG kd es (List.range d) f (fun _ => 0)) x.toNat v = netG kd es (List.range d) f (fun _ => 0) v := by
        simp only [stpF, put2]
        rw [if_neg (by omega), if_neg (by omega)]
      rw [this]
      exact h v hv (by omega)
    · obtain rfl : j = d := by omega
      unfold okT okF at hok
      rw [Bool.and_eq_true, Bool.or_eq_true, Bool.or_eq_true, decide_eq_true_eq, decide_eq_true_eq] at hok
      rcases e3 with e3 | e3
      · have hva : (ea es j).toNat = v := by omega
        rw [hva] at hok
        rcases hok.1 with h1 | h1
        · exact absurd e1 h1
        · exact h1
      · have hva : (eb es j).toNat = v := by omega
        rw [hva] at hok
        rcases hok.2 with h1 | h1
        · exact absurd e1 h1
        · exact h1
  · intro d L f x hx ⟨e, hL, he, h⟩ hok g hg
    have hlt : e < es.length := by
      rcases Nat.lt_or_ge e es.length with h1 | h1
      · exact h1
      · rw [show es.length - e = 0 by omega] at hL; cases hL
    rw [show es.length - e = (es.length - (e + 1)) + 1 by omega, List.range'_succ] at hL
    injection hL with hd hL
    subst hd
    have hnd : L.Nodup := by rw [hL]; exact List.nodup_range'
    have hgo := (mem_allG hnd).1 hg
    have hw := hn.2.2.2.2 d hlt
    -- an end whose last edge this is, with a sum that does not count as nothing
    obtain ⟨v, hvN, hvl, hvz⟩ : ∃ v : Nat, v < N ∧ lasF es es.length v = d ∧ zrF kd md (netG kd es (List.range (d + 1)) (upF f d x) (fun _ => 0) v) = false := by
      unfold okT okF at hok
      rw [Bool.and_eq_false_iff, Bool.or_eq_false_iff, Bool.or_eq_false_iff, decide_eq_false_iff_not, decide_eq_false_iff_not] at hok
      rcases hok with h1 | h1
      · exact ⟨(ea es d).toNat, by omega, Classical.byContradiction fun hh => h1.1 hh, h1.2⟩
      · exact ⟨(eb es d).toNat, by omega, Classical.byContradiction fun hh => h1.1 hh, h1.2⟩
    obtain ⟨j, e1, e2, e3, e4⟩ := lasF_at _ (hat v hvN)
    obtain rfl : j = d := by omega
    have hr : List.range es.length = List.range (j + 1) ++ List.range' (j + 1) (es.length - (j + 1)) := by
      have h5 := @List.range'_append_1 0 (j + 1) (es.length - (j + 1))
      rw [Nat.zero_add, show j + 1 + (es.length - (j + 1)) = es.length by omega] at h5
      rw [List.range_eq_range', List.range_eq_range', h5]
    unfold zeroF
    refine B_false fun hh => ?_
    have h2 := hh v hvN
    rw [hr, netG_append, netG_stay _ _ _ (fun t ht => by have ht' := List.mem_range'_1.1 ht; have := e4 t (by omega) (by omega); have := hn.2.2.2.2 t (by omega); omega),
      netG_congr (List.range (j + 1)) g (upF f j x) _ (fun t ht => hgo.1 t (by rw [hL]; intro h3; have := List.mem_range'_1.1 h3; have := List.mem_range.1 ht; omega)), hvz] at h2
    cases h2
theorem cntF_is {kd : Int} {md N : Nat} {es : List (Int × Int)} (hmd : 1 ≤ md) (hn : WfP N es) (hat : ∀ v : Nat, v < N → ∃ j, j < es.length ∧ ((v : Int) = ea es j ∨ (v : Int) = eb es j)) (f : Nat → Int) :
    cntF kd md es es.length 0 (fun _ => 0) = cntG (valsF md) (zeroF kd md es N) (List.range es.length) f := by
  rw [← cnt_len, ← tree_flows hn hat f, List.range_eq_range', ← cntF_tree hmd es.length 0 f]
  rfl
end Go.Proofs.Ytppfplhbfgjjhaa
namespace Go.Proofs.Ytppfplhbfgjjhaa
open Go.RowKit Go.Sort
/-! ### The program's count of a part's flows (plain) -/
noncomputable def stpI (kd : Int) (md : Nat) (es : List (Int × Int)) (e : Nat) (nt : Nat → Int) (x : Nat) : Nat → Int :=
  put2 nt (ea es e).toNat (eb es e).toNat (if kd = 1 then bits .xor .i64 (nt (ea es e).toNat) x else (nt (ea es e).toNat + md - x).tmod md) (if kd = 1 then bits .xor .i64 (nt (eb es e).toNat) x else (nt (eb es e).toNat + x).tmod md)
noncomputable def moU (es : List (Int × Int)) (e : Nat) (mo : Nat → Int) : Nat → Int := put2 mo (ea es e).toNat (eb es e).toNat (mo (ea es e).toNat - 1) (mo (eb es e).toNat - 1)
def canE (s k : Int) : Bool := decide (1 < k) || ((s == 0) == (k == 0))
noncomputable def cntI (kd : Int) (md : Nat) (es : List (Int × Int)) : List Nat → (Nat → Int) → (Nat → Int) → Nat
  | [], _, _ => 1
  | e :: L, nt, mo => csP (fun x => if canE (stpI kd md es e nt x (ea es e).toNat) (moU es e mo (ea es e).toNat) && canE (stpI kd md es e nt x (eb es e).toNat) (moU es e mo (eb es e).toNat) then cntI kd md es L (stpI kd md es e nt x) (moU es e mo) else 0) md
noncomputable def netI (kd : Int) (md : Nat) (es : List (Int × Int)) : List Nat → (Nat → Int) → (Nat → Int) → (Nat → Int)
  | [], _, nt => nt
  | e :: L, g, nt => netI kd md es L g (stpI kd md es e nt (g e).toNat)
/-- An edge at a vertex. -/
def atE (es : List (Int × Int)) (v d : Nat) : Prop := v = (ea es d).toNat ∨ v = (eb es d).toNat
noncomputable def cntAt (es : List (Int × Int)) (v : Nat) : List Nat → Int
  | [] => 0
  | d :: L => cntAt es v L + (if B (atE es v d) then 1 else 0)
theorem cntAt_0 {es : List (Int × Int)} {v : Nat} : ∀ L, 0 ≤ cntAt es v L := by
  intro L
  induction L with
  | nil => exact Int.le_refl _
  | cons d L ih => simp only [cntAt]; split <;> omega
theorem cntAt_none {es : List (Int × Int)} {v : Nat} : ∀ {L}, (∀ d, d ∈ L → ¬ atE es v d) → cntAt es v L = 0 := by
  intro L
  induction L with
  | nil => intro _; rfl
  | cons d L ih =>
    intro h
    simp only [cntAt]
    rw [ih (fun t ht => h t (List.mem_cons_of_mem _ ht)), if_neg (by rw [B_iff]; exact h d List.mem_cons_self)]
    rfl
theorem cntAt_pos {es : List (Int × Int)} {v : Nat} : ∀ {L}, cntAt es v L = 0 → ∀ d, d ∈ L → ¬ atE es v d := by
  intro L
  induction L with
  | nil => intro _ d hd; cases hd
  | cons e L ih =>
    intro h d hd
    simp only [cntAt] at h
    have := cntAt_0 (es := es) (v := v) L
    split at h
    · omega
    · next hB =>
      rcases List.mem_cons.1 hd with rfl | hd
      · rwa [B_iff] at hB
      · exact ih (by omega) d hd
theorem netI_stay {kd : Int} {md : Nat} {es : List (Int × Int)} {v : Nat} : ∀ (L : List Nat) (g nt : Nat → Int), (∀ d, d ∈ L → ¬ atE es v d) → netI kd md es L g nt v = nt v := by
  intro L
  induction L with
  | nil => intro g nt _; rfl
  | cons e L ih =>
    intro g nt h
    show netI kd md es L g _ v = _
    rw [ih g _ (fun d hd => h d (List.mem_cons_of_mem _ hd))]
    have := h e List.mem_cons_self
    simp only [stpI, put2]
    rw [if_neg (fun hh => this (.inr hh)), if_neg (fun hh => this (.inl hh))]
/-- A change of nothing is something. -/
def ChgN (kd : Int) (md : Nat) : Prop := ∀ x : Nat, 1 ≤ x → x < md → (if kd = 1 then bits .xor .i64 0 x else ((0 : Int) + md - x).tmod md) ≠ 0 ∧ (if kd = 1 then bits .xor .i64 0 x else ((0 : Int) + x).tmod md) ≠ 0
theorem chgN0 {md : Nat} : ChgN 0 md := by
  intro x h1 h2
  rw [if_neg (by decide), if_neg (by decide)]
  rw [Int.zero_add, Int.zero_add, Int.tmod_eq_emod_of_nonneg (by omega), Int.tmod_eq_emod_of_nonneg (by omega), Int.emod_eq_of_lt (by omega) (by omega), Int.emod_eq_of_lt (by omega) (by omega)]
  omega
theorem chgN1 : ChgN 1 4 := by
  intro x h1 h2
  have key : ∀ x : Fin 4, 1 ≤ x.1 → bits .xor .i64 0 (x.1 : Int) ≠ 0 := by decide
  rw [if_pos rfl, if_pos rfl]
  exact ⟨key ⟨x, h2⟩ h1, key ⟨x, h2⟩ h1⟩
theorem netI_one {kd : Int} {md : Nat} {es : List (Int × Int)} (hc : ChgN kd md) {v : Nat} : ∀ (L : List Nat) (g nt : Nat → Int), cntAt es v L = 1 → nt v = 0 → (∀ d, d ∈ L → 1 ≤ g d ∧ g d < md) → netI kd md es L g nt v ≠ 0 := by
  intro L
  induction L with
  | nil => intro g nt h; cases h
  | cons e L ih =>
    intro g nt h h0 hg
    show netI kd md es L g _ v ≠ 0
    simp only [cntAt] at h
    by_cases ha : atE es v e
    · rw [if_pos (B_iff.2 ha)] at h
      rw [netI_stay L _ _ (cntAt_pos (by omega))]
      have hge := hg e List.mem_cons_self
      have := hc (g e).toNat (by omega) (by omega)
      simp only [stpI, put2]
      by_cases hb : v = (eb es e).toNat
      · rw [if_pos hb, ← hb, h0]; exact this.2
      · rw [if_neg hb, if_pos (ha.resolve_right hb), ← ha.resolve_right hb, h0]; exact this.1
    · rw [if_neg (by rw [B_iff]; exact ha)] at h
      refine ih g _ (by omega) ?_ (fun d hd => hg d (List.mem_cons_of_mem _ hd))
      simp only [stpI, put2]
      rw [if_neg (fun hh => ha (.inr hh)), if_neg (fun hh => ha (.inl hh))]
      exact h0
theorem mem_valsF {md : Nat} {x : Int} : x ∈ valsF md ↔ 1 ≤ x ∧ x < md := by
  simp only [valsF, List.mem_map, List.mem_range]
  constructor
  · rintro ⟨k, hk, rfl⟩; omega
  · intro ⟨h1, h2⟩; exact ⟨x.toNat - 1, by omega, by omega⟩
/-- At each vertex of the part the sum is nothing. -/
noncomputable def zeroI (kd : Int) (md : Nat) (es : List (Int × Int)) (L : List Nat) (nt g : Nat → Int) : Bool := B (∀ v, (∃ d, d ∈ L ∧ atE es v d) → netI kd md es L g nt v = 0)
theorem cntI_is {kd : Int} {md : Nat} {es : List (Int × Int)} (hc : ChgN kd md) (hmd : 1 ≤ md) (hne : ∀ d, (ea es d).toNat = (eb es d).toNat → d ≥ es.length) : ∀ (L : List Nat) (nt mo f : Nat → Int), L.Nodup → (∀ d, d ∈ L → d < es.length) →
    (∀ v, (∃ d, d ∈ L ∧ atE es v d) → mo v = cntAt es v L) → cntI kd md es L nt mo = cntG (valsF md) (zeroI kd md es L nt) L f := by
  intro L
  induction L with
  | nil =>
    intro nt mo f _ _ _
    show 1 = if zeroI kd md es [] nt f then 1 else 0
    rw [if_pos]
    unfold zeroI
    rw [B_iff]
    rintro v ⟨d, hd, _⟩
    cases hd
  | cons e L ih =>
    intro nt mo f hnd hL hmo
    have hnd' := List.nodup_cons.1 hnd
    have hel := hL e List.mem_cons_self
    have hab : (ea es e).toNat ≠ (eb es e).toNat := fun hh => by have := hne e hh; omega
    show csP _ md = ((valsF md).map fun x => cntG (valsF md) (zeroI kd md es (e :: L) nt) L (upF f e x)).sum
    rw [csP_sum _ hmd]
    congr 1
    refine List.map_congr_left fun x hx => ?_
    have hxv := mem_valsF.1 hx
    -- what is left to come
    have hmo' : ∀ v, atE es v e → moU es e mo v = cntAt es v L := fun v hv => by
      have h1 := hmo v ⟨e, List.mem_cons_self, hv⟩
      simp only [cntAt] at h1
      rw [if_pos (B_iff.2 hv)] at h1
      simp only [moU, put2]
      by_cases hb : v = (eb es e).toNat
      · rw [if_pos hb, ← hb]; omega
      · rw [if_neg hb, if_pos (hv.resolve_right hb), ← hv.resolve_right hb]; omega
    have hmoL : ∀ v, (∃ d, d ∈ L ∧ atE es v d) → moU es e mo v = cntAt es v L := fun v hv => by
      by_cases ha : atE es v e
      · exact hmo' v ha
      · obtain ⟨d, hd, hv⟩ := hv
        have h1 := hmo v ⟨d, List.mem_cons_of_mem _ hd, hv⟩
        simp only [cntAt] at h1
        rw [if_neg (by rw [B_iff]; exact ha)] at h1
        simp only [moU, put2]
        rw [if_neg (fun hh => ha (.inr hh)), if_neg (fun hh => ha (.inl hh))]
        omega
    have hgL : ∀ g, g ∈ allG (valsF md) L (upF f e x) → (g e = x) ∧ ∀ d, d ∈ L → 1 ≤ g d ∧ g d < md := fun g hg => by
      have := (mem_allG hnd'.2).1 hg
      exact ⟨by rw [this.1 e hnd'.1, upF_same], fun d hd => mem_valsF.1 (this.2 d hd)⟩
    have hZ : ∀ g, g ∈ allG (valsF md) L (upF f e x) → zeroI kd md es (e :: L) nt g = B (∀ v, (atE es v e ∨ ∃ d, d ∈ L ∧ atE es v d) → netI kd md es L g (stpI kd md es e nt x.toNat) v = 0) := fun g hg => by
      unfold zeroI
      refine B_congr ⟨fun h v hv => ?_, fun h v hv => ?_⟩
      · have := h v (hv.elim (fun hv => ⟨e, List.mem_cons_self, hv⟩) (fun ⟨d, hd, hv⟩ => ⟨d, List.mem_cons_of_mem _ hd, hv⟩))
        rw [← (hgL g hg).1]; exact this
      · have := h v (by obtain ⟨d, hd, hv⟩ := hv; exact (List.mem_cons.1 hd).elim (fun hh => .inl (hh ▸ hv)) (fun hd => .inr ⟨d, hd, hv⟩))
        rw [← (hgL g hg).1] at this; exact this
    have hcan : ∀ v, atE es v e → canE (stpI kd md es e nt x.toNat v) (moU es e mo v) = false → ∀ g, g ∈ allG (valsF md) L (upF f e x) → zeroI kd md es (e :: L) nt g = false := fun v hv hc0 g hg => by
      rw [hZ g hg]
      refine B_false fun hh => ?_
      have h1 := hh v (.inl hv)
      have h2 := cntAt_0 (es := es) (v := v) L
      rw [hmo' v hv] at hc0
      simp only [canE, Bool.or_eq_false_iff, decide_eq_false_iff_not] at hc0
      by_cases h0 : cntAt es v L = 0
      · rw [netI_stay L _ _ (cntAt_pos h0)] at h1
        rw [h1, h0] at hc0
        simp at hc0
      · have h3 : cntAt es v L = 1 := by omega
        refine netI_one hc L g _ h3 ?_ (hgL g hg).2 h1
        have h4 := hc0.2
        rw [h3] at h4
        simpa using h4
    by_cases hok : (canE (stpI kd md es e nt x.toNat (ea es e).toNat) (moU es e mo (ea es e).toNat) && canE (stpI kd md es e nt x.toNat (eb es e).toNat) (moU es e mo (eb es e).toNat)) = true
    · rw [if_pos hok, ih _ _ (upF f e x) hnd'.2 (fun d hd => hL d (List.mem_cons_of_mem _ hd)) hmoL]
      refine cnt_congr L _ fun g hg => ?_
      rw [hZ g hg]
      unfold zeroI
      refine B_congr ⟨fun h v hv => ?_, fun h v hv => h v (.inr hv)⟩
      rcases hv with hv | hv
      · by_cases h0 : cntAt es v L = 0
        · rw [netI_stay L _ _ (cntAt_pos h0)]
          have hcv : canE (stpI kd md es e nt x.toNat v) (moU es e mo v) = true := by
            rw [Bool.and_eq_true] at hok
            rcases hv with rfl | rfl
            · exact hok.1
            · exact hok.2
          rw [hmo' v hv, h0] at hcv
          simpa [canE] using hcv
        · refine h v (Classical.byContradiction fun hh => h0 (cntAt_none fun d hd hv => hh ⟨d, hd, hv⟩))
      · exact h v hv
    · rw [if_neg hok]
      have hall : ∀ g, g ∈ allG (valsF md) L (upF f e x) → zeroI kd md es (e :: L) nt g = false := by
        rw [Bool.not_eq_true, Bool.and_eq_false_iff] at hok
        rcases hok with h1 | h1
        · exact hcan _ (.inl rfl) h1
        · exact hcan _ (.inr rfl) h1
      rw [← cnt_len, List.filter_eq_nil_iff.2 (fun g hg => by rw [hall g hg]; decide)]
      rfl
end Go.Proofs.Ytppfplhbfgjjhaa
namespace Go.Proofs.Ytppfplhbfgjjhaa
open Go.RowKit Go.Sort
/-! ### The flows of a graph are the flows of its parts (plain) -/
theorem netI_mod {md : Nat} (hmd : 1 ≤ md) {es : List (Int × Int)} : ∀ (L : List Nat) (g nt nt' : Nat → Int), (∀ d, d ∈ L → 1 ≤ g d ∧ g d < md) → (∀ v, 0 ≤ nt v ∧ nt v < md ∧ (md : Int) ∣ nt v - nt' v) → ∀ v, 0 ≤ netI 0 md es L g nt v ∧ netI 0 md es L g nt v < md ∧ (md : Int) ∣ netI 0 md es L g nt v - netG 0 es L g nt' v := by
  intro L
  induction L with
  | nil => intro g nt nt' _ h; exact h
  | cons e L ih =>
    intro g nt nt' hg h
    have hge := hg e List.mem_cons_self
    have key : ∀ (s s' y y' : Int), (md : Int) ∣ s - s' → 0 ≤ y → (∃ j : Int, y - s = y' - s' + md * j) → 0 ≤ y.tmod md ∧ y.tmod md < md ∧ (md : Int) ∣ y.tmod md - y' := fun s s' y y' hd hy ⟨j, hj⟩ => by
      rw [Int.tmod_eq_emod_of_nonneg hy]
      refine ⟨Int.emod_nonneg _ (by omega), Int.emod_lt_of_pos _ (by omega), ?_⟩
      obtain ⟨k, hk⟩ := hd
      have h1 := Int.emod_add_mul_ediv y md
      refine ⟨k + j - y / md, ?_⟩
      rw [Int.mul_sub, Int.mul_add]
      omega
    refine ih g _ _ (fun d hd => hg d (List.mem_cons_of_mem _ hd)) fun v => ?_
    have ha := h (ea es e).toNat
    have hb := h (eb es e).toNat
    have d0 : ¬ ((0 : Int) = 1) := by decide
    simp only [stpI, stpF, put2, if_neg d0]
    split
    · exact key _ _ _ _ hb.2.2 (by omega) ⟨0, by omega⟩
    · split
      · exact key _ _ _ _ ha.2.2 (by omega) ⟨1, by omega⟩
      · exact h v
theorem netI_xor {md : Nat} {es : List (Int × Int)} : ∀ (L : List Nat) (g nt : Nat → Int), netI 1 md es L g nt = netG 1 es L g nt := by
  intro L
  induction L with
  | nil => intro g nt; rfl
  | cons e L ih =>
    intro g nt
    show netI 1 md es L g (stpI 1 md es e nt (g e).toNat) = netG 1 es L g (stpF 1 es e nt (g e).toNat)
    rw [ih]
    congr 1
/-- The two sums are nothing together. -/
def SameZ (kd : Int) (md : Nat) (es : List (Int × Int)) : Prop := ∀ (L : List Nat) (g : Nat → Int), (∀ d, d ∈ L → 1 ≤ g d ∧ g d < md) → ∀ v, netI kd md es L g (fun _ => 0) v = 0 ↔ zrF kd md (netG kd es L g (fun _ => 0) v) = true
theorem sameZ0 {md : Nat} (hmd : 1 ≤ md) (es : List (Int × Int)) : SameZ 0 md es := by
  intro L g hg v
  obtain ⟨h1, h2, h3⟩ := netI_mod hmd (es := es) L g (fun _ => 0) (fun _ => 0) hg (fun v => ⟨Int.le_refl _, by show (0 : Int) < md; omega, by simp⟩) v
  rw [zrF, if_pos rfl, beq_iff_eq]
  constructor
  · intro h0
    rw [h0] at h3
    exact Int.tmod_eq_zero_of_dvd (by have := (Int.dvd_neg).2 h3; simpa using this)
  · intro h0
    have h4 := Int.dvd_of_tmod_eq_zero h0
    have h5 : (md : Int) ∣ netI 0 md es L g (fun _ => 0) v := by
      have := Int.dvd_add h3 h4
      rwa [Int.sub_add_cancel] at this
    have h6 := Int.emod_eq_zero_of_dvd h5
    rwa [Int.emod_eq_of_lt h1 h2] at h6
theorem sameZ1 (md : Nat) (es : List (Int × Int)) : SameZ 1 md es := by
  intro L g _ v
  rw [netI_xor, zrF, if_neg (by decide), beq_iff_eq]
theorem netG_loc {kd : Int} {es : List (Int × Int)} {v : Nat} {p : Nat → Bool} : ∀ (L : List Nat) (g nt nt' : Nat → Int), (∀ d, d ∈ L → atE es v d → p d = true) → nt v = nt' v → netG kd es L g nt v = netG kd es (L.filter p) g nt' v := by
  intro L
  induction L with
  | nil => intro g nt nt' _ h; exact h
  | cons e L ih =>
    intro g nt nt' hp h
    have hpL := fun d hd => hp d (List.mem_cons_of_mem _ hd)
    show netG kd es L g (stpF kd es e nt (g e).toNat) v = _
    by_cases ha : p e = true
    · rw [List.filter_cons_of_pos ha]
      show _ = netG kd es (L.filter p) g (stpF kd es e nt' (g e).toNat) v
      refine ih g _ _ hpL ?_
      simp only [stpF, put2]
      by_cases hb : v = (eb es e).toNat
      · rw [if_pos hb, if_pos hb, ← hb, h]
      · rw [if_neg hb, if_neg hb]
        by_cases hc : v = (ea es e).toNat
        · rw [if_pos hc, if_pos hc, ← hc, h]
        · rw [if_neg hc, if_neg hc, h]
    · rw [List.filter_cons_of_neg ha]
      refine ih g _ _ hpL ?_
      have hna : ¬ atE es v e := fun hh => ha (hp e List.mem_cons_self hh)
      simp only [stpF, put2]
      rw [if_neg (fun hh => hna (.inr hh)), if_neg (fun hh => hna (.inl hh)), h]
theorem cntAt_loc {es : List (Int × Int)} {v : Nat} {p : Nat → Bool} : ∀ (L : List Nat), (∀ d, d ∈ L → atE es v d → p d = true) → cntAt es v L = cntAt es v (L.filter p) := by
  intro L
  induction L with
  | nil => intro _; rfl
  | cons e L ih =>
    intro hp
    have hpL := ih fun d hd => hp d (List.mem_cons_of_mem _ hd)
    by_cases ha : p e = true
    · rw [List.filter_cons_of_pos ha]; simp only [cntAt]; rw [hpL]
    · rw [List.filter_cons_of_neg ha]
      simp only [cntAt]
      rw [hpL, if_neg (by rw [B_iff]; exact fun hh => ha (hp e List.mem_cons_self hh)), Int.add_zero]
theorem cntAt_app {es : List (Int × Int)} {v : Nat} : ∀ (L L' : List Nat), cntAt es v (L ++ L') = cntAt es v L + cntAt es v L' := by
  intro L L'
  induction L with
  | nil => simp [cntAt]
  | cons e L ih => simp only [List.cons_append, cntAt, ih]; omega
theorem cntAt_deg {N : Nat} {es : List (Int × Int)} (hn : WfP N es) (v : Nat) : ∀ k, k ≤ es.length → cntAt es v (List.range k) = degTo es k v := by
  intro k
  induction k with
  | zero => intro _; rfl
  | succ k ih =>
    intro hk
    have hw := hn.2.2.2.2 k (by omega)
    rw [List.range_succ, cntAt_app, ih (by omega)]
    simp only [cntAt, degTo]
    by_cases h1 : v = (ea es k).toNat
    · rw [if_pos (B_iff.2 (.inl h1)), if_pos (by omega), if_neg (by omega)]; omega
    · by_cases h2 : v = (eb es k).toNat
      · rw [if_pos (B_iff.2 (.inr h2)), if_neg (by omega), if_pos (by omega)]; omega
      · rw [if_neg (by rw [B_iff]; exact fun hh => hh.elim h1 h2), if_neg (by omega), if_neg (by omega)]; omega
/-- The edges at a vertex are in its part. -/
theorem ldE_at {N : Nat} {es : List (Int × Int)} (hn : WfP N es) {v d : Nat} (hd : d < es.length) (h : atE es v d) : ldE es d = leadF es noSk (v : Int) := by
  have hw := hn.2.2.2.2 d hd
  unfold ldE
  rcases h with h | h
  · rw [show ea es d = (v : Int) by omega]
  · rw [lead_edge hn hd, show eb es d = (v : Int) by omega]
noncomputable def zeroK (kd : Int) (md : Nat) (es : List (Int × Int)) (k : Int) (g : Nat → Int) : Bool := B (∀ v, (∃ d, d ∈ clsV es k ∧ atE es v d) → zrF kd md (netG kd es (clsV es k) g (fun _ => 0) v) = true)
theorem net_cls {N : Nat} {kd : Int} {es : List (Int × Int)} (hn : WfP N es) {v d : Nat} {k : Int} (hd : d ∈ clsV es k) (hv : atE es v d) (g : Nat → Int) : netG kd es (List.range es.length) g (fun _ => 0) v = netG kd es (clsV es k) g (fun _ => 0) v := by
  have hd' := mem_clsV.1 hd
  refine netG_loc _ g _ _ (fun t ht hat => ?_) rfl
  rw [decide_eq_true_eq, ldE_at hn (List.mem_range.1 ht) hat, ← ldE_at hn hd'.1 hv, hd'.2]
theorem zeroF_parts {N : Nat} {kd : Int} {md : Nat} {es : List (Int × Int)} (hn : WfP N es) (hat : ∀ v : Nat, v < N → ∃ d, d < es.length ∧ atE es v d) {ks : List Int} (hks : ∀ d, d < es.length → ldE es d ∈ ks) (g : Nat → Int) :
    zeroF kd md es N g = ks.all (fun k => zeroK kd md es k g) := by
  rw [Bool.eq_iff_iff, List.all_eq_true]
  unfold zeroF zeroK
  rw [B_iff]
  constructor
  · intro h k _
    rw [B_iff]
    rintro v ⟨d, hd, hv⟩
    rw [← net_cls hn hd hv]
    have hw := hn.2.2.2.2 d (mem_clsV.1 hd).1
    refine h v ?_
    rcases hv with hv | hv <;> omega
  · intro h v hv
    obtain ⟨d, hd, hvd⟩ := hat v hv
    have hdk : d ∈ clsV es (ldE es d) := mem_clsV.2 ⟨hd, rfl⟩
    rw [net_cls hn hdk hvd]
    exact B_iff.1 (h _ (hks d hd)) v ⟨d, hdk, hvd⟩
theorem zeroK_off {kd : Int} {md : Nat} {es : List (Int × Int)} {k : Int} {g : Nat → Int} {e : Nat} {x : Int} (he : e ∉ clsV es k) : zeroK kd md es k (upF g e x) = zeroK kd md es k g := by
  unfold zeroK
  rw [netG_congr (clsV es k) (upF g e x) g _ (fun d hd => upF_other (fun hh => he (hh ▸ hd)))]
theorem cls_nodup {es : List (Int × Int)} : ∀ {ks : List Int}, ks.Nodup → (ks.flatMap (clsV es)).Nodup := by
  intro ks
  induction ks with
  | nil => intro _; exact List.nodup_nil
  | cons k ks ih =>
    intro h
    have h' := List.nodup_cons.1 h
    rw [List.flatMap_cons, List.nodup_append]
    refine ⟨(clsV_asc es k).imp fun h => by omega, ih h'.2, fun a ha b hb hab => ?_⟩
    subst hab
    obtain ⟨k', hk', hb⟩ := List.mem_flatMap.1 hb
    have h1 := (mem_clsV.1 ha).2
    have h2 := (mem_clsV.1 hb).2
    exact h'.1 (by rw [← h1, h2]; exact hk')
theorem cnt_parts {kd : Int} {md : Nat} {es : List (Int × Int)} (vals : List Int) (f : Nat → Int) : ∀ {ks : List Int}, ks.Nodup → cntG vals (fun g => ks.all fun k => zeroK kd md es k g) (ks.flatMap (clsV es)) f = prodL (ks.map fun k => cntG vals (zeroK kd md es k) (clsV es k) f) := by
  intro ks
  induction ks with
  | nil => intro _; rfl
  | cons k ks ih =>
    intro h
    have h' := List.nodup_cons.1 h
    have hnd := cls_nodup (es := es) h
    rw [List.flatMap_cons] at hnd ⊢
    show cntG vals (fun g => zeroK kd md es k g && ks.all fun k => zeroK kd md es k g) (clsV es k ++ ks.flatMap (clsV es)) f = cntG vals (zeroK kd md es k) (clsV es k) f * prodL (ks.map fun k => cntG vals (zeroK kd md es k) (clsV es k) f)
    rw [← ih h'.2]
    have hdis : ∀ e, e ∈ clsV es k → ∀ k', k' ∈ ks → e ∉ clsV es k' := fun e he k' hk' he' => h'.1 (by rw [← (mem_clsV.1 he).2, (mem_clsV.1 he').2]; exact hk')
    refine cnt_mul (P := zeroK kd md es k) (Q := fun g => ks.all fun k => zeroK kd md es k g) (clsV es k) (ks.flatMap (clsV es)) f hnd (fun g e x he => ?_) (fun g e x he => ?_)
    · obtain ⟨k', hk', he'⟩ := List.mem_flatMap.1 he
      exact zeroK_off fun hh => hdis e hh k' hk' he'
    · show ks.all (fun k => zeroK kd md es k (upF g e x)) = ks.all fun k => zeroK kd md es k g
      rw [Bool.eq_iff_iff, List.all_eq_true, List.all_eq_true]
      exact ⟨fun hh k' hk' => by rw [← hh k' hk', zeroK_off (hdis e he k' hk')], fun hh k' hk' => by rw [zeroK_off (hdis e he k' hk')]; exact hh k' hk'⟩
theorem flows_parts {N : Nat} {kd : Int} {md : Nat} {es : List (Int × Int)} (hG : IsG N es) (hmd : 1 ≤ md) (hc : ChgN kd md) (hz : SameZ kd md es) {ks : List Int} (hnd : ks.Nodup) (hks : ∀ d, d < es.length → ldE es d ∈ ks) (f : Nat → Int) :
    cntG (valsF md) (zeroF kd md es N) (List.range es.length) f = prodL (ks.map fun k => cntI kd md es (clsV es k) (fun _ => 0) (fun _ => 3)) := by
  have hn := hG.wf
  have hat : ∀ v : Nat, v < N → ∃ d, d < es.length ∧ atE es v d := fun v hv => by
    refine Classical.byContradiction fun hno => ?_
    have h3 := hG.2.1 (v : Int) (by omega) (by omega)
    rw [← cntAt_deg hn v es.length (Nat.le_refl _), cntAt_none (fun d hd hh => hno ⟨d, List.mem_range.1 hd, hh⟩)] at h3
    cases h3
  have hperm : (List.range es.length).Perm (ks.flatMap (clsV es)) := by
    refine (List.perm_ext_iff_of_nodup List.nodup_range (cls_nodup hnd)).2 fun d => ?_
    rw [List.mem_range, List.mem_flatMap]
    exact ⟨fun hd => ⟨_, hks d hd, mem_clsV.2 ⟨hd, rfl⟩⟩, fun ⟨k, _, hd⟩ => (mem_clsV.1 hd).1⟩
  rw [cnt_perm hperm List.nodup_range f, show zeroF kd md es N = fun g => ks.all fun k => zeroK kd md es k g from funext fun g => zeroF_parts hn hat hks g, cnt_parts _ _ hnd]
  congr 1
  refine List.map_congr_left fun k _ => ?_
  have hcn : (clsV es k).Nodup := (clsV_asc es k).imp fun h => by omega
  rw [cntI_is hc hmd (fun d hh => by
    refine Nat.le_of_not_lt fun hd => ?_
    have := hn.2.2.2.2 d hd
    omega) (clsV es k) _ _ f hcn (fun d hd => (mem_clsV.1 hd).1) ?_]
  · refine cnt_congr _ _ fun g hg => ?_
    have hgv := (mem_allG hcn).1 hg
    unfold zeroK zeroI
    refine B_congr ⟨fun h v hv => (hz _ g (fun d hd => mem_valsF.1 (hgv.2 d hd)) v).2 (h v hv), fun h v hv => (hz _ g (fun d hd => mem_valsF.1 (hgv.2 d hd)) v).1 (h v hv)⟩
  · rintro v ⟨d, hd, hv⟩
    have hd' := mem_clsV.1 hd
    have hw := hn.2.2.2.2 d hd'.1
    have h3 := hG.2.1 (v : Int) (by omega) (by rcases hv with hv | hv <;> omega)
    rw [← h3, ← cntAt_deg hn v es.length (Nat.le_refl _)]
    refine cntAt_loc _ fun t ht hat => ?_
    rw [decide_eq_true_eq, ldE_at hn (List.mem_range.1 ht) hat, ← ldE_at hn hd'.1 hv, hd'.2]
end Go.Proofs.Ytppfplhbfgjjhaa
namespace Go.Proofs.Ytppfplhbfgjjhaa
open Go.RowKit Go.Sort
/-! ### The reference's count is the product of the program's counts -/
theorem count_flows {N : Nat} {kd : Int} {md : Nat} {es : List (Int × Int)} (hG : IsG N es) (hmd : 1 ≤ md) (hc : ChgN kd md) (hz : SameZ kd md es) :
    cntF kd md es es.length 0 (fun _ => 0) = prodL ((LV es N).map fun v : Nat => cntI kd md es (clsV es v) (fun _ => 0) (fun _ => 3)) := by
  have hn := hG.wf
  have hat : ∀ v : Nat, v < N → ∃ j, j < es.length ∧ ((v : Int) = ea es j ∨ (v : Int) = eb es j) := fun v hv => by
    refine Classical.byContradiction fun hno => ?_
    have h3 := hG.2.1 (v : Int) (by omega) (by omega)
    rw [← cntAt_deg hn v es.length (Nat.le_refl _), cntAt_none (fun d hd hh => hno ⟨d, List.mem_range.1 hd, by
      have hw := hn.2.2.2.2 d (List.mem_range.1 hd)
      rcases hh with hh | hh <;> omega⟩)] at h3
    cases h3
  have hnd : ((LV es N).map fun v : Nat => (v : Int)).Nodup := by
    rw [List.Nodup, List.pairwise_map]
    exact (LV_nodup es N).imp fun h => by omega
  have hks : ∀ d, d < es.length → ldE es d ∈ ((LV es N).map fun v : Nat => (v : Int)) := fun e hel => by
    have hw := hn.2.2.2.2 e hel
    have h1 := leadF_nonneg es noSk (ea es e)
    have h2 := leadF_le (es := es) (sk := noSk) hw.1
    refine List.mem_map.2 ⟨(ldE es e).toNat, mem_LV.2 ⟨?_, ?_⟩, ?_⟩
    · unfold ldE; omega
    · have h3 := leadF_lead (es := es) (sk := noSk) hw.1
      have h4 : ((ldE es e).toNat : Int) = leadF es noSk (ea es e) := by unfold ldE; omega
      rw [h4]; exact h3
    · unfold ldE; omega
  rw [cntF_is hmd hn hat (fun _ => 0), flows_parts hG hmd hc hz hnd hks, List.map_map]
  rfl
theorem count_flows0 {N md : Nat} {es : List (Int × Int)} (hG : IsG N es) (h : 1 ≤ md) : cntF 0 md es es.length 0 (fun _ => 0) = prodL ((LV es N).map fun v : Nat => cntI 0 md es (clsV es v) (fun _ => 0) (fun _ => 3)) := count_flows hG h chgN0 (sameZ0 h es)
theorem count_flows1 {N : Nat} {es : List (Int × Int)} (hG : IsG N es) : cntF 1 4 es es.length 0 (fun _ => 0) = prodL ((LV es N).map fun v : Nat => cntI 1 4 es (clsV es v) (fun _ => 0) (fun _ => 3)) := count_flows hG (by omega) chgN1 (sameZ1 4 es)
/-- The number of flows: the product over the parts. -/
noncomputable def frN (kd : Int) (md : Nat) (es : List (Int × Int)) (N : Nat) : Nat := prodL ((LV es N).map fun v : Nat => cntI kd md es (clsV es v) (fun _ => 0) (fun _ => 3))
theorem fr_prod {kd : Int} {md N : Nat} {es : List (Int × Int)} (hn : WfP N es) : prJ (fun j => cntI kd md es (Lsj es N j) (fun _ => 0) (fun _ => 3)) (LV es N).length = frN kd md es N := by
  rw [frN, ← prJ_list (LV es N) (fun v : Nat => cntI kd md es (clsV es v) (fun _ => 0) (fun _ => 3)) 0]
  refine prJ_congr _ fun j hj => ?_
  rw [Lsj_cls hn hj]
  simp [hj]
end Go.Proofs.Ytppfplhbfgjjhaa
