import Derived.Test.YtppfplhbfgjjhaaCg
namespace Go.Proofs.Ytppfplhbfgjjhaa
open Go.RowKit Go.Sort
/-! ### The count of colourings, plain -/
noncomputable def clsV (es : List (Int × Int)) (v : Int) : List Nat := (List.range es.length).filter fun d => decide (ldE es d = v)
noncomputable def isF (es : List (Int × Int)) (e : Nat) : Bool := B (∀ d, d < e → ldE es d ≠ ldE es e)
theorem mem_clsV {es : List (Int × Int)} {v : Int} {d : Nat} : d ∈ clsV es v ↔ d < es.length ∧ ldE es d = v := by simp [clsV]
theorem clsV_asc (es : List (Int × Int)) (v : Int) : (clsV es v).Pairwise (· < ·) := List.pairwise_lt_range.sublist List.filter_sublist
theorem ownT_is (q : List Int) : ∀ k, ownT q k = natL ((List.range k).filter fun f : Nat => decide ((f : Int) ∈ q)) := by
  intro k
  induction k with
  | zero => rfl
  | succ k ih =>
    rw [ownT, ih, List.range_succ, List.filter_append, natL, natL, List.map_append]
    congr 1
    by_cases h : (k : Int) ∈ q
    · rw [if_pos h]; simp [h]
    · rw [if_neg h]; simp [h]
theorem ptS_is {N : Nat} {es : List (Int × Int)} (hn : WfP N es) : ∀ e, e ≤ es.length →
    (∀ d : Nat, d < es.length → (hasB (ptS es e).1 d = true ↔ ∃ e', e' < e ∧ ldE es e' = ldE es d)) ∧ (ptS es e).2 = ((List.range e).filter (isF es)).map fun e' => natL (clsV es (ldE es e')) := by
  intro e
  induction e with
  | zero => intro _; exact ⟨fun d _ => ⟨fun h => by simp [ptS, hasB] at h, fun ⟨_, h, _⟩ => absurd h (by omega)⟩, rfl⟩
  | succ e ih =>
    intro he
    obtain ⟨h1, h2⟩ := ih (by omega)
    have hel : e < es.length := he
    cases hh : hasB (ptS es e).1 e with
    | true =>
      have hs : ptS es (e + 1) = ptS es e := by rw [ptS, if_pos hh]
      rw [hs]
      obtain ⟨e0, he0, hl0⟩ := (h1 e hel).1 hh
      refine ⟨fun d hd => (h1 d hd).trans ⟨fun ⟨e', h3, h4⟩ => ⟨e', by omega, h4⟩, fun ⟨e', h3, h4⟩ => ?_⟩, ?_⟩
      · by_cases h5 : e' = e
        · subst h5; exact ⟨e0, he0, hl0.trans h4⟩
        · exact ⟨e', by omega, h4⟩
      · have hf : isF es e = false := B_false fun hc => hc e0 he0 hl0
        rw [h2, List.range_succ, List.filter_append]
        simp [hf]
    | false =>
      have hs : ptS es (e + 1) = ((ptE es (ptS es e).1 e).o, (ptS es e).2 ++ [ownT (ptE es (ptS es e).1 e).q es.length]) := by rw [ptS, if_neg (by rw [hh]; decide)]
      rw [hs]
      obtain ⟨k1, k2⟩ := ptE_is hn hel (M := (ptS es e).1) (fun d f hd hf hl => by
        rw [h1 d hd, h1 f hf, hl]) hh
      refine ⟨fun d hd => ?_, ?_⟩
      · rw [k2 d hd, h1 d hd]
        constructor
        · rintro (⟨e', h3, h4⟩ | h4)
          · exact ⟨e', by omega, h4⟩
          · exact ⟨e, by omega, h4.symm⟩
        · rintro ⟨e', h3, h4⟩
          by_cases h5 : e' = e
          · subst h5; exact .inr h4.symm
          · exact .inl ⟨e', by omega, h4⟩
      · have hf : isF es e = true := B_true fun d hd hl => by
          have := (h1 e hel).2 ⟨d, hd, hl⟩
          rw [hh] at this; cases this
        show (ptS es e).2 ++ [ownT (ptE es (ptS es e).1 e).q es.length] = _
        rw [h2, List.range_succ, List.filter_append, List.map_append]
        congr 1
        simp only [List.filter_cons, hf, if_true, List.filter_nil, List.map_cons, List.map_nil]
        rw [ownT_is]
        congr 2
        refine List.filter_congr fun d hd => ?_
        exact decide_eq_decide.2 (k1 d (List.mem_range.1 hd))
def prJ (g : Nat → Nat) : Nat → Nat
  | 0 => 1
  | j + 1 => prJ g j * g j
def prodL : List Nat → Nat
  | [] => 1
  | x :: l => x * prodL l
theorem prodL_app (a b : List Nat) : prodL (a ++ b) = prodL a * prodL b := by
  induction a with
  | nil => simp [prodL]
  | cons x a ih => simp only [List.cons_append, prodL, ih, Nat.mul_assoc]
theorem prJ_prod (g : Nat → Nat) : ∀ n, prJ g n = prodL ((List.range n).map g) := by
  intro n
  induction n with
  | zero => rfl
  | succ n ih => rw [prJ, ih, List.range_succ, List.map_append, prodL_app]; simp [prodL]
theorem prodL_perm {a b : List Nat} (h : a.Perm b) : prodL a = prodL b := by
  induction h with
  | nil => rfl
  | cons x _ ih => simp only [prodL, ih]
  | swap x y l => simp only [prodL]; rw [← Nat.mul_assoc, ← Nat.mul_assoc, Nat.mul_comm x y]
  | trans _ _ h1 h2 => exact h1.trans h2
theorem prJ_congr {g g' : Nat → Nat} : ∀ n, (∀ j, j < n → g j = g' j) → prJ g n = prJ g' n := by
  intro n
  induction n with
  | zero => intro _; rfl
  | succ n ih => intro h; rw [prJ, prJ, ih (fun j hj => h j (by omega)), h n (by omega)]
theorem prJ_list {α : Type} (xs : List α) (g : α → Nat) (d : α) : prJ (fun j => g (xs.getD j d)) xs.length = prodL (xs.map g) := by
  rw [prJ_prod]
  congr 1
  apply List.ext_getElem
  · simp
  · intro j h1 h2
    simp at h1 h2 ⊢
    simp [h1]
theorem prI_prJ (es : List (Int × Int)) (Ls : Nat → List Nat) : ∀ n, prI es Ls n = prJ (fun j => (impT es (Ls j) false).length) n := by
  intro n
  induction n with
  | zero => rfl
  | succ n ih => rw [prI, prJ, ih]
theorem asc_ext {a b : List Nat} (ha : a.Pairwise (· < ·)) (hb : b.Pairwise (· < ·)) (h : ∀ x, x ∈ a ↔ x ∈ b) : a = b := by
  have hp : a.Perm b := (List.perm_ext_iff_of_nodup (ha.imp fun h => by omega) (hb.imp fun h => by omega)).2 h
  exact hp.eq_of_pairwise (le := fun x y => x < y) (fun x y _ _ h1 h2 => by omega) ha hb
noncomputable def cI (es : List (Int × Int)) (L : List Nat) : Nat := cntG col3 (okP es noG L) L noG
noncomputable def hS (es : List (Int × Int)) (L : List Nat) : Nat := 6 * cntS es (gN es (ea es (L.getD 0 0))) L (fun _ => 0)
theorem part_cls {N : Nat} {es : List (Int × Int)} (hn : WfP N es) (v : Int) {G : Nat → Int} (hG : ∀ d, G d ≠ -1 → d ∈ clsV es v ∧ 0 ≤ G d ∧ G d ≤ 2) : Part es (clsV es v) G where
  asc := clsV_asc es v
  lt := fun d hd => (mem_clsV.1 hd).1
  closed := fun d e hd he ha => by
    obtain ⟨h1, h2⟩ := mem_clsV.1 he
    exact mem_clsV.2 ⟨hd, by rw [← h2]; exact lead_adj hn hd h1 ha⟩
  giv := hG
theorem impT_cI {N : Nat} {es : List (Int × Int)} (hG : IsG N es) (v : Int) : (impT es (clsV es v) false).length = cI es (clsV es v) := by
  have hp : Part es (clsV es v) noG := part_cls hG.wf v (fun d hd => absurd rfl hd)
  have h0 : pF false (atL es 0) = noG := rfl
  unfold impT cI
  rw [col_tree hG.wf (clsV es v) _ _ (usI_p hG false) hp.lt (fun d _ => pF_rng false es d) hp.nodup, h0, treeI hp (fun d e _ _ _ => rfl), cnt_len]
theorem gN_at {es : List (Int × Int)} {v : Int} (hL : (atL es v).length = 3) : ∃ e0 e1 e2 : Nat, e0 < e1 ∧ e1 < e2 ∧ e2 < es.length ∧ (ea es e0 = v ∨ eb es e0 = v) ∧ (ea es e1 = v ∨ eb es e1 = v) ∧ (ea es e2 = v ∨ eb es e2 = v) ∧
    (∀ d, gN es v d ≠ -1 → d = e0 ∨ d = e1 ∨ d = e2) ∧ gN es v e0 = 0 ∧ gN es v e1 = 1 ∧ gN es v e2 = 2 := by
  obtain ⟨e0, l0, x0, v0⟩ := atL_at (es := es) (u := v) (k := 0) (by omega)
  obtain ⟨e1, l1, x1, v1⟩ := atL_at (es := es) (u := v) (k := 1) (by omega)
  obtain ⟨e2, l2, x2, v2⟩ := atL_at (es := es) (u := v) (k := 2) (by omega)
  have a01 := atTo_asc es.length 0 1 (by omega) (by show 1 < (atL es v).length; omega) (es := es) (v := v)
  have a12 := atTo_asc es.length 1 2 (by omega) (by show 2 < (atL es v).length; omega) (es := es) (v := v)
  have a01 : ia (atL es v) 0 < ia (atL es v) 1 := a01
  have a12 : ia (atL es v) 1 < ia (atL es v) 2 := a12
  rw [x0, x1] at a01
  rw [x1, x2] at a12
  refine ⟨e0, e1, e2, by omega, by omega, l2, v0, v1, v2, fun d hd => ?_, ?_, ?_, ?_⟩
  · obtain ⟨i, hi, hx, _⟩ := onT_at hd
    rcases (show i = 0 ∨ i = 1 ∨ i = 2 by omega) with rfl | rfl | rfl
    · left; rw [x0] at hx; omega
    · right; left; rw [x1] at hx; omega
    · right; right; rw [x2] at hx; omega
  all_goals
    unfold gN
    simp only [onT, x0, x1, x2]
  · rw [if_neg (by omega), if_neg (by omega), if_pos trivial]; rfl
  · rw [if_neg (by omega), if_pos trivial]; rfl
  · rw [if_pos trivial]; rfl
theorem hS_cI {N : Nat} {es : List (Int × Int)} (hG : IsG N es) {e : Nat} (he : e < es.length) : hS es (clsV es (ldE es e)) = cI es (clsV es (ldE es e)) := by
  obtain ⟨L, hL⟩ : ∃ L, L = clsV es (ldE es e) := ⟨_, rfl⟩
  rw [← hL]
  have heL : e ∈ L := by rw [hL]; exact mem_clsV.2 ⟨he, rfl⟩
  have hpos : 0 < L.length := List.length_pos_of_mem heL
  obtain ⟨d0, hd0⟩ : ∃ d0, d0 = L.getD 0 0 := ⟨_, rfl⟩
  have hd0L : d0 ∈ L := by rw [hd0]; exact gd_mem hpos
  have hd0' : d0 < es.length ∧ ldE es d0 = ldE es e := by rw [hL] at hd0L; exact mem_clsV.1 hd0L
  obtain ⟨v, hv⟩ : ∃ v, v = ea es d0 := ⟨_, rfl⟩
  have hw := hG.wf.2.2.2.2 d0 hd0'.1
  have h3 : (atL es v).length = 3 := by rw [hv]; exact atL_3 hG hw.1 hw.2.1
  obtain ⟨e0, e1, e2, h01, h12, hl2, v0, v1, v2, hg, g0, g1, g2⟩ := gN_at h3
  have hin : ∀ d, d < es.length → (ea es d = v ∨ eb es d = v) → d ∈ L := fun d hd hdv => by
    rw [hL]
    refine mem_clsV.2 ⟨hd, ?_⟩
    rw [← hd0'.2]
    refine lead_adj hG.wf hd hd0'.1 ?_
    unfold adjP
    rw [← hv]
    rcases hdv with h | h
    · exact .inl (.inl h)
    · exact .inl (.inr h)
  have adj : ∀ a b : Nat, (ea es a = v ∨ eb es a = v) → (ea es b = v ∨ eb es b = v) → adjP es a b := fun a b ha hb => by
    unfold adjP
    rcases ha with ha | ha <;> rcases hb with hb | hb
    · exact .inl (.inl (by omega))
    · exact .inr (.inl (by omega))
    · exact .inl (.inr (by omega))
    · exact .inr (.inr (by omega))
  have hp : Part es L (gN es v) := by
    rw [hL]
    refine part_cls hG.wf _ fun d hd => ⟨?_, ?_⟩
    · rw [← hL]
      rcases hg d hd with rfl | rfl | rfl
      · exact hin _ (by omega) v0
      · exact hin _ (by omega) v1
      · exact hin _ (by omega) v2
    · have := gN_rng es v d
      omega
  have h6 := sixfold hp.nodup (hin e0 (by omega) v0) (hin e1 (by omega) v1) (hin e2 hl2 v2) (adj _ _ v0 v1) (adj _ _ v0 v2) (adj _ _ v1 v2) (by omega) (by omega) (by omega) hg g0 g1 g2 noG
  unfold hS cI cntS
  rw [← hd0, ← hv, treeS hp, cnt_len, h6]
  congr 1
  refine cnt_off (D := fun d => d ∉ L) (fun g g' h => ?_) L _ _ (fun d => (Classical.em (d ∈ L)).elim .inl (fun h => .inr (.inl h)))
  have hgg : ∀ d, d ∈ L → g d = g' d := fun d hd => (h d).resolve_left (fun hc => hc hd)
  rw [Bool.eq_iff_iff, okP_iff, okP_iff]
  constructor
  · rintro ⟨h1, h2⟩
    exact ⟨fun d hd hx => by rw [← hgg d hd]; exact h1 d hd hx, fun d e hd he ha hne => by rw [← hgg d hd, ← hgg e he]; exact h2 d e hd he ha hne⟩
  · rintro ⟨h1, h2⟩
    exact ⟨fun d hd hx => by rw [hgg d hd]; exact h1 d hd hx, fun d e hd he ha hne => by rw [hgg d hd, hgg e he]; exact h2 d e hd he ha hne⟩
theorem keys_perm {N : Nat} {es : List (Int × Int)} (hG : IsG N es) : (((List.range es.length).filter (isF es)).map (ldE es)).Perm ((LV es N).map fun v : Nat => (v : Int)) := by
  have hn := hG.wf
  refine (List.perm_ext_iff_of_nodup ?_ ?_).2 fun x => ?_
  · rw [List.Nodup, List.pairwise_map]
    have h1 : ((List.range es.length).filter (isF es)).Pairwise (· < ·) := List.pairwise_lt_range.sublist List.filter_sublist
    refine h1.imp_of_mem fun {a b} _ hb hab => ?_
    exact B_iff.1 (List.mem_filter.1 hb).2 a hab
  · rw [List.Nodup, List.pairwise_map]
    exact (LV_nodup es N).imp fun h => by omega
  · constructor
    · intro hx
      obtain ⟨e, he, rfl⟩ := List.mem_map.1 hx
      have hel := List.mem_range.1 (List.mem_filter.1 he).1
      have hw := hn.2.2.2.2 e hel
      have h1 := leadF_nonneg es noSk (ea es e)
      have h2 := leadF_le (es := es) (sk := noSk) hw.1
      refine List.mem_map.2 ⟨(ldE es e).toNat, mem_LV.2 ⟨?_, ?_⟩, ?_⟩
      · unfold ldE; omega
      · have h3 := leadF_lead (es := es) (sk := noSk) hw.1
        have h4 : ((ldE es e).toNat : Int) = leadF es noSk (ea es e) := by unfold ldE; omega
        rw [h4]; exact h3
      · unfold ldE; omega
    · intro hx
      obtain ⟨v, hv, rfl⟩ := List.mem_map.1 hx
      obtain ⟨hvN, hlv⟩ := mem_LV.1 hv
      obtain ⟨f, hf, _, hfv⟩ := atL_at (es := es) (u := (v : Int)) (k := 0) (by have := atL_3 hG (v := (v : Int)) (by omega) (by omega); omega)
      have hld : ldE es f = v := by
        unfold ldE
        rcases hfv with h | h
        · rw [h, hlv]
        · rw [lead_edge hn hf, h, hlv]
      -- the least one
      have : ∀ k f, f ≤ k → f < es.length → ldE es f = v → ∃ e, e < es.length ∧ isF es e = true ∧ ldE es e = v := by
        intro k
        induction k with
        | zero =>
          intro f h1 h2 h3
          exact ⟨f, h2, B_true fun d hd => absurd hd (by omega), h3⟩
        | succ k ih =>
          intro f h1 h2 h3
          by_cases hc : ∀ d, d < f → ldE es d ≠ ldE es f
          · exact ⟨f, h2, B_true hc, h3⟩
          · have : ∃ d, d < f ∧ ldE es d = ldE es f := Classical.byContradiction fun hno => hc fun d hd he => hno ⟨d, hd, he⟩
            obtain ⟨d, hd, he⟩ := this
            exact ih d (by omega) (by omega) (he.trans h3)
      obtain ⟨e, h1, h2, h3⟩ := this f f (Nat.le_refl _) hf hld
      exact List.mem_map.2 ⟨e, List.mem_filter.2 ⟨List.mem_range.2 h1, h2⟩, h3⟩
theorem Lsj_cls {N : Nat} {es : List (Int × Int)} (hn : WfP N es) {j : Nat} (hj : j < (LV es N).length) : Lsj es N j = clsV es ((LV es N)[j] : Nat) := by
  refine asc_ext (inTo_asc _ _ _) (clsV_asc _ _) fun d => ?_
  rw [mem_Lsj hn hj, mem_clsV]; rfl
noncomputable def ccN (es : List (Int × Int)) (N : Nat) : Nat := prodL ((LV es N).map fun v : Nat => cI es (clsV es v))
theorem imp_prod {N : Nat} {es : List (Int × Int)} (hG : IsG N es) : prI es (Lsj es N) (LV es N).length = ccN es N := by
  rw [prI_prJ, ccN, ← prJ_list (LV es N) (fun v : Nat => cI es (clsV es v)) 0]
  refine prJ_congr _ fun j hj => ?_
  rw [Lsj_cls hG.wf hj, impT_cI hG]
  simp [hj]
noncomputable def rowsN (es : List (Int × Int)) : List (List Nat) := ((List.range es.length).filter (isF es)).map fun e => clsV es (ldE es e)
theorem pt_rows {N : Nat} {es : List (Int × Int)} (hn : WfP N es) : (ptS es es.length).2 = (rowsN es).map natL := by
  rw [(ptS_is hn es.length (Nat.le_refl _)).2, rowsN, List.map_map]; rfl
theorem spec_prod {N : Nat} {es : List (Int × Int)} (hG : IsG N es) : prJ (fun j => hS es ((rowsN es).getD j [])) (rowsN es).length = ccN es N := by
  rw [prJ_list (rowsN es) (hS es) [], rowsN, List.map_map]
  have h1 : ((List.range es.length).filter (isF es)).map (hS es ∘ fun e => clsV es (ldE es e)) = (((List.range es.length).filter (isF es)).map (ldE es)).map fun v => cI es (clsV es v) := by
    rw [List.map_map]
    refine List.map_congr_left fun e he => ?_
    exact hS_cI hG (List.mem_range.1 (List.mem_filter.1 he).1)
  rw [h1, prodL_perm ((keys_perm hG).map _), List.map_map]
  rfl
end Go.Proofs.Ytppfplhbfgjjhaa
