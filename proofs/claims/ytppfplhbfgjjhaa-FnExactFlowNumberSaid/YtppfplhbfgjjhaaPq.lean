import Derived.Test.YtppfplhbfgjjhaaPf
import Derived.Test.YtppfplhbfgjjhaaM28
namespace Go.Proofs.Ytppfplhbfgjjhaa
open Go.RowKit Go.Sort
/-! ### Colourings, part by part (plain) -/
open Classical in
noncomputable def LV (es : List (Int × Int)) (k : Nat) : List Nat := (List.range k).filter fun v : Nat => decide (leadF es noSk v = (v : Int))
theorem sd_LV (es : List (Int × Int)) (N : Nat) : ∀ k, sdTo es noSk N k = (LV es k).map fun v : Nat => cmTo es noSk v N := by
  intro k
  induction k with
  | zero => rfl
  | succ k ih =>
    unfold LV at ih ⊢
    rw [List.range_succ, List.filter_append, List.map_append, ← ih]
    by_cases h : leadF es noSk k = k
    · rw [sdTo_yes h]; simp [h]
    · rw [sdTo_no h]; simp [h]
theorem LV_nodup (es : List (Int × Int)) (k : Nat) : (LV es k).Nodup := List.nodup_range.sublist List.filter_sublist
theorem mem_LV {es : List (Int × Int)} {k v : Nat} : v ∈ LV es k ↔ v < k ∧ leadF es noSk v = (v : Int) := by simp [LV]
theorem sd_at {es : List (Int × Int)} {N k j : Nat} (h : j < (LV es k).length) : ra (sdTo es noSk N k) j = cmTo es noSk ((LV es k)[j] : Nat) N := by
  rw [sd_LV]; simp [ra, h]
theorem lead_zero (es : List (Int × Int)) : leadF es noSk 0 = 0 := by
  have h1 := leadF_nonneg es noSk 0
  have h2 := leadF_le (es := es) (sk := noSk) (v := 0) (Int.le_refl _)
  omega
theorem LV_0 {es : List (Int × Int)} {k : Nat} (h : 0 < (LV es k).length) : (LV es k)[0] = 0 := by
  have h1 := mem_LV.1 (List.getElem_mem h)
  have hm : 0 ∈ LV es k := mem_LV.2 ⟨by omega, lead_zero es⟩
  obtain ⟨i, hi, e⟩ := List.mem_iff_getElem.1 hm
  have hp : (LV es k).Pairwise (· < ·) := List.pairwise_lt_range.sublist List.filter_sublist
  have hp' := List.pairwise_iff_getElem.1 hp
  by_cases h0 : i = 0
  · subst h0; exact e
  · have := hp' 0 i h hi (by omega); omega
/-- The edges of the parts. -/
noncomputable def Lsj (es : List (Int × Int)) (N j : Nat) : List Nat := inTo es (ra (sdTo es noSk N N) j) es.length
def Gj (es : List (Int × Int)) (j : Nat) : Nat → Int := if j = 0 then gN es 0 else fun _ => -1
theorem mem_Lsj {N : Nat} {es : List (Int × Int)} (hn : WfP N es) {j d : Nat} (hj : j < (LV es N).length) : d ∈ Lsj es N j ↔ d < es.length ∧ leadF es noSk (ea es d) = ((LV es N)[j] : Nat) := by
  unfold Lsj
  rw [mem_inTo, sd_at hj, mem_cmTo]
  have hv := mem_LV.1 (List.getElem_mem hj)
  constructor
  · rintro ⟨h1, u, hu, e, hr⟩
    refine ⟨h1, ?_⟩
    rw [e, lead_is hv.2]; exact hr
  · rintro ⟨h1, h2⟩
    have hw := hn.2.2.2.2 d h1
    refine ⟨h1, (ea es d).toNat, by omega, by omega, ?_⟩
    have e : ((ea es d).toNat : Int) = ea es d := by omega
    rw [← e] at h2
    rw [← e]; exact (lead_is hv.2).1 h2
theorem Lsj_uniq {N : Nat} {es : List (Int × Int)} (hn : WfP N es) {i j d : Nat} (hi : i < (LV es N).length) (hj : j < (LV es N).length) (h1 : d ∈ Lsj es N i) (h2 : d ∈ Lsj es N j) : i = j := by
  have a := ((mem_Lsj hn hi).1 h1).2
  have b := ((mem_Lsj hn hj).1 h2).2
  have : (LV es N)[i] = (LV es N)[j] := by omega
  have hp := List.pairwise_iff_getElem.1 (LV_nodup es N)
  rcases Nat.lt_trichotomy i j with h | h | h
  · exact absurd this (hp i j hi hj h)
  · exact h
  · exact absurd this.symm (hp j i hj hi h)
theorem Lsj_all {N : Nat} {es : List (Int × Int)} (hn : WfP N es) {d : Nat} (hd : d < es.length) : ∃ j, j < (LV es N).length ∧ d ∈ Lsj es N j := by
  have hw := hn.2.2.2.2 d hd
  have h0 := leadF_nonneg es noSk (ea es d)
  have h1 := leadF_le (es := es) (sk := noSk) (v := ea es d) hw.1
  have h2 := leadF_lead (es := es) (sk := noSk) (v := ea es d) hw.1
  have hm : (leadF es noSk (ea es d)).toNat ∈ LV es N := by
    rw [mem_LV]
    have e : ((leadF es noSk (ea es d)).toNat : Int) = leadF es noSk (ea es d) := by omega
    exact ⟨by omega, by rw [e]; exact h2⟩
  obtain ⟨j, hj, e⟩ := List.mem_iff_getElem.1 hm
  exact ⟨j, hj, (mem_Lsj hn hj).2 ⟨hd, by rw [e]; omega⟩⟩
theorem lead_edge {N : Nat} {es : List (Int × Int)} (hn : WfP N es) {d : Nat} (hd : d < es.length) : leadF es noSk (ea es d) = leadF es noSk (eb es d) := by
  have hw := hn.2.2.2.2 d hd
  exact leadF_eq hw.1 hw.2.2.1 (Rch.adj ⟨d, hd, rfl, .inl ⟨rfl, rfl⟩⟩)
theorem lead_adj {N : Nat} {es : List (Int × Int)} (hn : WfP N es) {d e : Nat} (hd : d < es.length) (he : e < es.length) (ha : adjP es d e) : leadF es noSk (ea es d) = leadF es noSk (ea es e) := by
  have h1 := lead_edge hn hd
  have h2 := lead_edge hn he
  rcases ha with (h | h) | (h | h)
  · rw [h]
  · rw [h1, h]
  · rw [h, h2]
  · rw [h1, h, h2]
theorem part_j {N : Nat} {es : List (Int × Int)} (hG : IsG N es) {j : Nat} (hj : j < (LV es N).length) : Part es (Lsj es N j) (Gj es j) where
  asc := inTo_asc _ _ _
  lt := fun d hd => (mem_inTo.1 hd).1
  closed := fun d e hd he ha => by
    have h := (mem_Lsj hG.wf hj).1 he
    exact (mem_Lsj hG.wf hj).2 ⟨hd, by rw [lead_adj hG.wf hd h.1 ha]; exact h.2⟩
  giv := fun d hd => by
    unfold Gj at hd ⊢
    by_cases h0 : j = 0
    · subst h0
      rw [if_pos rfl] at hd ⊢
      have hr := gN_rng es 0 d
      refine ⟨?_, by omega, by omega⟩
      obtain ⟨i, hi, h1, _⟩ := onT_at hd
      have hdl : d < es.length ∧ (ea es d = 0 ∨ eb es d = 0) := by
        have h3 := atL_3 hG (v := 0) (by omega) (by have := hG.wf.1; omega)
        obtain ⟨f, hf, e, hv⟩ := atL_at (es := es) (u := 0) (k := i) (by omega)
        have : f = d := by omega
        subst this; exact ⟨hf, hv⟩
      have hl : leadF es noSk (ea es d) = 0 := by
        rcases hdl.2 with h | h
        · rw [h]; exact lead_zero es
        · rw [lead_edge hG.wf hdl.1, h]; exact lead_zero es
      exact (mem_Lsj hG.wf hj).2 ⟨hdl.1, by rw [LV_0 hj]; simpa using hl⟩
    · rw [if_neg h0] at hd; exact absurd rfl hd
/-- What a painter finds for a part. -/
theorem usI_p {N : Nat} {es : List (Int × Int)} (hG : IsG N es) (r : Bool) : UsI N es (pF r (atL es 0)) (pU r es (atL es 0)) := by
  have base : UsI N es (nF (atL es 0) 0) (nU es (atL es 0) 0) := by
    intro v _
    refine ⟨by simp [nU], fun x _ => ?_⟩
    simp only [nU, nF, Nat.zero_testBit, Bool.false_eq_true, false_iff]
    rintro ⟨d, _, _, h⟩; omega
  cases r with
  | false => exact base
  | true =>
    have h3 := atL_3 hG (v := 0) (by omega) (by have := hG.wf.1; omega)
    have step : ∀ k, k < 3 → UsI N es (nF (atL es 0) k) (nU es (atL es 0) k) → UsI N es (nF (atL es 0) (k + 1)) (nU es (atL es 0) (k + 1)) := fun k hk h => by
      obtain ⟨f, hf, e, _⟩ := atL_at (es := es) (u := 0) (k := k) (by omega)
      have hfe : (ia (atL es 0) k).toNat = f := by omega
      simp only [nF, nU, hfe]
      refine h.give hG.wf hf hk ?_
      rw [nF_onT (atL_nn es 0)]
      apply Classical.byContradiction
      intro hne
      obtain ⟨i, hi, h1, _⟩ := onT_at hne
      exact atL_ne (es := es) (v := 0) hi (by omega) (by rw [h1, e])
    exact step 2 (by omega) (step 1 (by omega) (step 0 (by omega) base))
theorem pF_Gj (es : List (Int × Int)) (j : Nat) : pF (j == 0) (atL es 0) = Gj es j := by
  unfold Gj
  by_cases h : j = 0
  · subst h; rw [if_pos rfl]; exact nF_gN es 0
  · rw [if_neg h]
    have : (j == 0) = false := by simp [h]
    rw [this]; rfl
theorem Gj_inj {es : List (Int × Int)} {j d e : Nat} (hne : d ≠ e) (h : Gj es j d = Gj es j e) : Gj es j d = -1 := by
  unfold Gj at h ⊢
  by_cases h0 : j = 0
  · rw [if_pos h0] at h ⊢
    exact Classical.byContradiction fun h1 => hne (gN_inj h1 h)
  · rw [if_neg h0]
theorem impT_eq {N : Nat} {es : List (Int × Int)} (hG : IsG N es) {j : Nat} (hj : j < (LV es N).length) : impT es (Lsj es N j) (j == 0) = (allG col3 (Lsj es N j) (Gj es j)).filter (okP es (Gj es j) (Lsj es N j)) := by
  have hp := part_j hG hj
  unfold impT
  rw [col_tree hG.wf (Lsj es N j) _ _ (usI_p hG (j == 0)) hp.lt (fun d _ => pF_rng (j == 0) es d) hp.nodup, pF_Gj]
  exact treeI hp fun d e _ hne h => Gj_inj hne h
theorem part_all {N : Nat} {es : List (Int × Int)} (hG : IsG N es) : Part es (List.range' 0 es.length) (gN es 0) where
  asc := List.pairwise_lt_range'
  lt := fun d hd => by have := List.mem_range'_1.1 hd; omega
  closed := fun d e hd _ _ => List.mem_range'_1.2 (by omega)
  giv := fun d hd => by
    have h0 : 0 < (LV es N).length := by
      obtain ⟨j, hj, _⟩ := Lsj_all hG.wf (d := 0) (by have := hG.wf.2.2.2.1; have := hG.wf.1; omega)
      omega
    have := (part_j hG h0).giv d (by unfold Gj; rw [if_pos rfl]; exact hd)
    unfold Gj at this
    rw [if_pos rfl] at this
    exact ⟨List.mem_range'_1.2 (by have := (part_j hG h0).lt d this.1; omega), this.2⟩
/-- All colourings, in the reference's order. -/
noncomputable def allC (es : List (Int × Int)) (f0 : Nat → Int) : List (Nat → Int) := (allG col3 (List.range' 0 es.length) f0).filter (okP es (gN es 0) (List.range' 0 es.length))
theorem lvs_all {N : Nat} {es : List (Int × Int)} (hG : IsG N es) (f0 : Nat → Int) : lvs es (gN es 0) es.length 0 f0 = (allC es f0).map (lsN es.length) := by
  unfold lvs allC
  rw [Nat.sub_zero, treeS (part_all hG) f0]
theorem foB_iff {es : List (Int × Int)} {Ls : Nat → List Nat} {j : Nat} : foB es Ls j = true ↔ impT es (Ls j) (j == 0) ≠ [] := by
  unfold foB
  rw [runF1]
  cases impT es (Ls j) (j == 0) <;> simp
theorem foF_at {N : Nat} {es : List (Int × Int)} (hG : IsG N es) {R : Nat} (hR : R ≤ (LV es N).length) {j d : Nat} (hj : j < R) (hd : d ∈ Lsj es N j) {g : Nat → Int} {T : List (Nat → Int)} (hg : impT es (Lsj es N j) (j == 0) = g :: T) : foF es (Lsj es N) R d = g d := by
  induction R with
  | zero => omega
  | succ R ih =>
    simp only [foF]
    rw [runF1]
    by_cases e : j = R
    · subst e
      rw [hg]
      simp only [ovr, List.take_length]
      rw [if_pos hd]
    · have hjR : j < R := by omega
      have hnd : d ∉ Lsj es N R := fun h => e (Lsj_uniq hG.wf (by omega) (by omega) hd h)
      cases hT : impT es (Lsj es N R) (R == 0) with
      | nil => exact ih (by omega) hjR
      | cons g' T' =>
        simp only [ovr, List.take_length]
        rw [if_neg hnd]
        exact ih (by omega) hjR
theorem okP_iff {es : List (Int × Int)} {G : Nat → Int} {L : List Nat} {g : Nat → Int} : okP es G L g = true ↔ (∀ d, d ∈ L → G d ≠ -1 → g d = G d) ∧ ∀ d e, d ∈ L → e ∈ L → adjP es d e → d ≠ e → g d ≠ g e := B_iff
/-- A whole colouring is one of each part. -/
theorem restr {N : Nat} {es : List (Int × Int)} (hG : IsG N es) {f0 g : Nat → Int} (hg : g ∈ allC es f0) {j : Nat} (hj : j < (LV es N).length) :
    (fun d => if d ∈ Lsj es N j then g d else Gj es j d) ∈ impT es (Lsj es N j) (j == 0) := by
  have hp := part_j hG hj
  obtain ⟨h1, h2⟩ := List.mem_filter.1 hg
  have h1' := (mem_allG (part_all hG).nodup).1 h1
  have h2' := okP_iff.1 h2
  have hin : ∀ d, d ∈ Lsj es N j → d ∈ List.range' 0 es.length := fun d hd => List.mem_range'_1.2 (by have := hp.lt d hd; omega)
  rw [impT_eq hG hj, List.mem_filter, mem_allG hp.nodup, okP_iff]
  refine ⟨⟨fun d hd => if_neg hd, fun d hd => ?_⟩, fun d hd hgd => ?_, fun d e hd he ha hne => ?_⟩
  · rw [if_pos hd]; exact h1'.2 d (hin d hd)
  · rw [if_pos hd]
    unfold Gj at hgd ⊢
    by_cases h0 : j = 0
    · rw [if_pos h0] at hgd ⊢; exact h2'.1 d (hin d hd) hgd
    · rw [if_neg h0] at hgd; exact absurd rfl hgd
  · rw [if_pos hd, if_pos he]; exact h2'.2 d e (hin d hd) (hin e he) ha hne
theorem first_all {N : Nat} {es : List (Int × Int)} (hG : IsG N es) (f0 : Nat → Int) :
    ((∀ j, j < (LV es N).length → foB es (Lsj es N) j = true) ↔ allC es f0 ≠ []) ∧ ∀ g T, allC es f0 = g :: T → lsN es.length g = lsN es.length (foF es (Lsj es N) (LV es N).length) := by
  have hnd := (part_all hG).nodup
  obtain ⟨H, hH⟩ : ∃ H, H = foF es (Lsj es N) (LV es N).length := ⟨_, rfl⟩
  have hHat : ∀ j, j < (LV es N).length → ∀ g T, impT es (Lsj es N j) (j == 0) = g :: T → ∀ d, d ∈ Lsj es N j → H d = g d := fun j hj g T hg d hd => by
    rw [hH]; exact foF_at hG (Nat.le_refl _) hj hd hg
  have hmem : (∀ j, j < (LV es N).length → impT es (Lsj es N j) (j == 0) ≠ []) → (fun d => if d < es.length then H d else f0 d) ∈ allC es f0 := fun hall => by
    have hpick : ∀ d, d < es.length → ∃ j, j < (LV es N).length ∧ d ∈ Lsj es N j ∧ ∃ g T, impT es (Lsj es N j) (j == 0) = g :: T ∧ (∀ e, e ∈ Lsj es N j → H e = g e) ∧ g ∈ allG col3 (Lsj es N j) (Gj es j) ∧ okP es (Gj es j) (Lsj es N j) g = true := fun d hd => by
      obtain ⟨j, hj, hdj⟩ := Lsj_all hG.wf hd
      cases hT : impT es (Lsj es N j) (j == 0) with
      | nil => exact absurd hT (hall j hj)
      | cons g T =>
        have hgm : g ∈ impT es (Lsj es N j) (j == 0) := by rw [hT]; exact List.mem_cons_self
        rw [impT_eq hG hj, List.mem_filter] at hgm
        exact ⟨j, hj, hdj, g, T, hT, hHat j hj g T hT, hgm.1, hgm.2⟩
    unfold allC
    rw [List.mem_filter, mem_allG hnd, okP_iff]
    refine ⟨⟨fun d hd => ?_, fun d hd => ?_⟩, fun d hd hgd => ?_, fun d e hd he ha hne => ?_⟩
    · rw [if_neg (fun h => hd (List.mem_range'_1.2 (by omega)))]
    · have hd' : d < es.length := by have := List.mem_range'_1.1 hd; omega
      obtain ⟨j, hj, hdj, g, T, _, hHg, hga, _⟩ := hpick d hd'
      simp only [if_pos hd']
      rw [hHg d hdj]
      exact ((mem_allG (part_j hG hj).nodup).1 hga).2 d hdj
    · have hd' : d < es.length := by have := List.mem_range'_1.1 hd; omega
      have h0 : 0 < (LV es N).length := by obtain ⟨j, hj, _⟩ := Lsj_all hG.wf hd'; omega
      have hG0 : Gj es 0 = gN es 0 := if_pos rfl
      have hd0 := ((part_j hG h0).giv d (by rw [hG0]; exact hgd)).1
      obtain ⟨j, hj, hdj, g, T, _, hHg, _, hok⟩ := hpick d hd'
      obtain rfl := Lsj_uniq hG.wf hj h0 hdj hd0
      simp only [if_pos hd']
      rw [hHg d hdj]
      have := (okP_iff.1 hok).1 d hdj (by rw [hG0]; exact hgd)
      rw [this, hG0]
    · have hd' : d < es.length := by have := List.mem_range'_1.1 hd; omega
      have he' : e < es.length := by have := List.mem_range'_1.1 he; omega
      obtain ⟨j, hj, hdj, g, T, _, hHg, _, hok⟩ := hpick d hd'
      have hej := (part_j hG hj).closed e d he' hdj (adjP_symm ha)
      simp only [if_pos hd', if_pos he']
      rw [hHg d hdj, hHg e hej]
      exact (okP_iff.1 hok).2 d e hdj hej ha hne
  have hiff : (∀ j, j < (LV es N).length → impT es (Lsj es N j) (j == 0) ≠ []) ↔ allC es f0 ≠ [] := by
    constructor
    · intro h h0
      have := hmem h
      rw [h0] at this; simp at this
    · intro h j hj h0
      obtain ⟨g, hg⟩ := List.exists_mem_of_ne_nil _ h
      have := restr hG hg hj
      rw [h0] at this; simp at this
  refine ⟨⟨fun h => hiff.1 fun j hj => foB_iff.1 (h j hj), fun h j hj => foB_iff.2 (hiff.2 h j hj)⟩, fun g T hgT => ?_⟩
  have hne : allC es f0 ≠ [] := by rw [hgT]; simp
  have hall := hiff.2 hne
  have hH' := hmem hall
  have hfind : (allG col3 (List.range' 0 es.length) f0).find? (okP es (gN es 0) (List.range' 0 es.length)) = some g := by
    rw [← List.head?_filter]
    show (allC es f0).head? = some g
    rw [hgT]; rfl
  have hgm : g ∈ allC es f0 := by rw [hgT]; exact List.mem_cons_self
  have hc3 : col3.Pairwise (· < ·) := by decide
  have hleast := find_least hc3 _ _ _ hnd hfind _ (List.mem_filter.1 hH').1 (List.mem_filter.1 hH').2
  have heq := least_eq (L := List.range' 0 es.length) (g := g) (g' := fun d => if d < es.length then H d else f0 d) hleast (fun pre e post hL hpre => by
    have hem : e ∈ List.range' 0 es.length := by rw [hL]; simp
    have he' : e < es.length := by have := List.mem_range'_1.1 hem; omega
    obtain ⟨j, hj, hej⟩ := Lsj_all hG.wf he'
    have hp := part_j hG hj
    cases hT : impT es (Lsj es N j) (j == 0) with
    | nil => exact absurd hT (hall j hj)
    | cons gj Tj =>
      have hHg := hHat j hj gj Tj hT
      simp only [if_pos he']
      rw [hHg e hej]
      have hfj : (allG col3 (Lsj es N j) (Gj es j)).find? (okP es (Gj es j) (Lsj es N j)) = some gj := by
        rw [← List.head?_filter, ← impT_eq hG hj, hT]; rfl
      have hr := restr hG hgm hj
      rw [impT_eq hG hj, List.mem_filter] at hr
      obtain ⟨preJ, postJ, hLJ⟩ := List.append_of_mem hej
      have := find_least hc3 _ _ _ hp.nodup hfj _ hr.1 hr.2 preJ e postJ hLJ (fun d hd => by
        have hdj : d ∈ Lsj es N j := by rw [hLJ]; exact List.mem_append_left _ hd
        have hde : d < e := by
          have := hp.asc
          rw [hLJ] at this
          exact (List.pairwise_append.1 this).2.2 d hd e List.mem_cons_self
        have hdl := hp.lt d hdj
        have hdp : d ∈ pre := by
          have hm : d ∈ List.range' 0 es.length := List.mem_range'_1.2 (by omega)
          rw [hL] at hm
          rcases List.mem_append.1 hm with h | h
          · exact h
          · exfalso
            have hs := (part_all hG).asc
            rw [hL] at hs
            have h2 := List.pairwise_cons.1 (List.pairwise_append.1 hs).2.1
            rcases List.mem_cons.1 h with h | h
            · omega
            · have := h2.1 d h; omega
        have h3 := hpre d hdp
        simp only [if_pos hdl] at h3
        simp only [if_pos hdj]
        rw [h3, hHg d hdj])
      simpa only [if_pos hej] using this)
  apply List.map_congr_left
  intro d hd
  have hd' : d < es.length := by simpa using hd
  have := heq d (List.mem_range'_1.2 (by omega))
  rw [this, if_pos hd', hH]
end Go.Proofs.Ytppfplhbfgjjhaa
