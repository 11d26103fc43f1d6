import Derived.Test.YtajnhkkiddeegaaGreatZp21
import Derived.Test.YtajnhkkiddeegaaGreatZp31
import Derived.Test.YtajnhkkiddeegaaGreatZp32
set_option linter.unusedVariables false
set_option linter.unusedSimpArgs false
namespace Go.Proofs.YtajnhkkiddeegaaGreat
open Go.RowKit Go.Sort
theorem perm_idx {α : Type} {l l' : List α} (h : l.Perm l') : ∃ σ τ : Nat → Nat, (∀ i, i < l.length → σ i < l'.length ∧ τ (σ i) = i ∧ l'[σ i]? = l[i]?) ∧ (∀ j, j < l'.length → τ j < l.length ∧ σ (τ j) = j) := by
  induction h with
  | nil => exact ⟨id, id, fun i hi => by simp at hi, fun j hj => by simp at hj⟩
  | cons x h ih =>
    obtain ⟨σ, τ, h1, h2⟩ := ih
    refine ⟨fun i => match i with | 0 => 0 | i + 1 => σ i + 1, fun i => match i with | 0 => 0 | i + 1 => τ i + 1, fun i hi => ?_, fun j hj => ?_⟩
    · match i, hi with
      | 0, _ => simp
      | i + 1, hi =>
        obtain ⟨a, b, c⟩ := h1 i (by simpa using hi)
        exact ⟨by simpa using a, by simp only [b], by simpa using c⟩
    · match j, hj with
      | 0, _ => simp
      | j + 1, hj =>
        obtain ⟨a, b⟩ := h2 j (by simpa using hj)
        exact ⟨by simpa using a, by simp only [b]⟩
  | swap x y l =>
    refine ⟨fun i => match i with | 0 => 1 | 1 => 0 | i + 2 => i + 2, fun i => match i with | 0 => 1 | 1 => 0 | i + 2 => i + 2, fun i hi => ?_, fun j hj => ?_⟩
    · match i, hi with
      | 0, _ => simp
      | 1, _ => simp
      | i + 2, hi => exact ⟨by simpa using hi, rfl, by simp⟩
    · match j, hj with
      | 0, _ => simp
      | 1, _ => simp
      | j + 2, hj => exact ⟨by simpa using hj, rfl⟩
  | trans h1 h2 ih1 ih2 =>
    obtain ⟨σ1, τ1, a1, b1⟩ := ih1
    obtain ⟨σ2, τ2, a2, b2⟩ := ih2
    refine ⟨fun i => σ2 (σ1 i), fun j => τ1 (τ2 j), fun i hi => ?_, fun j hj => ?_⟩
    · obtain ⟨p, q, r⟩ := a1 i hi
      obtain ⟨p2, q2, r2⟩ := a2 _ p
      exact ⟨p2, by simp only [q2, q], r2.trans r⟩
    · obtain ⟨p, q⟩ := b2 j hj
      obtain ⟨p2, q2⟩ := b1 _ p
      exact ⟨p2, by simp only [q2, q]⟩
theorem len_le : ∀ {L L' : List Nat}, L.Nodup → (∀ x, x ∈ L → x ∈ L') → L.length ≤ L'.length := by
  intro L
  induction L with
  | nil => intro L' _ _; exact Nat.zero_le _
  | cons a L ih =>
    intro L' hn hs
    have h' := List.nodup_cons.1 hn
    have ha := hs a (by simp)
    have h1 := ih (L' := L'.erase a) h'.2 (fun x hx => (List.mem_erase_of_ne (fun e => h'.1 (by rw [← e]; exact hx))).2 (hs x (by simp [hx])))
    rw [List.length_erase_of_mem ha] at h1
    have : 0 < L'.length := List.length_pos_of_mem ha
    rw [List.length_cons]
    omega
def dgE (v : Int) (e : Int × Int) : Int := (if e.1 = v then 1 else 0) + (if e.2 = v then 1 else 0)
def degS (v : Int) : List (Int × Int) → Int
  | [] => 0
  | e :: es => dgE v e + degS v es
theorem degS_perm {v : Int} {es fs : List (Int × Int)} (h : es.Perm fs) : degS v es = degS v fs := by
  induction h with
  | nil => rfl
  | cons x _ ih => simp only [degS, ih]
  | swap x y l => simp only [degS]; omega
  | trans _ _ h1 h2 => exact h1.trans h2
theorem degS_app {v : Int} {es fs : List (Int × Int)} : degS v (es ++ fs) = degS v es + degS v fs := by
  induction es with
  | nil => simp [degS]
  | cons e es ih => simp only [List.cons_append, degS, ih]; omega
theorem degS_map {u v : Int} {g : Int × Int → Int × Int} : ∀ {es : List (Int × Int)}, (∀ e, e ∈ es → dgE v (g e) = dgE u e) → degS v (es.map g) = degS u es := by
  intro es
  induction es with
  | nil => intro _; rfl
  | cons e es ih => intro h; simp only [List.map_cons, degS]; rw [h e (by simp), ih fun x hx => h x (by simp [hx])]
theorem degS_zero {v : Int} : ∀ {es : List (Int × Int)}, (∀ e, e ∈ es → dgE v e = 0) → degS v es = 0 := by
  intro es
  induction es with
  | nil => intro _; rfl
  | cons e es ih => intro h; simp only [degS]; rw [h e (by simp), ih fun x hx => h x (by simp [hx])]; rfl
theorem degTo_take (es : List (Int × Int)) (v : Int) : ∀ k, k ≤ es.length → degTo es k v = degS v (es.take k) := by
  intro k
  induction k with
  | zero => intro _; simp [degTo, degS]
  | succ k ih =>
    intro hk
    rw [List.take_succ_eq_append_getElem (by omega), degS_app, ← ih (by omega), e_pair (by omega)]
    simp only [degTo, degS, dgE]
    omega
theorem degTo_S (es : List (Int × Int)) (v : Int) : degTo es es.length v = degS v es := by rw [degTo_take es v _ (Nat.le_refl _), List.take_length]
theorem dg_mm (v : Int) (e : Int × Int) : dgE v (mmE e) = dgE v e := by
  rcases Int.le_total e.1 e.2 with h | h
  · have : mmE e = e := by unfold mmE; rw [Int.min_eq_left h, Int.max_eq_right h]
    rw [this]
  · have : mmE e = (e.2, e.1) := by unfold mmE; rw [Int.min_eq_right h, Int.max_eq_left h]
    rw [this]
    simp only [dgE]
    omega
theorem degS_srt (v : Int) (xs : List (Int × Int)) : degS v (srtE xs) = degS v xs :=
  (degS_perm (List.mergeSort_perm _ _)).trans (degS_map fun e _ => dg_mm v e)
theorem srt_sorted (xs : List (Int × Int)) : SortedQ (srtE xs) := by
  refine List.pairwise_mergeSort (le := leE) (fun a b c h1 h2 => by rw [leE_iff] at *; omega) (fun a b => ?_) _
  cases h : leE a b with
  | true => rfl
  | false =>
    have h' : ¬ leE a b = true := by simp [h]
    rw [leE_iff] at h'
    have : leE b a = true := by rw [leE_iff]; omega
    simp [this]
theorem srt_mem {xs : List (Int × Int)} {e : Int × Int} : e ∈ srtE xs ↔ e ∈ xs.map mmE := (List.mergeSort_perm _ _).mem_iff
theorem isG_srt {n : Int} {xs : List (Int × Int)} (h1 : 2 ≤ n ∧ n ≤ 20 ∧ n % 2 = 0) (hl : (xs.length : Int) = 3 * n / 2) (he : ∀ e ∈ xs, WfE n e) (hd : ∀ v : Int, 0 ≤ v → v < n → degS v xs = 3) : IsG n (srtE xs) := by
  refine ⟨wfP_srt h1 hl he, fun v h0 hv => by rw [degTo_S, degS_srt]; exact hd v h0 hv, fun j hj => ?_, fun j hj => ?_⟩
  · have hm := List.getElem_mem hj
    rw [srt_mem] at hm
    obtain ⟨x, _, hx⟩ := List.mem_map.1 hm
    rw [e_pair hj] at hx
    have e1 := congrArg Prod.fst hx
    have e2 := congrArg Prod.snd hx
    simp only [mmE] at e1 e2
    omega
  · have hp := List.pairwise_iff_getElem.1 (srt_sorted xs) j (j + 1) (by omega) hj (by omega)
    rw [leE_iff, e_pair hj, e_pair (show j < (srtE xs).length by omega)] at hp
    exact hp
theorem isG_deg {n : Int} {es : List (Int × Int)} (hG : IsG n es) {v : Int} (h0 : 0 ≤ v) (h1 : v < n) : degS v es = 3 := by rw [← degTo_S]; exact hG.2.1 v h0 h1
/-- The edges sorted anew: which is which. -/
theorem srt_idx (xs : List (Int × Int)) : ∃ σ τ : Nat → Nat, (∀ i, i < xs.length → σ i < (srtE xs).length ∧ τ (σ i) = i ∧ ((ea (srtE xs) (σ i) = ea xs i ∧ eb (srtE xs) (σ i) = eb xs i) ∨ (ea (srtE xs) (σ i) = eb xs i ∧ eb (srtE xs) (σ i) = ea xs i))) ∧ (∀ j, j < (srtE xs).length → τ j < xs.length ∧ σ (τ j) = j) := by
  obtain ⟨σ, τ, h1, h2⟩ := perm_idx (List.mergeSort_perm (xs.map mmE) leE).symm
  rw [List.length_map] at h1 h2
  refine ⟨σ, τ, fun i hi => ?_, h2⟩
  obtain ⟨a, b, c⟩ := h1 i hi
  refine ⟨a, b, ?_⟩
  have e : (srtE xs)[σ i]? = some (mmE xs[i]) := by
    rw [show (srtE xs)[σ i]? = ((xs.map mmE).mergeSort leE)[σ i]? from rfl, c, List.getElem?_map, List.getElem?_eq_getElem hi]; rfl
  have e1 : ea (srtE xs) (σ i) = (mmE xs[i]).1 := by unfold ea; rw [List.getD_eq_getElem?_getD, e]; rfl
  have e2 : eb (srtE xs) (σ i) = (mmE xs[i]).2 := by unfold eb; rw [List.getD_eq_getElem?_getD, e]; rfl
  rw [e_pair hi] at e1 e2
  simp only [mmE] at e1 e2
  rw [e1, e2]
  rcases Int.le_total (ea xs i) (eb xs i) with h | h
  · rw [Int.min_eq_left h, Int.max_eq_right h]; exact .inl ⟨rfl, rfl⟩
  · rw [Int.min_eq_right h, Int.max_eq_left h]; exact .inr ⟨rfl, rfl⟩
noncomputable def LL (es : List (Int × Int)) (k : Nat) : List Nat := (List.range k).filter fun v => decide (leadF es noSk (v : Int) = v)
theorem LL_len (es : List (Int × Int)) : ∀ k, (LL es k).length = ldCnt es noSk k := by
  intro k
  induction k with
  | zero => rfl
  | succ k ih =>
    unfold LL at ih ⊢
    rw [List.range_succ, List.filter_append, List.length_append, ih]
    simp only [ldCnt]
    by_cases h : leadF es noSk (k : Int) = k
    · rw [if_pos h]; simp [h]
    · rw [if_neg h]; simp [h]
theorem LL_mem {es : List (Int × Int)} {k v : Nat} : v ∈ LL es k ↔ v < k ∧ leadF es noSk (v : Int) = v := by
  unfold LL; rw [List.mem_filter, List.mem_range, decide_eq_true_eq]
theorem LL_nodup (es : List (Int × Int)) (k : Nat) : (LL es k).Nodup := List.nodup_range.filter _
theorem cnt_map {N : Nat} {es fs : List (Int × Int)} {f : Int → Int} (M : EMap es fs noSk noSk f N) (hn : WfP N es) (hr : ∀ u, 0 ≤ u → u ≤ (N : Int) - 1 → 0 ≤ f u ∧ f u ≤ (N : Int) - 1) (hs : ∀ y, 0 ≤ y → y ≤ (N : Int) - 1 → ∃ u, 0 ≤ u ∧ u ≤ (N : Int) - 1 ∧ f u = y) : ldCnt fs noSk N = ldCnt es noSk N := by
  rw [← LL_len, ← LL_len]
  have hφ : ∀ v : Nat, v < N → (0 ≤ leadF fs noSk (f v) ∧ leadF fs noSk (f v) ≤ (N : Int) - 1) := fun v hv => by
    have h1 := hr v (by omega) (by omega)
    have h2 := leadF_nonneg fs noSk (f v)
    have h3 := leadF_le (es := fs) (sk := noSk) h1.1
    omega
  have e : ((LL es N).map fun v : Nat => (leadF fs noSk (f (v : Int))).toNat).length = (LL es N).length := List.length_map _
  rw [← e]
  refine Nat.le_antisymm (len_le (LL_nodup _ _) fun x hx => ?_) (len_le ?_ fun x hx => ?_)
  · obtain ⟨hxN, hxl⟩ := LL_mem.1 hx
    obtain ⟨u, hu0, hu1, hfu⟩ := hs x (by omega) (by omega)
    have h1 := leadF_nonneg es noSk u
    have h2 := leadF_le (es := es) (sk := noSk) hu0
    have h3 := leadF_lead (es := es) (sk := noSk) hu0
    have hR := (leadF_spec (es := es) (sk := noSk) hu0).1
    have h4 := (M.rch hn ⟨hu0, hu1⟩ (v := leadF es noSk u) ⟨h1, by omega⟩).1 hR
    have h5 := hr (leadF es noSk u) h1 (by omega)
    have h6 := leadF_eq (es := fs) (sk := noSk) (hr u hu0 hu1).1 h5.1 h4
    refine List.mem_map.2 ⟨(leadF es noSk u).toNat, LL_mem.2 ⟨by omega, by rw [Int.toNat_of_nonneg h1]; exact h3⟩, ?_⟩
    show (leadF fs noSk (f ((leadF es noSk u).toNat : Nat))).toNat = x
    rw [Int.toNat_of_nonneg h1, ← h6, hfu, hxl]
    exact Int.toNat_natCast x
  · refine List.pairwise_map.2 ((LL_nodup es N).imp_of_mem fun {v w} hv hw hne heq => hne ?_)
    obtain ⟨hvN, hvl⟩ := LL_mem.1 hv
    obtain ⟨hwN, hwl⟩ := LL_mem.1 hw
    have h1 := hφ v hvN
    have h2 := hφ w hwN
    have h3 : leadF fs noSk (f v) = leadF fs noSk (f w) := by omega
    have h4 := (leadF_iff (hr v (by omega) (by omega)).1 (hr w (by omega) (by omega)).1).1 h3
    have h5 := (M.rch hn (u := (v : Int)) (v := (w : Int)) (by omega) (by omega)).2 h4
    have h6 := leadF_eq (es := es) (sk := noSk) (by omega) (by omega) h5
    omega
  · obtain ⟨v, hv, rfl⟩ := List.mem_map.1 hx
    obtain ⟨hvN, hvl⟩ := LL_mem.1 hv
    have h1 := hφ v hvN
    refine LL_mem.2 ⟨by omega, ?_⟩
    rw [Int.toNat_of_nonneg h1.1]
    exact leadF_lead (hr v (by omega) (by omega)).1
theorem bp_par {es : List (Int × Int)} {sk : Nat → Bool} {X : Int → Bool} (hX : ∀ e, e < es.length → X (ea es e) ≠ X (eb es e)) : ∀ {k : Nat} {u v : Int}, RchK es sk k u v → (X u = X v ↔ k % 2 = 0) := by
  intro k
  induction k with
  | zero => intro u v h; obtain rfl : u = v := h; simp
  | succ k ih =>
    intro u v h
    obtain ⟨x, hx, e, he, _, hh⟩ := h
    have h1 := ih hx
    have h2 := hX e he
    have h3 : X x ≠ X v := by
      rcases hh with ⟨a, b⟩ | ⟨a, b⟩
      · rw [a, b] at h2; exact h2
      · rw [a, b] at h2; exact fun h => h2 h.symm
    cases hu : X u <;> cases hx : X x <;> cases hv : X v <;> simp_all <;> omega
theorem bp_iff {n : Int} {es : List (Int × Int)} (hn : WfP n es) : bpB n es es.length = true ↔ ∃ X : Int → Bool, ∀ e, e < es.length → X (ea es e) ≠ X (eb es e) := by
  unfold bpB
  rw [B_iff]
  constructor
  · intro h
    refine ⟨fun v => decide (farF es noSk n (leadF es noSk v) v % 2 = 0), fun e he heq => h e he ?_⟩
    have r := hn.2.2.2.2 e he
    have ha : AdjE es noSk (ea es e) (eb es e) := ⟨e, he, rfl, .inl ⟨rfl, rfl⟩⟩
    have hl := leadF_eq (es := es) (sk := noSk) r.1 r.2.2.1 (Rch.adj ha)
    simp only at heq
    rw [← hl] at heq
    have h2 := decide_eq_decide.1 heq
    unfold bdP bdF
    omega
  · rintro ⟨X, hX⟩ e he hP
    obtain ⟨hl, h1, h2⟩ := bd_in hn he
    have w1 := bp_par (sk := noSk) hX (farF_way hn hl.1 hl.2 h1.1)
    have w2 := bp_par (sk := noSk) hX (farF_way hn hl.1 hl.2 h2.1)
    have h3 := hX e he
    unfold bdP bdF at hP
    unfold bdF at h1 h2
    cases hx : X (leadF es noSk (ea es e)) <;> cases ha : X (ea es e) <;> cases hb : X (eb es e) <;> simp_all <;> omega
def sV (f : Int → Int) : Nat → Int
  | 0 => 0
  | v + 1 => sV f v + f v
theorem sV_add (f g : Int → Int) : ∀ N, sV (fun v => f v + g v) N = sV f N + sV g N := by
  intro N
  induction N with
  | zero => rfl
  | succ N ih => simp only [sV, ih]; omega
theorem sV_congr {f g : Int → Int} : ∀ {N : Nat}, (∀ v : Nat, v < N → f v = g v) → sV f N = sV g N := by
  intro N
  induction N with
  | zero => intro _; rfl
  | succ N ih => intro h; simp only [sV]; rw [ih fun v hv => h v (by omega), h N (by omega)]
theorem sV_at (s : Int → Int) {x : Int} (h0 : 0 ≤ x) : ∀ N : Nat, sV (fun v => if x = v then s v else 0) N = if x < N then s x else 0 := by
  intro N
  induction N with
  | zero => rw [if_neg (by omega)]; rfl
  | succ N ih =>
    simp only [sV]
    rw [ih]
    by_cases h : x = N
    · rw [if_neg (by omega), if_pos h, if_pos (by omega), h]; omega
    · by_cases hlt : x < N
      · rw [if_pos hlt, if_neg h, if_pos (by omega)]; omega
      · rw [if_neg hlt, if_neg h, if_neg (by omega)]; rfl
theorem sV_mul (c : Int) (f : Int → Int) : ∀ N, sV (fun v => f v * c) N = sV f N * c := by
  intro N
  induction N with
  | zero => simp [sV]
  | succ N ih => simp only [sV, ih, Int.add_mul]
/-- In two halves with three edges at each vertex no edge is a bridge. -/
theorem half_way {N : Nat} {es : List (Int × Int)} (hG : IsG N es) {X : Int → Bool} (hX : ∀ e, e < es.length → X (ea es e) ≠ X (eb es e)) {k : Nat} (hk : k < es.length) : Rch es (skI k) (ea es k) (eb es k) := by
  refine Classical.byContradiction fun hno => ?_
  have hn := hG.wf
  obtain ⟨Y, hY⟩ : ∃ Y : Int → Bool, Y = fun v => B (Rch es (skI k) (ea es k) v) := ⟨_, rfl⟩
  have y1 : Y (ea es k) = true := by rw [hY]; exact B_true (Rch.refl _ _ _)
  have y2 : Y (eb es k) = false := by rw [hY]; exact B_false hno
  have yd : ∀ d, d < es.length → d ≠ k → Y (ea es d) = Y (eb es d) := fun d hd hne => by
    have hs : skI (k : Int) d = false := by simp [skI]; omega
    rw [hY]
    exact B_congr ⟨fun h => h.step ⟨d, hd, hs, .inl ⟨rfl, rfl⟩⟩, fun h => h.step ⟨d, hd, hs, .inr ⟨rfl, rfl⟩⟩⟩
  clear hY hno
  obtain ⟨s, hs⟩ : ∃ s : Int → Int, s = fun v => if Y v then (if X v then 1 else -1) else 0 := ⟨_, rfl⟩
  have hT : ∀ d, d ≤ es.length → sV (fun v => s v * degTo es d v) N = if k < d then s (ea es k) else 0 := by
    intro d
    induction d with
    | zero => intro _; rw [if_neg (by omega)]; exact (sV_congr (g := fun v => s v * 0) fun v _ => rfl).trans (by rw [sV_mul]; simp)
    | succ d ih =>
      intro hd
      have ih := ih (by omega)
      have hw := hn.2.2.2.2 d hd
      have e1 : sV (fun v => s v * degTo es (d + 1) v) N = sV (fun v => s v * degTo es d v) N + s (ea es d) + s (eb es d) := by
        rw [sV_congr (g := fun v => (s v * degTo es d v + if ea es d = v then s v else 0) + if eb es d = v then s v else 0) fun v _ => by
          by_cases h1 : ea es d = v <;> by_cases h2 : eb es d = v <;> simp [degTo, h1, h2, Int.mul_add]]
        rw [sV_add (fun v => s v * degTo es d v + if ea es d = v then s v else 0), sV_add, sV_at s hw.1, sV_at s hw.2.2.1, if_pos (by omega), if_pos (by omega)]
      rw [e1, ih]
      by_cases hdk : d = k
      · subst hdk
        rw [if_neg (by omega), if_pos (by omega)]
        have : s (eb es d) = 0 := by rw [hs]; simp only [y2]; rfl
        omega
      · have h0 : s (ea es d) + s (eb es d) = 0 := by
          have h1 := yd d hd hdk
          have h2 := hX d hd
          rw [hs]
          simp only [h1]
          cases Y (eb es d) with
          | false => rfl
          | true => cases ha : X (ea es d) <;> cases hb : X (eb es d) <;> simp_all
        by_cases hkd : k < d
        · rw [if_pos hkd, if_pos (by omega)]; omega
        · rw [if_neg hkd, if_neg (by omega)]; omega
  have h1 := hT es.length (Nat.le_refl _)
  rw [if_pos hk, sV_congr (g := fun v => s v * 3) fun v hv => by rw [hG.2.1 v (by omega) (by omega)], sV_mul] at h1
  have h2 : s (ea es k) = 1 ∨ s (ea es k) = -1 := by
    rw [hs]; simp only [y1]
    cases X (ea es k) with
    | true => exact .inl rfl
    | false => exact .inr rfl
  omega
theorem gTo_spec (n : Int) (es : List (Int × Int)) : ∀ m, gTo n es m ≤ n + 1 ∧ (∀ k, k < m → 0 < gF n es k → gTo n es m ≤ gF n es k + 1) ∧ ((gTo n es m = n + 1) ∨ ∃ k, k < m ∧ 0 < gF n es k ∧ gTo n es m = gF n es k + 1) := by
  intro m
  induction m with
  | zero => exact ⟨Int.le_refl _, fun k hk => by omega, .inl rfl⟩
  | succ m ih =>
    obtain ⟨h1, h2, h3⟩ := ih
    simp only [gTo]
    by_cases hp : 0 < gF n es m
    · rw [if_pos hp]
      refine ⟨by omega, fun k hk hgk => ?_, ?_⟩
      · by_cases e : k = m
        · subst e; omega
        · have := h2 k (by omega) hgk; omega
      · by_cases hle : gTo n es m ≤ gF n es m + 1
        · rw [Int.min_eq_left hle]
          rcases h3 with h3 | ⟨k, hk, h4, h5⟩
          · exact .inl h3
          · exact .inr ⟨k, by omega, h4, h5⟩
        · exact .inr ⟨m, by omega, hp, by omega⟩
    · rw [if_neg hp]
      refine ⟨h1, fun k hk hgk => ?_, ?_⟩
      · by_cases e : k = m
        · subst e; omega
        · exact h2 k (by omega) hgk
      · rcases h3 with h3 | ⟨k, hk, h4, h5⟩
        · exact .inl h3
        · exact .inr ⟨k, by omega, h4, h5⟩
theorem girth_even {N : Nat} {es : List (Int × Int)} (hG : IsG N es) (hb : bpB N es es.length = true) : gTo N es es.length % 2 = 0 := by
  have hn := hG.wf
  obtain ⟨X, hX⟩ := (bp_iff hn).1 hb
  have hm : 0 < es.length := by have := hn.1; have := hn.2.2.2.1; omega
  have key : ∀ k, k < es.length → 0 < gF N es k → gF N es k % 2 = 1 := fun k hk hp => by
    have hw := hn.2.2.2.2 k hk
    have h1 := bp_par hX (farF_way (sk := skI k) hn hw.1 hw.2.1 (v := eb es k) (by unfold gF at hp; omega))
    have h2 := hX k hk
    unfold gF at hp ⊢
    have h3 : ¬ (farF es (skI k) N (ea es k) (eb es k)).toNat % 2 = 0 := fun h => h2 (h1.2 h)
    omega
  obtain ⟨_, h2, h3⟩ := gTo_spec N es es.length
  rcases h3 with h3 | ⟨k, hk, hp, h3⟩
  · exfalso
    have hw := hn.2.2.2.2 0 hm
    have h4 := (farF_iff (sk := skI (0 : Nat)) hn hw.1 hw.2.1 (eb es 0)).2 (half_way hG hX hm)
    have h5 := (farF_pos (sk := skI (0 : Nat)) hn hw.1 hw.2.1 (v := eb es 0) (fun h => hw.2.2.2.2 h.symm)).1 h4
    have h6 := h2 0 hm h5
    have h7 := (farF_bd (sk := skI (0 : Nat)) hn hw.1 hw.2.1 (eb es 0)).2
    have h8 := key 0 hm h5
    have h9 := (farF_inv (sk := skI (0 : Nat)) hn hw.1 hw.2.1).hi (eb es 0)
    have h10 := (farF_inv (sk := skI (0 : Nat)) hn hw.1 hw.2.1).len
    have hn2 := hn.2.2.1
    unfold gF at h6 h8
    unfold farF at h6 h8
    omega
  · have := key k hk hp; omega
end Go.Proofs.YtajnhkkiddeegaaGreat
namespace Go.Proofs.YtajnhkkiddeegaaGreat
open Go.RowKit Go.Sort
def fL (ls : Nat → Int) : Int → Int := fun v => ls v.toNat
theorem ord_rng {ls : Nat → Int} {l : Nat} {n : Int} (hO : OrdP ls l n) : ∀ u, 0 ≤ u → u ≤ n - 1 → 0 ≤ fL ls u ∧ fL ls u ≤ n - 1 := fun u h0 h1 => by
  have := hO.1
  exact hO.2.1 u.toNat (by omega)
theorem ord_inj {ls : Nat → Int} {l : Nat} {n : Int} (hO : OrdP ls l n) : ∀ u v, 0 ≤ u → u ≤ n - 1 → 0 ≤ v → v ≤ n - 1 → fL ls u = fL ls v → u = v := fun u v h0 h1 h2 h3 he => by
  have := hO.1
  have := hO.2.2 u.toNat v.toNat (by omega) (by omega) he
  omega
theorem ord_surj {ls : Nat → Int} {l : Nat} {n : Int} (hO : OrdP ls l n) : ∀ y, 0 ≤ y → y ≤ n - 1 → ∃ u, 0 ≤ u ∧ u ≤ n - 1 ∧ fL ls u = y := fun y h0 h1 => by
  have hl := hO.1
  obtain ⟨a, ha, e⟩ := surj_of_inj (n := l) (f := fun a => (ls a).toNat) (fun a ha => by have := hO.2.1 a ha; show (ls a).toNat < l; omega) (fun a b ha hb e => hO.2.2 a b ha hb (by
    have h1 := hO.2.1 a ha
    have h2 := hO.2.1 b hb
    have e : (ls a).toNat = (ls b).toNat := e
    omega)) y.toNat (by omega)
  have e : (ls a).toNat = y.toNat := e
  have h2 := hO.2.1 a ha
  refine ⟨a, by omega, by omega, ?_⟩
  unfold fL
  rw [Int.toNat_natCast]
  omega
theorem ea_map {ls : Nat → Int} {es : List (Int × Int)} {i : Nat} (hi : i < es.length) : ea (es.map (rnE ls)) i = fL ls (ea es i) ∧ eb (es.map (rnE ls)) i = fL ls (eb es i) := by
  constructor <;> simp [ea, eb, rnE, fL, hi]
theorem rn_isG {n : Int} {es : List (Int × Int)} {ls : Nat → Int} {l : Nat} (hG : IsG n es) (hO : OrdP ls l n) : IsG n (srtE (es.map (rnE ls))) := by
  have hw := hG.wf
  refine isG_srt ⟨hw.1, hw.2.1, hw.2.2.1⟩ (by rw [List.length_map]; exact hw.2.2.2.1) (fun e he => ?_) (fun v h0 h1 => ?_)
  · obtain ⟨x, hx, rfl⟩ := List.mem_map.1 he
    have h := wfP_mem hw x hx
    unfold WfE at h
    have h1 := ord_rng hO x.1 h.1 h.2.1
    have h2 := ord_rng hO x.2 h.2.2.1 h.2.2.2.1
    exact ⟨h1.1, h1.2, h2.1, h2.2, fun heq => h.2.2.2.2 (ord_inj hO _ _ h.1 h.2.1 h.2.2.1 h.2.2.2.1 heq)⟩
  · obtain ⟨u, hu0, hu1, rfl⟩ := ord_surj hO v h0 (by omega)
    rw [degS_map (u := u) fun e he => ?_]
    · exact isG_deg hG hu0 (by omega)
    · have h := wfP_mem hw e he
      unfold WfE at h
      have e1 : (rnE ls e).1 = fL ls u ↔ e.1 = u := ⟨fun h' => ord_inj hO _ _ h.1 h.2.1 hu0 hu1 h', fun h' => by rw [← h']; rfl⟩
      have e2 : (rnE ls e).2 = fL ls u ↔ e.2 = u := ⟨fun h' => ord_inj hO _ _ h.2.2.1 h.2.2.2.1 hu0 hu1 h', fun h' => by rw [← h']; rfl⟩
      unfold dgE
      simp only [e1, e2]
theorem rn_map {n : Int} {es : List (Int × Int)} {ls : Nat → Int} {l : Nat} (hO : OrdP ls l n) {σ τ : Nat → Nat} {sk sk' : Nat → Bool}
    (h1 : ∀ i, i < (es.map (rnE ls)).length → σ i < (srtE (es.map (rnE ls))).length ∧ τ (σ i) = i ∧ ((ea (srtE (es.map (rnE ls))) (σ i) = ea (es.map (rnE ls)) i ∧ eb (srtE (es.map (rnE ls))) (σ i) = eb (es.map (rnE ls)) i) ∨ (ea (srtE (es.map (rnE ls))) (σ i) = eb (es.map (rnE ls)) i ∧ eb (srtE (es.map (rnE ls))) (σ i) = ea (es.map (rnE ls)) i)))
    (h2 : ∀ j, j < (srtE (es.map (rnE ls))).length → τ j < (es.map (rnE ls)).length ∧ σ (τ j) = j) (hs : ∀ i, i < es.length → sk' (σ i) = sk i) : EMap es (srtE (es.map (rnE ls))) sk sk' (fL ls) n := by
  have key : ∀ i, i < es.length → σ i < (srtE (es.map (rnE ls))).length ∧ ((ea (srtE (es.map (rnE ls))) (σ i) = fL ls (ea es i) ∧ eb (srtE (es.map (rnE ls))) (σ i) = fL ls (eb es i)) ∨ (ea (srtE (es.map (rnE ls))) (σ i) = fL ls (eb es i) ∧ eb (srtE (es.map (rnE ls))) (σ i) = fL ls (ea es i))) := fun i hi => by
    obtain ⟨a, _, c⟩ := h1 i (by rw [List.length_map]; exact hi)
    rw [(ea_map hi).1, (ea_map hi).2] at c
    exact ⟨a, c⟩
  refine ⟨fun i hi hsi => ⟨σ i, (key i hi).1, (hs i hi).trans hsi, (key i hi).2⟩, fun j hj hsj _ => ?_, ord_inj hO⟩
  obtain ⟨a, b⟩ := h2 j hj
  rw [List.length_map] at a
  refine ⟨τ j, a, ?_, ?_⟩
  · rw [← hs _ a, b]; exact hsj
  · have := (key _ a).2
    rw [b] at this
    exact this
theorem gTo_le {n : Int} {es fs : List (Int × Int)} {m m' : Nat} (h : ∀ k, k < m → 0 < gF n es k → ∃ j, j < m' ∧ gF n fs j = gF n es k) : gTo n fs m' ≤ gTo n es m := by
  obtain ⟨_, _, h3⟩ := gTo_spec n es m
  obtain ⟨h4, h5, _⟩ := gTo_spec n fs m'
  rcases h3 with h3 | ⟨k, hk, hp, h3⟩
  · omega
  · obtain ⟨j, hj, e⟩ := h k hk hp
    have := h5 j hj (by omega)
    omega
theorem rn_girth {n : Int} {es : List (Int × Int)} {ls : Nat → Int} {l : Nat} (hG : IsG n es) (hO : OrdP ls l n) : gTo n (srtE (es.map (rnE ls))) (srtE (es.map (rnE ls))).length = gTo n es es.length := by
  have hG' := rn_isG hG hO
  have hw := hG.wf
  have hw' := hG'.wf
  obtain ⟨σ, τ, h1, h2⟩ := srt_idx (es.map (rnE ls))
  have hgF : ∀ i, i < es.length → σ i < (srtE (es.map (rnE ls))).length ∧ gF n (srtE (es.map (rnE ls))) (σ i) = gF n es i := fun i hi => by
    obtain ⟨a, b, c⟩ := h1 i (by rw [List.length_map]; exact hi)
    have M := rn_map (sk := skI i) (sk' := skI (σ i)) hO h1 h2 (fun i' hi' => by
      obtain ⟨_, b', _⟩ := h1 i' (by rw [List.length_map]; exact hi')
      unfold skI
      refine decide_eq_decide.2 ⟨fun h => ?_, fun h => ?_⟩
      · have h : σ i' = σ i := by omega
        rw [← b, ← b', h]
      · have h : i' = i := by omega
        rw [h])
    have r := hw.2.2.2.2 i hi
    have f1 := ord_rng hO (ea es i) r.1 r.2.1
    have f2 := ord_rng hO (eb es i) r.2.2.1 r.2.2.2.1
    have hf := M.far hw hw' (u := ea es i) (v := eb es i) ⟨r.1, r.2.1⟩ ⟨r.2.2.1, r.2.2.2.1⟩ f1
    rw [(ea_map hi).1, (ea_map hi).2] at c
    refine ⟨a, ?_⟩
    unfold gF
    rcases c with ⟨c1, c2⟩ | ⟨c1, c2⟩
    · rw [c1, c2]; exact hf.symm
    · rw [c1, c2, far_symm hw' f2.1 f2.2 f1.1 f1.2]; exact hf.symm
  refine Int.le_antisymm (gTo_le fun k hk _ => ⟨σ k, hgF k hk⟩) (gTo_le fun j hj _ => ?_)
  obtain ⟨a, b⟩ := h2 j hj
  rw [List.length_map] at a
  have := (hgF _ a).2
  rw [b] at this
  exact ⟨τ j, a, this.symm⟩
theorem rn_parts {N : Nat} {es : List (Int × Int)} {ls : Nat → Int} {l : Nat} (hG : IsG N es) (hO : OrdP ls l N) : ldCnt (srtE (es.map (rnE ls))) noSk N = ldCnt es noSk N := by
  obtain ⟨σ, τ, h1, h2⟩ := srt_idx (es.map (rnE ls))
  exact cnt_map (rn_map (sk := noSk) (sk' := noSk) hO h1 h2 fun _ _ => rfl) hG.wf (ord_rng hO) (ord_surj hO)
theorem rn_half {n : Int} {es : List (Int × Int)} {ls : Nat → Int} {l : Nat} (hG : IsG n es) (hO : OrdP ls l n) : bpB n (srtE (es.map (rnE ls))) (srtE (es.map (rnE ls))).length = bpB n es es.length := by
  have hw' := (rn_isG hG hO).wf
  have hw := hG.wf
  obtain ⟨σ, τ, h1, h2⟩ := srt_idx (es.map (rnE ls))
  have M := rn_map (sk := noSk) (sk' := noSk) hO h1 h2 fun _ _ => rfl
  rw [Bool.eq_iff_iff, bp_iff hw', bp_iff hw]
  constructor
  · rintro ⟨X, hX⟩
    refine ⟨fun v => X (fL ls v), fun e he => ?_⟩
    obtain ⟨j, hj, _, hh⟩ := M.fwd e he rfl
    have := hX j hj
    rcases hh with ⟨a, b⟩ | ⟨a, b⟩
    · rw [a, b] at this; exact this
    · rw [a, b] at this; exact fun h => this h.symm
  · rintro ⟨X, hX⟩
    obtain ⟨g, hg⟩ : ∃ g : Int → Int, ∀ u, 0 ≤ u → u ≤ n - 1 → g (fL ls u) = u := by
      refine ⟨fun y => @dite _ (∃ u, 0 ≤ u ∧ u ≤ n - 1 ∧ fL ls u = y) (Classical.propDecidable _) (fun h => h.choose) (fun _ => 0), fun u h0 h1 => ?_⟩
      have hex : ∃ u', 0 ≤ u' ∧ u' ≤ n - 1 ∧ fL ls u' = fL ls u := ⟨u, h0, h1, rfl⟩
      simp only [dif_pos hex]
      exact ord_inj hO _ _ hex.choose_spec.1 hex.choose_spec.2.1 h0 h1 hex.choose_spec.2.2
    refine ⟨fun y => X (g y), fun j hj => ?_⟩
    have r := hw'.2.2.2.2 j hj
    obtain ⟨u, hu0, hu1, hu⟩ := ord_surj hO _ r.1 r.2.1
    obtain ⟨i, hi, _, hh⟩ := M.bwd j hj rfl ⟨u, hu0, hu1, .inl hu.symm⟩
    have q := hw.2.2.2.2 i hi
    have := hX i hi
    show X (g _) ≠ X (g _)
    rcases hh with ⟨a, b⟩ | ⟨a, b⟩
    · rw [a, b, hg _ q.1 q.2.1, hg _ q.2.2.1 q.2.2.2.1]; exact this
    · rw [a, b, hg _ q.1 q.2.1, hg _ q.2.2.1 q.2.2.2.1]; exact fun h => this h.symm
theorem bes_len (n : Int) (es fs : List (Int × Int)) : (besL n es fs).length = es.length + fs.length := by rw [besL, List.length_append, List.length_map]
theorem bes_lo {n : Int} {es fs : List (Int × Int)} {i : Nat} (hi : i < es.length) : ea (besL n es fs) i = ea es i ∧ eb (besL n es fs) i = eb es i := by
  constructor <;> simp [ea, eb, besL, List.getElem?_append_left hi, hi]
theorem bes_hi {n : Int} {es fs : List (Int × Int)} {i : Nat} (hi : i < fs.length) : ea (besL n es fs) (es.length + i) = ea fs i + n ∧ eb (besL n es fs) (es.length + i) = eb fs i + n := by
  constructor <;> simp [ea, eb, besL, shE, hi]
theorem be_isG {n1 n2 : Int} {es fs : List (Int × Int)} (h1 : IsG n1 es) (h2 : IsG n2 fs) (hs : n1 + n2 ≤ 20) : IsG (n1 + n2) (srtE (besL n1 es fs)) := by
  have w1 := h1.wf
  have w2 := h2.wf
  have a1 := w1.1
  have a2 := w2.1
  have e1 := w1.2.2.1
  have e2 := w2.2.2.1
  have l1 := w1.2.2.2.1
  have l2 := w2.2.2.2.1
  refine isG_srt ⟨by omega, hs, by omega⟩ (by rw [bes_len]; omega) (fun e he => ?_) (fun v h0 hv => ?_)
  · rcases mem_bes he with he | ⟨f, hf, rfl⟩
    · have := wfP_mem w1 e he; unfold WfE at this ⊢; omega
    · have := wfP_mem w2 f hf; unfold WfE at this ⊢; simp only; omega
  · unfold besL
    rw [degS_app]
    by_cases hlt : v < n1
    · rw [isG_deg h1 h0 hlt, degS_zero fun e he => ?_]
      · rfl
      · obtain ⟨f, hf, rfl⟩ := List.mem_map.1 he
        have := wfP_mem w2 f hf
        unfold WfE at this
        show (if f.1 + n1 = v then (1 : Int) else 0) + (if f.2 + n1 = v then (1 : Int) else 0) = 0
        rw [if_neg (by omega), if_neg (by omega)]
        rfl
    · rw [degS_zero fun e he => ?_, degS_map (u := v - n1) fun f hf => ?_, isG_deg h2 (by omega) (by omega)]
      · rfl
      · simp only [dgE, shE]
        have e1 : f.1 + n1 = v ↔ f.1 = v - n1 := by omega
        have e2 : f.2 + n1 = v ↔ f.2 = v - n1 := by omega
        simp only [e1, e2]
      · have := wfP_mem w1 e he
        unfold WfE at this
        unfold dgE
        rw [if_neg (by omega), if_neg (by omega)]
        rfl
theorem be_map1 {n1 n2 : Int} {es fs : List (Int × Int)} (h1 : WfP n1 es) (h2 : WfP n2 fs) : EMap es (srtE (besL n1 es fs)) noSk noSk (fun v => v + 0) n1 := by
  obtain ⟨σ, τ, p1, p2⟩ := srt_idx (besL n1 es fs)
  rw [bes_len] at p1 p2
  refine ⟨fun i hi _ => ?_, fun j hj _ hu => ?_, fun u v _ _ _ _ h => by simpa using h⟩
  · obtain ⟨a, _, c⟩ := p1 i (by omega)
    rw [(bes_lo hi).1, (bes_lo hi).2] at c
    refine ⟨σ i, a, rfl, ?_⟩
    simp only [Int.add_zero]
    exact c
  · obtain ⟨a, b⟩ := p2 j hj
    obtain ⟨_, _, c⟩ := p1 _ a
    rw [b] at c
    by_cases hi : τ j < es.length
    · rw [(bes_lo hi).1, (bes_lo hi).2] at c
      refine ⟨τ j, hi, rfl, ?_⟩
      simp only [Int.add_zero]
      exact c
    · exfalso
      obtain ⟨i, hi2⟩ : ∃ i, τ j = es.length + i := ⟨τ j - es.length, by omega⟩
      rw [hi2, (bes_hi (show i < fs.length by omega)).1, (bes_hi (show i < fs.length by omega)).2] at c
      have r := h2.2.2.2.2 i (by omega)
      obtain ⟨u, hu0, hu1, hu⟩ := hu
      omega
theorem be_map2 {n1 n2 : Int} {es fs : List (Int × Int)} (h1 : WfP n1 es) : EMap fs (srtE (besL n1 es fs)) noSk noSk (fun v => v + n1) n2 := by
  obtain ⟨σ, τ, p1, p2⟩ := srt_idx (besL n1 es fs)
  rw [bes_len] at p1 p2
  refine ⟨fun i hi _ => ?_, fun j hj _ hu => ?_, fun u v _ _ _ _ h => by omega⟩
  · obtain ⟨a, _, c⟩ := p1 (es.length + i) (by omega)
    rw [(bes_hi hi).1, (bes_hi hi).2] at c
    exact ⟨σ (es.length + i), a, rfl, c⟩
  · obtain ⟨a, b⟩ := p2 j hj
    obtain ⟨_, _, c⟩ := p1 _ a
    rw [b] at c
    by_cases hi : τ j < es.length
    · exfalso
      rw [(bes_lo hi).1, (bes_lo hi).2] at c
      have r := h1.2.2.2.2 _ hi
      obtain ⟨u, hu0, hu1, hu⟩ := hu
      omega
    · obtain ⟨i, hi2⟩ : ∃ i, τ j = es.length + i := ⟨τ j - es.length, by omega⟩
      rw [hi2, (bes_hi (show i < fs.length by omega)).1, (bes_hi (show i < fs.length by omega)).2] at c
      exact ⟨i, by omega, rfl, c⟩
theorem be_parts {N1 N2 : Nat} {es fs : List (Int × Int)} (h1 : WfP N1 es) (h2 : WfP N2 fs) : ldCnt (srtE (besL N1 es fs)) noSk (N1 + N2) = ldCnt es noSk N1 + ldCnt fs noSk N2 := by
  have M1 := be_map1 h1 h2
  have M2 := be_map2 (n2 := N2) (fs := fs) h1
  have k1 : ∀ k, k ≤ N1 → ldCnt (srtE (besL N1 es fs)) noSk k = ldCnt es noSk k := by
    intro k
    induction k with
    | zero => intro _; rfl
    | succ k ih =>
      intro hk
      have hl := M1.lead h1 (by omega) (v := (k : Int)) (by omega)
      rw [Int.add_zero, Int.add_zero] at hl
      simp only [ldCnt]
      rw [ih (by omega), hl]
  have k2 : ∀ k, k ≤ N2 → ldCnt (srtE (besL N1 es fs)) noSk (N1 + k) = ldCnt es noSk N1 + ldCnt fs noSk k := by
    intro k
    induction k with
    | zero => intro _; exact k1 N1 (Nat.le_refl _)
    | succ k ih =>
      intro hk
      have hl := M2.lead h2 (by omega) (v := (k : Int)) (by omega)
      have e : ((N1 + k : Nat) : Int) = (k : Int) + N1 := by omega
      rw [← Nat.add_assoc]
      simp only [ldCnt]
      rw [ih (by omega), e, hl]
      by_cases hc : leadF fs noSk (k : Int) = k
      · rw [if_pos (by omega), if_pos hc]; omega
      · rw [if_neg (by omega), if_neg hc]; omega
  exact k2 N2 (Nat.le_refl _)
theorem po_len {n : Int} {es : List (Int × Int)} (hG : IsG n es) : (poL n es).length = ldCnt es noSk n.toNat := by
  unfold poL; rw [B_true hG, if_pos rfl, sdTo_len]
theorem im_of {n : Int} {es : List (Int × Int)} (hG : IsG n es) : imC n es = 0 := by unfold imC; rw [B_true hG, if_pos rfl]
theorem gi_of {n : Int} {es : List (Int × Int)} (hG : IsG n es) : giV n es = gTo n es es.length := by unfold giV; rw [B_true hG, if_pos rfl]
noncomputable def biB (n : Int) (es : List (Int × Int)) : Bool := B (IsG n es) && bpB n es es.length
theorem bi_of {n : Int} {es : List (Int × Int)} (hG : IsG n es) : biB n es = bpB n es es.length := by unfold biB; rw [B_true hG, Bool.true_and]
theorem rg_law {n : Int} {es : List (Int × Int)} {ls : Nat → Int} {l : Nat} (h : rgC n es ls l = 0) : imC n es = 0 ∧ imC (rgN n es ls l) (rgL n es ls l) = 0 ∧ giV (rgN n es ls l) (rgL n es ls l) = giV n es ∧ (poL (rgN n es ls l) (rgL n es ls l)).length = (poL n es).length ∧
    biB (rgN n es ls l) (rgL n es ls l) = biB n es ∧ icnV n es = decide ((poL n es).length = 1) ∧ (biB n es = true → giV n es % 2 = 0) ∧ 0 ≤ giV n es ∧ giV n es ≤ 21 := by
  obtain ⟨hG, hO⟩ : IsG n es ∧ OrdP ls l n := by
    unfold rgC gcC at h
    by_cases hG : IsG n es
    · rw [B_true hG, if_pos rfl] at h
      by_cases hO : OrdP ls l n
      · exact ⟨hG, hO⟩
      · rw [B_false hO] at h; simp at h
    · rw [B_false hG] at h; simp at h
  obtain ⟨_, e1, e2⟩ := rg_0 h
  have hG' := rn_isG hG hO
  have hw := hG.wf
  rw [e1, e2]
  refine ⟨im_of hG, im_of hG', ?_, ?_, ?_, ?_, fun hb => ?_, ?_⟩
  · rw [gi_of hG', gi_of hG, rn_girth hG hO]
  · rw [po_len hG', po_len hG]
    obtain ⟨N, rfl⟩ : ∃ N : Nat, n = N := ⟨n.toNat, by have := hw.1; omega⟩
    exact rn_parts hG hO
  · rw [bi_of hG', bi_of hG, rn_half hG hO]
  · unfold icnV cnB'; rw [B_true hG, Bool.true_and, po_len hG]
  · rw [bi_of hG] at hb
    rw [gi_of hG]
    obtain ⟨N, rfl⟩ : ∃ N : Nat, n = N := ⟨n.toNat, by have := hw.1; omega⟩
    exact girth_even hG hb
  · rw [gi_of hG]; exact gTo_bd hw _ (Nat.le_refl _)
theorem pb_law {n1 n2 : Int} {es fs : List (Int × Int)} (h : pbC n1 es n2 fs = 0) : imC n1 es = 0 ∧ imC n2 fs = 0 ∧ imC (pbN n1 es n2 fs) (pbL n1 es n2 fs) = 0 ∧ (poL (pbN n1 es n2 fs) (pbL n1 es n2 fs)).length = (poL n1 es).length + (poL n2 fs).length := by
  obtain ⟨h1, h2, hs⟩ : IsG n1 es ∧ IsG n2 fs ∧ n1 + n2 ≤ 20 := by
    unfold pbC at h
    by_cases h1 : IsG n1 es
    · by_cases h2 : IsG n2 fs
      · rw [B_true h1, B_true h2] at h
        by_cases hs : 20 < n1 + n2
        · simp [hs] at h
        · exact ⟨h1, h2, by omega⟩
      · rw [B_false h2] at h; simp at h
    · rw [B_false h1] at h; simp at h
  obtain ⟨_, e1, e2⟩ := pb_0 h
  have hG := be_isG h1 h2 hs
  rw [e1, e2]
  refine ⟨im_of h1, im_of h2, im_of hG, ?_⟩
  rw [po_len hG, po_len h1, po_len h2]
  obtain ⟨N1, rfl⟩ : ∃ N1 : Nat, n1 = N1 := ⟨n1.toNat, by have := h1.wf.1; omega⟩
  obtain ⟨N2, rfl⟩ : ∃ N2 : Nat, n2 = N2 := ⟨n2.toNat, by have := h2.wf.1; omega⟩
  have := be_parts h1.wf h2.wf
  rw [show ((N1 : Int) + N2).toNat = N1 + N2 by omega]
  exact this
end Go.Proofs.YtajnhkkiddeegaaGreat
