import Derived.Test.YtppfplhbfgjjhaaDoorFn
import Derived.Test.YtppfplhbfgjjhaaDoorPf
import Derived.Lib.TrailingZeros
namespace Go.Proofs.YtppfplhbfgjjhaaDoor
open Go.RowKit Go.Sort
/-! ### Matchings, plain -/
def othN (es : List (Int × Int)) (e : Int) (v : Nat) : Int := ea es e.toNat + eb es e.toNat - v
def mtT (R : Nat → List (List Int)) (es : List (Int × Int)) (v s : Nat) (L : List Int) : Nat → List (List Int)
  | 0 => []
  | i + 1 => mtT R es v s L i ++ (if s.testBit (othN es (ia L i) v).toNat then [] else (R (s ||| 2 ^ v ||| 2 ^ (othN es (ia L i) v).toNat)).map (ia L i :: ·))
def lz (s n : Nat) : Nat := ((List.range n).find? (fun v => !s.testBit v)).getD n
def mts (es : List (Int × Int)) (n : Nat) : Nat → Nat → List (List Int)
  | 0, _ => [[]]
  | k + 1, s => if s = 2 ^ n - 1 then [[]] else mtT (mts es n k) es (lz s n) s (atL es (lz s n)) 3
def uns (s n : Nat) : Nat := ((List.range n).filter (fun v => !s.testBit v)).length
theorem lz_spec (s n : Nat) : lz s n ≤ n ∧ (∀ j, j < lz s n → s.testBit j = true) ∧ (lz s n < n → s.testBit (lz s n) = false) := by
  unfold lz
  cases h : (List.range n).find? (fun v => !s.testBit v) with
  | none =>
    have := List.find?_eq_none.1 h
    refine ⟨Nat.le_refl _, fun j hj => ?_, fun hh => absurd hh (Nat.lt_irrefl _)⟩
    have := this j (List.mem_range.2 hj)
    simpa using this
  | some v =>
    have hv := List.find?_some h
    obtain ⟨hp, l1, l2, he, has⟩ := List.find?_eq_some_iff_append.1 h
    have hl : ∀ j (hj : j < (List.range n).length), (List.range n)[j] = j := by simp
    have hva : l1.length < (List.range n).length := by rw [he]; simp
    have hvv : v = l1.length := by
      have h1 := hl l1.length hva
      have h2 : (List.range n)[l1.length]'hva = v := by simp [he]
      omega
    have hvn : v < n := by simp at hva; omega
    refine ⟨by simp; omega, fun j hj => ?_, fun _ => by simpa using hv⟩
    simp only [Option.getD_some] at hj
    have h3 : (List.range n)[j]'(by simp; omega) ∈ l1 := by
      have : (List.range n)[j]'(by simp; omega) = l1[j]'(by omega) := by
        have : ∀ (xs : List Nat) (e : xs = l1 ++ v :: l2) (h : j < xs.length), xs[j] = l1[j]'(by omega) := by
          intro xs e h; subst e; rw [List.getElem_append_left (by omega)]
        exact this _ he _
      rw [this]; exact List.getElem_mem _
    have := has _ h3
    simpa using this
theorem lz_uniq {s n v : Nat} (h1 : v ≤ n) (h2 : ∀ j, j < v → s.testBit j = true) (h3 : v < n → s.testBit v = false) : lz s n = v := by
  obtain ⟨g1, g2, g3⟩ := lz_spec s n
  rcases Nat.lt_trichotomy (lz s n) v with h | h | h
  · have := h2 _ h; rw [g3 (by omega)] at this; cases this
  · exact h
  · have := g2 _ h; rw [h3 (by omega)] at this; cases this
theorem testBit_full (n j : Nat) : (2 ^ n - 1).testBit j = decide (j < n) := by rw [Nat.testBit_two_pow_sub_one]
theorem lz_lt {s n : Nat} (hs : s < 2 ^ n) (hne : s ≠ 2 ^ n - 1) : lz s n < n := by
  obtain ⟨g1, g2, g3⟩ := lz_spec s n
  refine Nat.lt_of_le_of_ne g1 fun e => hne ?_
  apply Nat.eq_of_testBit_eq
  intro j
  rw [testBit_full]
  by_cases h : j < n
  · rw [g2 j (by omega)]; simp [h]
  · rw [Nat.testBit_lt_two_pow (Nat.lt_of_lt_of_le hs (Nat.pow_le_pow_right (by decide) (by omega)))]; simp [h]
/-- The trailing zeros of the complement. -/
theorem ctz_lz {s n : Nat} (hn : n ≤ 64) (hs : s < 2 ^ n) (hne : s ≠ 2 ^ n - 1) : Lib.ctz 64 (18446744073709551615 - s) = lz s n := by
  have hl := lz_lt hs hne
  have hb : s < 2 ^ 64 := Nat.lt_of_lt_of_le hs (Nat.pow_le_pow_right (by decide) hn)
  have hbit : ∀ j, (18446744073709551615 - s).testBit j = (decide (j < 64) && !s.testBit j) := fun j => by
    have := Nat.testBit_two_pow_sub_succ hb j
    rw [show (18446744073709551615 - s) = 2 ^ 64 - (s + 1) by omega]
    exact this
  have h0 : 18446744073709551615 - s ≠ 0 := by
    intro h
    have h1 := hbit (lz s n)
    rw [h, (lz_spec s n).2.2 hl] at h1
    simp at h1; omega
  have hx : Lib.ctz 64 (18446744073709551615 - s) = Lib.ctzFrom 64 (18446744073709551615 - s) := by unfold Lib.ctz; rw [if_neg h0]
  rw [hx]
  obtain ⟨m, hm, hk⟩ := Lib.ctzFrom_spec 64 (18446744073709551615 - s) (by omega) (by omega)
  generalize Lib.ctzFrom 64 (18446744073709551615 - s) = k at hm hk ⊢
  have htb : ∀ j, (2 ^ k * (2 * m + 1)).testBit j = (decide (k ≤ j) && (2 * m + 1).testBit (j - k)) := fun j => by
    rw [Nat.mul_comm, Nat.testBit_mul_two_pow]
  have hsj : ∀ j, j < k → s.testBit j = true := fun j hj => by
    have h1 := hbit j
    rw [hm, htb, show decide (k ≤ j) = false by simp; omega, show decide (j < 64) = true by simp; omega] at h1
    cases h2 : s.testBit j with
    | true => rfl
    | false => rw [h2] at h1; cases h1
  have hsk : s.testBit k = false := by
    have h1 := hbit k
    rw [hm, htb, show decide (k < 64) = true by simp; omega] at h1
    simp [Nat.testBit_zero] at h1
    exact h1
  refine (lz_uniq ?_ hsj (fun _ => hsk)).symm
  refine Classical.byContradiction fun hc => ?_
  have := hsj (lz s n) (by omega)
  rw [(lz_spec s n).2.2 hl] at this; cases this
theorem uns_step {s n v u : Nat} (hv : v < n) (hu : u < n) (hne : u ≠ v) (h1 : s.testBit v = false) (h2 : s.testBit u = false) : uns (s ||| 2 ^ v ||| 2 ^ u) n + 2 = uns s n := by
  have hb1 : ∀ j, (s ||| 2 ^ v).testBit j = (s.testBit j || decide (v = j)) := fun j => by rw [Nat.testBit_or, Nat.testBit_two_pow]
  have hb2 : ∀ j, (s ||| 2 ^ v ||| 2 ^ u).testBit j = ((s ||| 2 ^ v).testBit j || decide (u = j)) := fun j => by rw [Nat.testBit_or, Nat.testBit_two_pow]
  have a1 := filter_drop_one (p := fun j => !s.testBit j) (q := fun j => !(s ||| 2 ^ v).testBit j) (i := v) (List.range n) List.nodup_range (List.mem_range.2 hv) (by rw [h1]; rfl) (by rw [hb1]; simp) (fun j hj => by rw [hb1, show decide (v = j) = false by simp; omega, Bool.or_false])
  have a2 := filter_drop_one (p := fun j => !(s ||| 2 ^ v).testBit j) (q := fun j => !(s ||| 2 ^ v ||| 2 ^ u).testBit j) (i := u) (List.range n) List.nodup_range (List.mem_range.2 hu) (by rw [hb1, h2, show decide (v = u) = false by simp; omega]; rfl) (by rw [hb2]; simp) (fun j hj => by rw [hb2, show decide (u = j) = false by simp; omega, Bool.or_false])
  unfold uns
  omega
theorem uns_zero {s n : Nat} (hs : s < 2 ^ n) (h : uns s n = 0) : s = 2 ^ n - 1 := by
  refine Classical.byContradiction fun hne => ?_
  have h1 := lz_lt hs hne
  have h2 := (lz_spec s n).2.2 h1
  have h3 : lz s n ∈ (List.range n).filter (fun v => !s.testBit v) := List.mem_filter.2 ⟨List.mem_range.2 h1, by rw [h2]; rfl⟩
  have h4 : (List.range n).filter (fun v => !s.testBit v) = [] := List.length_eq_zero_iff.1 h
  rw [h4] at h3; cases h3
theorem mts_leaf (es : List (Int × Int)) (n k : Nat) : mts es n k (2 ^ n - 1) = [[]] := by cases k <;> simp [mts]
theorem mts_step {es : List (Int × Int)} {n k s : Nat} (h : s ≠ 2 ^ n - 1) : mts es n (k + 1) s = mtT (mts es n k) es (lz s n) s (atL es (lz s n)) 3 := by simp [mts, h]
theorem mtT_len {R : Nat → List (List Int)} {es : List (Int × Int)} {v s K : Nat} {L : List Int} (h : ∀ x, (R x).length ≤ K) : ∀ i, (mtT R es v s L i).length ≤ i * K := by
  intro i
  induction i with
  | zero => simp [mtT]
  | succ i ih =>
    simp only [mtT, List.length_append]
    have : (if s.testBit (othN es (ia L i) v).toNat then [] else (R (s ||| 2 ^ v ||| 2 ^ (othN es (ia L i) v).toNat)).map (ia L i :: ·)).length ≤ K := by
      split
      · simp
      · rw [List.length_map]; exact h _
    rw [Nat.succ_mul]; omega
theorem mts_len (es : List (Int × Int)) (n : Nat) : ∀ k s, (mts es n k s).length ≤ 3 ^ k := by
  intro k
  induction k with
  | zero => intro s; simp [mts]
  | succ k ih =>
    intro s
    simp only [mts]
    split
    · simp; exact Nat.one_le_pow _ _ (by decide)
    · have := mtT_len (es := es) (v := lz s n) (s := s) (L := atL es (lz s n)) ih 3
      rw [Nat.pow_succ]; omega
theorem mtT_nn {R : Nat → List (List Int)} {es : List (Int × Int)} {v s : Nat} {L : List Int} (hL : ∀ i, 0 ≤ ia L i) (h : ∀ x, ∀ r ∈ R x, ∀ e ∈ r, (0 : Int) ≤ e) : ∀ i, ∀ r ∈ mtT R es v s L i, ∀ e ∈ r, (0 : Int) ≤ e := by
  intro i
  induction i with
  | zero => intro r hr; simp [mtT] at hr
  | succ i ih =>
    intro r hr e he
    simp only [mtT, List.mem_append] at hr
    rcases hr with hr | hr
    · exact ih r hr e he
    · split at hr
      · cases hr
      · obtain ⟨q, hq, rfl⟩ := List.mem_map.1 hr
        rcases List.mem_cons.1 he with rfl | he
        · exact hL i
        · exact h _ q hq e he
theorem mts_nn (es : List (Int × Int)) (n : Nat) : ∀ k s, ∀ r ∈ mts es n k s, ∀ e ∈ r, (0 : Int) ≤ e := by
  intro k
  induction k with
  | zero => intro s r hr e he; simp [mts] at hr; subst hr; cases he
  | succ k ih =>
    intro s r hr
    simp only [mts] at hr
    split at hr
    · intro e he; simp at hr; subst hr; cases he
    · exact mtT_nn (fun i => atL_nn es _ i) ih 3 r hr
def bitsL : List Int → Nat
  | [] => 0
  | e :: r => 2 ^ e.toNat ||| bitsL r
theorem bitsL_bit (j : Nat) : ∀ r, (bitsL r).testBit j = r.any (fun e => decide (e.toNat = j)) := by
  intro r
  induction r with
  | nil => simp [bitsL]
  | cons e r ih => simp only [bitsL, Nat.testBit_or, Nat.testBit_two_pow, ih, List.any_cons]
def cM (wt s : Nat) (rows : List (List Int)) : Nat := (rows.filter (fun r => decide ((s ||| bitsL r) &&& wt = wt))).length
theorem cM_app (wt s : Nat) (a b : List (List Int)) : cM wt s (a ++ b) = cM wt s a + cM wt s b := by simp [cM, List.filter_append]
theorem cM_map (wt s : Nat) (e : Int) (a : List (List Int)) : cM wt s (a.map (e :: ·)) = cM wt (s ||| 2 ^ e.toNat) a := by
  induction a with
  | nil => rfl
  | cons x a ih =>
    have := ih
    simp only [cM, List.map_cons, List.filter_cons, bitsL, ← Nat.or_assoc] at this ⊢
    split <;> simp [this]
theorem cM_len (wt s : Nat) (a : List (List Int)) : cM wt s a ≤ a.length := List.length_filter_le _ _
theorem cM_leaf (wt s : Nat) : cM wt s [[]] = if s &&& wt = wt then 1 else 0 := by simp only [cM, List.filter_cons, bitsL, Nat.or_zero, List.filter_nil]; split <;> simp_all
theorem cM_all (a : List (List Int)) : cM 0 0 a = a.length := by simp [cM]
theorem and_pow_iff (x i : Nat) : x &&& 2 ^ i = 2 ^ i ↔ x.testBit i = true := by
  constructor
  · intro h
    have := congrArg (·.testBit i) h
    simpa [Nat.testBit_and, Nat.testBit_two_pow] using this
  · intro h
    apply Nat.eq_of_testBit_eq
    intro j
    rw [Nat.testBit_and, Nat.testBit_two_pow]
    by_cases e : i = j
    · subst e; simp [h]
    · simp [e]
theorem cM_has {e : Int} (he : 0 ≤ e) {a : List (List Int)} (hn : ∀ r ∈ a, ∀ x ∈ r, (0 : Int) ≤ x) : cM (2 ^ e.toNat) 0 a = (a.filter (fun r => r.any (fun x => decide (x = e)))).length := by
  unfold cM
  congr 1
  refine List.filter_congr fun r hr => ?_
  rw [Nat.zero_or, show decide (bitsL r &&& 2 ^ e.toNat = 2 ^ e.toNat) = (bitsL r).testBit e.toNat from by rw [Bool.eq_iff_iff, decide_eq_true_iff, and_pow_iff], bitsL_bit]
  have h1 : (r.any fun x => decide (x.toNat = e.toNat)) = r.any (fun x => decide (x = e)) := by
    have hr' := hn r hr
    clear hr hn
    induction r with
    | nil => rfl
    | cons y r ih =>
      have h0 := hr' y (List.mem_cons_self ..)
      rw [List.any_cons, List.any_cons, ih (fun x hx => hr' x (List.mem_cons_of_mem _ hx))]
      congr 1
      exact decide_eq_decide.2 (by omega)
  exact h1
end Go.Proofs.YtppfplhbfgjjhaaDoor
