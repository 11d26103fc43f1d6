import Derived.Test.YtppfplhbfgjjhaaBase
import Derived.Test.YtppfplhbfgjjhaaM16
import Derived.Test.YtppfplhbfgjjhaaFb
import Derived.Test.YtppfplhbfgjjhaaFeA
import Derived.Test.YtppfplhbfgjjhaaBr
namespace Go.Proofs.Ytppfplhbfgjjhaa
/-! ### Flows with values modulo 2 and 3 (Seymour), plain -/
def sumZ (F : Nat → Int) : Nat → Int
  | 0 => 0
  | k + 1 => sumZ F k + F k
theorem sumZ_add (F G : Nat → Int) : ∀ m, sumZ (fun i => F i + G i) m = sumZ F m + sumZ G m := by
  intro m
  induction m with
  | zero => rfl
  | succ m ih => simp only [sumZ, ih]; omega
theorem sumZ_mul (c : Int) (F : Nat → Int) : ∀ m, sumZ (fun i => c * F i) m = c * sumZ F m := by
  intro m
  induction m with
  | zero => simp [sumZ]
  | succ m ih => simp only [sumZ, ih, Int.mul_add]
theorem sumZ_congr {F G : Nat → Int} : ∀ m, (∀ i, i < m → F i = G i) → sumZ F m = sumZ G m := by
  intro m
  induction m with
  | zero => intro _; rfl
  | succ m ih => intro h; simp only [sumZ]; rw [ih (fun i hi => h i (by omega)), h m (by omega)]
theorem sumZ_zero : ∀ m, sumZ (fun _ => 0) m = 0 := by
  intro m
  induction m with
  | zero => rfl
  | succ m ih => simp only [sumZ, ih]; omega
theorem sumZ_dvd {k : Int} {F : Nat → Int} : ∀ m, (∀ i, i < m → k ∣ F i) → k ∣ sumZ F m := by
  intro m
  induction m with
  | zero => intro _; exact ⟨0, by simp [sumZ]⟩
  | succ m ih => intro h; exact Int.dvd_add (ih (fun i hi => h i (by omega))) (h m (by omega))
theorem sumZ_le {F G : Nat → Int} : ∀ m, (∀ i, i < m → F i ≤ G i) → sumZ F m ≤ sumZ G m := by
  intro m
  induction m with
  | zero => intro _; exact Int.le_refl _
  | succ m ih => intro h; have := ih (fun i hi => h i (by omega)); have := h m (by omega); simp only [sumZ]; omega
theorem sumZ_one {F : Nat → Int} {e : Nat} : ∀ m, e < m → (∀ i, i < m → i ≠ e → F i = 0) → sumZ F m = F e := by
  intro m
  induction m with
  | zero => intro h; omega
  | succ m ih =>
    intro he h
    simp only [sumZ]
    by_cases hm : e = m
    · subst hm
      rw [sumZ_congr (G := fun _ => 0) e (fun i hi => h i (by omega) (by omega)), sumZ_zero]; omega
    · rw [ih (by omega) (fun i hi => h i (by omega)), h m (by omega) (by omega)]; omega
/-- What flows into weighted vertices. -/
def netZ (m : Nat) (a b : Nat → Nat) (f : Nat → Int) (h : Nat → Int) : Int := sumZ (fun i => f i * (h (b i) - h (a i))) m
theorem netZ_addf (m : Nat) (a b : Nat → Nat) (f g h : Nat → Int) : netZ m a b (fun i => f i + g i) h = netZ m a b f h + netZ m a b g h := by
  unfold netZ
  rw [← sumZ_add]
  exact sumZ_congr m fun i _ => by rw [Int.add_mul]
theorem netZ_addh (m : Nat) (a b : Nat → Nat) (f h k : Nat → Int) : netZ m a b f (fun v => h v + k v) = netZ m a b f h + netZ m a b f k := by
  unfold netZ
  rw [← sumZ_add]
  refine sumZ_congr m fun i _ => ?_
  show f i * ((h (b i) + k (b i)) - (h (a i) + k (a i))) = f i * (h (b i) - h (a i)) + f i * (k (b i) - k (a i))
  rw [← Int.mul_add]; congr 1; omega
theorem netZ_mulf (m : Nat) (a b : Nat → Nat) (c : Int) (f h : Nat → Int) : netZ m a b (fun i => c * f i) h = c * netZ m a b f h := by
  unfold netZ
  rw [← sumZ_mul]
  exact sumZ_congr m fun i _ => by rw [Int.mul_assoc]
theorem netZ_mulh (m : Nat) (a b : Nat → Nat) (c : Int) (f h : Nat → Int) : netZ m a b f (fun v => c * h v) = c * netZ m a b f h := by
  unfold netZ
  rw [← sumZ_mul]
  refine sumZ_congr m fun i _ => ?_
  rw [← Int.mul_sub, ← Int.mul_assoc, ← Int.mul_assoc, Int.mul_comm (f i) c]
theorem netZ_const (m : Nat) (a b : Nat → Nat) (f : Nat → Int) (c : Int) : netZ m a b f (fun _ => c) = 0 := by
  unfold netZ
  rw [← sumZ_zero m]
  exact sumZ_congr m fun i _ => by rw [Int.sub_self, Int.mul_zero]
theorem netZ_congr {m : Nat} {a b : Nat → Nat} {f g h k : Nat → Int} (H : ∀ i, i < m → f i * (h (b i) - h (a i)) = g i * (k (b i) - k (a i))) : netZ m a b f h = netZ m a b g k := sumZ_congr m H
def indZ (X : Nat → Bool) : Nat → Int := fun v => if X v then 1 else 0
def cntE (p : Nat → Bool) (m : Nat) : Int := sumZ (indZ p) m
def cutE (a b : Nat → Nat) (X : Nat → Bool) (i : Nat) : Bool := X (a i) != X (b i)
theorem cntE_pos {p : Nat → Bool} : ∀ m, 0 ≤ cntE p m := by
  intro m
  have := sumZ_le (F := fun _ => 0) (G := indZ p) m (fun i _ => by unfold indZ; split <;> omega)
  rw [sumZ_zero] at this; exact this
theorem cntE_ex {p : Nat → Bool} : ∀ m, 1 ≤ cntE p m → ∃ i, i < m ∧ p i = true := by
  intro m
  induction m with
  | zero => intro h; simp [cntE, sumZ] at h
  | succ m ih =>
    intro h
    by_cases hp : p m = true
    · exact ⟨m, by omega, hp⟩
    · have : cntE p (m + 1) = cntE p m := by simp [cntE, sumZ, indZ, hp]
      obtain ⟨i, hi, h2⟩ := ih (by omega)
      exact ⟨i, by omega, h2⟩
theorem cntE_two {p : Nat → Bool} : ∀ m, 2 ≤ cntE p m → ∃ i j, i < m ∧ j < m ∧ i ≠ j ∧ p i = true ∧ p j = true := by
  intro m
  induction m with
  | zero => intro h; simp [cntE, sumZ] at h
  | succ m ih =>
    intro h
    by_cases hp : p m = true
    · have : cntE p (m + 1) = cntE p m + 1 := by simp [cntE, sumZ, indZ, hp]
      obtain ⟨i, hi, h2⟩ := cntE_ex (p := p) m (by omega)
      exact ⟨i, m, by omega, by omega, by omega, h2, hp⟩
    · have : cntE p (m + 1) = cntE p m := by simp [cntE, sumZ, indZ, hp]
      obtain ⟨i, j, hi, hj, h2⟩ := ih (by omega)
      exact ⟨i, j, by omega, by omega, h2⟩
theorem cntE_le2 {p : Nat → Bool} {e f : Nat} : ∀ m, cntE p m ≤ 2 → e < m → f < m → e ≠ f → p e = true → p f = true → ∀ i, i < m → p i = true → i = e ∨ i = f := by
  intro m h he hf hne hpe hpf i hi hp
  refine Classical.byContradiction fun hc => ?_
  have h1 : i ≠ e := fun e => hc (.inl e)
  have h2 : i ≠ f := fun e => hc (.inr e)
  have : sumZ (fun j => (if j = e then 1 else 0) + ((if j = f then 1 else 0) + (if j = i then 1 else 0))) m ≤ cntE p m := sumZ_le m fun j _ => by
    unfold indZ
    by_cases a1 : j = e
    · subst a1; simp only [hpe, if_true]; rw [if_neg hne, if_neg (by omega)]; omega
    · by_cases a2 : j = f
      · subst a2; simp only [hpf, if_true]; rw [if_neg a1, if_neg (by omega)]; omega
      · by_cases a3 : j = i
        · subst a3; simp only [hp, if_true]; rw [if_neg a1, if_neg a2]; omega
        · rw [if_neg a1, if_neg a2, if_neg a3]; split <;> omega
  rw [sumZ_add, sumZ_add] at this
  have k1 := sumZ_one (F := fun j => if j = e then (1 : Int) else 0) m he (fun j _ hj => by simp [hj])
  have k2 := sumZ_one (F := fun j => if j = f then (1 : Int) else 0) m hf (fun j _ hj => by simp [hj])
  have k3 := sumZ_one (F := fun j => if j = i then (1 : Int) else 0) m hi (fun j _ hj => by simp [hj])
  simp only [if_true] at k1 k2 k3
  omega
theorem cntE_add {p q r : Nat → Bool} {m : Nat} (h : ∀ i, i < m → indZ p i = indZ q i + indZ r i) : cntE p m = cntE q m + cntE r m := by
  unfold cntE
  rw [← sumZ_add]
  exact sumZ_congr m h
/-! One more unit from a vertex to another. -/
section aug
variable {m : Nat} {a b : Nat → Nat} {In : Nat → Bool} {φ : Nat → Int}
def stepZ (m : Nat) (a b : Nat → Nat) (In : Nat → Bool) (φ : Nat → Int) (x y : Nat) : Prop := ∃ i, i < m ∧ In i = true ∧ ((a i = x ∧ b i = y ∧ φ i ≤ 0) ∨ (b i = x ∧ a i = y ∧ 0 ≤ φ i))
def distZ (m : Nat) (a b : Nat → Nat) (In : Nat → Bool) (φ : Nat → Int) (t : Nat) : Nat → Nat → Prop
  | 0, v => v = t
  | j + 1, v => ∃ y, stepZ m a b In φ v y ∧ distZ m a b In φ t j y
def unitZ (In : Nat → Bool) (m : Nat) (g : Nat → Int) : Prop := ∀ i, i < m → -1 ≤ g i ∧ g i ≤ 1 ∧ (In i = false → g i = 0)
theorem pushZ (m : Nat) (a b : Nat → Nat) (g h : Nat → Int) {i : Nat} (hi : i < m) (c : Int) : netZ m a b (fun j => g j + (if j = i then c else 0)) h = netZ m a b g h + c * (h (b i) - h (a i)) := by
  rw [netZ_addf]
  congr 1
  unfold netZ
  rw [sumZ_one m hi (fun j _ hj => by simp [hj])]
  simp
theorem push_all {t : Nat} : ∀ j v (g : Nat → Int), distZ m a b In φ t j v → (∀ j', j' < j → ¬ distZ m a b In φ t j' v) → unitZ In m g →
    (∀ i, i < m → (∃ k, k ≤ j ∧ distZ m a b In φ t k (a i)) → (∃ k, k ≤ j ∧ distZ m a b In φ t k (b i)) → g i = φ i) →
    ∃ g', unitZ In m g' ∧ ∀ h, netZ m a b g' h = netZ m a b g h + (h t - h v) := by
  intro j
  induction j with
  | zero =>
    intro v g hd _ hu _
    have hv : v = t := hd
    exact ⟨g, hu, fun h => by rw [hv]; omega⟩
  | succ j ih =>
    intro v g hd hmin hu hag
    obtain ⟨y, ⟨i, hi, hIn, hst⟩, hy⟩ := hd
    have hvd : distZ m a b In φ t (j + 1) v := ⟨y, ⟨i, hi, hIn, hst⟩, hy⟩
    have hymin : ∀ j', j' < j → ¬ distZ m a b In φ t j' y := fun j' hj' hc => hmin (j' + 1) (by omega) ⟨y, ⟨i, hi, hIn, hst⟩, hc⟩
    have hgi : g i = φ i := by
      rcases hst with ⟨h1, h2, _⟩ | ⟨h1, h2, _⟩
      · exact hag i hi ⟨j + 1, Nat.le_refl _, by rw [h1]; exact hvd⟩ ⟨j, by omega, by rw [h2]; exact hy⟩
      · exact hag i hi ⟨j, by omega, by rw [h2]; exact hy⟩ ⟨j + 1, Nat.le_refl _, by rw [h1]; exact hvd⟩
    have main : ∀ c : Int, (-1 ≤ g i + c ∧ g i + c ≤ 1) → (∀ h : Nat → Int, c * (h (b i) - h (a i)) = h y - h v) → (a i = v ∨ b i = v) → ∃ g', unitZ In m g' ∧ ∀ h, netZ m a b g' h = netZ m a b g h + (h t - h v) := by
      intro c hc hh hv
      obtain ⟨g', hu', hn'⟩ := ih y (fun k => g k + (if k = i then c else 0)) hy hymin (fun k hk => by
        by_cases e : k = i
        · subst e
          simp only [if_true]
          exact ⟨hc.1, hc.2, fun hf => by rw [hIn] at hf; cases hf⟩
        · have := hu k hk
          simp only [if_neg e]
          exact ⟨by omega, by omega, fun hf => by rw [this.2.2 hf]; rfl⟩) (fun k hk h1 h2 => by
        have hki : k ≠ i := by
          rintro rfl
          rcases hv with e | e
          · rw [e] at h1; obtain ⟨q, hq, hd⟩ := h1; exact hmin q (by omega) hd
          · rw [e] at h2; obtain ⟨q, hq, hd⟩ := h2; exact hmin q (by omega) hd
        simp only [if_neg hki, Int.add_zero]
        obtain ⟨q1, hq1, hd1⟩ := h1
        obtain ⟨q2, hq2, hd2⟩ := h2
        exact hag k hk ⟨q1, by omega, hd1⟩ ⟨q2, by omega, hd2⟩)
      refine ⟨g', hu', fun h => ?_⟩
      rw [hn' h, pushZ m a b g h hi c, hh h]
      omega
    have hui := hu i hi
    rcases hst with ⟨h1, h2, h3⟩ | ⟨h1, h2, h3⟩
    · exact main 1 ⟨by omega, by omega⟩ (fun h => by rw [h1, h2]; omega) (.inl h1)
    · exact main (-1) ⟨by omega, by omega⟩ (fun h => by rw [h1, h2]; omega) (.inr h1)
theorem augZ {s t : Nat} {k : Int} (hk : k ≤ 1) (hu : unitZ In m φ) (hφ : ∀ h, netZ m a b φ h = k * (h t - h s))
    (hcut : ∀ T : Nat → Bool, T s = true → T t = false → 2 ≤ cntE (fun i => In i && cutE a b T i) m) :
    ∃ φ', unitZ In m φ' ∧ ∀ h, netZ m a b φ' h = (k + 1) * (h t - h s) := by
  have hex : ∃ j, distZ m a b In φ t j s := by
    refine Classical.byContradiction fun hno => ?_
    have hT : ∃ T : Nat → Bool, ∀ v, T v = true ↔ ¬ ∃ j, distZ m a b In φ t j v := ⟨fun v => @decide (¬ ∃ j, distZ m a b In φ t j v) (Classical.propDecidable _), fun v => by simp⟩
    obtain ⟨T, hT⟩ := hT
    have hTs : T s = true := (hT s).2 hno
    have hTt : T t = false := by
      cases h : T t with
      | false => rfl
      | true => exact absurd ⟨0, rfl⟩ ((hT t).1 h)
    have h2 := hcut T hTs hTt
    have hle : netZ m a b φ (indZ T) ≤ -1 * cntE (fun i => In i && cutE a b T i) m := by
      unfold netZ cntE
      rw [← sumZ_mul]
      refine sumZ_le m fun i hi => ?_
      have hui := hu i hi
      show φ i * ((if T (b i) = true then 1 else 0) - (if T (a i) = true then 1 else 0)) ≤ -1 * (if (In i && (T (a i) != T (b i))) = true then 1 else 0)
      cases hIn : In i with
      | false => rw [hui.2.2 hIn]; simp
      | true =>
        cases ha : T (a i) with
        | false =>
          cases hb : T (b i) with
          | false => simp
          | true =>
            have : ¬ (0 ≤ φ i) := fun h0 => (hT (b i)).1 hb (by
              have hna : ∃ j, distZ m a b In φ t j (a i) := Classical.byContradiction fun hc => by rw [(hT (a i)).2 hc] at ha; cases ha
              obtain ⟨j, hj⟩ := hna
              exact ⟨j + 1, a i, ⟨i, hi, hIn, .inr ⟨rfl, rfl, h0⟩⟩, hj⟩)
            simp; omega
        | true =>
          cases hb : T (b i) with
          | true => simp
          | false =>
            have : ¬ (φ i ≤ 0) := fun h0 => (hT (a i)).1 ha (by
              have hnb : ∃ j, distZ m a b In φ t j (b i) := Classical.byContradiction fun hc => by rw [(hT (b i)).2 hc] at hb; cases hb
              obtain ⟨j, hj⟩ := hnb
              exact ⟨j + 1, b i, ⟨i, hi, hIn, .inl ⟨rfl, rfl, h0⟩⟩, hj⟩)
            simp; omega
    rw [hφ (indZ T)] at hle
    simp only [indZ, hTs, hTt] at hle
    simp at hle
    omega
  have hleast : ∀ j, distZ m a b In φ t j s → ∃ j0, distZ m a b In φ t j0 s ∧ ∀ j', j' < j0 → ¬ distZ m a b In φ t j' s := by
    intro j
    induction j using Nat.strongRecOn with
    | _ j ih =>
      intro hj
      by_cases hc : ∃ j', j' < j ∧ distZ m a b In φ t j' s
      · obtain ⟨j', h1, h2⟩ := hc
        exact ih j' h1 h2
      · exact ⟨j, hj, fun j' h1 h2 => hc ⟨j', h1, h2⟩⟩
  obtain ⟨j, hj⟩ := hex
  obtain ⟨j0, h1, h2⟩ := hleast j hj
  obtain ⟨g', hu', hn'⟩ := push_all j0 s φ h1 h2 hu (fun _ _ _ _ => rfl)
  refine ⟨g', hu', fun h => ?_⟩
  rw [hn' h, hφ h, Int.add_mul]
  omega
end aug
theorem netZ_zero (m : Nat) (a b : Nat → Nat) (h : Nat → Int) : netZ m a b (fun _ => 0) h = 0 := by
  unfold netZ
  rw [sumZ_congr (G := fun _ => 0) m (fun i _ => by simp), sumZ_zero]
noncomputable def bl (p : Prop) : Bool := @decide p (Classical.propDecidable p)
theorem bl_iff {p : Prop} : bl p = true ↔ p := by simp [bl]
theorem bl_not {p : Prop} : bl p = false ↔ ¬ p := by simp [bl]
/-- Two vertices of a set in which no edge cuts them apart: they are linked by an even set of edges. -/
theorem linkZ {m : Nat} {a b : Nat → Nat} {S : Nat → Bool} {s t : Nat} (hs : S s = true)
    (hcut : ∀ T : Nat → Bool, T s = true → T t = false → 2 ≤ cntE (fun i => (S (a i) && S (b i)) && cutE a b T i) m) :
    ∃ (Zp W : Nat → Bool), (∀ i, i < m → Zp i = true → W (a i) = true ∧ W (b i) = true) ∧ (∀ h, (2 : Int) ∣ netZ m a b (indZ Zp) h) ∧ (∀ w, W w = true → S w = true) ∧ W s = true ∧ W t = true ∧
      ∀ w, W w = true → ∃ g : Nat → Int, (∀ i, i < m → Zp i = false → g i = 0) ∧ ∀ h, netZ m a b g h = h w - h s := by
  obtain ⟨φ1, u1, n1⟩ := augZ (m := m) (a := a) (b := b) (In := fun i => S (a i) && S (b i)) (φ := fun _ => 0) (s := s) (t := t) (k := 0) (by omega) (fun i _ => ⟨by show (-1 : Int) ≤ 0; omega, by show (0 : Int) ≤ 1; omega, fun _ => rfl⟩) (fun h => by rw [netZ_zero]; omega) hcut
  obtain ⟨φ, u2, n2⟩ := augZ (m := m) (a := a) (b := b) (In := fun i => S (a i) && S (b i)) (φ := φ1) (s := s) (t := t) (k := 0 + 1) (by omega) u1 n1 hcut
  obtain ⟨Zs, hZs⟩ : ∃ Zs : Nat → Bool, ∀ i, Zs i = true ↔ φ i ≠ 0 := ⟨fun i => decide (φ i ≠ 0), fun i => by simp⟩
  have hZf : ∀ i, Zs i = false → φ i = 0 := fun i h => Classical.byContradiction fun hc => by rw [(hZs i).2 hc] at h; cases h
  obtain ⟨W, hW⟩ : ∃ W : Nat → Bool, ∀ w, W w = true ↔ ∃ g : Nat → Int, (∀ i, i < m → Zs i = false → g i = 0) ∧ ∀ h, netZ m a b g h = h w - h s := ⟨fun w => bl _, fun w => bl_iff⟩
  have hWs : W s = true := (hW s).2 ⟨fun _ => 0, fun _ _ _ => rfl, fun h => by rw [netZ_zero]; omega⟩
  have hcl : ∀ i, i < m → Zs i = true → (W (a i) = true ↔ W (b i) = true) := fun i hi hz => by
    constructor
    · intro h
      obtain ⟨g, h1, h2⟩ := (hW _).1 h
      refine (hW _).2 ⟨fun j => g j + (if j = i then 1 else 0), fun j hj hf => ?_, fun h => ?_⟩
      · have hji : j ≠ i := fun e => by rw [e, hz] at hf; cases hf
        simp only [if_neg hji]; rw [h1 j hj hf]; rfl
      · rw [pushZ m a b g h hi, h2]; omega
    · intro h
      obtain ⟨g, h1, h2⟩ := (hW _).1 h
      refine (hW _).2 ⟨fun j => g j + (if j = i then -1 else 0), fun j hj hf => ?_, fun h => ?_⟩
      · have hji : j ≠ i := fun e => by rw [e, hz] at hf; cases hf
        simp only [if_neg hji]; rw [h1 j hj hf]; rfl
      · rw [pushZ m a b g h hi, h2]; omega
  have hWt : W t = true := by
    refine Classical.byContradiction fun hc => ?_
    have h1 := n2 (indZ W)
    have h2 : netZ m a b φ (indZ W) = 0 := by
      unfold netZ
      rw [← sumZ_zero m]
      refine sumZ_congr m fun i hi => ?_
      cases hz : Zs i with
      | false => rw [hZf i hz]; simp
      | true =>
        have := hcl i hi hz
        have e : indZ W (b i) = indZ W (a i) := by
          unfold indZ
          cases ha : W (a i) <;> cases hb : W (b i) <;> simp_all
        rw [e]; simp
    rw [h2] at h1
    have e1 : indZ W t = 0 := by unfold indZ; rw [if_neg hc]
    have e2 : indZ W s = 1 := by unfold indZ; rw [if_pos hWs]
    rw [e1, e2] at h1
    omega
  have hIn : ∀ i, i < m → Zs i = true → S (a i) = true ∧ S (b i) = true := fun i hi hz => by
    have h1 := (u2 i hi).2.2
    have h2 := (hZs i).1 hz
    cases hS : (S (a i) && S (b i)) with
    | false => exact absurd (h1 hS) h2
    | true => simpa using hS
  have hWS : ∀ w, W w = true → S w = true := fun w hw => by
    refine Classical.byContradiction fun hc => ?_
    obtain ⟨g, h1, h2⟩ := (hW w).1 hw
    have h3 := h2 (fun v => if v = w then 1 else 0)
    have h4 : netZ m a b g (fun v => if v = w then 1 else 0) = 0 := by
      unfold netZ
      rw [← sumZ_zero m]
      refine sumZ_congr m fun i hi => ?_
      cases hz : Zs i with
      | false => rw [h1 i hi hz]; simp
      | true =>
        obtain ⟨ha, hb⟩ := hIn i hi hz
        have ea : a i ≠ w := fun e => hc (by rw [← e]; exact ha)
        have eb : b i ≠ w := fun e => hc (by rw [← e]; exact hb)
        simp [ea, eb]
    rw [h4] at h3
    have hsw : s ≠ w := fun e => hc (by rw [← e]; exact hs)
    simp [hsw] at h3
  have hsame : ∀ i, i < m → Zs i = true → W (a i) = W (b i) := fun i hi hz => by
    rw [Bool.eq_iff_iff]; exact hcl i hi hz
  refine ⟨fun i => Zs i && W (a i), W, fun i hi hz => ?_, fun h => ?_, hWS, hWs, hWt, fun w hw => ?_⟩
  · simp only [Bool.and_eq_true] at hz
    exact ⟨hz.2, by rw [← hsame i hi hz.1]; exact hz.2⟩
  · have h1 : netZ m a b (indZ fun i => Zs i && W (a i)) h = netZ m a b φ (fun v => if W v then h v else 0) + sumZ (fun i => indZ (fun i => Zs i && W (a i)) i * (h (b i) - h (a i)) - φ i * ((if W (b i) then h (b i) else 0) - (if W (a i) then h (a i) else 0))) m := by
      unfold netZ
      rw [← sumZ_add]
      exact sumZ_congr m fun i _ => by
        show _ = φ i * ((if W (b i) = true then h (b i) else 0) - (if W (a i) = true then h (a i) else 0)) + (_ - _)
        omega
    rw [h1, n2]
    refine Int.dvd_add ⟨_, rfl⟩ (sumZ_dvd m fun i hi => ?_)
    show (2 : Int) ∣ (if (Zs i && W (a i)) = true then 1 else 0) * (h (b i) - h (a i)) - φ i * ((if W (b i) = true then h (b i) else 0) - (if W (a i) = true then h (a i) else 0))
    cases hz : Zs i with
    | false => rw [hZf i hz]; simp
    | true =>
      rw [← hsame i hi hz]
      cases hw : W (a i) with
      | false => simp
      | true =>
        have hu := u2 i hi
        have hne := (hZs i).1 hz
        have : φ i = 1 ∨ φ i = -1 := by omega
        simp only [Bool.and_true, if_true]
        rcases this with e | e
        · rw [e]; exact ⟨0, by omega⟩
        · rw [e]; exact ⟨h (b i) - h (a i), by omega⟩
  · obtain ⟨g, h1, h2⟩ := (hW w).1 hw
    refine ⟨fun i => if W (a i) then g i else 0, fun i hi hz => ?_, fun h => ?_⟩
    · simp only [Bool.and_eq_false_iff] at hz
      rcases hz with hz | hz
      · simp only [h1 i hi hz]; split <;> rfl
      · simp [hz]
    · have h3 := h2 (fun v => if W v then h v else 0)
      simp only [hw, hWs, if_true] at h3
      rw [← h3]
      refine netZ_congr fun i hi => ?_
      cases hz : Zs i with
      | false => rw [h1 i hi hz]; simp
      | true =>
        rw [← hsame i hi hz]
        cases hwa : W (a i) <;> simp
def sumL (F : Nat → Int) : List Nat → Int
  | [] => 0
  | w :: l => F w + sumL F l
theorem sumL_pt (F : Nat → Int) (v : Nat) : ∀ l : List Nat, l.Nodup → sumL (fun w => F w * (if v = w then 1 else 0)) l = if v ∈ l then F v else 0 := by
  intro l
  induction l with
  | nil => intro _; simp [sumL]
  | cons w l ih =>
    intro hn
    obtain ⟨h1, h2⟩ := List.nodup_cons.1 hn
    simp only [sumL]
    rw [ih h2]
    by_cases e : v = w
    · subst e; simp [h1]
    · simp [e]
theorem netZ_sumh (m : Nat) (a b : Nat → Nat) (f : Nat → Int) (c : Nat → Int) (H : Nat → Nat → Int) : ∀ l : List Nat, netZ m a b f (fun v => sumL (fun w => c w * H w v) l) = sumL (fun w => c w * netZ m a b f (H w)) l := by
  intro l
  induction l with
  | nil => exact netZ_const m a b f 0
  | cons w l ih =>
    have h1 := netZ_addh m a b f (fun v => c w * H w v) (fun v => sumL (fun w => c w * H w v) l)
    simp only [sumL]
    rw [h1, ih, netZ_mulh]
theorem netZ_sumf (m : Nat) (a b : Nat → Nat) (h : Nat → Int) (c : Nat → Int) (G : Nat → Nat → Int) : ∀ l : List Nat, netZ m a b (fun i => sumL (fun w => c w * G w i) l) h = sumL (fun w => c w * netZ m a b (G w) h) l := by
  intro l
  induction l with
  | nil => exact netZ_zero m a b h
  | cons w l ih =>
    have h1 := netZ_addf m a b (fun i => c w * G w i) (fun i => sumL (fun w => c w * G w i) l) h
    simp only [sumL]
    rw [h1, ih, netZ_mulf]
theorem sumL_congr {F G : Nat → Int} : ∀ l : List Nat, (∀ w, w ∈ l → F w = G w) → sumL F l = sumL G l := by
  intro l
  induction l with
  | nil => intro _; rfl
  | cons w l ih => intro h; simp only [sumL]; rw [h w List.mem_cons_self, ih (fun x hx => h x (List.mem_cons_of_mem _ hx))]
theorem sumL_lin (F G : Nat → Int) (c : Int) : ∀ l : List Nat, sumL (fun w => F w * G w) l - sumL (fun w => F w * (G w - c)) l = c * sumL F l := by
  intro l
  induction l with
  | nil => simp [sumL]
  | cons w l ih =>
    simp only [sumL, Int.mul_add, ← ih, Int.mul_sub]
    rw [Int.mul_comm c (F w)]
    omega
theorem sumL_zero {F : Nat → Int} (l : List Nat) (h : ∀ w, w ∈ l → F w = 0) : sumL F l = 0 := by
  rw [sumL_congr (G := fun _ => 0) l h]
  induction l with
  | nil => rfl
  | cons w l ih => simp only [sumL]; rw [ih (fun x hx => h x (List.mem_cons_of_mem _ hx))]; rfl
def PZ (m : Nat) (a b : Nat → Nat) (U : Nat → Bool) : Prop := ∃ (Z : Nat → Bool) (f : Nat → Int), (∀ i, i < m → Z i = true → U (a i) = false ∧ U (b i) = false) ∧ (∀ h, (2 : Int) ∣ netZ m a b (indZ Z) h) ∧
  (∀ h : Nat → Int, (∀ v, U v = true → h v = 0) → (3 : Int) ∣ netZ m a b f h) ∧ ∀ i, i < m → (U (a i) && U (b i)) = false → ¬ (3 : Int) ∣ f i ∨ Z i = true
theorem joinZ {m : Nat} {a b : Nat → Nat} {U W Zp : Nat → Bool} {V : List Nat} {s e1 e2 : Nat} (hVn : V.Nodup) (hWV : ∀ w, W w = true → w ∈ V) (hWU : ∀ w, W w = true → U w = false) (hWs : W s = true)
    (hZp : ∀ i, i < m → Zp i = true → W (a i) = true ∧ W (b i) = true) (hev : ∀ h, (2 : Int) ∣ netZ m a b (indZ Zp) h)
    (hch : ∀ w, W w = true → ∃ g : Nat → Int, (∀ i, i < m → Zp i = false → g i = 0) ∧ ∀ h, netZ m a b g h = h w - h s)
    (he1 : e1 < m) (he2 : e2 < m) (hne : e1 ≠ e2) (hx1 : (W (a e1) = true ∧ U (b e1) = true) ∨ (W (b e1) = true ∧ U (a e1) = true)) (hx2 : (W (a e2) = true ∧ U (b e2) = true) ∨ (W (b e2) = true ∧ U (a e2) = true))
    (hP : PZ m a b (fun v => U v || W v)) : PZ m a b U := by
  obtain ⟨Z, f, hZ, hZe, hf, hnz⟩ := hP
  have hUW : ∀ v, U v = true → W v = false := fun v hv => by
    cases h : W v with
    | false => rfl
    | true => rw [hWU v h] at hv; cases hv
  obtain ⟨inn, hinn⟩ : ∃ inn : Nat → Bool, ∀ i, inn i = (((U (a i) || W (a i)) && (U (b i) || W (b i))) && !(U (a i) && U (b i))) := ⟨_, fun _ => rfl⟩
  have hi1 : inn e1 = true := by rw [hinn]; rcases hx1 with ⟨h1, h2⟩ | ⟨h1, h2⟩ <;> simp [h1, h2, hWU _ h1]
  have hi2 : inn e2 = true := by rw [hinn]; rcases hx2 with ⟨h1, h2⟩ | ⟨h1, h2⟩ <;> simp [h1, h2, hWU _ h1]
  obtain ⟨f1, hf1⟩ : ∃ f1 : Nat → Int, ∀ i, f1 i = if inn i then (if i = e1 ∨ i = e2 then 0 else 1) else f i := ⟨_, fun _ => rfl⟩
  have sg : ∀ e, ((W (a e) = true ∧ U (b e) = true) ∨ (W (b e) = true ∧ U (a e) = true)) → indZ W (b e) - indZ W (a e) = 1 ∨ indZ W (b e) - indZ W (a e) = -1 := fun e he => by
    unfold indZ
    rcases he with ⟨h1, h2⟩ | ⟨h1, h2⟩
    · right; simp [h1, hUW _ h2]
    · left; simp [h1, hUW _ h2]
  obtain ⟨σ1, hσ1⟩ : ∃ σ, σ = indZ W (b e1) - indZ W (a e1) := ⟨_, rfl⟩
  obtain ⟨σ2, hσ2⟩ : ∃ σ, σ = indZ W (b e2) - indZ W (a e2) := ⟨_, rfl⟩
  have s1 := sg e1 hx1
  have s2 := sg e2 hx2
  rw [← hσ1] at s1
  rw [← hσ2] at s2
  obtain ⟨x, y, hx, hy, hxy⟩ : ∃ x y : Int, (x = 1 ∨ x = -1) ∧ (y = 1 ∨ y = -1) ∧ (3 : Int) ∣ netZ m a b f1 (indZ W) + x + y := by
    have h3 : netZ m a b f1 (indZ W) % 3 = 0 ∨ netZ m a b f1 (indZ W) % 3 = 1 ∨ netZ m a b f1 (indZ W) % 3 = 2 := by omega
    rcases h3 with h | h | h
    · exact ⟨1, -1, .inl rfl, .inr rfl, by omega⟩
    · exact ⟨1, 1, .inl rfl, .inl rfl, by omega⟩
    · exact ⟨-1, -1, .inr rfl, .inr rfl, by omega⟩
  obtain ⟨f2, hf2⟩ : ∃ f2 : Nat → Int, f2 = fun i => (f1 i + (if i = e1 then σ1 * x else 0)) + (if i = e2 then σ2 * y else 0) := ⟨_, rfl⟩
  have hn2 : (3 : Int) ∣ netZ m a b f2 (indZ W) := by
    have : netZ m a b f2 (indZ W) = netZ m a b f1 (indZ W) + x + y := by
      rw [hf2, pushZ m a b _ _ he2, pushZ m a b _ _ he1, ← hσ1, ← hσ2]
      rcases s1 with e | e <;> rcases s2 with e' | e' <;> rw [e, e'] <;> omega
    rw [this]; exact hxy
  obtain ⟨g, hg⟩ := Classical.axiomOfChoice (r := fun (w : Nat) (g : Nat → Int) => W w = true → (∀ i, i < m → Zp i = false → g i = 0) ∧ ∀ h, netZ m a b g h = h w - h s) (fun w => by
    by_cases hw : W w = true
    · obtain ⟨g, h⟩ := hch w hw; exact ⟨g, fun _ => h⟩
    · exact ⟨fun _ => 0, fun h => absurd h hw⟩)
  obtain ⟨L, hL⟩ : ∃ L, L = V.filter W := ⟨_, rfl⟩
  have hLn : L.Nodup := by rw [hL]; exact hVn.sublist List.filter_sublist
  have hLm : ∀ w, w ∈ L ↔ W w = true := fun w => by rw [hL, List.mem_filter]; exact ⟨fun h => h.2, fun h => ⟨hWV w h, h⟩⟩
  obtain ⟨ex, hex⟩ : ∃ ex : Nat → Int, ex = fun w => netZ m a b f2 (fun v => if v = w then 1 else 0) := ⟨_, rfl⟩
  obtain ⟨G, hG⟩ : ∃ G : Nat → Int, G = fun i => sumL (fun w => ex w * g w i) L := ⟨_, rfl⟩
  have hG0 : ∀ i, i < m → Zp i = false → G i = 0 := fun i hi hz => by
    rw [hG]; exact sumL_zero L fun w hw => by rw [(hg w ((hLm w).1 hw)).1 i hi hz]; simp
  have hGn : ∀ h, netZ m a b G h = sumL (fun w => ex w * (h w - h s)) L := fun h => by
    rw [hG, netZ_sumf]
    exact sumL_congr L fun w hw => by rw [(hg w ((hLm w).1 hw)).2 h]
  have hsum : ∀ h : Nat → Int, netZ m a b f2 (fun v => if W v then h v else 0) = sumL (fun w => ex w * h w) L := fun h => by
    have e1 : netZ m a b f2 (fun v => if W v then h v else 0) = netZ m a b f2 (fun v => sumL (fun w => h w * (if v = w then 1 else 0)) L) := by
      congr 1
      funext v
      rw [sumL_pt h v L hLn]
      by_cases hv : W v = true
      · rw [if_pos hv, if_pos ((hLm v).2 hv)]
      · rw [if_neg hv, if_neg (fun hc => hv ((hLm v).1 hc))]
    rw [e1, netZ_sumh m a b f2 h (fun w v => if v = w then 1 else 0) L, hex]
    exact sumL_congr L fun w _ => Int.mul_comm _ _
  refine ⟨fun i => Z i || Zp i, fun i => f2 i + -1 * G i, fun i hi hz => ?_, fun h => ?_, fun h hU => ?_, fun i hi hout => ?_⟩
  · simp only [Bool.or_eq_true] at hz
    rcases hz with hz | hz
    · have := hZ i hi hz
      simp only [Bool.or_eq_false_iff] at this
      exact ⟨this.1.1, this.2.1⟩
    · have := hZp i hi hz
      exact ⟨hWU _ this.1, hWU _ this.2⟩
  · have e : netZ m a b (indZ fun i => Z i || Zp i) h = netZ m a b (fun i => indZ Z i + indZ Zp i) h := netZ_congr fun i hi => by
      congr 1
      show (if (Z i || Zp i) = true then (1 : Int) else 0) = (if Z i = true then 1 else 0) + (if Zp i = true then 1 else 0)
      cases hz : Z i <;> cases hp : Zp i <;> simp
      have h1 := (hZ i hi hz).1
      simp only [Bool.or_eq_false_iff] at h1
      rw [(hZp i hi hp).1] at h1
      cases h1.2
    rw [e, netZ_addf]
    exact Int.dvd_add (hZe h) (hev h)
  · have hsplit : netZ m a b (fun i => f2 i + -1 * G i) h = netZ m a b (fun i => f2 i + -1 * G i) (fun v => if W v then h v else 0) + netZ m a b (fun i => f2 i + -1 * G i) (fun v => if W v then 0 else h v) := by
      rw [← netZ_addh]
      congr 1
      funext v
      cases W v <;> simp
    rw [hsplit]
    refine Int.dvd_add ?_ ?_
    · have e1 : netZ m a b (fun i => f2 i + -1 * G i) (fun v => if W v then h v else 0) = h s * sumL ex L := by
        rw [netZ_addf, netZ_mulf, hsum h, hGn]
        have e2 : sumL (fun w => ex w * ((if W w = true then h w else 0) - (if W s = true then h s else 0))) L = sumL (fun w => ex w * (h w - h s)) L := sumL_congr L fun w hw => by rw [if_pos ((hLm w).1 hw), if_pos hWs]
        rw [e2]
        have := sumL_lin ex h (h s) L
        omega
      rw [e1]
      have e3 : sumL ex L = netZ m a b f2 (indZ W) := by
        have := hsum (fun _ => 1)
        simp only [Int.mul_one] at this
        rw [← this]; rfl
      rw [e3]
      exact Int.dvd_trans hn2 ⟨h s, Int.mul_comm _ _⟩
    · have e1 : netZ m a b (fun i => f2 i + -1 * G i) (fun v => if W v then 0 else h v) = netZ m a b f (fun v => if W v then 0 else h v) := netZ_congr fun i hi => by
        have hz : ∀ v, (U v || W v) = true → (if W v = true then (0 : Int) else h v) = 0 := fun v hv => by
          cases hw : W v with
          | true => simp
          | false => rw [hw, Bool.or_false] at hv; simp [hU v hv]
        by_cases hin : (U (a i) || W (a i)) = true ∧ (U (b i) || W (b i)) = true
        · rw [hz _ hin.1, hz _ hin.2]; simp
        · have hii : inn i = false := by
            rw [hinn]
            cases h1 : (U (a i) || W (a i)) <;> cases h2 : (U (b i) || W (b i)) <;> simp_all
          have hne1 : i ≠ e1 := fun e => by rw [e, hi1] at hii; cases hii
          have hne2 : i ≠ e2 := fun e => by rw [e, hi2] at hii; cases hii
          have hzp : Zp i = false := by
            cases hp : Zp i with
            | false => rfl
            | true =>
              have := hZp i hi hp
              exact absurd ⟨by rw [this.1]; simp, by rw [this.2]; simp⟩ hin
          congr 1
          rw [hG0 i hi hzp, hf2]
          simp only [if_neg hne1, if_neg hne2]
          rw [hf1, hii]; simp
      rw [e1]
      exact hf _ fun v hv => by
        have hv : (U v || W v) = true := hv
        cases hw : W v with
        | true => simp
        | false => rw [hw, Bool.or_false] at hv; simp [hU v hv]
  · cases hp : Zp i with
    | true => right; simp [hp]
    | false =>
      have hG1 := hG0 i hi hp
      cases hii : inn i with
      | true =>
        left
        show ¬ (3 : Int) ∣ f2 i + -1 * G i
        rw [hG1, hf2]
        simp only
        rw [hf1, hii]
        by_cases h1 : i = e1
        · subst h1
          simp only [true_or, if_true, if_neg hne]
          rcases s1 with e | e <;> rcases hx with e' | e' <;> rw [e, e'] <;> omega
        · by_cases h2 : i = e2
          · subst h2
            simp only [or_true, if_true, if_neg h1]
            rcases s2 with e | e <;> rcases hy with e' | e' <;> rw [e, e'] <;> omega
          · simp only [h1, h2, if_false, or_self]
            simp
      | false =>
        have hne1 : i ≠ e1 := fun e => by rw [e, hi1] at hii; cases hii
        have hne2 : i ≠ e2 := fun e => by rw [e, hi2] at hii; cases hii
        have hout2 : ((U (a i) || W (a i)) && (U (b i) || W (b i))) = false := by
          rw [hinn, hout] at hii
          simpa using hii
        have e : f2 i + -1 * G i = f i := by
          rw [hG1, hf2]
          simp only [if_neg hne1, if_neg hne2]
          rw [hf1, hii]; simp
        show ¬ (3 : Int) ∣ f2 i + -1 * G i ∨ _
        rw [e]
        rcases hnz i hi hout2 with h | h
        · exact .inl h
        · right; show (Z i || Zp i) = true; rw [h]; rfl
theorem filter_lt {V : List Nat} {S T : Nat → Bool} (hsub : ∀ v, T v = true → S v = true) {x : Nat} (hx : x ∈ V) (hs : S x = true) (ht : T x = false) : (V.filter T).length < (V.filter S).length := by
  have hle : ∀ l : List Nat, (l.filter T).length ≤ (l.filter S).length := fun l => by
    induction l with
    | nil => simp
    | cons y l ih =>
      simp only [List.filter_cons]
      cases h1 : T y with
      | true => rw [hsub y h1]; simp; exact ih
      | false => cases S y <;> simp <;> omega
  induction V with
  | nil => cases hx
  | cons y l ih =>
    have hl := hle l
    rcases List.mem_cons.1 hx with h | h
    · subst h; simp [hs, ht]; omega
    · have := ih h
      simp only [List.filter_cons]
      cases h1 : T y with
      | true => rw [hsub y h1]; simp; exact this
      | false => cases S y <;> simp <;> omega
theorem boolZ : ∀ sA sB tA tB uA uB : Bool, (uA = true → sA = false) → (uB = true → sB = false) →
    (if (((sA && tA) != (sB && tB)) && (!uA && !uB)) = true then (1 : Int) else 0) + (if (((sA && !tA) != (sB && !tB)) && (!uA && !uB)) = true then 1 else 0) = 2 * (if ((sA && sB) && (tA != tB)) = true then 1 else 0) + (if ((sA != sB) && (!uA && !uB)) = true then 1 else 0) := by decide
def dHZ (a b : Nat → Nat) (U S : Nat → Bool) (i : Nat) : Bool := cutE a b S i && (!(U (a i)) && !(U (b i)))
def dUZ (a b : Nat → Nat) (U S : Nat → Bool) (i : Nat) : Bool := cutE a b S i && (U (a i) || U (b i))
theorem mainZ {m : Nat} {a b : Nat → Nat} {V : List Nat} (hVn : V.Nodup) (hV : ∀ i, i < m → a i ∈ V ∧ b i ∈ V) (h3 : ∀ X : Nat → Bool, (∃ x, x ∈ V ∧ X x = true) → (∃ y, y ∈ V ∧ X y = false) → 3 ≤ cntE (cutE a b X) m) :
    ∀ (k : Nat) (U : Nat → Bool), (V.filter fun v => !U v).length ≤ k → (∃ u, u ∈ V ∧ U u = true) → PZ m a b U := by
  intro k
  induction k with
  | zero =>
    intro U hk _
    have hall : ∀ v, v ∈ V → U v = true := fun v hv => Classical.byContradiction fun hc => by
      have : v ∈ V.filter fun v => !U v := List.mem_filter.2 ⟨hv, by simpa using hc⟩
      have := List.length_pos_of_mem this
      omega
    refine ⟨fun _ => false, fun _ => 0, fun i _ h => (by cases h), fun h => ?_, fun h _ => ?_, fun i hi ho => ?_⟩
    · have : netZ m a b (indZ fun _ => false) h = netZ m a b (fun _ => 0) h := netZ_congr fun i _ => rfl
      rw [this, netZ_zero]; exact ⟨0, rfl⟩
    · rw [netZ_zero]; exact ⟨0, rfl⟩
    · rw [hall _ (hV i hi).1, hall _ (hV i hi).2] at ho; cases ho
  | succ k ih =>
    intro U hk hu
    by_cases hall : ∀ v, v ∈ V → U v = true
    · exact ih U (by
        have : V.filter (fun v => !U v) = [] := List.filter_eq_nil_iff.2 fun v hv => by simp [hall v hv]
        rw [this]; simp) hu
    -- a least set that few edges leave
    have hQ : ∀ (n : Nat) (S : Nat → Bool), (V.filter S).length ≤ n → (∀ v, S v = true → v ∈ V ∧ U v = false) → (∃ v, S v = true) → cntE (dHZ a b U S) m ≤ 1 →
        ∃ S : Nat → Bool, (∀ v, S v = true → v ∈ V ∧ U v = false) ∧ (∃ v, S v = true) ∧ cntE (dHZ a b U S) m ≤ 1 ∧
          ∀ T : Nat → Bool, (∀ v, T v = true → S v = true) → (∃ v, S v = true ∧ T v = false) → (∃ v, T v = true) → 2 ≤ cntE (dHZ a b U T) m := by
      intro n
      induction n with
      | zero =>
        intro S hl hS hne _
        obtain ⟨v, hv⟩ := hne
        have : v ∈ V.filter S := List.mem_filter.2 ⟨(hS v hv).1, hv⟩
        have := List.length_pos_of_mem this
        omega
      | succ n ihn =>
        intro S hl hS hne hd
        by_cases hc : ∃ T : Nat → Bool, (∀ v, T v = true → S v = true) ∧ (∃ v, S v = true ∧ T v = false) ∧ (∃ v, T v = true) ∧ cntE (dHZ a b U T) m ≤ 1
        · obtain ⟨T, h1, ⟨v, hv1, hv2⟩, h4, h5⟩ := hc
          have := filter_lt h1 (hS v hv1).1 hv1 hv2
          exact ihn T (by omega) (fun v hv => hS v (h1 v hv)) h4 h5
        · refine ⟨S, hS, hne, hd, fun T h1 h2 h4 => ?_⟩
          refine Classical.byContradiction fun h5 => hc ⟨T, h1, h2, h4, by omega⟩
    have hsome : ∃ v, v ∈ V ∧ U v = false := Classical.byContradiction fun hc => hall fun v hv => by
      cases h : U v with
      | true => rfl
      | false => exact absurd ⟨v, hv, h⟩ hc
    obtain ⟨v1, hv1, hv1U⟩ := hsome
    obtain ⟨S0, hS0⟩ : ∃ S0 : Nat → Bool, ∀ v, S0 v = true ↔ v ∈ V ∧ U v = false := ⟨fun v => bl _, fun v => bl_iff⟩
    obtain ⟨S, hS, ⟨x0, hx0⟩, hd1, hmin⟩ := hQ V.length S0 (List.length_filter_le _ _) (fun v hv => (hS0 v).1 hv) ⟨v1, (hS0 v1).2 ⟨hv1, hv1U⟩⟩ (by
      have : cntE (dHZ a b U S0) m = 0 := by
        unfold cntE
        rw [sumZ_congr (G := fun _ => 0) m (fun i hi => ?_), sumZ_zero]
        have : dHZ a b U S0 i = false := by
          unfold dHZ cutE
          cases h1 : U (a i) with
          | true => simp
          | false =>
            cases h2 : U (b i) with
            | true => simp
            | false => rw [(hS0 _).2 ⟨(hV i hi).1, h1⟩, (hS0 _).2 ⟨(hV i hi).2, h2⟩]; rfl
        unfold indZ
        rw [this]; rfl
      omega)
    obtain ⟨u, huV, huU⟩ := hu
    have hSU : ∀ v, U v = true → S v = false := fun v hv => by
      cases h : S v with
      | false => rfl
      | true => rw [(hS v h).2] at hv; cases hv
    have hc3 := h3 S ⟨x0, (hS x0 hx0).1, hx0⟩ ⟨u, huV, hSU u huU⟩
    have hcu : cntE (cutE a b S) m = cntE (dHZ a b U S) m + cntE (dUZ a b U S) m := cntE_add fun i _ => by
      unfold indZ dHZ dUZ
      cases cutE a b S i <;> cases U (a i) <;> cases U (b i) <;> simp
    obtain ⟨e1, e2, he1, he2, hne, hu1, hu2⟩ := cntE_two (p := dUZ a b U S) m (by omega)
    have hend : ∀ e, dUZ a b U S e = true → ∃ p q, S p = true ∧ U q = true ∧ ((a e = p ∧ b e = q) ∨ (b e = p ∧ a e = q)) := fun e he => by
      unfold dUZ cutE at he
      simp only [Bool.and_eq_true, Bool.or_eq_true, bne_iff_ne] at he
      obtain ⟨h1, h2 | h2⟩ := he
      · have := hSU _ h2
        refine ⟨b e, a e, ?_, h2, .inr ⟨rfl, rfl⟩⟩
        cases h : S (b e) with
        | true => rfl
        | false => rw [this, h] at h1; exact absurd rfl h1
      · have := hSU _ h2
        refine ⟨a e, b e, ?_, h2, .inl ⟨rfl, rfl⟩⟩
        cases h : S (a e) with
        | true => rfl
        | false => rw [this, h] at h1; exact absurd rfl h1
    obtain ⟨p1, q1, hp1, hq1, hx1⟩ := hend e1 hu1
    obtain ⟨p2, q2, hp2, hq2, hx2⟩ := hend e2 hu2
    have hfin : ∀ (Zp W : Nat → Bool), (∀ i, i < m → Zp i = true → W (a i) = true ∧ W (b i) = true) → (∀ h, (2 : Int) ∣ netZ m a b (indZ Zp) h) → (∀ w, W w = true → S w = true) → W p1 = true → W p2 = true →
        (∀ w, W w = true → ∃ g : Nat → Int, (∀ i, i < m → Zp i = false → g i = 0) ∧ ∀ h, netZ m a b g h = h w - h p1) → PZ m a b U := fun Zp W z1 z2 z3 z4 z5 z6 => by
      refine joinZ hVn (fun w hw => (hS w (z3 w hw)).1) (fun w hw => (hS w (z3 w hw)).2) z4 z1 z2 z6 he1 he2 hne ?_ ?_ ?_
      · rcases hx1 with ⟨h1, h2⟩ | ⟨h1, h2⟩
        · exact .inl ⟨by rw [h1]; exact z4, by rw [h2]; exact hq1⟩
        · exact .inr ⟨by rw [h1]; exact z4, by rw [h2]; exact hq1⟩
      · rcases hx2 with ⟨h1, h2⟩ | ⟨h1, h2⟩
        · exact .inl ⟨by rw [h1]; exact z5, by rw [h2]; exact hq2⟩
        · exact .inr ⟨by rw [h1]; exact z5, by rw [h2]; exact hq2⟩
      · refine ih _ ?_ ⟨u, huV, by simp [huU]⟩
        have := filter_lt (V := V) (S := fun v => !U v) (T := fun v => !(U v || W v)) (fun v hv => by simp at hv; simp [hv.1]) (hS p1 hp1).1 (by simp [(hS p1 hp1).2]) (by simp [z4])
        omega
    by_cases hpp : p1 = p2
    · subst hpp
      refine hfin (fun _ => false) (fun v => decide (v = p1)) (fun i _ h => (by cases h)) (fun h => ?_) (fun w hw => ?_) (by simp) (by simp) (fun w hw => ?_)
      · have : netZ m a b (indZ fun _ => false) h = netZ m a b (fun _ => 0) h := netZ_congr fun i _ => rfl
        rw [this, netZ_zero]; exact ⟨0, rfl⟩
      · have : w = p1 := by simpa using hw
        rw [this]; exact hp1
      · have : w = p1 := by simpa using hw
        exact ⟨fun _ => 0, fun _ _ _ => rfl, fun h => by rw [netZ_zero, this]; omega⟩
    · obtain ⟨Zp, W, z1, z2, z3, z4, z5, z6⟩ := linkZ (m := m) (a := a) (b := b) (S := S) (s := p1) (t := p2) hp1 (fun T ht1 ht2 => by
        have k1 := hmin (fun v => S v && T v) (fun v hv => by simp at hv; exact hv.1) ⟨p2, hp2, by simp [ht2]⟩ ⟨p1, by simp [hp1, ht1]⟩
        have k2 := hmin (fun v => S v && !T v) (fun v hv => by simp at hv; exact hv.1) ⟨p1, hp1, by simp [ht1]⟩ ⟨p2, by simp [hp2, ht2]⟩
        have k3 : cntE (dHZ a b U fun v => S v && T v) m + cntE (dHZ a b U fun v => S v && !T v) m = 2 * cntE (fun i => (S (a i) && S (b i)) && cutE a b T i) m + cntE (dHZ a b U S) m := by
          unfold cntE
          rw [← sumZ_add, ← sumZ_mul, ← sumZ_add]
          refine sumZ_congr m fun i _ => ?_
          exact boolZ (S (a i)) (S (b i)) (T (a i)) (T (b i)) (U (a i)) (U (b i)) (hSU (a i)) (hSU (b i))
        omega)
      exact hfin Zp W z1 z2 z3 z4 z5 z6
/-- Where each cut has three edges or more. -/
theorem sixThree {m : Nat} {a b : Nat → Nat} {V : List Nat} {u : Nat} (hu : u ∈ V) (hVn : V.Nodup) (hV : ∀ i, i < m → a i ∈ V ∧ b i ∈ V) (h3 : ∀ X : Nat → Bool, (∃ x, x ∈ V ∧ X x = true) → (∃ y, y ∈ V ∧ X y = false) → 3 ≤ cntE (cutE a b X) m) :
    ∃ f2 f3 : Nat → Int, (∀ h, (2 : Int) ∣ netZ m a b f2 h) ∧ (∀ h, (3 : Int) ∣ netZ m a b f3 h) ∧ ∀ i, i < m → ¬ (2 : Int) ∣ f2 i ∨ ¬ (3 : Int) ∣ f3 i := by
  obtain ⟨Z, f, hZ, hZe, hf, hnz⟩ := mainZ hVn hV h3 (V.filter fun v => !decide (v = u)).length (fun v => decide (v = u)) (Nat.le_refl _) ⟨u, hu, by simp⟩
  refine ⟨indZ Z, fun i => if a i = u ∧ b i = u then 1 else f i, hZe, fun h => ?_, fun i hi => ?_⟩
  · have e1 : netZ m a b (fun i => if a i = u ∧ b i = u then 1 else f i) h = netZ m a b f h := netZ_congr fun i _ => by
      by_cases hc : a i = u ∧ b i = u
      · rw [hc.1, hc.2]; simp
      · rw [if_neg hc]
    have e2 : netZ m a b f h = netZ m a b f (fun v => h v - h u) := by
      have := netZ_addh m a b f (fun v => h v - h u) (fun _ => h u)
      rw [netZ_const] at this
      have e3 : (fun v => h v - h u + h u) = h := by funext v; omega
      rw [e3] at this
      omega
    rw [e1, e2]
    exact hf _ fun v hv => by
      have : v = u := by simpa using hv
      rw [this]; omega
  · by_cases hc : a i = u ∧ b i = u
    · right; show ¬ (3 : Int) ∣ (if a i = u ∧ b i = u then 1 else f i); rw [if_pos hc]; omega
    · have hout : (decide (a i = u) && decide (b i = u)) = false := by
        cases h : (decide (a i = u) && decide (b i = u)) with
        | false => rfl
        | true => simp at h; exact absurd h hc
      rcases hnz i hi hout with h | h
      · right; show ¬ (3 : Int) ∣ (if a i = u ∧ b i = u then 1 else f i); rw [if_neg hc]; exact h
      · left; unfold indZ; rw [if_pos h]; omega
/-- Where no cut has exactly one edge, there are flows modulo 2 and 3, one of them not 0 at each edge. -/
theorem sixAll : ∀ (k m : Nat) (a b : Nat → Nat) (V : List Nat), V.length ≤ k → V.Nodup → (∀ i, i < m → a i ∈ V ∧ b i ∈ V) → (∀ X : Nat → Bool, cntE (cutE a b X) m ≠ 1) →
    ∃ f2 f3 : Nat → Int, (∀ h, (2 : Int) ∣ netZ m a b f2 h) ∧ (∀ h, (3 : Int) ∣ netZ m a b f3 h) ∧ ∀ i, i < m → ¬ (2 : Int) ∣ f2 i ∨ ¬ (3 : Int) ∣ f3 i := by
  intro k
  induction k with
  | zero =>
    intro m a b V hk _ hV _
    have hV0 : V = [] := List.length_eq_zero_iff.1 (by omega)
    refine ⟨fun _ => 0, fun _ => 0, fun h => by rw [netZ_zero]; exact ⟨0, rfl⟩, fun h => by rw [netZ_zero]; exact ⟨0, rfl⟩, fun i hi => ?_⟩
    have := (hV i hi).1
    rw [hV0] at this; cases this
  | succ k ih =>
    intro m a b V hk hVn hV h1
    by_cases hbig : ∀ X : Nat → Bool, (∃ x, x ∈ V ∧ X x = true) → (∃ y, y ∈ V ∧ X y = false) → 3 ≤ cntE (cutE a b X) m
    · cases hVe : V with
      | nil => rw [hVe] at hV hVn hk; exact ih m a b [] (by simp) List.nodup_nil hV h1
      | cons u l => exact sixThree (u := u) (by rw [hVe]; exact List.mem_cons_self) hVn hV hbig
    · obtain ⟨X, ⟨x1, hx1, hX1⟩, ⟨y1, hy1, hY1⟩, hsm⟩ : ∃ X : Nat → Bool, (∃ x, x ∈ V ∧ X x = true) ∧ (∃ y, y ∈ V ∧ X y = false) ∧ cntE (cutE a b X) m ≤ 2 := by
        refine Classical.byContradiction fun hc => hbig fun X hx hy => ?_
        refine Classical.byContradiction fun h2 => hc ⟨X, hx, hy, by omega⟩
      -- two vertices are made one
      have merge : ∀ x y, x ∈ V → y ∈ V → X x = true → X y = false → ∃ f2 f3 : Nat → Int, (∀ h : Nat → Int, h x = h y → (2 : Int) ∣ netZ m a b f2 h) ∧ (∀ h : Nat → Int, h x = h y → (3 : Int) ∣ netZ m a b f3 h) ∧ ∀ i, i < m → ¬ (2 : Int) ∣ f2 i ∨ ¬ (3 : Int) ∣ f3 i := by
        intro x y hx hy hXx hXy
        have hxy : x ≠ y := fun e => by rw [e, hXy] at hXx; cases hXx
        obtain ⟨c, hc⟩ : ∃ c : Nat → Nat, c = fun v => if v = y then x else v := ⟨_, rfl⟩
        have hcV : ∀ v, v ∈ V → c v ∈ V.filter fun v => !decide (v = y) := fun v hv => by
          rw [hc]
          by_cases e : v = y
          · simp [e, hx, hxy]
          · simp [e, hv]
        obtain ⟨f2, f3, n2, n3, nz⟩ := ih m (fun i => c (a i)) (fun i => c (b i)) (V.filter fun v => !decide (v = y)) (by
          have := filter_lt (V := V) (S := fun _ => true) (T := fun v => !decide (v = y)) (fun _ _ => rfl) hy rfl (by simp)
          rw [show (V.filter fun _ => true) = V from List.filter_eq_self.2 (fun _ _ => rfl)] at this
          omega) (hVn.sublist List.filter_sublist) (fun i hi => ⟨hcV _ (hV i hi).1, hcV _ (hV i hi).2⟩) (fun X' => h1 (fun v => X' (c v)))
        have hcc : ∀ h : Nat → Int, h x = h y → (fun v => h (c v)) = h := fun h hh => by
          funext v
          rw [hc]
          by_cases e : v = y
          · simp [e, hh]
          · simp [e]
        refine ⟨f2, f3, fun h hh => ?_, fun h hh => ?_, nz⟩
        · have : netZ m (fun i => c (a i)) (fun i => c (b i)) f2 h = netZ m a b f2 (fun v => h (c v)) := rfl
          rw [← hcc h hh, ← this]; exact n2 h
        · have : netZ m (fun i => c (a i)) (fun i => c (b i)) f3 h = netZ m a b f3 (fun v => h (c v)) := rfl
          rw [← hcc h hh, ← this]; exact n3 h
      -- a flow where both are one is a flow, if nothing flows over the cut
      have lift : ∀ (p : Int) (f : Nat → Int) (x y : Nat), X x = true → X y = false → (∀ h : Nat → Int, h x = h y → p ∣ netZ m a b f h) → netZ m a b f (indZ X) = 0 → ∀ h, p ∣ netZ m a b f h := fun p f x y hXx hXy hf h0 h => by
        have e1 : netZ m a b f h = netZ m a b f (fun v => h v + -1 * (h x - h y) * indZ X v) := by
          rw [netZ_addh, netZ_mulh, h0]; omega
        rw [e1]
        refine hf _ ?_
        unfold indZ
        rw [hXx, hXy]
        simp
        omega
      have hX0 : ∀ i, cutE a b X i = false → indZ X (b i) - indZ X (a i) = 0 := fun i hi => by
        unfold cutE at hi
        unfold indZ
        cases h1 : X (a i) <;> cases h2 : X (b i) <;> simp_all
      have hX1' : ∀ i, cutE a b X i = true → indZ X (b i) - indZ X (a i) = 1 ∨ indZ X (b i) - indZ X (a i) = -1 := fun i hi => by
        unfold cutE at hi
        unfold indZ
        cases h1 : X (a i) <;> cases h2 : X (b i) <;> simp_all
      have hpos := cntE_pos (p := cutE a b X) m
      have hne1 := h1 X
      by_cases h0 : cntE (cutE a b X) m = 0
      · obtain ⟨f2, f3, n2, n3, nz⟩ := merge x1 y1 hx1 hy1 hX1 hY1
        have hz : ∀ f : Nat → Int, netZ m a b f (indZ X) = 0 := fun f => by
          unfold netZ
          rw [sumZ_congr (G := fun _ => 0) m (fun i hi => ?_), sumZ_zero]
          have hci : cutE a b X i = false := by
            cases hcc : cutE a b X i with
            | false => rfl
            | true =>
              have : sumZ (fun j => if j = i then (1 : Int) else 0) m ≤ cntE (cutE a b X) m := sumZ_le m fun j _ => by
                unfold indZ
                by_cases e : j = i
                · subst e; simp [hcc]
                · simp [e]; split <;> omega
              rw [sumZ_one m hi (fun j _ hj => by simp [hj])] at this
              simp at this; omega
          rw [hX0 i hci]; simp
        exact ⟨f2, f3, lift 2 f2 x1 y1 hX1 hY1 n2 (hz f2), lift 3 f3 x1 y1 hX1 hY1 n3 (hz f3), nz⟩
      · obtain ⟨e, g, he, hg, heg, hce, hcg⟩ := cntE_two (p := cutE a b X) m (by omega)
        have honly := cntE_le2 (p := cutE a b X) m hsm he hg heg hce hcg
        obtain ⟨σ, hσ⟩ : ∃ σ, σ = indZ X (b e) - indZ X (a e) := ⟨_, rfl⟩
        obtain ⟨τ, hτ⟩ : ∃ τ, τ = indZ X (b g) - indZ X (a g) := ⟨_, rfl⟩
        have sσ := hX1' e hce
        have sτ := hX1' g hcg
        rw [← hσ] at sσ
        rw [← hτ] at sτ
        obtain ⟨x, y, hx, hy, hXx, hXy, hends⟩ : ∃ x y, x ∈ V ∧ y ∈ V ∧ X x = true ∧ X y = false ∧ ((a e = x ∧ b e = y) ∨ (b e = x ∧ a e = y)) := by
          unfold cutE at hce
          cases h1 : X (a e) with
          | true => exact ⟨a e, b e, (hV e he).1, (hV e he).2, h1, by rw [h1] at hce; simpa using hce, .inl ⟨rfl, rfl⟩⟩
          | false => exact ⟨b e, a e, (hV e he).2, (hV e he).1, by rw [h1] at hce; simpa using hce, h1, .inr ⟨rfl, rfl⟩⟩
        obtain ⟨f2, f3, n2, n3, nz⟩ := merge x y hx hy hXx hXy
        have fix : ∀ (p : Int) (f : Nat → Int), (∀ h : Nat → Int, h x = h y → p ∣ netZ m a b f h) → ∃ f' : Nat → Int, (∀ h, p ∣ netZ m a b f' h) ∧ (∀ i, i ≠ e → f' i = f i) ∧ (f' e = f g ∨ f' e = - f g) := fun p f hf => by
          obtain ⟨δ, hδ⟩ : ∃ δ, δ = -1 * σ * netZ m a b f (indZ X) := ⟨_, rfl⟩
          have h0' : netZ m a b (fun j => f j + (if j = e then δ else 0)) (indZ X) = 0 := by
            rw [pushZ m a b f _ he, ← hσ, hδ]
            rcases sσ with e1 | e1 <;> rw [e1] <;> omega
          refine ⟨fun j => f j + (if j = e then δ else 0), lift p _ x y hXx hXy (fun h hh => ?_) h0', fun i hi => by simp [hi], ?_⟩
          · rw [pushZ m a b f h he]
            have : h (b e) - h (a e) = 0 := by
              rcases hends with ⟨q1, q2⟩ | ⟨q1, q2⟩ <;> rw [q1, q2] <;> omega
            rw [this, Int.mul_zero, Int.add_zero]
            exact hf h hh
          · -- what flows over the cut: only by the two edges
            have h2 : netZ m a b (fun j => f j + (if j = e then δ else 0)) (indZ X) = (f e + δ) * σ + f g * τ := by
              unfold netZ
              rw [sumZ_congr (G := fun i => (if i = e then (f e + δ) * σ else 0) + (if i = g then f g * τ else 0)) m (fun i hi => ?_), sumZ_add]
              · rw [sumZ_one (F := fun i => if i = e then (f e + δ) * σ else 0) m he (fun j _ hj => by simp [hj]), sumZ_one (F := fun i => if i = g then f g * τ else 0) m hg (fun j _ hj => by simp [hj])]
                simp
              · by_cases i1 : i = e
                · subst i1; simp [heg, hσ]
                · by_cases i2 : i = g
                  · subst i2; simp [i1, hτ]
                  · have hci : cutE a b X i = false := by
                      cases hcc : cutE a b X i with
                      | false => rfl
                      | true => rcases honly i hi hcc with q | q
                                · exact absurd q i1
                                · exact absurd q i2
                    rw [hX0 i hci]; simp [i1, i2]
            rw [h0'] at h2
            show f e + (if e = e then δ else 0) = f g ∨ f e + (if e = e then δ else 0) = - f g
            rw [if_pos rfl]
            rcases sσ with e1 | e1 <;> rcases sτ with e2 | e2 <;> rw [e1, e2] at h2 <;> omega
        obtain ⟨f2', a1, a2, a3⟩ := fix 2 f2 n2
        obtain ⟨f3', b1, b2, b3⟩ := fix 3 f3 n3
        refine ⟨f2', f3', a1, b1, fun i hi => ?_⟩
        by_cases hie : i = e
        · subst hie
          rcases nz g hg with q | q
          · left; rcases a3 with q3 | q3 <;> rw [q3] <;> omega
          · right; rcases b3 with q3 | q3 <;> rw [q3] <;> omega
        · rw [a2 i hie, b2 i hie]; exact nz i hi
/-- Flows with values modulo 6, none of them 0. -/
theorem sixFlow {m : Nat} {a b : Nat → Nat} {V : List Nat} (hVn : V.Nodup) (hV : ∀ i, i < m → a i ∈ V ∧ b i ∈ V) (h1 : ∀ X : Nat → Bool, cntE (cutE a b X) m ≠ 1) :
    ∃ f : Nat → Int, (∀ h, (6 : Int) ∣ netZ m a b f h) ∧ ∀ i, i < m → 1 ≤ f i ∧ f i ≤ 5 := by
  obtain ⟨f2, f3, n2, n3, nz⟩ := sixAll V.length m a b V (Nat.le_refl _) hVn hV h1
  refine ⟨fun i => (3 * f2 i + 4 * f3 i) % 6, fun h => ?_, fun i hi => ?_⟩
  · have e1 : netZ m a b (fun i => 3 * f2 i + 4 * f3 i) h = 3 * netZ m a b f2 h + 4 * netZ m a b f3 h := by
      rw [netZ_addf, netZ_mulf, netZ_mulf]
    have e2 : (6 : Int) ∣ netZ m a b (fun i => 3 * f2 i + 4 * f3 i) h := by
      rw [e1]
      have := n2 h
      have := n3 h
      omega
    have e3 : netZ m a b (fun i => (3 * f2 i + 4 * f3 i) % 6) h = netZ m a b (fun i => 3 * f2 i + 4 * f3 i) h + netZ m a b (fun i => 6 * (-((3 * f2 i + 4 * f3 i) / 6))) h := by
      rw [← netZ_addf]
      refine netZ_congr fun i _ => ?_
      congr 1
      omega
    rw [e3, netZ_mulf]
    exact Int.dvd_add e2 ⟨_, rfl⟩
  · show 1 ≤ (3 * f2 i + 4 * f3 i) % 6 ∧ (3 * f2 i + 4 * f3 i) % 6 ≤ 5
    rcases nz i hi with q | q <;> omega
end Go.Proofs.Ytppfplhbfgjjhaa
namespace Go.Proofs.Ytppfplhbfgjjhaa
open Go.RowKit Go.Sort
/-! ### A graph without bridges has flows modulo 6 -/
theorem cntE_ge1 {p : Nat → Bool} {j m : Nat} (hj : j < m) (hp : p j = true) : 1 ≤ cntE p m := by
  have h1 : sumZ (fun i => if i = j then 1 else 0) m = 1 := by
    rw [sumZ_one (e := j) m hj (fun i _ hne => if_neg hne), if_pos rfl]
  have h2 : sumZ (fun i => if i = j then 1 else 0) m ≤ sumZ (indZ p) m := sumZ_le m fun i _ => by
    unfold indZ
    by_cases e : i = j
    · rw [if_pos e, e, if_pos hp]; omega
    · rw [if_neg e]; split <;> omega
  show 1 ≤ sumZ (indZ p) m
  omega
theorem cntE_only {p : Nat → Bool} {i j m : Nat} (h : cntE p m = 1) (hi : i < m) (hj : j < m) (pi : p i = true) (pj : p j = true) : j = i := by
  refine Classical.byContradiction fun hne => ?_
  have h1 := cntE_add (p := p) (q := fun k => decide (k = i)) (r := fun k => p k && !decide (k = i)) (m := m) (fun k _ => by
    unfold indZ
    by_cases e : k = i
    · subst e; simp [pi]
    · by_cases hk : p k = true <;> simp [e, hk])
  have h2 := cntE_ge1 (p := fun k => decide (k = i)) hi (by simp)
  have h3 := cntE_ge1 (p := fun k => p k && !decide (k = i)) hj (by simp [pj, hne])
  omega
theorem Rch.free {es : List (Int × Int)} {sk : Nat → Bool} {u v : Int} (h : Rch es sk u v) : Rch es noSk u v := by
  obtain ⟨k, hk⟩ := h
  induction k generalizing v with
  | zero => exact ⟨0, hk⟩
  | succ k ih =>
    obtain ⟨x, hx, e, he, _, h⟩ := hk
    exact (ih hx).step ⟨e, he, rfl, h⟩
theorem lead_free {es : List (Int × Int)} {sk : Nat → Bool} {v : Int} (h0 : 0 ≤ v) (h : leadF es noSk v = v) : leadF es sk v = v := by
  have h1 := leadF_le (es := es) (sk := sk) h0
  have h2 := (leadF_spec (es := es) (sk := sk) h0).1
  have h3 := leadF_nonneg es sk v
  obtain ⟨u, hu⟩ : ∃ u : Nat, leadF es sk v = (u : Int) := ⟨(leadF es sk v).toNat, by omega⟩
  rw [hu] at h1 h2 ⊢
  have h4 := (leadF_spec (es := es) (sk := noSk) h0).2 u h2.free
  omega
theorem ldCnt_free {es : List (Int × Int)} {sk : Nat → Bool} : ∀ k, ldCnt es noSk k ≤ ldCnt es sk k ∧ ((∃ v : Nat, v < k ∧ leadF es sk v = v ∧ leadF es noSk v ≠ v) → ldCnt es noSk k < ldCnt es sk k) := by
  intro k
  induction k with
  | zero => exact ⟨Nat.le_refl _, fun ⟨v, hv, _⟩ => by omega⟩
  | succ k ih =>
    have hm : leadF es noSk (k : Int) = k → leadF es sk (k : Int) = k := lead_free (Int.natCast_nonneg k)
    simp only [ldCnt]
    constructor
    · split
      · next h => rw [if_pos (hm h)]; have := ih.1; omega
      · split <;> have := ih.1 <;> omega
    · rintro ⟨v, hv, h1, h2⟩
      rcases Nat.lt_or_ge v k with h3 | h3
      · have := ih.2 ⟨v, h3, h1, h2⟩
        split
        · next h => rw [if_pos (hm h)]; omega
        · split <;> omega
      · obtain rfl : v = k := by omega
        rw [if_neg h2, if_pos h1]
        have := ih.1
        omega
/-- An edge that alone leads from some vertices to the others is a bridge. -/
theorem cut_bridge {N : Nat} {es : List (Int × Int)} (hn : WfP N es) {X : Nat → Bool} (h : cntE (cutE (fun i => (ea es i).toNat) (fun i => (eb es i).toNat) X) es.length = 1) : ∃ k, k < es.length ∧ cutB N es (skI k) = true := by
  obtain ⟨k, hk, hX⟩ := cntE_ex es.length (by omega : 1 ≤ cntE (cutE (fun i => (ea es i).toNat) (fun i => (eb es i).toNat) X) es.length)
  refine ⟨k, hk, ?_⟩
  have hw := hn.2.2.2.2 k hk
  have hoff : ∀ j, j < es.length → j ≠ k → X (ea es j).toNat = X (eb es j).toNat := fun j hj hne => by
    refine Classical.byContradiction fun hh => hne (cntE_only h hk hj hX ?_)
    show (X (ea es j).toNat != X (eb es j).toNat) = true
    simpa using hh
  have hR : ∀ u v, Rch es (skI k) u v → X u.toNat = X v.toNat := fun u v hr => by
    obtain ⟨d, hd⟩ := hr
    induction d generalizing v with
    | zero => rw [show u = v from hd]
    | succ d ih =>
      obtain ⟨x, hx, e, he, hs, hv⟩ := hd
      rw [ih x hx]
      have hek : e ≠ k := fun hh => by subst hh; simp [skI] at hs
      have := hoff e he hek
      rcases hv with ⟨h1, h2⟩ | ⟨h1, h2⟩
      · rw [← h1, ← h2, this]
      · rw [← h1, ← h2, this]
  have hnot : ¬ Rch es (skI k) (ea es k) (eb es k) := fun hh => by
    have h1 := hR _ _ hh
    have h2 : (X (ea es k).toNat != X (eb es k).toNat) = true := hX
    rw [h1] at h2
    simp at h2
  have hadj : Rch es noSk (ea es k) (eb es k) := Rch.adj ⟨k, hk, rfl, .inl ⟨rfl, rfl⟩⟩
  have a0 := leadF_nonneg es (skI k) (ea es k)
  have b0 := leadF_nonneg es (skI k) (eb es k)
  have al := leadF_le (es := es) (sk := skI k) hw.1
  have bl := leadF_le (es := es) (sk := skI k) (v := eb es k) (by omega)
  have aL := leadF_lead (es := es) (sk := skI k) hw.1
  have bL := leadF_lead (es := es) (sk := skI k) (v := eb es k) (by omega)
  have aR := (leadF_spec (es := es) (sk := skI k) hw.1).1
  have bR := (leadF_spec (es := es) (sk := skI k) (v := eb es k) (by omega)).1
  have hne : leadF es (skI k) (ea es k) ≠ leadF es (skI k) (eb es k) := fun hh => hnot ((leadF_iff hw.1 (by omega)).1 hh)
  have hjoin : Rch es noSk (leadF es (skI k) (ea es k)) (leadF es (skI k) (eb es k)) := (aR.free.symm.trans hadj).trans bR.free
  have hsame := leadF_eq (es := es) (sk := noSk) a0 b0 hjoin
  unfold cutB
  rw [decide_eq_true_eq, Int.toNat_natCast]
  refine (ldCnt_free N).2 ?_
  by_cases hlt : leadF es noSk (leadF es (skI k) (ea es k)) = leadF es (skI k) (ea es k)
  · refine ⟨(leadF es (skI k) (eb es k)).toNat, by omega, ?_, ?_⟩
    · rw [show (((leadF es (skI k) (eb es k)).toNat : Nat) : Int) = leadF es (skI k) (eb es k) by omega]; exact bL
    · rw [show (((leadF es (skI k) (eb es k)).toNat : Nat) : Int) = leadF es (skI k) (eb es k) by omega]; omega
  · refine ⟨(leadF es (skI k) (ea es k)).toNat, by omega, ?_, ?_⟩
    · rw [show (((leadF es (skI k) (ea es k)).toNat : Nat) : Int) = leadF es (skI k) (ea es k) by omega]; exact aL
    · rw [show (((leadF es (skI k) (ea es k)).toNat : Nat) : Int) = leadF es (skI k) (ea es k) by omega]; exact hlt
theorem netG_sum {N : Nat} {es : List (Int × Int)} (hn : WfP N es) (f : Nat → Int) (v : Nat) : ∀ k, k ≤ es.length → (∀ i, i < k → 0 ≤ f i) → netG 0 es (List.range k) f (fun _ => 0) v = sumZ (fun i => f i * ((if (eb es i).toNat = v then 1 else 0) - (if (ea es i).toNat = v then 1 else 0))) k := by
  intro k
  induction k with
  | zero => intro _ _; rfl
  | succ k ih =>
    intro hk hf
    have hw := hn.2.2.2.2 k (by omega)
    have h0 := hf k (by omega)
    rw [List.range_succ, netG_append]
    show stpF 0 es k (netG 0 es (List.range k) f (fun _ => 0)) (f k).toNat v = sumZ _ k + _
    rw [← ih (by omega) (fun i hi => hf i (by omega))]
    unfold stpF put2
    simp only [if_neg (show ¬ ((0 : Int) = 1) by decide)]
    by_cases hb : v = (eb es k).toNat
    · have ha : ¬ (ea es k).toNat = v := by omega
      rw [if_pos hb, if_pos hb.symm, if_neg ha, ← hb]; omega
    · have hb' : ¬ (eb es k).toNat = v := fun h => hb h.symm
      rw [if_neg hb, if_neg hb']
      by_cases ha : v = (ea es k).toNat
      · rw [if_pos ha, if_pos ha.symm, ← ha]; omega
      · have ha' : ¬ (ea es k).toNat = v := fun h => ha h.symm
        rw [if_neg ha, if_neg ha']; omega
theorem six_flows {N : Nat} {es : List (Int × Int)} (hG : IsG N es) (hb : ∀ k, k < es.length → cutB N es (skI k) = false) : 0 < cntF 0 6 es es.length 0 (fun _ => 0) := by
  have hn := hG.wf
  have hat : ∀ v : Nat, v < N → ∃ j, j < es.length ∧ ((v : Int) = ea es j ∨ (v : Int) = eb es j) := fun v hv => by
    refine Classical.byContradiction fun hno => ?_
    have h3 := hG.2.1 (v : Int) (by omega) (by omega)
    rw [← cntAt_deg hn v es.length (Nat.le_refl _), cntAt_none (fun d hd hh => hno ⟨d, List.mem_range.1 hd, by
      have hw := hn.2.2.2.2 d (List.mem_range.1 hd)
      rcases hh with hh | hh <;> omega⟩)] at h3
    cases h3
  obtain ⟨f, hf, hf1⟩ := sixFlow (m := es.length) (a := fun i => (ea es i).toNat) (b := fun i => (eb es i).toNat) (V := List.range N) List.nodup_range (fun i hi => by
    have hw := hn.2.2.2.2 i hi
    rw [List.mem_range, List.mem_range]; omega) (fun X hX => by
    obtain ⟨k, hk, h1⟩ := cut_bridge hn hX
    rw [hb k hk] at h1
    cases h1)
  rw [cntF_is (by omega) hn hat (fun _ => 0), ← cnt_len]
  refine List.length_pos_iff_exists_mem.2 ⟨fun i => if i < es.length then f i else 0, List.mem_filter.2 ⟨?_, ?_⟩⟩
  · refine (mem_allG List.nodup_range).2 ⟨fun e he => ?_, fun d hd => ?_⟩
    · rw [if_neg (fun h => he (List.mem_range.2 h))]
    · rw [if_pos (List.mem_range.1 hd)]
      have := hf1 d (List.mem_range.1 hd)
      exact mem_valsF.2 ⟨by omega, by omega⟩
  · unfold zeroF
    rw [B_iff]
    intro v hv
    rw [netG_sum hn _ v es.length (Nat.le_refl _) (fun i hi => by rw [if_pos hi]; have := hf1 i hi; omega)]
    have h6 := hf (fun w => if w = v then 1 else 0)
    unfold netZ at h6
    rw [sumZ_congr (G := fun i => (if i < es.length then f i else 0) * ((if (eb es i).toNat = v then 1 else 0) - (if (ea es i).toNat = v then 1 else 0))) es.length (fun i hi => by rw [if_pos hi])] at h6
    unfold zrF
    rw [if_pos rfl, beq_iff_eq]
    exact Int.tmod_eq_zero_of_dvd h6
end Go.Proofs.Ytppfplhbfgjjhaa
namespace Go.Proofs.Ytppfplhbfgjjhaa
open Go.RowKit Go.Sort
/-! ### Bridges in the program's flows, and the first flow's closure -/
noncomputable def hbTo (n : Int) (es : List (Int × Int)) : Nat → Bool
  | 0 => false
  | k + 1 => hbTo n es k || cutB n es (skI k)
theorem hbTo_mono {n : Int} {es : List (Int × Int)} {k : Nat} (h : hbTo n es k = true) : ∀ d, hbTo n es (k + d) = true := by
  intro d
  induction d with
  | zero => exact h
  | succ d ih => show (hbTo n es (k + d) || _) = true; rw [ih]; rfl
theorem hbTo_no {n : Int} {es : List (Int × Int)} : ∀ {k}, hbTo n es k = false → ∀ j, j < k → cutB n es (skI j) = false := by
  intro k
  induction k with
  | zero => intro _ j hj; omega
  | succ k ih =>
    intro h j hj
    simp only [hbTo, Bool.or_eq_false_iff] at h
    rcases Nat.lt_or_ge j k with h1 | h1
    · exact ih h.1 j h1
    · rw [show j = k by omega]; exact h.2
theorem hbTo_br (n : Int) (es : List (Int × Int)) : ∀ k, (0 < (brTo n es k).length) = (hbTo n es k = true) := by
  intro k
  induction k with
  | zero => simp [brTo, hbTo]
  | succ k ih =>
    simp only [brTo, hbTo, List.length_append, Bool.or_eq_true, ← ih]
    cases h : cutB n es (skI k) <;> simp
set_option maxRecDepth 100000 in
set_option maxHeartbeats 1600000 in
theorem hasBridge_any (N b o m c : Nat) (es : List (Int × Int)) (w : World) (h : Eds w b o m es) (hm : m ≤ 30) (hn : WfP N es) :
    Calls Try.prog 75 #[.agg #[.int .i64 N, .slice (some ⟨b, o, none⟩) m c]] w (Ret (.bool (hbTo N es m)) w) := by
  have KC := cell_rg
  have HW := Lib.hid hn
  have hbb := (by go_grown : Below w.heap.size w (w.alloc (.cells #[.int .i64 N, .slice (some ⟨b, o, none⟩) m c] 30)))
  have hbx := Box2.made w (.int .i64 N) (.slice (some ⟨b, o, none⟩) m c) 30
  obtain ⟨w1, hw1⟩ : ∃ w1, w1 = w.alloc (Obj.cells #[Value.int IntKind.i64 N, Value.slice (some ⟨b, o, none⟩) m c] 30) := ⟨_, rfl⟩
  rw [← hw1] at hbb hbx
  obtain ⟨s1, p1, q1⟩ := hbx
  clear hn
  go_enter Try.func75, Try.ntmps75
  go_wp2_with fail
  rw [← hw1]
  clear hw1
  go_wp2_with fail
  go_loopw [7] (fun kv wv => ∃ k : Nat, k ≤ m ∧ kv = .int .i64 k ∧ Hid (hbTo N es k = false) ∧ Below w1.heap.size w1 wv) (fun k _ => m - (intOf k).toNat)
  case atStart => exact ⟨0, Nat.zero_le _, rfl, rfl, Below.refl _ _⟩
  case round =>
    obtain ⟨k, hk, rfl, HF, hb1⟩ := hrel
    have hbr := hbb.andB hb1
    have z1 := Nat.lt_of_lt_of_le s1 hb1.size
    have pp1 := (hb1.cell (p := ⟨w.heap.size, 0, none⟩) s1).trans p1
    have qq1 := (hb1.cell (p := ⟨w.heap.size, 1, none⟩) s1).trans q1
    by_cases hlt : k < m
    · have E := h.below hbr
      have hX := wrap_pow (x := k) (by omega)
      have hX2 := pow64 (x := k) (by omega)
      obtain ⟨r, hr⟩ : ∃ r, cutB N es (skI k) = r := ⟨_, rfl⟩
      have HCU := Lib.hid hr
      obtain ⟨pc, hpc⟩ : ∃ pc : Nat, pc = 2 ^ k := ⟨_, rfl⟩
      have HCT : Hid (∀ W, Eds W b o m es → Calls Try.prog 133 #[.agg #[.int .i64 N, .slice (some ⟨b, o, none⟩) m c], .int .u64 pc] W (Ret (.bool r) W)) := fun W hE => by
        rw [← hr, ← skS_one, ← hpc]; exact isCut_any N b o m c pc es W hE (by omega) HW.out (by rw [hpc]; exact hX2)
      rw [← hpc] at hX hX2
      clear hpc hr
      go_wp2_with fail
      (refine wp_region_quiet_below (by kernel_rfl) (by kernel_rfl) ?_
       repeat (any_goals (go_big_quiet_step (first | (go_at_call 133; exact Ret.rg (HCT.out _ (E.below (below_regrown _ _ _)))))))
       all_goals (refine wpQuiet_nil ?_; intro wq2 hq2; replace hq2 := below_of_rg hq2))
      have hb3 := hb1.andB hq2
      clear E z1 pp1 qq1 hX hX2
      cases r with
      | true =>
        have HE : Hid (hbTo N es m = true) := by
          have h1 : hbTo N es (k + 1) = true := by show (hbTo N es k || cutB N es (skI k)) = true; rw [HCU.out, Bool.or_true]
          have := hbTo_mono h1 (m - (k + 1))
          rw [show k + 1 + (m - (k + 1)) = m by omega] at this
          exact this
        have hbF := hbb.andB hb3
        go_wp2_with fail
        go_ret
        exact ⟨by rw [HE.out]; rfl, hbF⟩
      | false =>
        have HE : Hid (hbTo N es (k + 1) = false) := by show (hbTo N es k || cutB N es (skI k)) = false; rw [HCU.out, HF.out]; rfl
        go_wp2_with fail
        go_roundw
        case rel => exact ⟨k + 1, by omega, by go_num, HE, hb3⟩
        case measure => simp [intOf]; omega
    · obtain rfl : k = m := by omega
      go_wp2_with fail
      go_ret
      exact ⟨by rw [HF.out]; rfl, hbr⟩
/-- What the first flow's closure reads and writes. -/
structure FFS (be bo go : Nat) (m cA : Nat) (A : Option Addr) (L : List Nat) (w : World) : Prop where
  ce : w.cell? ⟨be, 0, none⟩ = some (.slice A L.length cA)
  co : w.cell? ⟨bo, 0, none⟩ = some (.slice (some ⟨go, 0, none⟩) m m)
  I : SrcI w A L.length (fun j => ((L.getD j 0 : Nat) : Int))
  R : ∃ f : Nat → Int, w.rowIs go 2 m (fun j => .int .i64 (f j))
theorem FFS.kept {be bo go m cA : Nat} {A : Option Addr} {L : List Nat} {w w' : World} {T : Nat → Prop} (h : FFS be bo go m cA A L w) (k : Kept T w w') (t : ¬ T be ∧ ¬ T bo) (tA : ∀ g, blkOf A = some g → ¬ T g) (tR : ∃ f : Nat → Int, w'.rowIs go 2 m (fun j => .int .i64 (f j))) : FFS be bo go m cA A L w' :=
  ⟨(k.cell (World.block_lt_of_cell? w ⟨be, 0, none⟩ h.ce) t.1 0).trans h.ce, (k.cell (World.block_lt_of_cell? w ⟨bo, 0, none⟩ h.co) t.2 0).trans h.co, k.srcI h.I tA, tR⟩
theorem enFF1 : Enters 134 := fun args w => by kernel_rfl
set_option maxRecDepth 100000 in
set_option maxHeartbeats 1600000 in
theorem firstFlow1_any {be bo go m cA gl : Nat} {A : Option Addr} {L : List Nat} {w : World} {F : Nat → Int} (h : FFS be bo go m cA A L w) (hL : ∀ d, d ∈ L → d < m) (hLl : L.length ≤ 30) (rl : w.rowIs gl 2 m (fun j => .int .i64 (F j))) (hne : be ≠ go ∧ bo ≠ go ∧ gl ≠ go) (hA : ∀ g, blkOf A = some g → g ≠ go) :
    Calls Try.prog 134 #[.slice (some ⟨gl, 0, none⟩) m m, .pointer (some ⟨be, 0, none⟩), .pointer (some ⟨bo, 0, none⟩)] w (fun e w' => e = .returned (.bool true) ∧ FFS be bo go m cA A L w' ∧ Kept (fun k => k = go) w w') := by
  have ce := h.ce
  have HL := Lib.hid hL
  have HS := Lib.hid h
  have HR := Lib.hid rl
  have HA := Lib.hid hA
  clear hL h rl hA
  go_enter Try.func134, Try.ntmps134
  go_wp2_with fail
  go_loopw [9] (fun iv wv => ∃ i : Nat, i ≤ L.length ∧ iv = .int .i64 i ∧ FFS be bo go m cA A L wv ∧ Kept (fun k => k = go) w wv) (fun i _ => L.length - (intOf i).toNat)
  case atStart => exact ⟨0, Nat.zero_le _, rfl, HS.out, Kept.refl _ _⟩
  case round =>
    clear ce
    obtain ⟨i, hi, rfl, S, K⟩ := hrel
    obtain ⟨w4, rfl⟩ : ∃ w4, w4 = wr := ⟨wr, rfl⟩
    by_cases hlt : i < L.length
    · obtain ⟨g, og, rfl, IA⟩ := S.I (by omega)
      have i1 := IA.c i hlt
      have zg := IA.blk
      obtain ⟨e, hd⟩ : ∃ e, e = L.getD i 0 := ⟨_, rfl⟩
      have hem : e < m := by rw [hd]; exact HL.out _ (gd_mem hlt)
      rw [← hd] at i1
      clear hd
      have co := S.co
      obtain ⟨f, RO⟩ := S.R
      have RL := K.row HR.out hne.2.2
      have l1 := RL.cell hem
      have o1 := RO.cell hem
      have of := RO.frozen e
      have hS := Lib.hid S
      have hK := Lib.hid K
      have hR2 := Lib.hid (RO.set e (.int .i64 (F e)))
      clear S K RO RL IA
      go_wp2_with fail
      go_still_tail 7, (by kernel_rfl)
      change wpList _ _ _ _ _ w4.drew
      go_wp2_with fail
      obtain ⟨w5, hw5⟩ : ∃ w5, w5 = (w4.setCell ⟨go, e, none⟩ (.int .i64 (F e))).drew := ⟨_, rfl⟩
      have HK5 : Kept (fun k => k = go) w4 w5 := by rw [hw5]; exact (Kept.setCell (S := fun k => k = go) (Kept.refl _ _) (a := ⟨go, e, none⟩) rfl _).drew
      have HS5 : FFS be bo go m cA (some ⟨g, og, none⟩) L w5 := by
        refine hS.out.kept HK5 ⟨hne.1, hne.2.1⟩ HA.out ⟨fun j => if j = e then F e else f j, ?_⟩
        rw [hw5]
        exact ((hR2.out.drew).congr (fun j _ => by dsimp only; split <;> rfl))
      have HKF := hK.out.trans HK5
      rw [← hw5]
      clear hw5 HK5 hS hK hR2 i1 zg co l1 o1 of
      go_roundw
      case rel => exact ⟨i + 1, by omega, by go_num, HS5, HKF⟩
      case measure => simp [intOf]; omega
    · obtain rfl : i = L.length := by omega
      go_wp2_with fail
      go_ret
      exact ⟨rfl, S, K⟩
end Go.Proofs.Ytppfplhbfgjjhaa
namespace Go.Proofs.Ytppfplhbfgjjhaa
open Go.RowKit Go.Sort
/-! ### The first flow: whether there is one -/
theorem prJ_zero {g : Nat → Nat} {j : Nat} (h : g j = 0) : ∀ d, prJ g (j + 1 + d) = 0 := by
  intro d
  induction d with
  | zero => show prJ g j * g j = 0; rw [h]; rfl
  | succ d ih => show prJ g (j + 1 + d) * _ = 0; rw [ih]; simp
theorem OwnLL.keptK5 {base top : Nat} {w w' : World} {A : Option Addr} {m c : Nat} {rows : List (List Int)} {T : Nat → Prop} (h : OwnLL base top w A m c rows) (k : Kept T w w') (hT : ∀ i, T i → i < base) : OwnLL base top w' A m c rows := by
  obtain ⟨hl, ht, hA, As, cs, ho, hro, hp⟩ := h
  have hnT : ∀ g, base ≤ g → ¬ T g := fun g hg ht => by have := hT g ht; omega
  refine ⟨hl, Nat.le_trans ht k.size, hA, As, cs, ⟨ho.1, ?_⟩, fun j hj => ⟨k.ownL (hro j hj).1 (fun g hg => hnT g ((hro j hj).1.blk g hg).1), (hro j hj).2⟩, hp⟩
  rcases ho.2 with hn | ⟨g, cap, cur, e, hb, hh, r⟩
  · exact .inl hn
  · exact .inr ⟨g, cap, cur, e, hb, (k.block g (Array.getElem?_eq_some_iff.1 hh).1 (hnT g hb)).trans hh, r⟩
/-- A list where there is one, nil where there is none. -/
def FFV (ok : Bool) (m : Nat) (v : Value) : Prop := (ok = true → ∃ g, v = .slice (some ⟨g, 0, none⟩) m m) ∧ (ok = false → v = .slice none 0 0)
set_option maxRecDepth 100000 in
set_option maxHeartbeats 2000000 in
theorem firstFlow_any {V : Option Addr} {nv cV md bq : Nat} (N b o m c : Nat) (es : List (Int × Int)) (w : World) (h : Eds w b o m es) (hm : m ≤ 1048576) (hG : IsG N es) (hbn : hbTo N es m = false)
    (IV : SrcI w V nv (fun j => ((j + 1 : Nat) : Int))) (hV : ∀ g, blkOf V = some g → g < w.heap.size) (h2 : 2 ≤ md) (h6 : md ≤ 6) (hnv : nv + 1 = md) (hcq : w.cell? ⟨bq, 0, none⟩ = some (.int .i64 md)) :
    Calls Try.prog 76 #[.agg #[.int .i64 N, .slice (some ⟨b, o, none⟩) m c], .agg #[.slice V nv cV, .func (.func 127) #[] #[.pointer (some ⟨bq, 0, none⟩)], .func (.func 128) #[] #[]]] w (fun e w' => ∃ v, e = .returned v ∧ FFV (decide (0 < frN 0 md es N)) m v ∧ Below w.heap.size w w') := by
  have hbox := Box2.made w (.int .i64 N) (.slice (some ⟨b, o, none⟩) m c) 30
  obtain ⟨w1, hw1⟩ : ∃ w1, w1 = (w.alloc (.cells #[.int .i64 N, .slice (some ⟨b, o, none⟩) m c] 30)).alloc (.cells #[.slice V nv cV, .func (.func 127) #[] #[.pointer (some ⟨bq, 0, none⟩)], .func (.func 128) #[] #[]] 82) := ⟨_, rfl⟩
  have hbb : Below w.heap.size w w1 := by rw [hw1]; exact ((Below.refl _ _).alloc (Nat.le_refl _) _).alloc (by simp) _
  have s1 : w.heap.size + 1 < w1.heap.size := by rw [hw1]; simp
  have p1 : w1.cell? ⟨w.heap.size, 0, none⟩ = some (.int .i64 N) := by rw [hw1]; simp [go_sem]
  have q1 : w1.cell? ⟨w.heap.size, 1, none⟩ = some (.slice (some ⟨b, o, none⟩) m c) := by rw [hw1]; simp [go_sem]
  have ra1 : w1.cell? ⟨w.heap.size + 1, 0, none⟩ = some (.slice V nv cV) := by rw [hw1]; simp [go_sem]
  have rb1 : w1.cell? ⟨w.heap.size + 1, 1, none⟩ = some (.func (.func 127) #[] #[.pointer (some ⟨bq, 0, none⟩)]) := by rw [hw1]; simp [go_sem]
  have rc1 : w1.cell? ⟨w.heap.size + 1, 2, none⟩ = some (.func (.func 128) #[] #[]) := by rw [hw1]; simp [go_sem]
  have hl := Lib.hid h.len
  have HG := Lib.hid hG
  have hn2 := hG.wf.1
  have hn20 := hG.wf.2.1
  have hm30 : m ≤ 30 := by have := hG.wf.2.2.2.1; have := hl.out; omega
  obtain ⟨rows, hrw⟩ : ∃ rows, rows = sdTo es noSk N N := ⟨_, rfl⟩
  have hlr20 : rows.length ≤ 20 := by rw [hrw, sdTo_len]; have := ldCnt_le es noSk N; omega
  have HRL : Hid (prJ (fun j => cntI 0 md es (inTo es (ra rows j) m) (fun _ => 0) (fun _ => 3)) rows.length = frN 0 md es N) := by
    show _ = _
    rw [← fr_prod HG.out.wf, hrw, ← hl.out, show (sdTo es noSk N N).length = (LV es N).length by rw [sd_LV]; simp]
    rfl
  have HPE := Lib.hid (fun W hE => partEdges_any N b o m c es W hE hm hG.wf)
  rw [Int.toNat_natCast, ← hrw] at HPE
  have HHB : Hid (∀ W, Eds W b o m es → Calls Try.prog 75 #[.agg #[.int .i64 N, .slice (some ⟨b, o, none⟩) m c]] W (Ret (.bool false) W)) := fun W hE => by
    have := hasBridge_any N b o m c es W hE hm30 hG.wf
    rw [hbn] at this; exact this
  obtain ⟨Ls, hLs⟩ : ∃ Ls : Nat → List Nat, Ls = fun j => inTo es (ra rows j) m := ⟨_, rfl⟩
  have HLS := Lib.hid (fun j => congrFun hLs j)
  obtain ⟨gX, hgX⟩ : ∃ gX : Nat → Nat, gX = fun j => cntI 0 md es (inTo es (ra rows j) m) (fun _ => 0) (fun _ => 3) := ⟨_, rfl⟩
  have HGX : Hid (∀ j, gX j = cntI 0 md es (Ls j) (fun _ => 0) (fun _ => 3)) := fun j => by rw [hgX, hLs]
  rw [← hgX] at HRL
  have HPA := Lib.hid (peR_at es rows m rows.length)
  have HPL := Lib.hid (peR_len es rows m rows.length)
  have he1 := enFF1
  unfold Enters at he1
  have H2 := Lib.hid (And.intro h2 h6)
  have HNV := Lib.hid hnv
  have hmk := run_make_row' (P := Try.prog) 36 2 (.int .i64 0) 8 Try.underlying36 inf2 rfl .i64 .i64 m (by omega) (by omega)
  clear hG hrw hLs hgX h2 h6 hnv hbn
  have hz0 := hbb.size
  go_enter Try.func76, Try.ntmps76
  go_wp2_with fail
  rw [← hw1]
  go_wp2_with fail
  clear hw1 hbox
  refine (HHB.out w1 (h.below hbb)).mono ?_
  rintro e w2 ⟨rfl, hb2⟩
  have hB2 := hbb.andB hb2
  have p2 := (hb2.cell (p := ⟨w.heap.size, 0, none⟩) (by simp; omega)).trans p1
  have q2 := (hb2.cell (p := ⟨w.heap.size, 1, none⟩) (by simp; omega)).trans q1
  have ra2 := (hb2.cell (p := ⟨w.heap.size + 1, 0, none⟩) s1).trans ra1
  have rb2 := (hb2.cell (p := ⟨w.heap.size + 1, 1, none⟩) s1).trans rb1
  have rc2 := (hb2.cell (p := ⟨w.heap.size + 1, 2, none⟩) s1).trans rc1
  have s2 := Nat.lt_of_lt_of_le s1 hb2.size
  have s2b : w.heap.size < w2.heap.size := by omega
  clear hb2 p1 q1 ra1 rb1 rc1
  obtain ⟨wo, hwo⟩ : ∃ wo, wo = (w2.alloc (.cells (madeCells #[.int .i64 0] m) 2)).alloc (.cells #[.slice (some ⟨w2.heap.size, 0, none⟩) m m] 36) := ⟨_, rfl⟩
  have hbo : Below w2.heap.size w2 wo := by rw [hwo]; exact ((Below.refl _ _).alloc (Nat.le_refl _) _).alloc (by simp) _
  have hzo : wo.heap.size = w2.heap.size + 1 + 1 := by rw [hwo]; simp
  have RO : wo.rowIs w2.heap.size 2 m (fun j => .int .i64 0) := by
    rw [hwo]
    exact (Kept.of (S := fun _ => False) ((Below.refl _ _).alloc (Nat.le_refl _) _)).row (World.rowIs_made w2 (.int .i64 0) m 2) id
  have oo : wo.cell? ⟨w2.heap.size + 1, 0, none⟩ = some (.slice (some ⟨w2.heap.size, 0, none⟩) m m) := by rw [hwo]; simp [go_sem]
  have p2o := (hbo.cell (p := ⟨w.heap.size, 0, none⟩) (by simp; omega)).trans p2
  have q2o := (hbo.cell (p := ⟨w.heap.size, 1, none⟩) (by simp; omega)).trans q2
  have HZO := Lib.hid hzo
  clear hzo
  go_wp2_with fail
  rw [← hwo]
  clear hwo
  refine (HPE.out wo (h.below (hB2.andB hbo))).mono ?_
  rintro e w3 ⟨A, c3, rfl, O, hb3⟩
  rw [HPL.out] at O ⊢
  have hzo := HZO.out
  have hb23 := hbo.andB hb3
  have hB3 := hB2.andB hb23
  have p3 := (hb23.cell (p := ⟨w.heap.size, 0, none⟩) (by simp; omega)).trans p2
  have q3 := (hb23.cell (p := ⟨w.heap.size, 1, none⟩) (by simp; omega)).trans q2
  have ra3 := (hb23.cell (p := ⟨w.heap.size + 1, 0, none⟩) s2).trans ra2
  have rb3 := (hb23.cell (p := ⟨w.heap.size + 1, 1, none⟩) s2).trans rb2
  have rc3 := (hb23.cell (p := ⟨w.heap.size + 1, 2, none⟩) s2).trans rc2
  have s3 := Nat.lt_of_lt_of_le s2 hb23.size
  have oo3 := (hb3.cell (p := ⟨w2.heap.size + 1, 0, none⟩) (by simp; omega)).trans oo
  have RO3 : w3.rowIs w2.heap.size 2 m (fun j => .int .i64 0) := (Kept.of (S := fun _ => False) hb3).row RO id
  have hzo3 := hb3.size
  have E3 := h.below hB3
  have IV3 := IV.below hB3
  obtain ⟨go, hgo⟩ : ∃ go, go = w2.heap.size := ⟨_, rfl⟩
  obtain ⟨bo, hbo2⟩ : ∃ bo, bo = w2.heap.size + 1 := ⟨_, rfl⟩
  rw [← hgo] at RO3 oo3 ⊢
  have hgb : w.heap.size + 1 < go ∧ bo = go + 1 ∧ go + 1 < w3.heap.size := by omega
  have HBO : Hid (go + 1 = bo) := hgb.2.1.symm
  rw [HBO.out] at oo3 ⊢
  replace hgb : w.heap.size + 1 < go ∧ go < bo ∧ bo < w3.heap.size := by omega
  have hgw : go < wo.heap.size := by omega
  clear hb3 p2 q2 ra2 rb2 rc2 s2 s2b s1 hbo RO oo p2o q2o hzo hgo hbo2 hzo3 hb23 HZO hmk
  go_wp2_with fail
  go_loopw [18] (fun kv wv => ∃ j : Nat, j ≤ rows.length ∧ kv = .int .i64 j ∧ Hid (0 < prJ gX j) ∧ (∃ f : Nat → Int, wv.rowIs go 2 m (fun j => .int .i64 (f j))) ∧ Kept (fun k => k = go) w3 wv) (fun j _ => rows.length - (intOf j).toNat)
  case atStart => exact ⟨0, Nat.zero_le _, rfl, Nat.one_pos, ⟨_, RO3⟩, Kept.refl _ _⟩
  case round =>
    clear RO3
    obtain ⟨j, hj, rfl, HPOS, ROw, K3⟩ := hrel
    obtain ⟨w4, rfl⟩ : ∃ w4, w4 = wr := ⟨wr, rfl⟩
    have oo4 := (K3.cell hgb.2.2 (by omega) 0).trans oo3
    have zo4 := K3.lt hgb.2.2
    have hbE : b < w.heap.size := h.blk
    by_cases hlt : j < rows.length
    · have O4 := O.keptK5 K3 (fun i hi => by omega)
      obtain ⟨g, Aj, cj, rfl, hg, hg', rc, OJ⟩ := O4.at hlt
      rw [HPA.out j hlt, ← HLS.out j, natL_len] at rc OJ
      obtain ⟨L, hL⟩ : ∃ L, L = Ls j := ⟨_, rfl⟩
      rw [← hL] at rc OJ
      have hLm : Hid (∀ d, d ∈ L → d < m) := fun d hd => by
        rw [hL, HLS.out j] at hd
        exact (mem_inTo.1 hd).1
      have hLl : L.length ≤ m := by rw [hL, HLS.out j]; exact inTo_len _ _ _
      obtain ⟨X, hX⟩ : ∃ X, X = cntI 0 md es L (fun _ => 0) (fun _ => 3) := ⟨_, rfl⟩
      have HPR : Hid (prJ gX (j + 1) = prJ gX j * X) := by rw [hX, hL, ← HGX.out j]; rfl
      have HX0 : Hid (X = 0 → gX j = 0) := fun h0 => by rw [HGX.out j, ← hL, ← hX, h0]
      obtain ⟨we, hwe⟩ : ∃ we, we = w4.alloc (.cells #[.slice Aj L.length cj] 36) := ⟨_, rfl⟩
      have hbe : Below w4.heap.size w4 we := by rw [hwe]; exact (Below.refl _ _).alloc (Nat.le_refl _) _
      have hze : we.heap.size = w4.heap.size + 1 := by rw [hwe]; simp
      have hce : we.cell? ⟨w4.heap.size, 0, none⟩ = some (.slice Aj L.length cj) := by rw [hwe]; simp [go_sem]
      have K3e := K3.thenB hbe
      have hB34 : Below w.heap.size w we := (hB3.trans (K3e.below (Nat.le_of_lt (by omega)) (fun k hk => by omega)))
      have E4 := h.below hB34
      have IV4 := IV.below hB34
      have OE := OJ.below hbe
      have IE : SrcI we Aj L.length (fun i => ((L.getD i 0 : Nat) : Int)) := fun h0 => by
        obtain ⟨g', o', e', I'⟩ := OE.src h0
        exact ⟨g', o', e', ⟨I'.blk, fun i hi => by rw [I'.c i hi, natL_at]⟩⟩
      have hbq := World.block_lt_of_cell? w ⟨bq, 0, none⟩ hcq
      have HCQ := (hB34.cell (p := ⟨bq, 0, none⟩) hbq).trans hcq
      have hbq4 : ¬ bq = go := by simp at hbq; omega
      have hAE : Hid (∀ g', blkOf Aj = some g' → g' < we.heap.size ∧ ¬ g' = go) := fun g' hg2 => ⟨(OE.blk g' hg2).2, fun hh => by have := (OJ.blk g' hg2).1; omega⟩
      obtain ⟨fo, ROf⟩ := ROw
      have hz3w := hB3.size
      have hz34 := K3.size
      have st : FFS w4.heap.size bo go m cj Aj L we := ⟨hce, (hbe.cell (p := ⟨bo, 0, none⟩) (by simp; omega)).trans oo4, IE, fo, (Kept.of (S := fun _ => False) hbe).row ROf id⟩
      have HF0 := flows0_any (T := fun k => k = go) (P := fun _ w' => FFS w4.heap.size bo go m cj Aj L w') (bq := bq) (b := b) (o := o) (m := m) (c := c) (N := N) (A := Aj) (cA := cj) (L := L) (dn := 134) (dc := #[.pointer (some ⟨w4.heap.size, 0, none⟩), .pointer (some ⟨bo, 0, none⟩)]) (V := V) (nv := nv) (cV := cV) (md := md) (es := es) true 0 we E4 HG.out hm30 IE IV4 hLm.out (by omega) H2.out.1 H2.out.2 HNV.out
        hAE.out (fun g' hg2 => ⟨by have := hV g' hg2; omega, fun hh => by have := hV g' hg2; omega⟩) (by omega) HCQ hbq4 (fun k hk => by omega) enFF1 st
        (fun s w1 w2 p k => p.kept k ⟨by omega, by omega⟩ (fun g' hg2 hh => by have := (hAE.out g' hg2).1; omega) (p.R.imp fun f R => k.row R (by omega)))
        (fun w9 gl gs gm hb9 hgl s F w p k rl => firstFlow1_any p hLm.out (by omega) rl ⟨by omega, by omega, by omega⟩ (fun g' hg2 => (hAE.out g' hg2).2))
      have HFL : Hid (Calls Try.prog 124 #[.agg #[.int .i64 N, .slice (some ⟨b, o, none⟩) m c], .agg #[.slice V nv cV, .func (.func 127) #[] #[.pointer (some ⟨bq, 0, none⟩)], .func (.func 128) #[] #[]], .slice Aj L.length cj, .func (.func 134) #[] #[.pointer (some ⟨w4.heap.size, 0, none⟩), .pointer (some ⟨bo, 0, none⟩)]] we (fun e w' => e = .returned (.bool (decide (0 < X))) ∧ (∃ f : Nat → Int, w'.rowIs go 2 m (fun j => .int .i64 (f j))) ∧ Kept (fun k => k = go) we w')) := by
        refine HF0.mono ?_
        rintro e w' ⟨rfl, ⟨s', _, st'⟩, k'⟩
        exact ⟨by rw [Bool.true_and, hX], st'.R, k'⟩
      have p4 := (K3.cell (by omega) (by omega) 0).trans p3
      have q4 := (K3.cell (by omega) (by omega) 1).trans q3
      have ra4 := (K3.cell s3 (by omega) 0).trans ra3
      have rb4 := (K3.cell s3 (by omega) 1).trans rb3
      have rc4 := (K3.cell s3 (by omega) 2).trans rc3
      have s4 := K3.lt s3
      have s4b : w.heap.size < w4.heap.size := by omega
      clear hL OJ OE IE st E4 O4 hze IV4 hX HF0 hce ROf HCQ hbq hbq4
      go_wp2_with fail
      rw [← hwe]
      refine HFL.out.mono ?_
      rintro e w6 ⟨rfl, RO6, K6⟩
      have hKF := K3e.trans K6
      clear K6 p4 q4 s4 s4b hwe hbe ra4 rb4 rc4 HFL K3e
      by_cases hXp : 0 < X
      · rw [decide_eq_true hXp]
        have hN : Hid (0 < prJ gX (j + 1)) := by show 0 < _; rw [HPR.out]; exact Nat.mul_pos HPOS.out hXp
        go_wp2_with fail
        go_roundw
        case rel => exact ⟨j + 1, by omega, by go_num, hN, RO6, hKF⟩
        case measure => simp [intOf]; omega
      · rw [decide_eq_false hXp]
        have hN : Hid (decide (0 < frN 0 md es N) = false) := by
          show _ = _
          have h0 := prJ_zero (HX0.out (by omega)) (rows.length - (j + 1))
          rw [show j + 1 + (rows.length - (j + 1)) = rows.length by omega, HRL.out] at h0
          rw [h0]; rfl
        have hBF : Below w.heap.size w w6 := hB3.trans (hKF.below (by omega) (fun k hk => by omega))
        go_wp2_with fail
        go_ret
        exact ⟨_, rfl, ⟨fun h => (by rw [hN.out] at h; cases h), fun _ => rfl⟩, hBF⟩
    · obtain rfl : j = rows.length := by omega
      have hN : Hid (decide (0 < frN 0 md es N) = true) := by show _ = _; rw [← HRL.out]; exact decide_eq_true HPOS.out
      have hBF : Below w.heap.size w w4 := hB3.trans (K3.below (by have := hB3.size; omega) (fun k hk => by omega))
      go_wp2_with fail
      go_ret
      exact ⟨_, rfl, ⟨fun _ => ⟨_, rfl⟩, fun h => (by rw [hN.out] at h; cases h)⟩, hBF⟩
end Go.Proofs.Ytppfplhbfgjjhaa
namespace Go.Proofs.Ytppfplhbfgjjhaa
open Go.RowKit Go.Sort
/-! ### FlowNumber: the reference -/
set_option maxRecDepth 100000 in
set_option maxHeartbeats 1600000 in
theorem l05Find0_any (N b o m c md : Nat) (es : List (Int × Int)) (w : World) (h : Eds w b o m es) (hm : m ≤ 30) (hG : IsG N es) (hd1 : 2 ≤ md) (hd2 : md ≤ 6) :
    Calls Try.prog 74 #[.agg #[.int .i64 N, .slice (some ⟨b, o, none⟩) m c], .int .i64 0, .int .i64 md] w (fun e w' => ∃ g, e = .returned (.tuple #[.slice (some ⟨g, 0, none⟩) m m, .bool (decide (0 < cntF 0 md es m 0 (fun _ => 0)))]) ∧ Below w.heap.size w w') := by
  have HG := Lib.hid hG
  have HWF := Lib.hid hG.wf
  have hel := h.len
  have hmN : 2 * m = 3 * N := by have h1 := hG.wf.2.2.1; have h2 := hG.wf.2.2.2.1; omega
  have hm0 : 0 < m := by have := hG.wf.1; omega
  have hN2 := hG.wf.1
  have hN20 := hG.wf.2.1
  have hmk1 := run_make_row' (P := Try.prog) 36 2 (.int .i64 0) 8 Try.underlying36 inf2 rfl .i64 .i64 N (by omega) (by omega)
  have hmk2 := run_make_row' (P := Try.prog) 36 2 (.int .i64 0) 8 Try.underlying36 inf2 rfl .i64 .i64 m (by omega) (by omega)
  obtain ⟨w2, hw2⟩ : ∃ w2, w2 = (w.alloc (Obj.cells #[Value.int IntKind.i64 N, Value.slice (some ⟨b, o, none⟩) m c] 30)).alloc (.cells (madeCells #[.int .i64 0] m) 2) := ⟨_, rfl⟩
  have hbb : Below w.heap.size w w2 := by rw [hw2]; exact ((Below.refl _ _).alloc (Nat.le_refl _) _).alloc (by simp) _
  have s2 : w.heap.size < w2.heap.size := by rw [hw2]; simp; omega
  have p2 : w2.cell? ⟨w.heap.size, 0, none⟩ = some (.int .i64 N) := by rw [hw2]; simp [go_sem]
  have q2 : w2.cell? ⟨w.heap.size, 1, none⟩ = some (.slice (some ⟨b, o, none⟩) m c) := by rw [hw2]; simp [go_sem]
  have RL : w2.rowIs (w.heap.size + 1) 2 m (fun j => .int .i64 0) := by
    rw [hw2]
    have h1 := World.rowIs_made (w.alloc (Obj.cells #[Value.int IntKind.i64 N, Value.slice (some ⟨b, o, none⟩) m c] 30)) (.int .i64 0) m 2
    simpa using h1
  have E2 := h.below hbb
  clear hG
  go_enter Try.func74, Try.ntmps74
  go_wp2_with fail
  rw [← hw2]
  obtain ⟨gl, hgl⟩ : ∃ gl, gl = w.heap.size + 1 := ⟨_, rfl⟩
  rw [← hgl] at RL ⊢
  have hglw : w.heap.size ≤ gl := by omega
  clear hw2 hgl
  refine wp_region_then 9 (fun i9 v W => match i9 with
    | 0 => v = .agg #[.int .i64 N, .slice (some ⟨b, o, none⟩) m c]
    | 1 => v = .int .i64 0
    | 2 => v = .int .i64 md
    | 3 => v = .slice (some ⟨gl, 0, none⟩) m m
    | 4 => v = .pointer (some ⟨w.heap.size, 0, none⟩)
    | 5 => v = .int .i64 N
    | 6 => NewI w2.heap.size (N) (fun _ => 0) v W
    | 7 => v = .agg #[.int .i64 N, .slice (some ⟨b, o, none⟩) m c]
    | _ => NewI w2.heap.size (N) (lasF es m) v W)
    (fun i => match i with
    | _ => none)
    (fun k W W' => Below W.heap.size W W')  (fun W => Below w2.heap.size w2 W) (by kernel_rfl) (by kernel_rfl) ?_ ?_ ?_ ?_ ?_
  · exact (Below.refl _ _).drew
  · intro i k v W W' hne hd hC hf hE
    match i, hf with
    | 0, hf => exact hf
    | 1, hf => exact hf
    | 2, hf => exact hf
    | 3, hf => exact hf
    | 4, hf => exact hf
    | 5, hf => exact hf
    | 6, hf => exact NewI.below hf hE
    | 7, hf => exact hf
    | _ + 8, hf => exact NewI.below hf hE
  · intro k W W' hC hE
    exact Below.andB hC hE
  · simp only [List.take_succ_cons, List.take_zero]
    refine ⟨?_, ?_, ?_, ?_, ?_, ?_, ?_, ?_, ?_, trivial⟩
    · intro a W hC hs hd
      have hW : Below w2.heap.size w2 W := hC
      have e3 : a.tmps[3]?.getD undef = .pointer (some ⟨w.heap.size, 0, none⟩) := hs 3 (by kernel_rfl)
      refine growsG_none (E := fun W W' => Below W.heap.size W W') rfl ?_
      have k0 := (hW.cell (p := ⟨w.heap.size, 0, none⟩) (s2)).trans (p2)
      have k1 := (hW.cell (p := ⟨w.heap.size, 1, none⟩) (s2)).trans (q2)
      clear hs hd
      unfold GrowsE
      go_simp
      exact Below.refl _ _
    · intro a W hC hs hd
      have hW : Below w2.heap.size w2 W := hC
      have e1 : a.tmps[1]?.getD undef = .int .i64 0 := hs 1 (by kernel_rfl)
      refine growsG_none (E := fun W W' => Below W.heap.size W W') rfl ?_
      clear hs hd
      unfold GrowsE
      go_simp
      exact Below.refl _ _
    · intro a W hC hs hd
      have hW : Below w2.heap.size w2 W := hC
      have e2 : a.tmps[2]?.getD undef = .int .i64 md := hs 2 (by kernel_rfl)
      refine growsG_none (E := fun W W' => Below W.heap.size W W') rfl ?_
      clear hs hd
      unfold GrowsE
      go_simp
      exact Below.refl _ _
    · intro a W hC hs hd
      have hW : Below w2.heap.size w2 W := hC
      have e8 : a.tmps[8]?.getD undef = .slice (some ⟨gl, 0, none⟩) m m := hs 8 (by kernel_rfl)
      refine growsG_none (E := fun W W' => Below W.heap.size W W') rfl ?_
      clear hs hd
      unfold GrowsE
      go_simp
      exact Below.refl _ _
    · intro a W hC hs hd
      have hW : Below w2.heap.size w2 W := hC
      have e3 : a.tmps[3]?.getD undef = .pointer (some ⟨w.heap.size, 0, none⟩) := hs 3 (by kernel_rfl)
      refine growsG_none (E := fun W W' => Below W.heap.size W W') rfl ?_
      have k0 := (hW.cell (p := ⟨w.heap.size, 0, none⟩) (s2)).trans (p2)
      have k1 := (hW.cell (p := ⟨w.heap.size, 1, none⟩) (s2)).trans (q2)
      clear hs hd
      unfold GrowsE
      go_simp
      exact Below.refl _ _
    · intro a W hC hs hd
      have hW : Below w2.heap.size w2 W := hC
      have e18 : (a.tmps[18]?.getD undef) = .pointer (some ⟨w.heap.size, 0, none⟩) := hd 4 18 (by kernel_rfl) (by kernel_rfl) (by kernel_rfl)
      refine growsG_none (E := fun W W' => Below W.heap.size W W') rfl ?_
      have k0 := (hW.cell (p := ⟨w.heap.size, 0, none⟩) (s2)).trans (p2)
      have k1 := (hW.cell (p := ⟨w.heap.size, 1, none⟩) (s2)).trans (q2)
      clear hs hd
      unfold GrowsE
      go_simp
      exact Below.refl _ _
    · intro a W hC hs hd
      have hW : Below w2.heap.size w2 W := hC
      have e19 : (a.tmps[19]?.getD undef) = .int .i64 N := hd 5 19 (by kernel_rfl) (by kernel_rfl) (by kernel_rfl)
      refine growsG_none (E := fun W W' => Below W.heap.size W W') rfl ?_
      clear hs hd
      unfold GrowsE
      go_simp
      exact ⟨(Below.refl _ _).alloc (Nat.le_refl _) _, _, rfl, hW.size, World.rowIs_made _ _ _ _⟩
    · intro a W hC hs hd
      have hW : Below w2.heap.size w2 W := hC
      have e3 : a.tmps[3]?.getD undef = .pointer (some ⟨w.heap.size, 0, none⟩) := hs 3 (by kernel_rfl)
      refine growsG_none (E := fun W W' => Below W.heap.size W W') rfl ?_
      have k0 := (hW.cell (p := ⟨w.heap.size, 0, none⟩) (s2)).trans (p2)
      have k1 := (hW.cell (p := ⟨w.heap.size, 1, none⟩) (s2)).trans (q2)
      clear hs hd
      unfold GrowsE
      go_simp
      exact Below.refl _ _
    · intro a W hC hs hd
      have hW : Below w2.heap.size w2 W := hC
      have e21 : (a.tmps[21]?.getD undef) = .agg #[.int .i64 N, .slice (some ⟨b, o, none⟩) m c] := hd 7 21 (by kernel_rfl) (by kernel_rfl) (by kernel_rfl)
      refine growsG_none (E := fun W W' => Below W.heap.size W W') rfl ?_
      clear hs hd
      unfold GrowsE
      go_simp
      refine ⟨Below.refl _ _, (l05Last_any N b o m c es W (E2.below hW) (by omega) HWF.out).mono ?_⟩
      rintro e w6 ⟨g6, rfl, hg6, R6, hb6⟩
      exact ⟨_, rfl, hb6, g6, rfl, Nat.le_trans (hW.size) hg6, R6⟩
  intro vs W hW hf
  have f14 : (vs 14) = .agg #[.int .i64 N, .slice (some ⟨b, o, none⟩) m c] := hf 0 14 (by decide) (by kernel_rfl) (fun _ hk => by cases hk)
  have f15 : (vs 15) = .int .i64 0 := hf 1 15 (by decide) (by kernel_rfl) (fun _ hk => by cases hk)
  have f16 : (vs 16) = .int .i64 md := hf 2 16 (by decide) (by kernel_rfl) (fun _ hk => by cases hk)
  have f17 : (vs 17) = .slice (some ⟨gl, 0, none⟩) m m := hf 3 17 (by decide) (by kernel_rfl) (fun _ hk => by cases hk)
  have f18 : (vs 18) = .pointer (some ⟨w.heap.size, 0, none⟩) := hf 4 18 (by decide) (by kernel_rfl) (fun _ hk => by cases hk)
  have f19 : (vs 19) = .int .i64 N := hf 5 19 (by decide) (by kernel_rfl) (fun _ hk => by cases hk)
  have f20 : NewI w2.heap.size (N) (fun _ => 0) (vs 20) W := hf 6 20 (by decide) (by kernel_rfl) (fun _ hk => by cases hk)
  obtain ⟨g20, f20, hg20, R20⟩ := f20
  have f21 : (vs 21) = .agg #[.int .i64 N, .slice (some ⟨b, o, none⟩) m c] := hf 7 21 (by decide) (by kernel_rfl) (fun _ hk => by cases hk)
  have f22 : NewI w2.heap.size (N) (lasF es m) (vs 22) W := hf 8 22 (by decide) (by kernel_rfl) (fun _ hk => by cases hk)
  obtain ⟨g22, f22, hg22, R22⟩ := f22
  simp only [dsts, List.take_succ_cons, List.take_zero, List.drop_succ_cons, List.drop_zero, List.filterMap_cons, List.filterMap_nil, List.foldl_cons, List.foldl_nil, Act.put, List.setIfInBounds_toArray, List.set_cons_succ, List.set_cons_zero, f14, f15, f16, f17, f18, f19, f20, f21, f22]
  clear hf
  have hW : Below w2.heap.size w2 W := hW
  have EW := E2.below hW
  have RLW : W.rowIs gl 2 m (fun j => .int .i64 0) := (Kept.of (S := fun _ => False) hW).row RL id
  have zl := RL.lt
  have zb := E2.blk
  have zbw := h.blk
  have n1 : b ≠ g20 := by omega
  have n2 : b ≠ gl := by omega
  have n4 : g22 ≠ gl := by omega
  have n5 : g20 ≠ gl := by omega
  have n3 : g22 ≠ g20 := fun hh => by
    subst hh
    obtain ⟨x, hx⟩ : ∃ x : Nat, eb es (m - 1) = (x : Int) := ⟨(eb es (m - 1)).toNat, by have := HWF.out.2.2.2.2 (m - 1) (by omega); omega⟩
    have hxN : x < N := by have := HWF.out.2.2.2.2 (m - 1) (by omega); omega
    have h1 := R22.cell hxN
    rw [R20.cell hxN] at h1
    injection h1 with h1; injection h1 with _ h1
    rw [show m = (m - 1) + 1 by omega] at h1
    simp only [lasF] at h1
    rw [if_pos hx.symm] at h1
    omega
  have hkW : Below w.heap.size w W := hbb.andB hW
  have h0 := l05Search0_any N b o m c g20 gl g22 md false es hm HWF.out hel hd1 hd2 n1 n2 n3 n4 n5 (m + 1) 0 (fun _ => 0) (fun _ => 0) W (by omega) (by omega) EW R20 RLW (Ints.of_row R22) (fun v hv => by simp)
  rw [Nat.sub_zero] at h0
  have HS := Lib.hid h0
  have hz2 := hbb.size
  obtain ⟨C, hC⟩ : ∃ C, C = cntF 0 md es m 0 (fun _ => 0) := ⟨_, rfl⟩
  rw [← hC] at HS
  have hq : decide ((0 : Int) < qF false C) = decide (0 < C) := by
    have hqf : qF false C = ((min C 1 : Nat) : Int) := rfl
    rw [hqf]
    rcases Nat.eq_zero_or_pos C with h0 | h0
    · rw [h0]; rfl
    · have h1 : min C 1 = 1 := by omega
      rw [h1, decide_eq_true h0]; rfl
  obtain ⟨Q, hQ⟩ : ∃ Q, Q = qF false C := ⟨_, rfl⟩
  rw [← hQ] at HS hq
  have HQ := Lib.hid hq
  have HCk := Lib.hid hC
  clear h0 R20 RLW R22 EW hC hQ hq RL E2 hel
  go_wp2_with fail
  refine HS.out.mono ?_
  rintro ee w3 ⟨rfl, _, _, hk⟩
  have hkb : Below w.heap.size W w3 := hk.below (by have := hW.size; omega) (fun k hk => by rcases hk with rfl | rfl <;> omega)
  go_wp2_with fail
  go_ret2
  exact ⟨gl, by rw [← HCk.out, ← HQ.out]; rfl, hkW.trans hkb⟩
end Go.Proofs.Ytppfplhbfgjjhaa
namespace Go.Proofs.Ytppfplhbfgjjhaa
open Go.RowKit Go.Sort
/-! ### FlowNumber, both sides -/
noncomputable def cF (es : List (Int × Int)) (md : Nat) : Nat := cntF 0 md es es.length 0 (fun _ => 0)
noncomputable def fnM (es : List (Int × Int)) : Nat := if 0 < cF es 2 then 2 else if 0 < cF es 3 then 3 else if 0 < cF es 4 then 4 else if 0 < cF es 5 then 5 else 6
theorem fnM_is {es : List (Int × Int)} {k : Nat} (h2 : 2 ≤ k) (h6 : k ≤ 6) (hl : ∀ j, 2 ≤ j → j < k → ¬ 0 < cF es j) (hk : 0 < cF es k ∨ k = 6) : fnM es = k := by
  unfold fnM
  have hc : k = 2 ∨ k = 3 ∨ k = 4 ∨ k = 5 ∨ k = 6 := by omega
  rcases hc with rfl | rfl | rfl | rfl | rfl
  · rw [if_pos (hk.resolve_right (by decide))]
  · rw [if_neg (hl 2 (by omega) (by omega)), if_pos (hk.resolve_right (by decide))]
  · rw [if_neg (hl 2 (by omega) (by omega)), if_neg (hl 3 (by omega) (by omega)), if_pos (hk.resolve_right (by decide))]
  · rw [if_neg (hl 2 (by omega) (by omega)), if_neg (hl 3 (by omega) (by omega)), if_neg (hl 4 (by omega) (by omega)), if_pos (hk.resolve_right (by decide))]
  · rw [if_neg (hl 2 (by omega) (by omega)), if_neg (hl 3 (by omega) (by omega)), if_neg (hl 4 (by omega) (by omega)), if_neg (hl 5 (by omega) (by omega))]
noncomputable def fnC (n : Int) (es : List (Int × Int)) : Int := if B (IsG n es) then (if hbTo n es es.length then 4 else 0) else 1
noncomputable def fnV (n : Int) (es : List (Int × Int)) : Int := if fnC n es = 0 then (fnM es : Int) else 0
set_option maxRecDepth 100000 in
set_option maxHeartbeats 1600000 in
theorem spFlowNumber_any (n : Int) (b o m c : Nat) (es : List (Int × Int)) (w : World) (h : Eds w b o m es) (hm : m ≤ 1048576) :
    Calls Try.prog 37 #[.agg #[.int .i64 n, .slice (some ⟨b, o, none⟩) m c]] w (Ret (.tuple #[.int .i64 (fnV n es), .int .i64 (fnC n es)]) w) := by
  have hbox := Box2.made w (.int .i64 n) (.slice (some ⟨b, o, none⟩) m c) 30
  have hbb := (by go_grown : Below w.heap.size w (w.alloc (.cells #[.int .i64 n, .slice (some ⟨b, o, none⟩) m c] 30)))
  have HSP := Lib.hid (l01Is_any n b o m c es _ (h.alloc (.cells #[.int .i64 n, .slice (some ⟨b, o, none⟩) m c] 30)) hm)
  by_cases hG : IsG n es
  rotate_left
  · rw [B_false hG] at HSP
    have HC : Hid (fnC n es = 1) := by show _ = _; rw [fnC, B_false hG]; rfl
    have HV : Hid (fnV n es = 0) := by show _ = _; rw [fnV, HC.out]; rfl
    rw [HC.out, HV.out]
    clear hG hbox
    go_enter Try.func37, Try.ntmps37
    go_wp2_with fail
    refine HSP.out.mono ?_
    rintro e w1 ⟨rfl, hb1⟩
    have hB1 := hbb.thenB (by simp) hb1
    clear hb1 hbb
    go_wp2_with fail
    go_ret2
    exact ⟨ret2 rfl rfl, hB1⟩
  rw [B_true hG] at HSP
  have HG := Lib.hid hG
  have hn2 := hG.wf.1
  obtain ⟨N, rfl⟩ : ∃ N : Nat, n = N := ⟨n.toNat, by omega⟩
  have hl := Lib.hid h.len
  have hm30 : m ≤ 30 := by have := hG.wf.2.2.2.1; have := hG.wf.2.1; have := hl.out; omega
  have HBR := Lib.hid (hbTo_br N es m)
  have HLB := Lib.hid (fun W hE => l03Bridges_any N b o m c es W hE hm hG.wf)
  have HC0 : Hid (fnC N es = if hbTo N es m then 4 else 0) := by show _ = _; rw [fnC, B_true hG, if_pos rfl, hl.out]
  obtain ⟨xs, hxs⟩ : ∃ xs, xs = brTo N es m := ⟨_, rfl⟩
  rw [← hxs] at HBR HLB
  clear hxs hG
  cases hbv : hbTo N es m with
  | true =>
    have HC : Hid (fnC N es = 4) := by show _ = _; rw [HC0.out, hbv]; rfl
    have HV : Hid (fnV N es = 0) := by show _ = _; rw [fnV, HC.out]; rfl
    have hlen : 0 < (xs.length : Int) := by have : 0 < xs.length := by rw [HBR.out]; exact hbv
                                            omega
    rw [HC.out, HV.out]
    clear hbv
    go_enter Try.func37, Try.ntmps37
    go_wp2_with fail
    refine HSP.out.mono ?_
    rintro e w1 ⟨rfl, hb1⟩
    have hB1 := hbb.thenB (by simp) hb1
    obtain ⟨s1, p1, q1⟩ := hbox.below hb1
    clear hb1 hbb hbox
    go_wp2_with fail
    refine (HLB.out _ (h.below hB1)).mono ?_
    rintro e w2 ⟨A, c', rfl, O, hb2⟩
    have hB2 := hB1.andB hb2
    clear O hb2
    go_wp2_with fail
    go_ret2
    exact ⟨ret2 rfl rfl, hB2⟩
  | false =>
    have HC : Hid (fnC N es = 0) := by show _ = _; rw [HC0.out, hbv]; rfl
    have HV : Hid (fnV N es = fnM es) := by show _ = _; rw [fnV, HC.out]; rfl
    have hx : xs = [] := by
      refine List.length_eq_zero_iff.1 (Classical.byContradiction fun h0 => ?_)
      have : 0 < xs.length := by omega
      rw [HBR.out, hbv] at this; cases this
    subst hx
    rw [List.length_nil] at HBR
    have HFD : Hid (∀ (k : Nat) W, 2 ≤ k → k ≤ 6 → Eds W b o m es → Calls Try.prog 74 #[.agg #[.int .i64 N, .slice (some ⟨b, o, none⟩) m c], .int .i64 0, .int .i64 k] W (fun e w' => ∃ g, e = .returned (.tuple #[.slice (some ⟨g, 0, none⟩) m m, .bool (decide (0 < cF es k))]) ∧ Below W.heap.size W w')) := fun k W h2 h6 hE => by
      have := l05Find0_any N b o m c k es W hE hm30 HG.out h2 h6
      unfold cF
      rw [hl.out]
      exact this
    rw [HC.out, HV.out]
    clear hbv
    go_enter Try.func37, Try.ntmps37
    go_wp2_with fail
    refine HSP.out.mono ?_
    rintro e w1 ⟨rfl, hb1⟩
    have hB1 := hbb.thenB (by simp) hb1
    obtain ⟨s1, p1, q1⟩ := hbox.below hb1
    clear hb1 hbb hbox
    go_wp2_with fail
    refine (HLB.out _ (h.below hB1)).mono ?_
    rintro e w2 ⟨A, c', rfl, O, hb2⟩
    have hB2 := hB1.andB hb2
    have s2 := Nat.lt_of_lt_of_le s1 hb2.size
    have p2 := (hb2.cell (p := ⟨w.heap.size, 0, none⟩) s1).trans p1
    have q2 := (hb2.cell (p := ⟨w.heap.size, 1, none⟩) s1).trans q1
    clear O hb2 s1 p1 q1
    go_wp2_with fail
    go_loopw [4] (fun kv wv => ∃ k : Nat, 2 ≤ k ∧ k ≤ 6 ∧ kv = .int .i64 k ∧ Hid (∀ j, 2 ≤ j → j < k → ¬ 0 < cF es j) ∧ Below w2.heap.size w2 wv) (fun k _ => 6 - (intOf k).toNat)
    case atStart => exact ⟨2, by omega, by omega, rfl, (fun j h1 h2 => by omega), Below.refl _ _⟩
    case round =>
      obtain ⟨k, hk2, hk6, rfl, HLO, hbr⟩ := hrel
      obtain ⟨w4, rfl⟩ : ∃ w4, w4 = wr := ⟨wr, rfl⟩
      have p4 := (hbr.cell (p := ⟨w.heap.size, 0, none⟩) s2).trans p2
      have q4 := (hbr.cell (p := ⟨w.heap.size, 1, none⟩) s2).trans q2
      have s4 := Nat.lt_of_lt_of_le s2 hbr.size
      have hB4 := hB2.andB hbr
      have HCL := Lib.hid (HFD.out k w4 hk2 hk6 (h.below hB4))
      obtain ⟨ok, hok⟩ : ∃ ok, ok = decide (0 < cF es k) := ⟨_, rfl⟩
      rw [← hok] at HCL
      have HOK := Lib.hid hok
      clear hok
      go_wp2_with fail
      refine HCL.out.mono ?_
      rintro e w5 ⟨g, rfl, hb5⟩
      have hbF := hbr.andB hb5
      have hBF := hB2.andB hbF
      clear p4 q4 s4 HCL hb5
      cases ok with
      | true =>
        have HM : Hid (fnM es = k) := fnM_is hk2 hk6 HLO.out (.inl (of_decide_eq_true HOK.out.symm))
        go_wp2_with fail
        go_ret2
        exact ⟨by rw [HM.out]; exact ret2 rfl rfl, hBF⟩
      | false =>
        by_cases h6 : k = 6
        · have HM : Hid (fnM es = k) := fnM_is hk2 hk6 HLO.out (.inr h6)
          have hq : ((k : Int) == 6) = true := by simp; omega
          clear h6
          go_wp2_with fail
          go_ret2
          exact ⟨by rw [HM.out]; exact ret2 rfl rfl, hBF⟩
        · have hq : ((k : Int) == 6) = false := by simp; omega
          have hLO : Hid (∀ j, 2 ≤ j → j < k + 1 → ¬ 0 < cF es j) := fun j h1 h2 => by
            rcases Nat.lt_or_ge j k with h3 | h3
            · exact HLO.out j h1 h3
            · rw [show j = k by omega]; exact of_decide_eq_false HOK.out.symm
          have hwk : IntKind.i64.wrap ((k : Int) + 1) = ((k + 1 : Nat) : Int) := by rw [IntWalk.i64_in _ (by omega)]; simp
          go_wp2_with fail
          go_roundw
          case rel => first | exact ⟨k + 1, by omega, by omega, by go_num, hLO, hbF⟩ | ((repeat apply Exists.intro); exact ⟨⟨k + 1, by omega, by omega, by go_num, hLO, hbF⟩, rfl⟩)
          case measure => simp [intOf]; omega
set_option maxRecDepth 100000 in
set_option maxHeartbeats 1600000 in
theorem imFlowNumber_any (n : Int) (b o m c : Nat) (es : List (Int × Int)) (w : World) (h : Eds w b o m es) (hm : m ≤ 1048576) :
    Calls Try.prog 38 #[.agg #[.int .i64 n, .slice (some ⟨b, o, none⟩) m c]] w (Ret (.tuple #[.int .i64 (fnV n es), .int .i64 (fnC n es)]) w) := by
  have hbox := Box2.made w (.int .i64 n) (.slice (some ⟨b, o, none⟩) m c) 30
  have hbb := (by go_grown : Below w.heap.size w (w.alloc (.cells #[.int .i64 n, .slice (some ⟨b, o, none⟩) m c] 30)))
  have HGC := Lib.hid (graphCode_any n b o m c es true _ (h.alloc (.cells #[.int .i64 n, .slice (some ⟨b, o, none⟩) m c] 30)) hm)
  by_cases hG : IsG n es
  rotate_left
  · have HC : Hid (fnC n es = 1) := by show _ = _; rw [fnC, B_false hG]; rfl
    have HV : Hid (fnV n es = 0) := by show _ = _; rw [fnV, HC.out]; rfl
    rw [show gcC n es true = 1 by simp [gcC, B_false hG]] at HGC
    rw [HC.out, HV.out]
    clear hG hbox
    go_enter Try.func38, Try.ntmps38
    go_wp2_with fail
    refine HGC.out.mono ?_
    rintro e w1 ⟨rfl, hb1⟩
    have hB1 := hbb.thenB (by simp) hb1
    clear hb1 hbb
    go_wp2_with fail
    go_ret2
    exact ⟨ret2 rfl rfl, hB1⟩
  rw [show gcC n es true = 0 by simp [gcC, B_true hG]] at HGC
  have HG := Lib.hid hG
  have hn2 := hG.wf.1
  obtain ⟨N, rfl⟩ : ∃ N : Nat, n = N := ⟨n.toNat, by omega⟩
  have hl := Lib.hid h.len
  have hm30 : m ≤ 30 := by have := hG.wf.2.2.2.1; have := hG.wf.2.1; have := hl.out; omega
  have HC0 : Hid (fnC N es = if hbTo N es m then 4 else 0) := by show _ = _; rw [fnC, B_true hG, if_pos rfl, hl.out]
  have HHB := Lib.hid (fun W hE => hasBridge_any N b o m c es W hE hm30 hG.wf)
  clear hG
  cases hbv : hbTo N es m with
  | true =>
    have HC : Hid (fnC N es = 4) := by show _ = _; rw [HC0.out, hbv]; rfl
    have HV : Hid (fnV N es = 0) := by show _ = _; rw [fnV, HC.out]; rfl
    rw [hbv] at HHB
    rw [HC.out, HV.out]
    clear hbv
    go_enter Try.func38, Try.ntmps38
    go_wp2_with fail
    refine HGC.out.mono ?_
    rintro e w1 ⟨rfl, hb1⟩
    have hB1 := hbb.thenB (by simp) hb1
    obtain ⟨s1, p1, q1⟩ := hbox.below hb1
    clear hb1 hbb hbox
    go_wp2_with fail
    refine (HHB.out _ (h.below hB1)).mono ?_
    rintro e w2 ⟨rfl, hb2⟩
    have hB2 := hB1.andB hb2
    clear hb2
    go_wp2_with fail
    go_ret2
    exact ⟨ret2 rfl rfl, hB2⟩
  | false =>
    have HC : Hid (fnC N es = 0) := by show _ = _; rw [HC0.out, hbv]; rfl
    have HV : Hid (fnV N es = fnM es) := by show _ = _; rw [fnV, HC.out]; rfl
    have HB0 := Lib.hid hbv
    rw [hbv] at HHB
    have HSX : Hid (0 < cF es 6) := six_flows HG.out (fun k hk => hbTo_no hbv k (by rw [← hl.out]; exact hk))
    have HFR : Hid (∀ k, 1 ≤ k → decide (0 < frN 0 k es N) = decide (0 < cF es k)) := fun k hk => by
      unfold cF frN; rw [count_flows0 HG.out hk]
    rw [HC.out, HV.out]
    clear hbv
    go_enter Try.func38, Try.ntmps38
    go_wp2_with fail
    refine HGC.out.mono ?_
    rintro e w1 ⟨rfl, hb1⟩
    have hB1 := hbb.thenB (by simp) hb1
    obtain ⟨s1, p1, q1⟩ := hbox.below hb1
    clear hb1 hbb hbox
    go_wp2_with fail
    refine (HHB.out _ (h.below hB1)).mono ?_
    rintro e w2 ⟨rfl, hb2⟩
    have hB2 := hB1.andB hb2
    have s2 := Nat.lt_of_lt_of_le s1 hb2.size
    have p2 := (hb2.cell (p := ⟨w.heap.size, 0, none⟩) s1).trans p1
    have q2 := (hb2.cell (p := ⟨w.heap.size, 1, none⟩) s1).trans q1
    clear hb2 s1 p1 q1
    go_wp2_with fail
    go_loopw [5] (fun kv wv => ∃ k : Nat, 2 ≤ k ∧ k ≤ 6 ∧ kv = .int .i64 k ∧ Hid (∀ j, 2 ≤ j → j < k → ¬ 0 < cF es j) ∧ Below w2.heap.size w2 wv) (fun k _ => 6 - (intOf k).toNat)
    case atStart => exact ⟨2, by omega, by omega, rfl, (fun j h1 h2 => by omega), Below.refl _ _⟩
    case round =>
      obtain ⟨k, h2, h6, rfl, HLO, hbr⟩ := hrel
      obtain ⟨w4, rfl⟩ : ∃ w4, w4 = wr := ⟨wr, rfl⟩
      have p4 := (hbr.cell (p := ⟨w.heap.size, 0, none⟩) s2).trans p2
      have q4 := (hbr.cell (p := ⟨w.heap.size, 1, none⟩) s2).trans q2
      have s4 := Nat.lt_of_lt_of_le s2 hbr.size
      have hB4 := hB2.andB hbr
      obtain ⟨ok, hok⟩ : ∃ ok, ok = decide (0 < cF es k) := ⟨_, rfl⟩
      have HOK := Lib.hid hok
      have HFF : Hid (∀ W, Below w4.heap.size w4 W → ∀ bq AV cV, OwnL w4.heap.size W AV (k - 1) cV (upL (k - 1)) → W.cell? ⟨bq, 0, none⟩ = some (.int .i64 k) → Calls Try.prog 76 #[.agg #[.int .i64 N, .slice (some ⟨b, o, none⟩) m c], .agg #[.slice AV (k - 1) cV, .func (.func 127) #[] #[.pointer (some ⟨bq, 0, none⟩)], .func (.func 128) #[] #[]]] W (fun e w' => ∃ v, e = .returned v ∧ FFV ok m v ∧ Below W.heap.size W w')) := fun W hW bq AV cV OV kq => by
        have := firstFlow_any (cV := cV) N b o m c es W (h.below (hB4.andB hW)) hm HG.out HB0.out (upL_src OV) (fun g hg => (OV.blk g hg).2) h2 h6 (by omega) kq
        rw [HFR.out k (by omega), ← hok] at this
        exact this
      clear hok
      go_wp2_with fail
      refine wp_region_then 4 (fun i9 v W => match i9 with
        | 0 => v = .agg #[.int .i64 N, .slice (some ⟨b, o, none⟩) m c]
        | 1 => v = .int .i64 k
        | 2 => RuleV w4.heap.size k v W
        | _ => FFV ok m v)
        (fun i => match i with
        | _ => none)
        (fun k W W' => Below W.heap.size W W')  (fun W => Below w4.heap.size w4 W) (by kernel_rfl) (by kernel_rfl) ?_ ?_ ?_ ?_ ?_
      · exact (Below.refl _ _).drew
      · intro i k v W W' hne hd hC hf hE
        match i, hf with
        | 0, hf => exact hf
        | 1, hf => exact hf
        | 2, hf => exact RuleV.below hf hE
        | _ + 3, hf => exact hf
      · intro k W W' hC hE
        exact Below.andB hC hE
      · simp only [List.take_succ_cons, List.take_zero]
        refine ⟨?_, ?_, ?_, ?_, trivial⟩
        · intro a W hC hs hd
          have hW : Below w4.heap.size w4 W := hC
          have e1 : a.tmps[1]?.getD undef = .pointer (some ⟨w.heap.size, 0, none⟩) := hs 1 (by kernel_rfl)
          refine growsG_none (E := fun W W' => Below W.heap.size W W') rfl ?_
          have k0 := (hW.cell (p := ⟨w.heap.size, 0, none⟩) (s4)).trans (p4)
          have k1 := (hW.cell (p := ⟨w.heap.size, 1, none⟩) (s4)).trans (q4)
          clear hs hd
          unfold GrowsE
          go_simp
          exact Below.refl _ _
        · intro a W hC hs hd
          have hW : Below w4.heap.size w4 W := hC
          have e5 : a.tmps[5]?.getD undef = .int .i64 k := hs 5 (by kernel_rfl)
          refine growsG_none (E := fun W W' => Below W.heap.size W W') rfl ?_
          clear hs hd
          unfold GrowsE
          go_simp
          exact Below.refl _ _
        · intro a W hC hs hd
          have hW : Below w4.heap.size w4 W := hC
          have e14 : (a.tmps[14]?.getD undef) = .int .i64 k := hd 1 14 (by kernel_rfl) (by kernel_rfl) (by kernel_rfl)
          refine growsG_none (E := fun W W' => Below W.heap.size W W') rfl ?_
          clear hs hd
          unfold GrowsE
          go_simp
          refine ⟨Below.refl _ _, (modular_any k W h2 h6).mono ?_⟩
          rintro e w6 ⟨A6, c6, rfl, o6, k6, hb6⟩
          exact ⟨_, rfl, hb6, _, A6, c6, rfl, k6, o6.mono hW.size⟩
        · intro a W hC hs hd
          have hW : Below w4.heap.size w4 W := hC
          have e13 : (a.tmps[13]?.getD undef) = .agg #[.int .i64 N, .slice (some ⟨b, o, none⟩) m c] := hd 0 13 (by kernel_rfl) (by kernel_rfl) (by kernel_rfl)
          have e15 : RuleV w4.heap.size k (a.tmps[15]?.getD undef) W := hd 2 15 (by kernel_rfl) (by kernel_rfl) (by kernel_rfl)
          obtain ⟨bq, AV, cV, e15, hbq, OV⟩ := e15
          refine growsG_none (E := fun W W' => Below W.heap.size W W') rfl ?_
          clear hs hd
          unfold GrowsE
          go_simp
          refine ⟨Below.refl _ _, (HFF.out W hW bq AV cV OV hbq).mono ?_⟩
          rintro e w6 ⟨v6, rfl, f6, hb6⟩
          exact ⟨_, rfl, hb6, f6⟩
      intro vs W hW hf
      have f13 : (vs 13) = .agg #[.int .i64 N, .slice (some ⟨b, o, none⟩) m c] := hf 0 13 (by decide) (by kernel_rfl) (fun _ hk => by cases hk)
      have f14 : (vs 14) = .int .i64 k := hf 1 14 (by decide) (by kernel_rfl) (fun _ hk => by cases hk)
      have f15 : RuleV w4.heap.size k (vs 15) W := hf 2 15 (by decide) (by kernel_rfl) (fun _ hk => by cases hk)
      obtain ⟨bq, AV, cV, f15, hbq, OV⟩ := f15
      have f16 : FFV ok m (vs 16) := hf 3 16 (by decide) (by kernel_rfl) (fun _ hk => by cases hk)
      skip
      simp only [dsts, List.take_succ_cons, List.take_zero, List.drop_succ_cons, List.drop_zero, List.filterMap_cons, List.filterMap_nil, List.foldl_cons, List.foldl_nil, Act.put, List.setIfInBounds_toArray, List.set_cons_succ, List.set_cons_zero, f13, f14, f15, f16]
      clear hf
      have hW : Below w4.heap.size w4 W := hW
      have hbF := hbr.andB hW
      have hBF := hB2.andB hbF
      clear hW OV hbq p4 q4 s4 HFF
      generalize vs 16 = v16 at f16 ⊢
      cases ok with
      | true =>
        have HM : Hid (fnM es = k) := fnM_is h2 h6 HLO.out (.inl (of_decide_eq_true HOK.out.symm))
        obtain ⟨g, rfl⟩ := f16.1 rfl
        have hq0 : ∀ W, (binOp .eql 36 (.slice (some ⟨g, 0, none⟩) m m) (.slice none 0 0)).run Try.prog W = .ok (.bool false) W := fun W => by kernel_rfl
        clear f16
        go_wp2_with fail
        go_ret2
        exact ⟨by rw [HM.out]; exact ret2 rfl rfl, hBF⟩
      | false =>
        obtain rfl := f16.2 rfl
        have hq0 : ∀ W, (binOp .eql 36 (.slice none 0 0) (.slice none 0 0)).run Try.prog W = .ok (.bool true) W := fun W => by kernel_rfl
        clear f16
        have hk6 : k ≠ 6 := fun hh => by
          have h1 := of_decide_eq_false HOK.out.symm
          rw [hh] at h1
          exact h1 HSX.out
        have hLO : Hid (∀ j, 2 ≤ j → j < k + 1 → ¬ 0 < cF es j) := fun j h1 h2 => by
          rcases Nat.lt_or_ge j k with h3 | h3
          · exact HLO.out j h1 h3
          · rw [show j = k by omega]; exact of_decide_eq_false HOK.out.symm
        have hwk : IntKind.i64.wrap ((k : Int) + 1) = ((k + 1 : Nat) : Int) := by rw [IntWalk.i64_in _ (by omega)]; simp
        go_wp2_with fail
        go_roundw
        case rel => exact ⟨k + 1, by omega, by omega, by go_num, hLO, hbF⟩
        case measure => simp [intOf]; omega
end Go.Proofs.Ytppfplhbfgjjhaa
