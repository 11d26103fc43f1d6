import Derived.Test.YtnoneppmeaeicaaDoorM6
import Derived.Test.YtnoneppmeaeicaaDoorM4
namespace Go.Proofs.YtnoneppmeaeicaaDoor
open Go.RowKit Go.Sort
/-! ### Searching a graph, plain -/
def oth (es : List (Int × Int)) (e : Nat) (u : Int) : Int := ea es e + eb es e - u
def upI (f : Int → Int) (v x : Int) (u : Int) : Int := if u = v then x else f u
theorem upI_same (f : Int → Int) (v x : Int) : upI f v x v = x := by simp [upI]
theorem upI_other (f : Int → Int) (v x u : Int) (h : u ≠ v) : upI f v x u = f u := by simp [upI, h]
/-- Where a search stands: distances, and the vertices met. -/
structure BS where
  far : Int → Int
  q : List Int
def bStep (es : List (Int × Int)) (sk : Nat → Bool) (u : Int) (s : BS) (e : Nat) : BS :=
  if sk e = false ∧ s.far (oth es e u) < 0 then ⟨upI s.far (oth es e u) (s.far u + 1), s.q ++ [oth es e u]⟩ else s
theorem bStep_yes {es : List (Int × Int)} {sk : Nat → Bool} {u : Int} {s : BS} {e : Nat} (h1 : sk e = false) (h2 : s.far (oth es e u) < 0) : bStep es sk u s e = ⟨upI s.far (oth es e u) (s.far u + 1), s.q ++ [oth es e u]⟩ := by simp [bStep, h1, h2]
theorem bStep_no {es : List (Int × Int)} {sk : Nat → Bool} {u : Int} {s : BS} {e : Nat} (h : ¬ (sk e = false ∧ s.far (oth es e u) < 0)) : bStep es sk u s e = s := by rw [bStep, if_neg h]
def bVis (es : List (Int × Int)) (sk : Nat → Bool) (u : Int) (L : List Int) (s : BS) : Nat → BS
  | 0 => s
  | k + 1 => bStep es sk u (bVis es sk u L s k) (ia L k).toNat
def bNext (es : List (Int × Int)) (sk : Nat → Bool) (s : BS) (i : Nat) : BS := bVis es sk (ia s.q i) (atL es (ia s.q i)) s (atL es (ia s.q i)).length
def bfs (es : List (Int × Int)) (sk : Nat → Bool) (a : Int) : Nat → BS
  | 0 => ⟨fun v => if v = a then 0 else -1, [a]⟩
  | i + 1 => if i < (bfs es sk a i).q.length then bNext es sk (bfs es sk a i) i else bfs es sk a i
theorem memAt {es : List (Int × Int)} {v x : Int} : ∀ {k : Nat}, x ∈ atTo es v k → ∃ f : Nat, f < k ∧ x = f ∧ (ea es f = v ∨ eb es f = v) := by
  intro k
  induction k with
  | zero => intro h; simp [atTo] at h
  | succ k ih =>
    intro h
    simp only [atTo, List.mem_append] at h
    rcases h with h | h
    · obtain ⟨f, hf, h⟩ := ih h
      exact ⟨f, by omega, h⟩
    · split at h
      · simp at h; exact ⟨k, by omega, h, by assumption⟩
      · simp at h
theorem atMem {es : List (Int × Int)} {v : Int} : ∀ {k f : Nat}, f < k → (ea es f = v ∨ eb es f = v) → (f : Int) ∈ atTo es v k := by
  intro k
  induction k with
  | zero => intro f h; omega
  | succ k ih =>
    intro f h hv
    simp only [atTo, List.mem_append]
    by_cases e : f = k
    · subst e; exact .inr (by rw [if_pos hv]; simp)
    · exact .inl (ih (by omega) hv)
theorem iaMem {xs : List Int} {i : Nat} (h : i < xs.length) : ia xs i ∈ xs := by simp [ia, h]
theorem memIa {xs : List Int} {x : Int} (h : x ∈ xs) : ∃ i, i < xs.length ∧ ia xs i = x := by
  obtain ⟨i, hi, rfl⟩ := List.mem_iff_getElem.1 h
  exact ⟨i, hi, by simp [ia, hi]⟩
theorem ia_app {xs ys : List Int} {i : Nat} (h : i < xs.length) : ia (xs ++ ys) i = ia xs i := by simp [ia, List.getElem?_append_left h]
theorem atL_at {es : List (Int × Int)} {u : Int} {k : Nat} (hk : k < (atL es u).length) : ∃ f : Nat, f < es.length ∧ ia (atL es u) k = f ∧ (ea es f = u ∨ eb es f = u) := memAt (iaMem hk)
theorem oth_in {n : Int} {es : List (Int × Int)} (hn : WfP n es) {u : Int} {f : Nat} (hf : f < es.length) (h : ea es f = u ∨ eb es f = u) : 0 ≤ oth es f u ∧ oth es f u ≤ n - 1 ∧ oth es f u ≠ u := by
  have := hn.2.2.2.2 f hf
  unfold oth
  rcases h with h | h <;> omega
structure BInv (n a : Int) (s : BS) : Prop where
  nd : s.q.Nodup
  mem : ∀ v, 0 ≤ s.far v ↔ v ∈ s.q
  rng : ∀ v, v ∈ s.q → 0 ≤ v ∧ v ≤ n - 1
  lo : ∀ v, -1 ≤ s.far v
  hi : ∀ v, s.far v < s.q.length
  a0 : s.far a = 0
  pos : ∀ v, v ≠ a → s.far v ≠ 0
  aq : a ∈ s.q
theorem BInv.start {n a : Int} (h0 : 0 ≤ a) (h1 : a ≤ n - 1) : BInv n a ⟨fun v => if v = a then 0 else -1, [a]⟩ where
  nd := by simp
  mem := fun v => by by_cases h : v = a <;> simp [h]
  rng := fun v hv => by simp at hv; subst hv; exact ⟨h0, h1⟩
  lo := fun v => by by_cases h : v = a <;> simp [h]
  hi := fun v => by by_cases h : v = a <;> simp [h]
  a0 := by simp
  pos := fun v h => by simp [h]
  aq := by simp
theorem BInv.step {n a : Int} {es : List (Int × Int)} {sk : Nat → Bool} {u : Int} {s : BS} (h : BInv n a s) (hn : WfP n es) (hu : u ∈ s.q) {f : Nat} (hf : f < es.length) (hv : ea es f = u ∨ eb es f = u) : BInv n a (bStep es sk u s f) := by
  by_cases hc : sk f = false ∧ s.far (oth es f u) < 0
  · rw [bStep_yes hc.1 hc.2]
    have ho := oth_in hn hf hv
    have hnm : oth es f u ∉ s.q := fun hm => by have := (h.mem _).2 hm; omega
    have hua := (h.mem u).2 hu
    have hne : oth es f u ≠ a := fun e => by have := h.a0; rw [← e] at this; omega
    refine ⟨?_, fun v => ?_, fun v hv => ?_, fun v => ?_, fun v => ?_, ?_, fun v hva => ?_, ?_⟩
    · simp only
      rw [List.nodup_append]
      exact ⟨h.nd, by simp, fun x hx y hy => by simp at hy; subst hy; exact fun e => hnm (e ▸ hx)⟩
    · simp only [upI, List.mem_append, List.mem_singleton]
      split
      · simp [*]; omega
      · rw [h.mem]; simp [*]
    · simp only [List.mem_append, List.mem_singleton] at hv
      rcases hv with hv | rfl
      · exact h.rng v hv
      · exact ⟨ho.1, ho.2.1⟩
    · simp only [upI]; split
      · omega
      · exact h.lo v
    · simp only [upI, List.length_append, List.length_singleton]
      split
      · have := h.hi u; omega
      · have := h.hi v; omega
    · simp only [upI]; rw [if_neg (Ne.symm hne)]; exact h.a0
    · simp only [upI]; split
      · omega
      · exact h.pos v hva
    · simp only [List.mem_append]; exact .inl h.aq
  · rw [bStep_no hc]; exact h
theorem bStep_q {es : List (Int × Int)} {sk : Nat → Bool} {u : Int} {s : BS} {f : Nat} : ∃ ys, (bStep es sk u s f).q = s.q ++ ys := by
  by_cases hc : sk f = false ∧ s.far (oth es f u) < 0
  · rw [bStep_yes hc.1 hc.2]; exact ⟨_, rfl⟩
  · rw [bStep_no hc]; exact ⟨[], by simp⟩
theorem bVis_q {es : List (Int × Int)} {sk : Nat → Bool} {u : Int} {L : List Int} {s : BS} (k : Nat) : ∃ ys, (bVis es sk u L s k).q = s.q ++ ys := by
  induction k with
  | zero => exact ⟨[], by simp [bVis]⟩
  | succ k ih =>
    obtain ⟨ys, h⟩ := ih
    obtain ⟨zs, h2⟩ := bStep_q (es := es) (sk := sk) (u := u) (s := bVis es sk u L s k) (f := (ia L k).toNat)
    exact ⟨ys ++ zs, by simp only [bVis]; rw [h2, h, List.append_assoc]⟩
theorem BInv.vis {n a : Int} {es : List (Int × Int)} {sk : Nat → Bool} {u : Int} {s : BS} (h : BInv n a s) (hn : WfP n es) (hu : u ∈ s.q) : ∀ k, k ≤ (atL es u).length → BInv n a (bVis es sk u (atL es u) s k) := by
  intro k
  induction k with
  | zero => intro _; exact h
  | succ k ih =>
    intro hk
    obtain ⟨f, hf, e, hv⟩ := atL_at (es := es) (u := u) (k := k) (by omega)
    obtain ⟨ys, hq⟩ := bVis_q (es := es) (sk := sk) (u := u) (L := atL es u) (s := s) k
    simp only [bVis]
    rw [e, Int.toNat_natCast]
    exact (ih (by omega)).step hn (by rw [hq]; exact List.mem_append_left _ hu) hf hv
theorem BInv.next {n a : Int} {es : List (Int × Int)} {sk : Nat → Bool} {s : BS} (h : BInv n a s) (hn : WfP n es) {i : Nat} (hi : i < s.q.length) : BInv n a (bNext es sk s i) :=
  h.vis hn (iaMem hi) _ (Nat.le_refl _)
theorem BInv.bfs {n a : Int} {es : List (Int × Int)} {sk : Nat → Bool} (hn : WfP n es) (h0 : 0 ≤ a) (h1 : a ≤ n - 1) : ∀ i, BInv n a (bfs es sk a i) := by
  intro i
  induction i with
  | zero => exact BInv.start h0 h1
  | succ i ih =>
    rw [Go.Proofs.YtnoneppmeaeicaaDoor.bfs]
    split
    · exact ih.next hn (by assumption)
    · exact ih
theorem BInv.len {n a : Int} {s : BS} (h : BInv n a s) : s.q.length ≤ n.toNat := by
  refine inj_le n.toNat s.q.length (fun i => (ia s.q i).toNat) (fun i hi => ?_) (fun i j hi hj e => ?_)
  · have := h.rng _ (iaMem hi); omega
  · have h1 := h.rng _ (iaMem hi)
    have h2 := h.rng _ (iaMem hj)
    have e2 : ia s.q i = ia s.q j := by omega
    have hp := List.pairwise_iff_getElem.1 h.nd
    have e3 : s.q[i] = s.q[j] := by simpa [ia, hi, hj] using e2
    rcases Nat.lt_trichotomy i j with hlt | heq | hgt
    · exact absurd e3 (hp i j hi hj hlt)
    · exact heq
    · exact absurd e3.symm (hp j i hj hi hgt)
theorem bfs_succ {es : List (Int × Int)} {sk : Nat → Bool} {a : Int} {i : Nat} (h : i < (bfs es sk a i).q.length) : bfs es sk a (i + 1) = bNext es sk (bfs es sk a i) i := by rw [bfs, if_pos h]
theorem bfs_done {es : List (Int × Int)} {sk : Nat → Bool} {a : Int} {i : Nat} (h : ¬ i < (bfs es sk a i).q.length) : ∀ j, i ≤ j → bfs es sk a j = bfs es sk a i := by
  intro j hj
  induction j with
  | zero => rw [show i = 0 by omega]
  | succ j ih =>
    by_cases e : i = j + 1
    · rw [e]
    · have := ih (by omega)
      rw [bfs, this, if_neg (by omega)]
/-- The distances from a vertex. -/
def farF (es : List (Int × Int)) (sk : Nat → Bool) (n a : Int) : Int → Int := (bfs es sk a n.toNat).far
theorem farF_at {n a : Int} {es : List (Int × Int)} {sk : Nat → Bool} (hn : WfP n es) (h0 : 0 ≤ a) (h1 : a ≤ n - 1) {i : Nat} (h : ¬ i < (bfs es sk a i).q.length) (hi : i ≤ (bfs es sk a i).q.length) : farF es sk n a = (bfs es sk a i).far := by
  have := (BInv.bfs (sk := sk) hn h0 h1 i).len
  rw [farF, bfs_done h _ (by omega)]
theorem farF_inv {n a : Int} {es : List (Int × Int)} {sk : Nat → Bool} (hn : WfP n es) (h0 : 0 ≤ a) (h1 : a ≤ n - 1) : BInv n a (bfs es sk a n.toNat) := BInv.bfs hn h0 h1 _
theorem farF_bd {n a : Int} {es : List (Int × Int)} {sk : Nat → Bool} (hn : WfP n es) (h0 : 0 ≤ a) (h1 : a ≤ n - 1) (v : Int) : -1 ≤ farF es sk n a v ∧ farF es sk n a v ≤ 19 := by
  have h := farF_inv (sk := sk) hn h0 h1
  have := h.lo v
  have := h.hi v
  have := h.len
  have := hn.2.1
  unfold farF
  omega
theorem farF_pos {n a : Int} {es : List (Int × Int)} {sk : Nat → Bool} (hn : WfP n es) (h0 : 0 ≤ a) (h1 : a ≤ n - 1) {v : Int} (hv : v ≠ a) : 0 ≤ farF es sk n a v ↔ 0 < farF es sk n a v := by
  have := (farF_inv (sk := sk) hn h0 h1).pos v hv
  unfold farF
  omega
/-! ### Ways -/
def AdjE (es : List (Int × Int)) (sk : Nat → Bool) (u v : Int) : Prop := ∃ e, e < es.length ∧ sk e = false ∧ ((ea es e = u ∧ eb es e = v) ∨ (eb es e = u ∧ ea es e = v))
theorem AdjE.symm {es : List (Int × Int)} {sk : Nat → Bool} {u v : Int} (h : AdjE es sk u v) : AdjE es sk v u := by
  obtain ⟨e, he, hs, h⟩ := h
  exact ⟨e, he, hs, h.elim (fun h => .inr ⟨h.2, h.1⟩) (fun h => .inl ⟨h.2, h.1⟩)⟩
def RchK (es : List (Int × Int)) (sk : Nat → Bool) : Nat → Int → Int → Prop
  | 0, u, v => u = v
  | k + 1, u, v => ∃ x, RchK es sk k u x ∧ AdjE es sk x v
def Rch (es : List (Int × Int)) (sk : Nat → Bool) (u v : Int) : Prop := ∃ k, RchK es sk k u v
theorem Rch.refl (es : List (Int × Int)) (sk : Nat → Bool) (u : Int) : Rch es sk u u := ⟨0, rfl⟩
theorem Rch.step {es : List (Int × Int)} {sk : Nat → Bool} {u x v : Int} (h : Rch es sk u x) (k : AdjE es sk x v) : Rch es sk u v := let ⟨m, hm⟩ := h; ⟨m + 1, x, hm, k⟩
theorem Rch.trans {es : List (Int × Int)} {sk : Nat → Bool} {u x v : Int} (h : Rch es sk u x) (k : Rch es sk x v) : Rch es sk u v := by
  obtain ⟨m, hm⟩ := k
  induction m generalizing v with
  | zero => obtain rfl : x = v := hm; exact h
  | succ m ih => obtain ⟨y, hy, ha⟩ := hm; exact (ih hy).step ha
theorem Rch.adj {es : List (Int × Int)} {sk : Nat → Bool} {u v : Int} (k : AdjE es sk u v) : Rch es sk u v := (Rch.refl es sk u).step k
theorem Rch.symm {es : List (Int × Int)} {sk : Nat → Bool} {u v : Int} (h : Rch es sk u v) : Rch es sk v u := by
  obtain ⟨m, hm⟩ := h
  induction m generalizing v with
  | zero => obtain rfl : u = v := hm; exact Rch.refl _ _ _
  | succ m ih => obtain ⟨y, hy, ha⟩ := hm; exact (Rch.adj ha.symm).trans (ih hy)
theorem adj_oth {es : List (Int × Int)} {sk : Nat → Bool} {u : Int} {f : Nat} (hf : f < es.length) (hs : sk f = false) (hv : ea es f = u ∨ eb es f = u) : AdjE es sk u (oth es f u) := by
  refine ⟨f, hf, hs, ?_⟩
  unfold oth
  rcases hv with h | h
  · exact .inl ⟨h, by omega⟩
  · exact .inr ⟨h, by omega⟩
/-- All that is met is reached. -/
theorem bVis_sound {es : List (Int × Int)} {sk : Nat → Bool} {a u : Int} {s : BS} (hu : u ∈ s.q) (h : ∀ v, v ∈ s.q → Rch es sk a v) : ∀ k, k ≤ (atL es u).length → ∀ v, v ∈ (bVis es sk u (atL es u) s k).q → Rch es sk a v := by
  intro k
  induction k with
  | zero => intro _; exact h
  | succ k ih =>
    intro hk v hv
    obtain ⟨f, hf, e, hvv⟩ := atL_at (es := es) (u := u) (k := k) (by omega)
    simp only [bVis] at hv
    rw [e, Int.toNat_natCast] at hv
    by_cases hc : sk f = false ∧ (bVis es sk u (atL es u) s k).far (oth es f u) < 0
    · rw [bStep_yes hc.1 hc.2] at hv
      simp only [List.mem_append, List.mem_singleton] at hv
      rcases hv with hv | rfl
      · exact ih (by omega) v hv
      · exact (h u hu).step (adj_oth hf hc.1 hvv)
    · rw [bStep_no hc] at hv; exact ih (by omega) v hv
theorem bfs_sound {es : List (Int × Int)} {sk : Nat → Bool} {a : Int} : ∀ i v, v ∈ (bfs es sk a i).q → Rch es sk a v := by
  intro i
  induction i with
  | zero => intro v hv; simp [bfs] at hv; subst hv; exact Rch.refl _ _ _
  | succ i ih =>
    intro v hv
    rw [bfs] at hv
    split at hv
    · exact bVis_sound (iaMem (by assumption)) ih _ (Nat.le_refl _) v hv
    · exact ih v hv
/-- Behind a vertex's visit all its neighbours are met. -/
theorem bVis_full {n a : Int} {es : List (Int × Int)} {sk : Nat → Bool} {u : Int} {s : BS} (h : BInv n a s) (hn : WfP n es) (hu : u ∈ s.q) : ∀ k, k ≤ (atL es u).length → ∀ j, j < k → sk (ia (atL es u) j).toNat = false → oth es (ia (atL es u) j).toNat u ∈ (bVis es sk u (atL es u) s k).q := by
  intro k
  induction k with
  | zero => intro _ j hj; omega
  | succ k ih =>
    intro hk j hj hs
    obtain ⟨ys, hq⟩ := bStep_q (es := es) (sk := sk) (u := u) (s := bVis es sk u (atL es u) s k) (f := (ia (atL es u) k).toNat)
    simp only [bVis]
    by_cases e : j = k
    · subst e
      by_cases hc : (bVis es sk u (atL es u) s j).far (oth es (ia (atL es u) j).toNat u) < 0
      · rw [bStep_yes hs hc]; simp
      · rw [hq]
        exact List.mem_append_left _ (((h.vis (sk := sk) hn hu j (by omega)).mem _).1 (by omega))
    · rw [hq]; exact List.mem_append_left _ (ih (by omega) j (by omega) hs)
theorem bfs_pre {es : List (Int × Int)} {sk : Nat → Bool} {a : Int} (i : Nat) : ∃ ys, (bfs es sk a (i + 1)).q = (bfs es sk a i).q ++ ys := by
  rw [bfs]
  split
  · exact bVis_q _
  · exact ⟨[], by simp⟩
theorem bfs_closed {n a : Int} {es : List (Int × Int)} {sk : Nat → Bool} (hn : WfP n es) (h0 : 0 ≤ a) (h1 : a ≤ n - 1) : ∀ i j, j < i → j < (bfs es sk a i).q.length → ∀ v, AdjE es sk (ia (bfs es sk a i).q j) v → v ∈ (bfs es sk a i).q := by
  intro i
  induction i with
  | zero => intro j hj; omega
  | succ i ih =>
    intro j hj hjl v hv
    by_cases hi : i < (bfs es sk a i).q.length
    · obtain ⟨ys, hq⟩ := bfs_pre (es := es) (sk := sk) (a := a) i
      have hjl' : j < (bfs es sk a i).q.length := by omega
      have e : ia (bfs es sk a (i + 1)).q j = ia (bfs es sk a i).q j := by rw [hq, ia_app hjl']
      rw [e] at hv
      by_cases hji : j = i
      · subst hji
        rw [bfs_succ hi]
        obtain ⟨f, hf, hs, hh⟩ := hv
        obtain ⟨k, hk, ek⟩ := memIa (atMem (es := es) (v := ia (bfs es sk a j).q j) (k := es.length) hf (hh.elim (fun h => .inl h.1) (fun h => .inr h.1)))
        have := bVis_full (sk := sk) (BInv.bfs (sk := sk) hn h0 h1 j) hn (iaMem hi) _ (Nat.le_refl _) k hk (by simp only [atL]; rw [ek, Int.toNat_natCast]; exact hs)
        simp only [atL] at this
        rw [ek, Int.toNat_natCast] at this
        rw [show v = oth es f (ia (bfs es sk a j).q j) from by unfold oth; rcases hh with hh | hh <;> omega]
        exact this
      · rw [hq]; exact List.mem_append_left _ (ih j (by omega) hjl' v hv)
    · rw [bfs_done hi (i + 1) (by omega)] at hjl hv ⊢
      exact ih j (by omega) hjl v hv
theorem bfs_end {n a : Int} {es : List (Int × Int)} {sk : Nat → Bool} (hn : WfP n es) (h0 : 0 ≤ a) (h1 : a ≤ n - 1) {v : Int} : v ∈ (bfs es sk a n.toNat).q ↔ Rch es sk a v := by
  refine ⟨bfs_sound _ v, ?_⟩
  have hI := BInv.bfs (sk := sk) hn h0 h1 n.toNat
  rintro ⟨k, hk⟩
  induction k generalizing v with
  | zero => obtain rfl : a = v := hk; exact hI.aq
  | succ k ih =>
    obtain ⟨x, hx, ha⟩ := hk
    obtain ⟨j, hj, e⟩ := memIa (ih hx)
    exact bfs_closed hn h0 h1 n.toNat j (by have := hI.len; omega) hj v (by rw [e]; exact ha)
theorem farF_iff {n a : Int} {es : List (Int × Int)} {sk : Nat → Bool} (hn : WfP n es) (h0 : 0 ≤ a) (h1 : a ≤ n - 1) (v : Int) : 0 ≤ farF es sk n a v ↔ Rch es sk a v := by
  rw [← bfs_end hn h0 h1, ← (farF_inv (sk := sk) hn h0 h1).mem v, farF]
theorem Rch.rng {n : Int} {es : List (Int × Int)} {sk : Nat → Bool} (hn : WfP n es) {u v : Int} (h : Rch es sk u v) (h0 : 0 ≤ u ∧ u ≤ n - 1) : 0 ≤ v ∧ v ≤ n - 1 := by
  obtain ⟨k, hk⟩ := h
  induction k generalizing v with
  | zero => obtain rfl : u = v := hk; exact h0
  | succ k ih =>
    obtain ⟨x, hx, e, he, _, hh⟩ := hk
    have := hn.2.2.2.2 e he
    rcases hh with hh | hh <;> omega
end Go.Proofs.YtnoneppmeaeicaaDoor
