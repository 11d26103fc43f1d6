import Derived.Test.YtppfplhbfgjjhaaCe
import Derived.Test.YtppfplhbfgjjhaaCw
namespace Go.Proofs.Ytppfplhbfgjjhaa
open Go.RowKit Go.Sort
/-! ### The reference's parts, plain -/
theorem hasB_orN (s u : Nat) (x : Int) (hx : 0 ≤ x) : hasB (s ||| 2 ^ u) x = (decide (x = u) || hasB s x) := by
  obtain ⟨y, rfl⟩ : ∃ y : Nat, x = y := ⟨x.toNat, by omega⟩
  rw [hasB_or]
  by_cases h : y = u
  · subst h; simp
  · rw [if_neg h, show decide ((y : Int) = u) = false by simp; omega]; simp
theorem eStep_has (s : ES) (f : Nat) : hasB (eStep eT s f).o f = true := by
  by_cases h : hasB s.o f = false
  · rw [eStep_yes h rfl]; rw [hasB_or, if_pos rfl]
  · rw [eStep_no (fun hc => h hc.1)]; simpa using h
theorem eStep_mono {s : ES} {f : Nat} {x : Nat} (h : hasB s.o x = true) : hasB (eStep eT s f).o x = true := by
  by_cases h2 : hasB s.o f = false
  · rw [eStep_yes h2 rfl, hasB_or]; split
    · rfl
    · exact h
  · rw [eStep_no (fun hc => h2 hc.1)]; exact h
theorem eVis_mono {L : List Int} {s : ES} {x : Nat} (h : hasB s.o x = true) : ∀ k, hasB (eVis eT L s k).o x = true := by
  intro k
  induction k with
  | zero => exact h
  | succ k ih => exact eStep_mono ih
theorem eEnd_mono {es : List (Int × Int)} {v : Nat → Int} {u : Nat} {s : ES} {x : Nat} (h : hasB s.o x = true) : ∀ k, hasB (eEnd es v eT u s k).o x = true := by
  intro k
  induction k with
  | zero => exact h
  | succ k ih => exact eVis_mono ih _
theorem eBfs_mono {es : List (Int × Int)} {v : Nat → Int} {s : ES} {x i : Nat} (h : hasB (eBfs es v eT s i).o x = true) : ∀ j, i ≤ j → hasB (eBfs es v eT s j).o x = true := by
  intro j
  induction j with
  | zero => intro hj; rwa [show i = 0 by omega] at h
  | succ j ih =>
    intro hj
    by_cases e : i = j + 1
    · rwa [e] at h
    · have := ih (by omega)
      rw [eBfs]; split
      · exact eEnd_mono this 2
      · exact this
theorem eVis_has {L : List Int} {s : ES} {i : Nat} : ∀ k, i < k → hasB (eVis eT L s k).o ((ia L i).toNat : Nat) = true := by
  intro k
  induction k with
  | zero => intro h; omega
  | succ k ih =>
    intro h
    by_cases e : i = k
    · subst e; exact eStep_has _ _
    · exact eStep_mono (ih (by omega))
theorem eEnd_has {es : List (Int × Int)} {u : Nat} {s : ES} {f : Nat} (hf : f < es.length) (ha : adjP es u f) : hasB (eEnd es (vE es) eT u s 2).o f = true := by
  have key : ∀ v : Int, (ea es f = v ∨ eb es f = v) → ∀ s : ES, hasB (eVis eT (atL es v) s (atL es v).length).o f = true := fun v hv s => by
    obtain ⟨i, hi, e⟩ := memIa (atMem (v := v) hf hv)
    have := eVis_has (L := atL es v) (s := s) (i := i) (atL es v).length hi
    rw [show ia (atL es v) i = (f : Int) from e, Int.toNat_natCast] at this
    exact this
  have e0 : vE es (2 * u + 0) = ea es u := vE_0 es u
  have e1 : vE es (2 * u + 1) = eb es u := vE_1 es u
  by_cases h1 : ea es f = ea es u ∨ eb es f = ea es u
  · have h0 : hasB (eEnd es (vE es) eT u s 1).o f = true := key (vE es (2 * u + 0)) (by rw [e0]; exact h1) _
    exact eVis_mono h0 _
  · refine key (vE es (2 * u + 1)) ?_ _
    rw [e1]
    rcases ha with (h | h) | (h | h)
    · exact absurd (.inl h.symm) h1
    · exact .inl h.symm
    · exact absurd (.inr h.symm) h1
    · exact .inr h.symm
/-- What is in the queue is connected, and what is marked is in the queue or was marked. -/
structure QInv (es : List (Int × Int)) (M e : Nat) (s : ES) : Prop where
  mark : ∀ f : Nat, hasB s.o f = true ↔ hasB M f = true ∨ (f : Int) ∈ s.q
  ld : ∀ f : Nat, (f : Int) ∈ s.q → leadF es noSk (ea es f) = leadF es noSk (ea es e)
  nn : ∀ x, x ∈ s.q → 0 ≤ x ∧ x < es.length
theorem QInv.step {es : List (Int × Int)} {M e f : Nat} {s : ES} (h : QInv es M e s) (hf : f < es.length) (hl : leadF es noSk (ea es f) = leadF es noSk (ea es e)) : QInv es M e (eStep eT s f) := by
  by_cases h2 : hasB s.o f = false
  · rw [eStep_yes h2 rfl]
    refine ⟨fun x => ?_, fun x hx => ?_, fun x hx => ?_⟩
    · show hasB (s.o ||| 2 ^ f) x = true ↔ hasB M x = true ∨ (x : Int) ∈ s.q ++ [(f : Int)]
      rw [hasB_or]
      by_cases e1 : x = f
      · subst e1; simp
      · rw [if_neg e1, h.mark x, List.mem_append]
        have : ¬ ((x : Int) ∈ [(f : Int)]) := by simp; omega
        constructor
        · rintro (h1 | h1)
          · exact .inl h1
          · exact .inr (.inl h1)
        · rintro (h1 | h1 | h1)
          · exact .inl h1
          · exact .inr h1
          · exact absurd h1 this
    · rcases List.mem_append.1 hx with h1 | h1
      · exact h.ld x h1
      · have : x = f := by simp at h1; omega
        subst this; exact hl
    · rcases List.mem_append.1 hx with h1 | h1
      · exact h.nn x h1
      · have : x = f := by simpa using h1
        omega
  · rw [eStep_no (fun hc => h2 hc.1)]; exact h
theorem QInv.vis {N : Nat} {es : List (Int × Int)} (hn : WfP N es) {M e u : Nat} {s : ES} {v : Int} (hu : u < es.length) (hlu : leadF es noSk (ea es u) = leadF es noSk (ea es e)) (hv : v = ea es u ∨ v = eb es u) (h : QInv es M e s) : ∀ k, k ≤ (atL es v).length → QInv es M e (eVis eT (atL es v) s k) := by
  intro k
  induction k with
  | zero => intro _; exact h
  | succ k ih =>
    intro hk
    obtain ⟨f, hf, e1, hfv⟩ := atL_at (es := es) (u := v) (k := k) (by omega)
    simp only [eVis]
    rw [e1, Int.toNat_natCast]
    refine (ih (by omega)).step hf ?_
    rw [← hlu]
    refine (lead_adj hn hu hf ?_).symm
    unfold adjP
    rcases hv with rfl | rfl <;> rcases hfv with h1 | h1
    · exact .inl (.inl h1.symm)
    · exact .inr (.inl h1.symm)
    · exact .inl (.inr h1.symm)
    · exact .inr (.inr h1.symm)
theorem QInv.ends {N : Nat} {es : List (Int × Int)} (hn : WfP N es) {M e u : Nat} {s : ES} (hu : u < es.length) (hlu : leadF es noSk (ea es u) = leadF es noSk (ea es e)) (h : QInv es M e s) : QInv es M e (eEnd es (vE es) eT u s 2) := by
  have h1 : QInv es M e (eEnd es (vE es) eT u s 1) := h.vis hn hu hlu (.inl (vE_0 es u)) _ (Nat.le_refl _)
  exact h1.vis hn hu hlu (.inr (vE_1 es u)) _ (Nat.le_refl _)
theorem QInv.bfs {N : Nat} {es : List (Int × Int)} (hn : WfP N es) {M e : Nat} {s : ES} (h : QInv es M e s) : ∀ i, QInv es M e (eBfs es (vE es) eT s i) := by
  intro i
  induction i with
  | zero => exact h
  | succ i ih =>
    rw [eBfs]
    split
    · rename_i hlt
      have hx := ih.nn _ (iaMem hlt)
      obtain ⟨u, hu⟩ : ∃ u : Nat, ia (eBfs es (vE es) eT s i).q i = u := ⟨(ia (eBfs es (vE es) eT s i).q i).toNat, by omega⟩
      rw [hu, Int.toNat_natCast]
      exact ih.ends hn (by omega) (ih.ld u (by rw [← hu]; exact iaMem hlt))
    · exact ih
theorem eBfs_pre {es : List (Int × Int)} {v : Nat → Int} {T : Nat → Bool} {s : ES} (i : Nat) : ∀ j, i ≤ j → ∃ ys, (eBfs es v T s j).q = (eBfs es v T s i).q ++ ys := by
  intro j
  induction j with
  | zero => intro h; exact ⟨[], by rw [show i = 0 by omega]; simp⟩
  | succ j ih =>
    intro h
    by_cases e : i = j + 1
    · exact ⟨[], by rw [e]; simp⟩
    · obtain ⟨ys, hy⟩ := ih (by omega)
      rw [eBfs]
      split
      · obtain ⟨zs, hz⟩ := eEnd_q (es := es) (vE := v) (T := T) (u := (ia (eBfs es v T s j).q j).toNat) (s := eBfs es v T s j) 2
        exact ⟨ys ++ zs, by rw [hz, hy, List.append_assoc]⟩
      · exact ⟨ys, hy⟩
/-- Where the search ends, all neighbours are marked. -/
theorem fin_closed {es : List (Int × Int)} {s : ES} (hI : EInv es.length s) {u f : Nat} (hu : (u : Int) ∈ (eFin es (vE es) eT s).q) (hf : f < es.length) (ha : adjP es u f) : hasB (eFin es (vE es) eT s).o f = true := by
  obtain ⟨i, hi, e⟩ := memIa hu
  have hlen := (hI.bfs (vE := vE es) (T := eT) es.length).len
  have hil : i < es.length := Nat.lt_of_lt_of_le hi hlen
  have h1 : i < (eBfs es (vE es) eT s i).q.length := by
    refine Classical.byContradiction fun hc => ?_
    have := eBfs_done hc es.length (by omega)
    unfold eFin at hi
    rw [this] at hi
    exact hc hi
  have h2 : ia (eBfs es (vE es) eT s i).q i = u := by
    obtain ⟨ys, hy⟩ := eBfs_pre (es := es) (v := vE es) (T := eT) (s := s) i es.length (by omega)
    unfold eFin at e
    rw [hy, ia_app h1] at e
    exact e
  have h3 : hasB (eBfs es (vE es) eT s (i + 1)).o f = true := by
    rw [eBfs_succ h1, h2, Int.toNat_natCast]
    exact eEnd_has hf ha
  exact eBfs_mono h3 es.length (by omega)
noncomputable def ldE (es : List (Int × Int)) (d : Nat) : Int := leadF es noSk (ea es d)
theorem rch_edges {es : List (Int × Int)} {Q : Nat → Prop} {e : Nat} (he : e < es.length) (hQ : Q e) (hc : ∀ u f, u < es.length → Q u → f < es.length → adjP es u f → Q f) :
    ∀ k (v : Int), RchK es noSk k (ea es e) v → ∀ d, d < es.length → (ea es d = v ∨ eb es d = v) → Q d := by
  intro k
  induction k with
  | zero =>
    intro v hv d hd hdv
    have hv : ea es e = v := hv
    refine hc e d he hQ hd ?_
    unfold adjP
    rcases hdv with h | h
    · exact .inl (.inl (by omega))
    · exact .inr (.inl (by omega))
  | succ k ih =>
    intro v hv d hd hdv
    obtain ⟨x, hx, f, hf, _, hfx⟩ := hv
    have hQf : Q f := ih x hx f hf (hfx.elim (fun h => .inl h.1) (fun h => .inr h.1))
    refine hc f d hf hQf hd ?_
    unfold adjP
    rcases hfx with ⟨_, h2⟩ | ⟨_, h2⟩ <;> rcases hdv with h | h
    · exact .inl (.inr (by omega))
    · exact .inr (.inr (by omega))
    · exact .inl (.inl (by omega))
    · exact .inr (.inl (by omega))
/-- The search of a part: what it marks. -/
theorem ptE_is {N : Nat} {es : List (Int × Int)} (hn : WfP N es) {M e : Nat} (he : e < es.length) (hM : ∀ d f, d < es.length → f < es.length → ldE es d = ldE es f → (hasB M d = true ↔ hasB M f = true)) (hMe : hasB M e = false) :
    (∀ f : Nat, f < es.length → ((f : Int) ∈ (ptE es M e).q ↔ ldE es f = ldE es e)) ∧ (∀ f : Nat, f < es.length → (hasB (ptE es M e).o f = true ↔ hasB M f = true ∨ ldE es f = ldE es e)) := by
  have hI : EInv es.length ⟨M ||| 2 ^ e, [(e : Int)]⟩ := EInv.one he (by rw [hasB_or, if_pos rfl])
  have hQ : QInv es M e (ptE es M e) := QInv.bfs hn (s := ⟨M ||| 2 ^ e, [(e : Int)]⟩) ⟨fun f => by
    show hasB (M ||| 2 ^ e) f = true ↔ hasB M f = true ∨ (f : Int) ∈ [(e : Int)]
    rw [hasB_or]
    by_cases h : f = e
    · subst h; simp
    · rw [if_neg h]
      have : ¬ ((f : Int) ∈ [(e : Int)]) := by simp; omega
      exact ⟨.inl, fun h1 => h1.resolve_right this⟩, fun f hf => by
    have : f = e := by simp at hf; omega
    rw [this], fun x hx => by
    have : x = e := by simpa using hx
    omega⟩ es.length
  have hcl : ∀ u f, u < es.length → (u : Int) ∈ (ptE es M e).q → f < es.length → adjP es u f → (f : Int) ∈ (ptE es M e).q := fun u f hu huq hf ha => by
    rcases (hQ.mark f).1 (fin_closed hI huq hf ha) with h | h
    · exfalso
      have h1 : ldE es f = ldE es e := by
        show leadF es noSk (ea es f) = leadF es noSk (ea es e)
        rw [← hQ.ld u huq]
        exact (lead_adj hn hu hf ha).symm
      rw [(hM f e hf he h1).1 h] at hMe
      cases hMe
    · exact h
  have heq : (e : Int) ∈ (ptE es M e).q := by
    obtain ⟨ys, hy⟩ := eBfs_pre (es := es) (v := vE es) (T := eT) (s := ⟨M ||| 2 ^ e, [(e : Int)]⟩) 0 es.length (Nat.zero_le _)
    show (e : Int) ∈ (eBfs es (vE es) eT ⟨M ||| 2 ^ e, [(e : Int)]⟩ es.length).q
    rw [hy]; simp [eBfs]
  have hmem : ∀ f : Nat, f < es.length → ((f : Int) ∈ (ptE es M e).q ↔ ldE es f = ldE es e) := fun f hf => by
    refine ⟨fun h => hQ.ld f h, fun h => ?_⟩
    have w1 := hn.2.2.2.2 e he
    have w2 := hn.2.2.2.2 f hf
    obtain ⟨k, hk⟩ := (leadF_iff w1.1 w2.1).1 h.symm
    exact rch_edges (Q := fun d => (d : Int) ∈ (ptE es M e).q) he heq hcl k (ea es f) hk f hf (.inl rfl)
  refine ⟨hmem, fun f hf => ?_⟩
  rw [hQ.mark f, hmem f hf]
end Go.Proofs.Ytppfplhbfgjjhaa
