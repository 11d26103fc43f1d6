import Derived.Test.YtppfplhbfgjjhaaRc
import Derived.Test.YtppfplhbfgjjhaaM4
namespace Go.Proofs.Ytppfplhbfgjjhaa
open Go.RowKit Go.Sort
/-! ### Searching the edges, plain -/
structure ES where
  o : Nat
  q : List Int
def eStep (T : Nat → Bool) (s : ES) (f : Nat) : ES := if hasB s.o f = false ∧ T f = true then ⟨s.o ||| 2 ^ f, s.q ++ [(f : Int)]⟩ else s
theorem eStep_yes {T : Nat → Bool} {s : ES} {f : Nat} (h1 : hasB s.o f = false) (h2 : T f = true) : eStep T s f = ⟨s.o ||| 2 ^ f, s.q ++ [(f : Int)]⟩ := by rw [eStep, if_pos ⟨h1, h2⟩]
theorem eStep_no {T : Nat → Bool} {s : ES} {f : Nat} (h : ¬ (hasB s.o f = false ∧ T f = true)) : eStep T s f = s := by rw [eStep, if_neg h]
def eVis (T : Nat → Bool) (L : List Int) (s : ES) : Nat → ES
  | 0 => s
  | k + 1 => eStep T (eVis T L s k) (ia L k).toNat
/-- Both ends of an edge, as far as so many of them. -/
def eEnd (es : List (Int × Int)) (vE : Nat → Int) (T : Nat → Bool) (u : Nat) (s : ES) : Nat → ES
  | 0 => s
  | k + 1 => eVis T (atL es (vE (2 * u + k))) (eEnd es vE T u s k) (atL es (vE (2 * u + k))).length
def eBfs (es : List (Int × Int)) (vE : Nat → Int) (T : Nat → Bool) (s : ES) : Nat → ES
  | 0 => s
  | i + 1 => if i < (eBfs es vE T s i).q.length then eEnd es vE T (ia (eBfs es vE T s i).q i).toNat (eBfs es vE T s i) 2 else eBfs es vE T s i
structure EInv (m : Nat) (s : ES) : Prop where
  nd : s.q.Nodup
  rng : ∀ f, f ∈ s.q → 0 ≤ f ∧ f < (m : Int)
  has : ∀ f, f ∈ s.q → hasB s.o f = true
theorem EInv.step {m : Nat} {T : Nat → Bool} {s : ES} {f : Nat} (h : EInv m s) (hf : f < m) : EInv m (eStep T s f) := by
  by_cases hc : hasB s.o f = false ∧ T f = true
  · rw [eStep_yes hc.1 hc.2]
    refine ⟨?_, fun x hx => ?_, fun x hx => ?_⟩
    · show (s.q ++ [(f : Int)]).Nodup
      rw [List.nodup_append]
      refine ⟨h.nd, by simp, fun x hx y hy e => ?_⟩
      obtain rfl : y = f := by simpa using hy
      subst e
      have := h.has _ hx
      rw [hc.1] at this; cases this
    · rcases List.mem_append.1 hx with hx | hx
      · exact h.rng x hx
      · obtain rfl : x = f := by simpa using hx
        omega
    · have hb : ∀ y : Int, hasB (s.o ||| 2 ^ f) y = (hasB s.o y || decide (f = y.toNat)) := fun y => by
        unfold hasB; rw [Nat.testBit_or, Nat.testBit_two_pow]
      show hasB (s.o ||| 2 ^ f) x = true
      rw [hb]
      rcases List.mem_append.1 hx with hx | hx
      · rw [h.has x hx]; rfl
      · obtain rfl : x = f := by simpa using hx
        simp
  · rw [eStep_no hc]; exact h
theorem eStep_q {T : Nat → Bool} {s : ES} {f : Nat} : ∃ ys, (eStep T s f).q = s.q ++ ys := by
  by_cases hc : hasB s.o f = false ∧ T f = true
  · rw [eStep_yes hc.1 hc.2]; exact ⟨_, rfl⟩
  · rw [eStep_no hc]; exact ⟨[], by simp⟩
theorem eVis_q {T : Nat → Bool} {L : List Int} {s : ES} (k : Nat) : ∃ ys, (eVis T L s k).q = s.q ++ ys := by
  induction k with
  | zero => exact ⟨[], by simp [eVis]⟩
  | succ k ih =>
    obtain ⟨ys, h⟩ := ih
    obtain ⟨zs, h2⟩ := eStep_q (T := T) (s := eVis T L s k) (f := (ia L k).toNat)
    exact ⟨ys ++ zs, by simp only [eVis]; rw [h2, h, List.append_assoc]⟩
theorem eEnd_q {es : List (Int × Int)} {vE : Nat → Int} {T : Nat → Bool} {u : Nat} {s : ES} (k : Nat) : ∃ ys, (eEnd es vE T u s k).q = s.q ++ ys := by
  induction k with
  | zero => exact ⟨[], by simp [eEnd]⟩
  | succ k ih =>
    obtain ⟨ys, h⟩ := ih
    obtain ⟨zs, h2⟩ := eVis_q (T := T) (L := atL es (vE (2 * u + k))) (s := eEnd es vE T u s k) (atL es (vE (2 * u + k))).length
    exact ⟨ys ++ zs, by simp only [eEnd]; rw [h2, h, List.append_assoc]⟩
theorem EInv.vis {es : List (Int × Int)} {T : Nat → Bool} {v : Int} {s : ES} (h : EInv es.length s) : ∀ k, k ≤ (atL es v).length → EInv es.length (eVis T (atL es v) s k) := by
  intro k
  induction k with
  | zero => intro _; exact h
  | succ k ih =>
    intro hk
    obtain ⟨f, hf, e, hv⟩ := atL_at (es := es) (u := v) (k := k) (by omega)
    simp only [eVis]
    rw [e, Int.toNat_natCast]
    exact (ih (by omega)).step hf
theorem EInv.ends {es : List (Int × Int)} {vE : Nat → Int} {T : Nat → Bool} {u : Nat} {s : ES} (h : EInv es.length s) : ∀ k, EInv es.length (eEnd es vE T u s k) := by
  intro k
  induction k with
  | zero => exact h
  | succ k ih => exact ih.vis _ (Nat.le_refl _)
theorem EInv.bfs {es : List (Int × Int)} {vE : Nat → Int} {T : Nat → Bool} {s : ES} (h : EInv es.length s) : ∀ i, EInv es.length (eBfs es vE T s i) := by
  intro i
  induction i with
  | zero => exact h
  | succ i ih =>
    rw [eBfs]
    split
    · exact ih.ends 2
    · exact ih
theorem EInv.len {m : Nat} {s : ES} (h : EInv m s) : s.q.length ≤ m := by
  refine inj_le m s.q.length (fun i => (ia s.q i).toNat) (fun i hi => ?_) (fun i j hi hj e => ?_)
  · have := h.rng _ (iaMem hi); omega
  · have h1 := h.rng _ (iaMem hi)
    have h2 := h.rng _ (iaMem hj)
    have e2 : ia s.q i = ia s.q j := by omega
    have hp := List.pairwise_iff_getElem.1 h.nd
    have e3 : s.q[i] = s.q[j] := by simpa [ia, hi, hj] using e2
    rcases Nat.lt_trichotomy i j with hlt | heq | hgt
    · exact absurd e3 (hp i j hi hj hlt)
    · exact heq
    · exact absurd e3.symm (hp j i hj hi hgt)
theorem eBfs_succ {es : List (Int × Int)} {vE : Nat → Int} {T : Nat → Bool} {s : ES} {i : Nat} (h : i < (eBfs es vE T s i).q.length) : eBfs es vE T s (i + 1) = eEnd es vE T (ia (eBfs es vE T s i).q i).toNat (eBfs es vE T s i) 2 := by rw [eBfs, if_pos h]
theorem eBfs_done {es : List (Int × Int)} {vE : Nat → Int} {T : Nat → Bool} {s : ES} {i : Nat} (h : ¬ i < (eBfs es vE T s i).q.length) : ∀ j, i ≤ j → eBfs es vE T s j = eBfs es vE T s i := by
  intro j hj
  induction j with
  | zero => rw [show i = 0 by omega]
  | succ j ih =>
    by_cases e : i = j + 1
    · rw [e]
    · have := ih (by omega)
      rw [eBfs, this, if_neg (by omega)]
/-- Where the search ends. -/
def eFin (es : List (Int × Int)) (vE : Nat → Int) (T : Nat → Bool) (s : ES) : ES := eBfs es vE T s es.length
theorem eFin_at {es : List (Int × Int)} {vE : Nat → Int} {T : Nat → Bool} {s : ES} (hI : EInv es.length s) {i : Nat} (h : ¬ i < (eBfs es vE T s i).q.length) (hi : i ≤ (eBfs es vE T s i).q.length) : eFin es vE T s = eBfs es vE T s i := by
  have := (hI.bfs (vE := vE) (T := T) i).len
  exact eBfs_done h _ (by omega)
theorem EInv.one {m : Nat} {o e : Nat} (h : e < m) (ho : hasB o e = true) : EInv m ⟨o, [(e : Int)]⟩ :=
  ⟨by simp, fun f hf => by simp at hf; omega, fun f hf => by simp at hf; subst hf; exact ho⟩
end Go.Proofs.Ytppfplhbfgjjhaa
