import Derived.Test.YtppfplhbfgjjhaaM21
import Derived.Test.YtppfplhbfgjjhaaM13
import Derived.Test.YtppfplhbfgjjhaaM4
namespace Go.Proofs.Ytppfplhbfgjjhaa
open Go.RowKit Go.Sort
/-! ### Alike colourings, plain -/
def AlikeP (m : Nat) (a b : Nat → Int) : Prop := ∀ e f, e < m → f < m → a e = a f → b e = b f
/-- The image of a colour: the place of the edge at vertex 0 that has it. -/
def imgL (L : List Int) (a : Nat → Int) (x : Int) : Int :=
  if a (ia L 2).toNat = x then 2 else if a (ia L 1).toNat = x then 1 else 0
theorem col_adj {n : Int} {es : List (Int × Int)} {cs : Nat → Int} (hn : WfP n es) (h : ColP es cs) {e f : Nat} {v : Int} (he : e < es.length) (hfe : f < e) (h1 : ea es f = v ∨ eb es f = v) (h2 : ea es e = v ∨ eb es e = v) : cs f ≠ cs e := by
  have hf := ((colP_iff hn).1 h e he).2
  rcases h2 with h2 | h2
  · exact hf 0 (by omega) f hfe (by rw [Nat.add_zero, vE_0, h2]; exact h1)
  · exact hf 1 (by omega) f hfe (by rw [vE_1, h2]; exact h1)
theorem atTo_asc {es : List (Int × Int)} {v : Int} : ∀ k i j, i < j → j < (atTo es v k).length → ia (atTo es v k) i < ia (atTo es v k) j := by
  intro k
  induction k with
  | zero => intro i j _ hj; simp [atTo] at hj
  | succ k ih =>
    intro i j hij hj
    simp only [atTo] at hj ⊢
    split at hj
    case isTrue h =>
      rw [if_pos h]
      simp only [List.length_append, List.length_cons, List.length_nil] at hj
      by_cases hjk : j < (atTo es v k).length
      · have := ih i j hij hjk
        simpa [ia, List.getElem?_append_left hjk, List.getElem?_append_left (Nat.lt_trans hij hjk)] using this
      · have hje : j = (atTo es v k).length := by omega
        subst hje
        obtain ⟨f, hf, e1, _⟩ := mem_atTo.1 (ia_mem (xs := atTo es v k) (i := i) hij)
        have e2 : ia (atTo es v k ++ [(k : Int)]) i = ia (atTo es v k) i := by simp [ia, List.getElem?_append_left hij]
        have e3 : ia (atTo es v k ++ [(k : Int)]) (atTo es v k).length = k := by simp [ia]
        rw [e2, e3, e1]; omega
    case isFalse h =>
      rw [if_neg h, List.append_nil] at *
      exact ih i j hij (by simpa using hj)
/-- The three edges at a vertex have the three colours. -/
theorem at3 {n : Int} {es : List (Int × Int)} {cs : Nat → Int} (hG : IsG n es) (h : ColP es cs) {v : Int} (h1 : 0 ≤ v) (h2 : v ≤ n - 1) :
    (∀ i, i < 3 → ∃ f : Nat, f < es.length ∧ ia (atL es v) i = f ∧ 0 ≤ cs f ∧ cs f ≤ 2) ∧
    cs (ia (atL es v) 0).toNat ≠ cs (ia (atL es v) 1).toNat ∧ cs (ia (atL es v) 0).toNat ≠ cs (ia (atL es v) 2).toNat ∧ cs (ia (atL es v) 1).toNat ≠ cs (ia (atL es v) 2).toNat := by
  have hL := atL_3 hG h1 h2
  have hm : ∀ i, i < 3 → ∃ f : Nat, f < es.length ∧ ia (atL es v) i = f ∧ (ea es f = v ∨ eb es f = v) := fun i hi => mem_atTo.1 (ia_mem (xs := atL es v) (i := i) (by omega))
  have hd : ∀ i j, i < j → j < 3 → cs (ia (atL es v) i).toNat ≠ cs (ia (atL es v) j).toNat := fun i j hij hj => by
    obtain ⟨f, hf, e1, v1⟩ := hm i (by omega)
    obtain ⟨g, hg, e2, v2⟩ := hm j hj
    have hlt : ia (atL es v) i < ia (atL es v) j := atTo_asc es.length i j hij (by have : (atTo es v es.length).length = 3 := hL; omega)
    rw [e1, e2] at hlt ⊢
    rw [Int.toNat_natCast, Int.toNat_natCast]
    exact col_adj hG.wf h hg (by omega) v1 v2
  exact ⟨fun i hi => by obtain ⟨f, hf, e1, _⟩ := hm i hi; exact ⟨f, hf, e1, (h.1 f hf).1, (h.1 f hf).2⟩, hd 0 1 (by omega) (by omega), hd 0 2 (by omega) (by omega), hd 1 2 (by omega) (by omega)⟩
theorem alike_iff {n : Int} {es : List (Int × Int)} {a b : Nat → Int} (hG : IsG n es) (ha : ColP es a) (hb : ColP es b) :
    (∀ e, e < es.length → imgL (atL es 0) a (a e) = imgL (atL es 0) b (b e)) ↔ AlikeP es.length a b := by
  have hn := hG.wf.1
  obtain ⟨m1, d1, d2, d3⟩ := at3 hG ha (v := 0) (by omega) (by omega)
  obtain ⟨m2, e1, e2, e3⟩ := at3 hG hb (v := 0) (by omega) (by omega)
  obtain ⟨f0, hf0, q0, r0⟩ := m1 0 (by omega)
  obtain ⟨f1, hf1, q1, r1⟩ := m1 1 (by omega)
  obtain ⟨f2, hf2, q2, r2⟩ := m1 2 (by omega)
  have s0 := hb.1 f0 hf0
  have s1 := hb.1 f1 hf1
  have s2 := hb.1 f2 hf2
  simp only [imgL, q0, q1, q2, Int.toNat_natCast] at *
  constructor
  · intro h e f he hf hae
    have h1 := h e he
    have h2 := h f hf
    have := ha.1 e he
    have := hb.1 e he
    have := hb.1 f hf
    rw [hae, h2] at h1
    split at h1 <;> split at h1 <;> (try split at h1) <;> (try split at h1) <;> omega
  · intro h e he
    have := ha.1 e he
    have := hb.1 e he
    have g0 := h e f0 he hf0
    have g1 := h e f1 he hf1
    have g2 := h e f2 he hf2
    split <;> split <;> (try split) <;> (try split) <;> omega
/-- What impl's names are after some edges. -/
def nmF (a b : Nat → Int) : Nat → Int → Int
  | 0, _ => -1
  | i + 1, x => if a i = x ∧ nmF a b i x = -1 then b i else nmF a b i x
theorem nmF_none {a b : Nat → Int} {i : Nat} {x : Int} (hb : ∀ f, f < i → 0 ≤ b f) : nmF a b i x = -1 ↔ ∀ f, f < i → a f ≠ x := by
  induction i with
  | zero => simp [nmF]
  | succ i ih =>
    have ih := ih (fun f hf => hb f (by omega))
    have h0 := hb i (by omega)
    simp only [nmF]
    constructor
    · intro h f hf
      split at h
      · omega
      · rename_i hn
        have h1 := ih.1 h
        by_cases e : f = i
        · subst e; exact fun e2 => hn ⟨e2, h⟩
        · exact h1 f (by omega)
    · intro h
      rw [if_neg (fun hc => h i (by omega) hc.1)]
      exact ih.2 fun f hf => h f (by omega)
theorem nmF_some {a b : Nat → Int} {i : Nat} {x : Int} (hb : ∀ f, f < i → 0 ≤ b f) (h : nmF a b i x ≠ -1) : ∃ f, f < i ∧ a f = x ∧ nmF a b i x = b f := by
  induction i with
  | zero => simp [nmF] at h
  | succ i ih =>
    simp only [nmF] at h ⊢
    split
    · rename_i hc; exact ⟨i, by omega, hc.1, rfl⟩
    · rename_i hc
      rw [if_neg hc] at h
      obtain ⟨f, hf, e⟩ := ih (fun f hf => hb f (by omega)) h
      exact ⟨f, by omega, e⟩
end Go.Proofs.Ytppfplhbfgjjhaa
namespace Go.Proofs.Ytppfplhbfgjjhaa
open Go.RowKit Go.Sort
-- left out in this seat
end Go.Proofs.Ytppfplhbfgjjhaa
