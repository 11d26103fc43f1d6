import Derived.Test.YtppfplhbfgjjhaaDoorM23
import Derived.Test.YtppfplhbfgjjhaaDoorLi
import Derived.Test.YtppfplhbfgjjhaaDoorM27
namespace Go.Proofs.YtppfplhbfgjjhaaDoor
open Go.RowKit Go.Sort
/-! ### first: the least colouring, part by part -/
theorem nF_onT {L : List Int} (h : ∀ k, 0 ≤ ia L k) (d : Nat) : ∀ k, nF L k d = onT L d k := by
  intro k
  induction k with
  | zero => rfl
  | succ k ih =>
    have hk := h k
    simp only [nF, onT, upF, ih]
    by_cases e : d = (ia L k).toNat
    · rw [if_pos e, if_pos (by omega)]
    · rw [if_neg e, if_neg (by omega)]
theorem atL_nn (es : List (Int × Int)) (v : Int) (k : Nat) : 0 ≤ ia (atL es v) k := by
  by_cases h : k < (atL es v).length
  · obtain ⟨f, _, e, _⟩ := atL_at h; omega
  · simp [ia, show (atL es v).length ≤ k by omega]
theorem nF_gN (es : List (Int × Int)) (v : Int) : nF (atL es v) 3 = gN es v := funext fun d => nF_onT (atL_nn es v) d 3
theorem onT_at {L : List Int} {e : Int} : ∀ {k : Nat}, onT L e k ≠ -1 → ∃ i, i < k ∧ ia L i = e ∧ onT L e k = i := by
  intro k
  induction k with
  | zero => intro h; exact absurd rfl h
  | succ k ih =>
    intro h
    simp only [onT] at h ⊢
    by_cases e1 : ia L k = e
    · rw [if_pos e1]; exact ⟨k, by omega, e1, rfl⟩
    · rw [if_neg e1] at h ⊢
      obtain ⟨i, hi, h1, h2⟩ := ih h
      exact ⟨i, by omega, h1, h2⟩
theorem gN_inj {es : List (Int × Int)} {v : Int} {d e : Nat} (h : gN es v d ≠ -1) (h2 : gN es v d = gN es v e) : d = e := by
  obtain ⟨i, _, h3, h4⟩ := onT_at h
  obtain ⟨j, _, h5, h6⟩ := onT_at (h2 ▸ h : gN es v e ≠ -1)
  have h7 : (i : Int) = j := by
    have a1 : gN es v d = i := h4
    have a2 : gN es v e = j := h6
    omega
  have : i = j := by omega
  subst this
  omega
theorem gN_rng (es : List (Int × Int)) (v : Int) (d : Nat) : -1 ≤ gN es v d ∧ gN es v d ≤ 2 := by have := onT_rng (atL es v) d 3; unfold gN; omega
theorem pF_rng (r : Bool) (es : List (Int × Int)) (d : Nat) : -1 ≤ pF r (atL es 0) d ∧ pF r (atL es 0) d ≤ 2 := by
  cases r with
  | false => simp [pF]
  | true => rw [pF, if_pos rfl, nF_gN]; exact gN_rng es 0 d
theorem atL_ne {es : List (Int × Int)} {v : Int} {i j : Nat} (hij : i < j) (hj : j < (atL es v).length) : (ia (atL es v) i).toNat ≠ (ia (atL es v) j).toNat := by
  have h1 := atTo_asc es.length i j hij hj (es := es) (v := v)
  have h2 := atL_nn es v i
  have h3 : ia (atL es v) i < ia (atL es v) j := h1
  omega
theorem pF_nocl (r : Bool) (es : List (Int × Int)) : NoCl es (pF r (atL es 0)) := by
  intro v i j hij hj h1
  cases r with
  | false => exact absurd rfl h1
  | true =>
    rw [pF, if_pos rfl, nF_gN] at h1 ⊢
    exact fun h2 => atL_ne hij hj (gN_inj h1 h2)
theorem pU8 (r : Bool) (es : List (Int × Int)) (v : Nat) : pU r es (atL es 0) v < 8 := by
  cases r with
  | false => simp [pU]
  | true => rw [pU, if_pos rfl]; exact nU8 es _ 3 (Nat.le_refl _) v
/-- The colourings of a part, as the painter finds them. -/
def impT (es : List (Int × Int)) (L : List Nat) (r : Bool) : List (Nat → Int) := colF es L (pF r (atL es 0)) (pU r es (atL es 0))
/-- Laid over. -/
def ovr (L : List Nat) (f s : Nat → Int) (k : Nat) : Nat → Int := fun d => if d ∈ L.take k then f d else s d
theorem ovr_step {L : List Nat} {f s : Nat → Int} {k : Nat} (h : k < L.length) (d : Nat) : ovr L f s (k + 1) d = if d = L.getD k 0 then f (L.getD k 0) else ovr L f s k d := by
  simp only [ovr]
  rw [List.take_succ_eq_append_getElem h]
  have : L.getD k 0 = L[k] := by simp [h]
  rw [this]
  by_cases e : d = L[k]
  · subst e
    rw [if_pos rfl, if_pos (by simp only [List.mem_append, List.mem_singleton, or_true])]
  · have hm : (d ∈ L.take k ++ [L[k]]) ↔ d ∈ L.take k := by
      simp only [List.mem_append, List.mem_singleton]
      exact ⟨fun h => h.resolve_right e, .inl⟩
    simp only [hm, if_neg e]
structure St1 (be bo go m : Nat) (A : Option Addr) (cA : Nat) (L : List Nat) (s : Nat → Int) (w : World) : Prop where
  ce : w.cell? ⟨be, 0, none⟩ = some (.slice A L.length cA)
  co : w.cell? ⟨bo, 0, none⟩ = some (.slice (some ⟨go, 0, none⟩) m m)
  le : be < w.heap.size
  lo : bo < w.heap.size
  I : SrcI w A L.length (fun j => ((L.getD j 0 : Nat) : Int))
  row : w.rowIs go 2 m (fun d => .int .i64 (s d))
  n1 : be ≠ go
  n2 : bo ≠ go
  n3 : ∀ g, blkOf A = some g → g ≠ go
theorem St1.kept {be bo go m : Nat} {A : Option Addr} {cA : Nat} {L : List Nat} {s : Nat → Int} {w w' : World} {T : Nat → Prop} (h : St1 be bo go m A cA L s w) (k : Kept T w w') (t1 : ¬ T be) (t2 : ¬ T bo) (t3 : ¬ T go) (t4 : ∀ g, blkOf A = some g → ¬ T g) : St1 be bo go m A cA L s w' :=
  ⟨(k.cell h.le t1 0).trans h.ce, (k.cell h.lo t2 0).trans h.co, k.lt h.le, k.lt h.lo, k.srcI h.I t4, k.row h.row t3, h.n1, h.n2, h.n3⟩
-- left out in this seat
-- left out in this seat
/-- For first: each part's first colouring is laid over. -/
def fnd1 (L : List Nat) (s f : Nat → Int) : Bool × (Nat → Int) := (true, ovr L f s L.length)
theorem runF1 (L : List Nat) (s : Nat → Int) (T : List (Nat → Int)) : runF (fnd1 L) s T = match T with | [] => (false, s) | g :: _ => (true, ovr L g s L.length) := by
  cases T with
  | nil => rfl
  | cons g T => simp [runF, fnd1]
-- left out in this seat
-- left out in this seat
/-- What first has laid over after so many parts, and whether it goes on. -/
def foF (es : List (Int × Int)) (Ls : Nat → List Nat) : Nat → Nat → Int
  | 0 => fun _ => 0
  | j + 1 => (runF (fnd1 (Ls j)) (foF es Ls j) (impT es (Ls j) (j == 0))).2
def foB (es : List (Int × Int)) (Ls : Nat → List Nat) (j : Nat) : Bool := (runF (fnd1 (Ls j)) (foF es Ls j) (impT es (Ls j) (j == 0))).1
/-- A list of the call's own, or nil where there is none. -/
def RetO (m : Nat) (q : Prop) (f : Nat → Int) (w : World) (e : Ending) (w' : World) : Prop :=
  (q ∧ ∃ g, e = .returned (.slice (some ⟨g, 0, none⟩) m m) ∧ w.heap.size ≤ g ∧ w'.rowIs g 2 m (fun d => .int .i64 (f d)) ∧ Below w.heap.size w w') ∨ (¬ q ∧ e = .returned (.slice none 0 0) ∧ Below w.heap.size w w')
-- left out in this seat
end Go.Proofs.YtppfplhbfgjjhaaDoor
