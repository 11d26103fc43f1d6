import Derived.Test.YtppfplhbfgjjhaaDoorM24
import Derived.Test.YtppfplhbfgjjhaaDoorFg
import Derived.Test.YtppfplhbfgjjhaaDoorM21
import Derived.Test.YtppfplhbfgjjhaaDoorM9
import Derived.Test.YtppfplhbfgjjhaaDoorM22
namespace Go.Proofs.YtppfplhbfgjjhaaDoor
open Go.RowKit Go.Sort
/-! ### The reference's list of colourings -/
def onT (L : List Int) (e : Int) : Nat → Int
  | 0 => -1
  | k + 1 => if ia L k = e then (k : Int) else onT L e k
theorem onT_rng (L : List Int) (e : Int) : ∀ k, -1 ≤ onT L e k ∧ onT L e k < k := by
  intro k
  induction k with
  | zero => simp [onT]
  | succ k ih => simp only [onT]; split <;> omega
/-- The colours given at a vertex. -/
def gN (es : List (Int × Int)) (v : Int) (d : Nat) : Int := onT (atL es v) d 3
def lsN (m : Nat) (g : Nat → Int) : List Int := (List.range m).map g
theorem lsN_len (m : Nat) (g : Nat → Int) : (lsN m g).length = m := by simp [lsN]
theorem lsN_ia (ys : List Int) : lsN ys.length (ia ys) = ys := by
  apply List.ext_getElem
  · simp [lsN]
  · intro j h1 h2; simp [lsN, ia, h2]
noncomputable def lvs (es : List (Int × Int)) (G : Nat → Int) (m e : Nat) (f : Nat → Int) : List (List Int) := (treeG col3 (okS es G) (List.range' e (m - e)) f).map (lsN m)
noncomputable def lvT (es : List (Int × Int)) (G : Nat → Int) (m e : Nat) (f : Nat → Int) : Nat → List (List Int)
  | 0 => []
  | x + 1 => lvT es G m e f x ++ (if okS es G f e x then lvs es G m (e + 1) (upF f e x) else [])
theorem lvs_step (es : List (Int × Int)) (G : Nat → Int) {m e : Nat} (f : Nat → Int) (h : e < m) : lvs es G m e f = lvT es G m e f 3 := by
  unfold lvs
  rw [show m - e = (m - (e + 1)) + 1 by omega, List.range'_succ]
  simp only [treeG, col3, List.flatMap_cons, List.flatMap_nil, List.append_nil, List.map_append, lvT, List.nil_append, lvs, List.append_assoc]
  have key : ∀ (b : Bool) (X : List (Nat → Int)), (if b = true then X else []).map (lsN m) = if b = true then X.map (lsN m) else [] := fun b X => by cases b <;> rfl
  simp only [key]
  rfl
theorem lvs_leaf (es : List (Int × Int)) (G : Nat → Int) (ys : List Int) : lvs es G ys.length ys.length (ia ys) = [ys] := by
  unfold lvs
  simp [treeG, lsN_ia]
theorem ia_snoc (ys : List Int) (x : Int) : ia (ys ++ [x]) = upF (ia ys) ys.length x := by
  funext j
  simp only [upF]
  by_cases h : j < ys.length
  · rw [ia_app h, if_neg (by omega)]
  · by_cases e : j = ys.length
    · subst e; simp [ia]
    · rw [if_neg e]
      simp only [ia, List.getD_eq_getElem?_getD]
      rw [List.getElem?_eq_none (by simp; omega), List.getElem?_eq_none (by omega)]
def tkL (most : Nat) (rows : List (List Int)) : List (List Int) := rows.take (most + 1)
theorem tk_app (most : Nat) (A B : List (List Int)) : tkL most (tkL most A ++ B) = tkL most (A ++ B) := by
  unfold tkL
  rw [List.take_append, List.take_append, List.take_take, Nat.min_self, List.length_take]
  by_cases h : most + 1 ≤ A.length
  · rw [Nat.min_eq_left h, show most + 1 - (most + 1) = 0 by omega, show most + 1 - A.length = 0 by omega]
  · rw [Nat.min_eq_right (by omega)]
theorem tk_full {most : Nat} {A B : List (List Int)} (h : most < (tkL most A).length) : tkL most (A ++ B) = tkL most A := by
  unfold tkL at h ⊢
  rw [List.take_append, show most + 1 - A.length = 0 by simp at h; omega]
  simp
theorem tk_self {most : Nat} {A : List (List Int)} (h : A.length ≤ most + 1) : tkL most A = A := List.take_of_length_le h
theorem tk_len (most : Nat) (A : List (List Int)) : (tkL most A).length ≤ most + 1 := by simp [tkL]; omega
theorem lvT_pre (es : List (Int × Int)) (G : Nat → Int) (m e : Nat) (f : Nat → Int) (x : Nat) : ∀ y, x ≤ y → ∃ Z, lvT es G m e f y = lvT es G m e f x ++ Z := by
  intro y
  induction y with
  | zero => intro h; obtain rfl : x = 0 := by omega
            exact ⟨[], by simp⟩
  | succ y ih =>
    intro h
    by_cases e : x = y + 1
    · subst e; exact ⟨[], by simp⟩
    · obtain ⟨Z, hz⟩ := ih (by omega)
      exact ⟨Z ++ _, by rw [lvT, hz, List.append_assoc]⟩
/-- Lists of lists, grown: in the block of the one that was handed over, or in a new one. -/
def LLo (B : Nat) (A : Option Addr) (n : Nat) (R : List (List Int)) (v : Value) (W : World) : Prop := ∃ A2 c2, v = .slice A2 R.length c2 ∧ (∃ top, OwnLL B top W A2 R.length c2 R) ∧ ∀ g, blkOf A2 = some g → blkOf A = some g ∨ n ≤ g
theorem LLo.below {B : Nat} {A : Option Addr} {n : Nat} {R : List (List Int)} {v : Value} {W W' : World} (h : LLo B A n R v W) (hb : Below W.heap.size W W') : LLo B A n R v W' := let ⟨A2, c2, e, ⟨t, ho⟩, hn⟩ := h; ⟨A2, c2, e, ⟨t, ho.below hb⟩, hn⟩
theorem fitP_adj {es : List (Int × Int)} {f cs : Nat → Int} {e : Nat} {x : Int} (hf : ∀ d, d < e → cs d = f d) (hx : cs e = x) : FitP es cs e ↔ ∀ d, d < e → adjP es d e → f d ≠ x := by
  have v0 : vE es (2 * e + 0) = ea es e := vE_0 es e
  have v1 : vE es (2 * e + 1) = eb es e := vE_1 es e
  constructor
  · intro h d hd ha
    rw [← hf d hd, ← hx]
    rcases ha with ha | ha
    · exact h 0 (by omega) d hd (by rw [v0]; exact ha)
    · exact h 1 (by omega) d hd (by rw [v1]; exact ha)
  · intro h k hk d hd ha
    rw [hf d hd, hx]
    refine h d hd ?_
    rcases (show k = 0 ∨ k = 1 by omega) with rfl | rfl
    · rw [v0] at ha; exact .inl ha
    · rw [v1] at ha; exact .inr ha
-- left out in this seat
end Go.Proofs.YtppfplhbfgjjhaaDoor
