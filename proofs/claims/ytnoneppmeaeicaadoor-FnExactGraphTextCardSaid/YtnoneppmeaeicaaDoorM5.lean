import Derived.Test.YtnoneppmeaeicaaDoorM4
namespace Go.Proofs.YtnoneppmeaeicaaDoor
open Go.RowKit Go.Sort
/-! ### Sets as ascending lists -/
def SetP (ls : Nat → Int) (l : Nat) (u : Int) : Prop := ∀ j, j < l → (0 ≤ ls j ∧ ls j ≤ u) ∧ (0 < j → ls (j - 1) < ls j)
theorem SetP.succ {ls : Nat → Int} {j : Nat} {u : Int} (h : SetP ls j u) (h1 : inB (ls j) 0 u = true) (h2 : 0 < j → ls (j - 1) < ls j) : SetP ls (j + 1) u := fun i hi => by
  by_cases e : i = j
  · subst e; exact ⟨inB_iff.1 h1, h2⟩
  · exact h i (by omega)
noncomputable def setB (ls : Nat → Int) (l : Nat) (u : Int) : Bool := B (SetP ls l u)
noncomputable def setC (ls : Nat → Int) (l : Nat) (u : Int) : Int := if setB ls l u then 0 else 2
theorem setC_0 {ls : Nat → Int} {l : Nat} {u : Int} (h : SetP ls l u) : setC ls l u = 0 := by simp [setC, setB, B_true h]
theorem setC_2 {ls : Nat → Int} {l : Nat} {u : Int} (h : ¬ SetP ls l u) : setC ls l u = 2 := by simp [setC, setB, B_false h]
-- left out in this seat
-- left out in this seat
end Go.Proofs.YtnoneppmeaeicaaDoor
namespace Go.Proofs.YtnoneppmeaeicaaDoor
open Go.RowKit Go.Sort
/-! ### Edges that leave a set -/
def lvTo (es : List (Int × Int)) (f : Int → Bool) : Nat → List Int
  | 0 => []
  | k + 1 => lvTo es f k ++ (if f (ea es k) = f (eb es k) then [] else [(k : Int)])
theorem lvTo_len (es : List (Int × Int)) (f : Int → Bool) (k : Nat) : (lvTo es f k).length ≤ k := by
  induction k with
  | zero => simp [lvTo]
  | succ k ih => simp only [lvTo, List.length_append]; split <;> simp <;> omega
theorem lvTo_yes {es : List (Int × Int)} {f : Int → Bool} {k : Nat} (h : ¬ f (ea es k) = f (eb es k)) : lvTo es f (k + 1) = lvTo es f k ++ [(k : Int)] := by simp [lvTo, h]
theorem lvTo_no {es : List (Int × Int)} {f : Int → Bool} {k : Nat} (h : f (ea es k) = f (eb es k)) : lvTo es f (k + 1) = lvTo es f k := by simp [lvTo, h]
def lvL (es : List (Int × Int)) (ls : Nat → Int) (l : Nat) : List Int := lvTo es (hasB (setN ls l)) es.length
theorem hasB_succ (ls : Nat → Int) (k v : Nat) : hasB (setN ls (k + 1)) (v : Int) = if v = (ls k).toNat then true else hasB (setN ls k) (v : Int) := by
  simp only [hasB, setN, Nat.testBit_or, Nat.testBit_two_pow, Int.toNat_natCast]
  by_cases h : v = (ls k).toNat
  · simp [h]
  · rw [if_neg h, decide_eq_false (fun e => h e.symm), Bool.or_false]
-- left out in this seat
theorem infB : (Tryd.prog.info? 4).map (fun i => (i.zero, i.size, i.bytes)) = some (some (.bool false), 1, 1) := by kernel_rfl
-- left out in this seat
end Go.Proofs.YtnoneppmeaeicaaDoor
namespace Go.Proofs.YtnoneppmeaeicaaDoor
open Go.RowKit Go.Sort
/-! ### Matchings -/
def MatP (n : Int) (es : List (Int × Int)) (ls : Nat → Int) (l : Nat) : Prop := SetP ls l ((es.length : Int) - 1) ∧ NP (endQ es ls) (2 * l) ∧ 2 * (l : Int) = n
noncomputable def matB (n : Int) (es : List (Int × Int)) (ls : Nat → Int) (l : Nat) : Bool := B (MatP n es ls l)
theorem endQ_in {n : Int} {es : List (Int × Int)} {ls : Nat → Int} {l : Nat} (hn : WfP n es) (hs : SetP ls l ((es.length : Int) - 1)) (a : Nat) (ha : a < 2 * l) : 0 ≤ endQ es ls a ∧ endQ es ls a ≤ n - 1 := by
  have h1 := (hs (a / 2) (by omega)).1
  have h2 := hn.2.2.2.2 (ls (a / 2)).toNat (by omega)
  unfold endQ
  split <;> omega
theorem endQ_cell {w : World} {b o m : Nat} {es : List (Int × Int)} {ls : Nat → Int} {j k x : Nat} (h : Eds w b o m es) (hx : ls j = x) (hm : x < m) (hk : k < 2) : w.cell? ⟨b, o + x * 2 + k, none⟩ = some (.int .i64 (endQ es ls (2 * j + k))) := by
  rcases (show k = 0 ∨ k = 1 by omega) with rfl | rfl
  · rw [Nat.add_zero, Nat.add_zero, endQ_0, hx, Int.toNat_natCast]; exact h.ca x hm
  · rw [endQ_1, hx, Int.toNat_natCast]; exact h.cb x hm
-- left out in this seat
end Go.Proofs.YtnoneppmeaeicaaDoor
