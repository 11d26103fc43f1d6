import Derived.Test.YtccinfmphkihoaaSt
namespace Go.Proofs.Ytccinfmphkihoaa
open Go.RowKit Go.Sort
/-! ### Edges that leave a set -/
def lvTo (es : List (Int × Int)) (f : Int → Bool) : Nat → List Int
  | 0 => []
  | k + 1 => lvTo es f k ++ (if f (ea es k) = f (eb es k) then [] else [(k : Int)])
theorem lvTo_len (es : List (Int × Int)) (f : Int → Bool) (k : Nat) : (lvTo es f k).length ≤ k := by
  induction k with
  | zero => simp [lvTo]
  | succ k ih => simp only [lvTo, List.length_append]; split <;> simp <;> omega
theorem lvTo_yes {es : List (Int × Int)} {f : Int → Bool} {k : Nat} (h : ¬ f (ea es k) = f (eb es k)) : lvTo es f (k + 1) = lvTo es f k ++ [(k : Int)] := by simp [lvTo, h]
theorem lvTo_no {es : List (Int × Int)} {f : Int → Bool} {k : Nat} (h : f (ea es k) = f (eb es k)) : lvTo es f (k + 1) = lvTo es f k := by simp [lvTo, h]
def lvL (es : List (Int × Int)) (ls : Nat → Int) (l : Nat) : List Int := lvTo es (hasB (setN ls l)) es.length
theorem hasB_succ (ls : Nat → Int) (k v : Nat) : hasB (setN ls (k + 1)) (v : Int) = if v = (ls k).toNat then true else hasB (setN ls k) (v : Int) := by
  simp only [hasB, setN, Nat.testBit_or, Nat.testBit_two_pow, Int.toNat_natCast]
  by_cases h : v = (ls k).toNat
  · simp [h]
  · rw [if_neg h, decide_eq_false (fun e => h e.symm), Bool.or_false]
-- left out in this seat
theorem infB : (Try.prog.info? 4).map (fun i => (i.zero, i.size, i.bytes)) = some (some (.bool false), 1, 1) := by kernel_rfl
-- left out in this seat
end Go.Proofs.Ytccinfmphkihoaa
