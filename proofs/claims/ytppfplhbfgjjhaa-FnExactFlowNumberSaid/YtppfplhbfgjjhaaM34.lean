import Derived.Test.YtppfplhbfgjjhaaM33
import Derived.Test.YtppfplhbfgjjhaaM15
import Derived.Test.YtppfplhbfgjjhaaM27
import Derived.Test.YtppfplhbfgjjhaaM13
import Derived.Test.YtppfplhbfgjjhaaM11
namespace Go.Proofs.Ytppfplhbfgjjhaa
open Go.RowKit Go.Sort
/-! ### Numbers of a cut, the program's side -/
theorem cu_no {n : Int} {es : List (Int × Int)} {cs : Nat → Int} {l : Nat} {ls : Nat → Int} {l3 : Nat} (h : (B (IsG n es) && colB es cs l) = false) : gcC n es false = cuC n es cs l ls l3 := by
  unfold cuC cuB gcC
  cases hG : B (IsG n es) with
  | false => rfl
  | true => rw [hG, Bool.true_and] at h; rw [h]; rfl
theorem cu_yes {n : Int} {es : List (Int × Int)} {cs : Nat → Int} {l : Nat} {ls : Nat → Int} {l3 : Nat} {u : Int} (h : (B (IsG n es) && colB es cs l) = true) (hu : IntKind.i64.wrap (n - 1) = u) : gcC n es (setB ls l3 u) = cuC n es cs l ls l3 := by
  obtain ⟨h1, h2⟩ := Bool.and_eq_true_iff.1 h
  have hG := B_iff.1 h1
  have e : u = n - 1 := by rw [← hu]; exact IntWalk.i64_in _ (by have := hG.wf.1; have := hG.wf.2.1; omega)
  unfold cuC cuB
  rw [h2, Bool.true_and, e]
theorem cu_n {n : Int} {es : List (Int × Int)} {cs : Nat → Int} {l : Nat} {ls : Nat → Int} {l3 : Nat} (h : cuC n es cs l ls l3 ≠ 0) : cuL n es cs l ls l3 = [] := by simp [cuL, h]
theorem cu_0 {n : Int} {es : List (Int × Int)} {cs : Nat → Int} {l : Nat} {ls : Nat → Int} {l3 : Nat} (h : cuC n es cs l ls l3 = 0) : IsG n es ∧ (l = es.length ∧ ColP es cs) ∧ SetP ls l3 (n - 1) ∧ cuL n es cs l ls l3 = (List.range 3).map (ctv cs (lvL es ls l3)) := by
  rcases cu_cases n es cs l ls l3 with ⟨_, hc, _⟩ | ⟨_, hc, _⟩ | ⟨_, h1, h4, h5, h6⟩
  · rw [hc] at h; cases h
  · rw [hc] at h; cases h
  · by_cases hs : SetP ls l3 (n - 1)
    · exact ⟨h1, B_iff.1 h4, hs, (h6 hs).2⟩
    · rw [(h5 hs).1] at h; cases h
-- left out in this seat
end Go.Proofs.Ytppfplhbfgjjhaa
namespace Go.Proofs.Ytppfplhbfgjjhaa
open Go.RowKit Go.Sort
/-! ### Alike colourings, the reference -/
noncomputable def sameB (m : Nat) (f g : Nat → Int) : Bool := B (∀ e, e < m → f e = g e)
-- left out in this seat
/-- What the images are after some places. -/
def imS (L : List Int) (a : Nat → Int) : Nat → Int → Int
  | 0, _ => 0
  | i + 1, x => if a (ia L i).toNat = x then (i : Int) else imS L a i x
theorem imS_3 (L : List Int) (a : Nat → Int) (x : Int) : imS L a 3 x = imgL L a x := by
  simp only [imS, imgL]
  split
  · rfl
  · split
    · rfl
    · split <;> rfl
def mdL (L : List Int) (a : Nat → Int) (m : Nat) : List Int := (List.range m).map fun e : Nat => imgL L a (a e)
theorem mdL_len (L : List Int) (a : Nat → Int) (m : Nat) : (mdL L a m).length = m := by simp [mdL]
theorem mdL_succ (L : List Int) (a : Nat → Int) (m : Nat) : mdL L a (m + 1) = mdL L a m ++ [imgL L a (a m)] := by simp [mdL, List.range_succ]
theorem mdL_at (L : List Int) (a : Nat → Int) {m e : Nat} (h : e < m) : ia (mdL L a m) e = imgL L a (a e) := by simp [ia, mdL, h]
theorem row0 (w : World) : (w.alloc (.cells #[] 2)).rowIs w.heap.size 2 0 (fun j => .int .i64 ((fun _ : Nat => (0 : Int)) j)) := World.rowIs_alloc w #[] 2 _ (fun i hi => absurd hi (by simp))
theorem OwnL.ofRow0 {base : Nat} {w : World} {g : Nat} {f : Nat → Value} (h : w.rowIs g 2 0 f) (hb : base ≤ g) : OwnL base w (some ⟨g, 0, none⟩) 0 0 [] := by
  obtain ⟨c, hc, hs, _⟩ := h
  obtain rfl : c = #[] := Array.eq_empty_of_size_eq_zero hs
  exact OwnL.empty base w g hb hc
theorem rows_ne {w : World} {g g' : Nat} {f f' : Nat → Value} (h : w.rowIs g 2 0 f) (h' : w.rowIs g' 2 3 f') : g ≠ g' := fun e => by
  subst e
  obtain ⟨c, hc, hs, _⟩ := h
  obtain ⟨d, hd, hs', _⟩ := h'
  rw [hc] at hd
  cases hd
  omega
-- left out in this seat
end Go.Proofs.Ytppfplhbfgjjhaa
