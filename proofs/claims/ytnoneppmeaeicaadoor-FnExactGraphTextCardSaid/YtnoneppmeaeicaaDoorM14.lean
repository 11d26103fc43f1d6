import Derived.Test.YtnoneppmeaeicaaDoorM13
import Derived.Test.YtnoneppmeaeicaaDoorM3
import Derived.Laws.CopyOwn
import Derived.Test.YtnoneppmeaeicaaDoorM7
import Derived.Deep.LoopGhost
import Derived.Test.YtnoneppmeaeicaaDoorM6
namespace Go.Proofs.YtnoneppmeaeicaaDoor
open Go.RowKit Go.Sort
-- left out in this seat
-- left out in this seat
def rpL (k : Int) (N r : Nat) : List Value := List.replicate r (.int .i64 k) ++ List.replicate (N - r) (.int .i64 0)
theorem rpL_len (k : Int) {N r : Nat} (h : r ≤ N) : (rpL k N r).length = N := by simp [rpL]; omega
theorem rpL_splice (k : Int) {N r d : Nat} (_h : r + d ≤ N) : splice (rpL k N r) r (List.replicate d (.int .i64 k)) = rpL k N (r + d) := by
  have e1 : (rpL k N r).take r = List.replicate r (.int .i64 k) := by simp [rpL]
  have e2 : (rpL k N r).drop (r + d) = List.replicate (N - (r + d)) (.int .i64 0) := by
    rw [rpL, List.drop_append]
    simp; omega
  unfold splice
  rw [List.length_replicate, e1, e2, ← List.append_assoc, List.replicate_append_replicate]
  rfl
theorem rpL_made (k : Int) (N : Nat) : madeCells #[.int .i64 0] N = (rpL k N 0).toArray := by
  apply Array.ext
  · simp [madeCells, rpL]
  · intro j h1 h2
    simp [madeCells, rpL, Nat.mod_one]
theorem rpL_at (k : Int) {N r j : Nat} (h : j < r) : (rpL k N r)[j]? = some (.int .i64 k) := by
  rw [rpL, List.getElem?_append_left (by simpa using h)]; simp [h]
theorem infsz : (Tryd.prog.info? 2).map (·.size) = some 1 := by kernel_rfl
-- left out in this seat
end Go.Proofs.YtnoneppmeaeicaaDoor
namespace Go.Proofs.YtnoneppmeaeicaaDoor
open Go.RowKit Go.Sort
/-! ### The program's distances -/
def skS (s : Nat) (e : Nat) : Bool := hasB s (e : Int)
-- left out in this seat
end Go.Proofs.YtnoneppmeaeicaaDoor
namespace Go.Proofs.YtnoneppmeaeicaaDoor
open Go.RowKit Go.Sort
/-! ### The program's sides -/
theorem cmTo_yes {es : List (Int × Int)} {sk : Nat → Bool} {v : Int} {k : Nat} (h : Rch es sk v k) : cmTo es sk v (k + 1) = cmTo es sk v k ++ [(k : Int)] := by simp only [cmTo]; rw [if_pos (B_true h)]
theorem cmTo_no {es : List (Int × Int)} {sk : Nat → Bool} {v : Int} {k : Nat} (h : ¬ Rch es sk v k) : cmTo es sk v (k + 1) = cmTo es sk v k := by simp only [cmTo]; rw [if_neg (by rw [B_false h]; decide), List.append_nil]
theorem sdTo_yes {es : List (Int × Int)} {sk : Nat → Bool} {N k : Nat} (h : leadF es sk k = k) : sdTo es sk N (k + 1) = sdTo es sk N k ++ [cmTo es sk k N] := by simp only [sdTo]; rw [if_pos h]
theorem sdTo_no {es : List (Int × Int)} {sk : Nat → Bool} {N k : Nat} (h : ¬ leadF es sk k = k) : sdTo es sk N (k + 1) = sdTo es sk N k := by simp only [sdTo]; rw [if_neg h, List.append_nil]
theorem hasB_or (s u x : Nat) : hasB (s ||| 2 ^ u) (x : Int) = if x = u then true else hasB s (x : Int) := by
  simp only [hasB, Nat.testBit_or, Nat.testBit_two_pow, Int.toNat_natCast]
  by_cases h : x = u
  · simp [h]
  · rw [if_neg h, decide_eq_false (fun e => h e.symm), Bool.or_false]
/-- Which vertices are seen when so many have been asked. -/
def SeenP (es : List (Int × Int)) (sk : Nat → Bool) (N v s : Nat) : Prop := s < 18446744073709551616 ∧ ∀ u : Nat, u < N → (hasB s (u : Int) = true ↔ leadF es sk u < v)
def SeenI (es : List (Int × Int)) (sk : Nat → Bool) (N v k s : Nat) : Prop := s < 18446744073709551616 ∧ ∀ u : Nat, u < N → (hasB s (u : Int) = true ↔ (leadF es sk u < v ∨ (u < k ∧ Rch es sk v u)))
theorem SeenP.at {es : List (Int × Int)} {sk : Nat → Bool} {N v s : Nat} (h : SeenP es sk N v s) (hv : v < N) : hasB s (v : Int) = true ↔ ¬ leadF es sk v = v := by
  rw [h.2 v hv]
  have := leadF_le (es := es) (sk := sk) (v := v) (by omega)
  omega
theorem SeenP.skip {es : List (Int × Int)} {sk : Nat → Bool} {N v s : Nat} (h : SeenP es sk N v s) (hl : ¬ leadF es sk v = v) : SeenP es sk N (v + 1) s := by
  refine ⟨h.1, fun u hu => (h.2 u hu).trans ⟨fun h => by omega, fun hlt => ?_⟩⟩
  have hne : leadF es sk u ≠ v := fun e => hl (by
    have := leadF_lead (es := es) (sk := sk) (v := u) (by omega)
    rwa [e] at this)
  omega
theorem SeenI.done {es : List (Int × Int)} {sk : Nat → Bool} {N v s : Nat} (h : SeenI es sk N v N s) (hl : leadF es sk v = v) : SeenP es sk N (v + 1) s := by
  refine ⟨h.1, fun u hu => (h.2 u hu).trans ?_⟩
  have hli := lead_is (es := es) (sk := sk) (v := v) (w := u) hl
  constructor
  · rintro (h1 | ⟨_, h1⟩)
    · omega
    · have := hli.2 h1; omega
  · intro h1
    by_cases e : leadF es sk u = v
    · exact .inr ⟨hu, hli.1 e⟩
    · left; omega
theorem SeenI.no {es : List (Int × Int)} {sk : Nat → Bool} {N v k s : Nat} (h : SeenI es sk N v k s) (hr : ¬ Rch es sk v k) : SeenI es sk N v (k + 1) s := by
  refine ⟨h.1, fun u hu => (h.2 u hu).trans ?_⟩
  constructor
  · rintro (h1 | ⟨h1, h2⟩)
    · exact .inl h1
    · exact .inr ⟨by omega, h2⟩
  · rintro (h1 | ⟨h1, h2⟩)
    · exact .inl h1
    · by_cases e : u = k
      · subst e; exact absurd h2 hr
      · exact .inr ⟨by omega, h2⟩
theorem SeenI.yes {es : List (Int × Int)} {sk : Nat → Bool} {N v k s : Nat} (h : SeenI es sk N v k s) (hk : k ≤ 63) (hr : Rch es sk v k) : SeenI es sk N v (k + 1) (s ||| 2 ^ k) := by
  refine ⟨Nat.or_lt_two_pow (n := 64) h.1 (pow64 hk), fun u hu => ?_⟩
  rw [hasB_or]
  by_cases e : u = k
  · subst e; rw [if_pos rfl]; exact ⟨fun _ => .inr ⟨by omega, hr⟩, fun _ => rfl⟩
  · rw [if_neg e, h.2 u hu]
    constructor
    · rintro (h1 | ⟨h1, h2⟩)
      · exact .inl h1
      · exact .inr ⟨by omega, h2⟩
    · rintro (h1 | ⟨h1, h2⟩)
      · exact .inl h1
      · exact .inr ⟨by omega, h2⟩
-- left out in this seat
end Go.Proofs.YtnoneppmeaeicaaDoor
