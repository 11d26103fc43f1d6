import Derived.Test.YtccinfmphkihoaaBr
import Derived.Test.YtccinfmphkihoaaEdgesLeaving
namespace Go.Proofs.Ytccinfmphkihoaa
open Go.RowKit Go.Sort
/-! ### Sets of edges, IsEdgeCut -/
noncomputable def ecC (n : Int) (es : List (Int × Int)) (ls : Nat → Int) (l : Nat) : Int := if B (IsG n es) then setC ls l ((es.length : Int) - 1) else 1
theorem ec_cases (n : Int) (es : List (Int × Int)) (ls : Nat → Int) (l : Nat) :
    (¬ IsG n es ∧ ecC n es ls l = 1) ∨ (IsG n es ∧ ¬ SetP ls l ((es.length : Int) - 1) ∧ ecC n es ls l = 2) ∨ (IsG n es ∧ SetP ls l ((es.length : Int) - 1) ∧ ecC n es ls l = 0) := by
  by_cases hG : IsG n es
  · by_cases hs : SetP ls l ((es.length : Int) - 1)
    · right; right; exact ⟨hG, hs, by simp [ecC, B_true hG, setC_0 hs]⟩
    · right; left; exact ⟨hG, hs, by simp [ecC, B_true hG, setC_2 hs]⟩
  · left; exact ⟨hG, by simp [ecC, B_false hG]⟩
set_option maxHeartbeats 400000 in
theorem l03Edges_any (n : Int) (b o m c b2 o2 l c2 : Nat) (es : List (Int × Int)) (ls : Nat → Int) (w : World) (h : Eds w b o m es) (hm : m ≤ 1048576) (h2 : Ints w b2 o2 l ls) (hl2 : l ≤ 1048576) :
    Calls Try.prog 67 #[.agg #[.int .i64 n, .slice (some ⟨b, o, none⟩) m c], .slice (some ⟨b2, o2, none⟩) l c2] w (Ret (.int .i64 (ecC n es ls l)) w) := by
  have hbox := Box2.made w (.int .i64 n) (.slice (some ⟨b, o, none⟩) m c) 30
  have hbb := (by go_grown : Below w.heap.size w (w.alloc (.cells #[.int .i64 n, .slice (some ⟨b, o, none⟩) m c] 30)))
  have HSP := Lib.hid (l01Is_any n b o m c es _ (h.alloc (.cells #[.int .i64 n, .slice (some ⟨b, o, none⟩) m c] 30)) hm)
  by_cases hG : IsG n es
  · have HC : Hid (ecC n es ls l = setC ls l ((m : Int) - 1)) := by simp [Hid, ecC, B_true hG, h.len]
    rw [B_true hG] at HSP
    clear hG
    go_enter Try.func67, Try.ntmps67
    go_wp2_with fail
    refine HSP.out.mono ?_
    rintro e w1 ⟨rfl, hb1⟩
    have hB1 := hbb.thenB (by simp) hb1
    obtain ⟨s1, p1, q1⟩ := hbox.below hb1
    clear hb1 hbb hbox
    go_wp2_with fail
    refine (l03Set_any b2 o2 l c2 ls m ((m : Int) - 1) _ (h2.below hB1) hl2 (IntWalk.i64_in _ (by omega))).mono ?_
    rintro e w2 ⟨rfl, hb2⟩
    go_wp2_with fail
    go_ret
    exact ⟨ret_int HC.out.symm, hB1.andB hb2⟩
  · have HC : Hid (ecC n es ls l = 1) := by simp [Hid, ecC, B_false hG]
    rw [B_false hG] at HSP
    clear hG hbox
    go_enter Try.func67, Try.ntmps67
    go_wp2_with fail
    refine HSP.out.mono ?_
    rintro e w1 ⟨rfl, hb1⟩
    have hB1 := hbb.thenB (by simp) hb1
    clear hb1 hbb
    go_wp2_with fail
    go_ret
    exact ⟨ret_int HC.out.symm, hB1⟩
set_option maxHeartbeats 800000 in
theorem edgesCode_any (n : Int) (b o m c b2 o2 l c2 : Nat) (es : List (Int × Int)) (ls : Nat → Int) (w : World) (h : Eds w b o m es) (hm : m ≤ 1048576) (h2 : Ints w b2 o2 l ls) (hl2 : l ≤ 1048576) :
    Calls Try.prog 69 #[.agg #[.int .i64 n, .slice (some ⟨b, o, none⟩) m c], .slice (some ⟨b2, o2, none⟩) l c2] w (Ret (.int .i64 (ecC n es ls l)) w) := by
  have KC := cell_rg
  have hbb := (by go_grown : Below w.heap.size w (w.alloc (.cells #[.int .i64 n, .slice (some ⟨b, o, none⟩) m c] 30)))
  have hk : gcC n es (setB ls l ((m : Int) - 1)) = ecC n es ls l := by
    unfold ecC gcC setC
    rw [h.len]
  have hGC : ∀ d os, Calls Try.prog 63 #[.agg #[.int .i64 n, .slice (some ⟨b, o, none⟩) m c], .bool (setB ls l ((m : Int) - 1))] (grow (redrawn (w.alloc (.cells #[.int .i64 n, .slice (some ⟨b, o, none⟩) m c] 30)) d) os) fun e w'' => e = .returned (.int .i64 (ecC n es ls l)) ∧ ∃ p : Regrown, w'' = grow (redrawn (w.alloc (.cells #[.int .i64 n, .slice (some ⟨b, o, none⟩) m c] 30)) p.d) p.os := fun d os =>
    Ret.rg (hk ▸ graphCode_any n _ _ _ _ es _ _ ((h.alloc _).below (below_regrown _ _ _)) hm)
  have hIS : ∀ d os, Calls Try.prog 96 #[.slice (some ⟨b2, o2, none⟩) l c2, .int .i64 m] (grow (redrawn (w.alloc (.cells #[.int .i64 n, .slice (some ⟨b, o, none⟩) m c] 30)) d) os) fun e w'' => e = .returned (.bool (setB ls l ((m : Int) - 1))) ∧ ∃ p : Regrown, w'' = grow (redrawn (w.alloc (.cells #[.int .i64 n, .slice (some ⟨b, o, none⟩) m c] 30)) p.d) p.os := fun d os =>
    Is.rg (isSet_any b2 o2 l c2 ls m ((m : Int) - 1) _ ((h2.below hbb).below (below_regrown _ _ _)) hl2 (IntWalk.i64_in _ (by omega)))
  have HGC := Lib.hid hGC
  have HIS := Lib.hid hIS
  clear hGC hIS hk
  go_enter Try.func69, Try.ntmps69
  go_wp2_with fail
  (refine wp_region_quiet_below (by kernel_rfl) (by kernel_rfl) ?_
   repeat (any_goals (go_big_quiet_step (first | (go_at_call 59; exact Is.rg (lengthE_any _ _ _ _ (by omega))) | (go_at_call 96; exact HIS.out _ _) | (go_at_call 63; exact HGC.out _ _))))
   all_goals (refine wpQuiet_nil ?_; intro wq1 hq1; replace hq1 := below_of_rg hq1))
  go_wp2_with fail
  go_ret
  exact ⟨rfl, hbb.thenB (by simp) hq1⟩
noncomputable def ieV (n : Int) (es : List (Int × Int)) (ls : Nat → Int) (l : Nat) : Bool := decide (ecC n es ls l = 0) && cutB n es (skS (setN ls l))
theorem ieV_0 {n : Int} {es : List (Int × Int)} {ls : Nat → Int} {l : Nat} (h : ecC n es ls l = 0) : ieV n es ls l = cutB n es (skS (setN ls l)) := by simp [ieV, h]
theorem ieV_n {n : Int} {es : List (Int × Int)} {ls : Nat → Int} {l : Nat} (h : ecC n es ls l ≠ 0) : ieV n es ls l = false := by simp [ieV, h]
-- left out in this seat
-- left out in this seat
end Go.Proofs.Ytccinfmphkihoaa
