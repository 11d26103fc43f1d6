import Derived.Test.YtjaffbpgochemaaLv
import Derived.Test.YtjaffbpgochemaaEdgesAt
namespace Go.Proofs.Ytjaffbpgochemaa
open Go.RowKit Go.Sort
noncomputable def elC (n : Int) (es : List (Int × Int)) (ls : Nat → Int) (l : Nat) : Int := if B (IsG n es) then setC ls l (n - 1) else 1
noncomputable def elL (n : Int) (es : List (Int × Int)) (ls : Nat → Int) (l : Nat) : List Int := if elC n es ls l = 0 then lvL es ls l else []
theorem elL_0 {n : Int} {es : List (Int × Int)} {ls : Nat → Int} {l : Nat} (h : elC n es ls l = 0) : elL n es ls l = lvL es ls l := by simp [elL, h]
theorem elL_n {n : Int} {es : List (Int × Int)} {ls : Nat → Int} {l : Nat} (h : elC n es ls l ≠ 0) : elL n es ls l = [] := by simp [elL, h]
theorem elL_len (n : Int) (es : List (Int × Int)) (ls : Nat → Int) (l : Nat) : (elL n es ls l).length ≤ es.length := by
  unfold elL
  split
  · exact lvTo_len _ _ _
  · simp
theorem setB_iff {ls : Nat → Int} {l : Nat} {u : Int} : setB ls l u = true ↔ SetP ls l u := B_iff
theorem el_cases (n : Int) (es : List (Int × Int)) (ls : Nat → Int) (l : Nat) :
    (¬ IsG n es ∧ elC n es ls l = 1) ∨ (IsG n es ∧ ¬ SetP ls l (n - 1) ∧ elC n es ls l = 2) ∨ (IsG n es ∧ SetP ls l (n - 1) ∧ elC n es ls l = 0) := by
  by_cases h1 : IsG n es
  · by_cases h2 : SetP ls l (n - 1)
    · exact .inr (.inr ⟨h1, h2, by simp [elC, B_true h1, setC_0 h2]⟩)
    · exact .inr (.inl ⟨h1, h2, by simp [elC, B_true h1, setC_2 h2]⟩)
  · exact .inl ⟨h1, by simp [elC, B_false h1]⟩
set_option maxHeartbeats 800000 in
theorem spEdgesLeaving_any (n : Int) (b o m c b2 o2 l c2 : Nat) (es : List (Int × Int)) (ls : Nat → Int) (w : World) (h : Eds w b o m es) (hm : m ≤ 1048576) (h2 : Ints w b2 o2 l ls) (hl2 : l ≤ 1048576) :
    Calls Try.prog 41 #[.agg #[.int .i64 n, .slice (some ⟨b, o, none⟩) m c], .slice (some ⟨b2, o2, none⟩) l c2] w (RetLC (elL n es ls l) (elC n es ls l) w) := by
  have hbox := Box2.made w (.int .i64 n) (.slice (some ⟨b, o, none⟩) m c) 30
  have hbb := (by go_grown : Below w.heap.size w (w.alloc (.cells #[.int .i64 n, .slice (some ⟨b, o, none⟩) m c] 30)))
  have HSP := Lib.hid (l01Is_any n b o m c es _ (h.alloc (.cells #[.int .i64 n, .slice (some ⟨b, o, none⟩) m c] 30)) hm)
  rcases el_cases n es ls l with ⟨h1, h5⟩ | ⟨h1, h3, h5⟩ | ⟨h1, h3, h5⟩
  · have HL := Lib.hid (elL_n (show elC n es ls l ≠ 0 by rw [h5]; decide))
    rw [B_false h1] at HSP
    rw [h5]
    clear hbox h5 h1
    go_enter Try.func41, Try.ntmps41
    go_wp2_with fail
    refine HSP.out.mono ?_
    rintro e w1 ⟨rfl, hb1⟩
    have hB1 := hbb.thenB (by simp) hb1
    clear hb1 hbb
    go_wp2_with fail
    go_ret2
    exact retLC_nil HL.out hB1
  all_goals
    rw [B_true h1] at HSP
    have hw := h1.wf
    have hn2 := hw.1
    have hn20 := hw.2.1
    have hu : IntKind.i64.wrap (n - 1) = n - 1 := IntWalk.i64_in _ (by omega)
    have HG := Lib.hid h1
    have H3 := Lib.hid h3
    clear h1 hw
  · have HL := Lib.hid (elL_n (show elC n es ls l ≠ 0 by rw [h5]; decide))
    have HC := Lib.hid (setC_2 h3)
    rw [h5]
    clear h5 h3
    go_enter Try.func41, Try.ntmps41
    go_wp2_with fail
    refine HSP.out.mono ?_
    rintro e w1 ⟨rfl, hb1⟩
    have hB1 := hbb.thenB (by simp) hb1
    obtain ⟨s1, p1, q1⟩ := hbox.below hb1
    clear hb1 hbb hbox
    go_wp2_with fail
    refine (l03Set_any b2 o2 l c2 ls n (n - 1) _ (h2.below hB1) hl2 hu).mono ?_
    rintro e w2 ⟨rfl, hb2⟩
    rw [HC.out]
    have hB2 := hB1.andB hb2
    clear hb2 hB1
    go_wp2_with fail
    go_ret2
    exact retLC_nil HL.out hB2
  · have HL := Lib.hid (elL_0 h5)
    have HC := Lib.hid (setC_0 h3)
    rw [h5]
    clear h5 h3
    go_enter Try.func41, Try.ntmps41
    go_wp2_with fail
    refine HSP.out.mono ?_
    rintro e w1 ⟨rfl, hb1⟩
    have hB1 := hbb.thenB (by simp) hb1
    obtain ⟨s1, p1, q1⟩ := hbox.below hb1
    clear hb1 hbb hbox
    go_wp2_with fail
    refine (l03Set_any b2 o2 l c2 ls n (n - 1) _ (h2.below hB1) hl2 hu).mono ?_
    rintro e w2 ⟨rfl, hb2⟩
    rw [HC.out]
    have hB2 := hB1.andB hb2
    obtain ⟨s1, p1, q1⟩ := Box2.below ⟨s1, p1, q1⟩ hb2
    clear hb2 hB1
    go_wp2_with fail
    refine (l03Leaving_any n b o m c b2 o2 l c2 es ls _ (h.below hB2) hm HG.out.wf (h2.below hB2) hl2 H3.out).mono ?_
    rintro e w3 ⟨A, c', rfl, ho, hb3⟩
    go_wp2_with fail
    go_ret2
    exact retLC_of HL.out.symm hB2 ho hb3
/-- A new list, as a fact of an operation. -/
def NewL (base : Nat) (xs : List Int) (v : Value) (W : World) : Prop := ∃ A c, v = .slice A xs.length c ∧ OwnL base W A xs.length c xs
theorem NewL.below {base : Nat} {xs : List Int} {v : Value} {W W' : World} (h : NewL base xs v W) (hb : Below W.heap.size W W') : NewL base xs v W' := let ⟨A, c, e, ho⟩ := h; ⟨A, c, e, ho.below hb⟩
set_option maxHeartbeats 800000 in
theorem imEdgesLeaving_any (n : Int) (b o m c b2 o2 l c2 : Nat) (es : List (Int × Int)) (ls : Nat → Int) (w : World) (h : Eds w b o m es) (hm : m ≤ 1048576) (h2 : Ints w b2 o2 l ls) (hl2 : l ≤ 1048576) :
    Calls Try.prog 42 #[.agg #[.int .i64 n, .slice (some ⟨b, o, none⟩) m c], .slice (some ⟨b2, o2, none⟩) l c2] w (RetLC (elL n es ls l) (elC n es ls l) w) := by
  have KC := cell_rg
  have hbb := (by go_grown : Below w.heap.size w (w.alloc (.cells #[.int .i64 n, .slice (some ⟨b, o, none⟩) m c] 30)))
  have hbx := Box2.made w (.int .i64 n) (.slice (some ⟨b, o, none⟩) m c) 30
  obtain ⟨u, hu⟩ : ∃ u, IntKind.i64.wrap (n - 1) = u := ⟨_, rfl⟩
  have hk : gcC n es (setB ls l u) = elC n es ls l := by
    rcases el_cases n es ls l with ⟨h1, h5⟩ | ⟨h1, h3, h5⟩ | ⟨h1, h3, h5⟩
    · rw [h5]; simp [gcC, B_false h1]
    all_goals
      have hw := h1.wf
      have hu' : u = n - 1 := by rw [← hu]; exact IntWalk.i64_in _ (by have := hw.1; have := hw.2.1; omega)
      subst hu'
    · rw [h5, show setB ls l (n - 1) = false from B_false h3]; simp [gcC, B_true h1]
    · rw [h5, show setB ls l (n - 1) = true from B_true h3]; simp [gcC, B_true h1]
  have hGC : ∀ d os, Calls Try.prog 56 #[.agg #[.int .i64 n, .slice (some ⟨b, o, none⟩) m c], .bool (setB ls l u)] (grow (redrawn (w.alloc (.cells #[.int .i64 n, .slice (some ⟨b, o, none⟩) m c] 30)) d) os) fun e w'' => e = .returned (.int .i64 (elC n es ls l)) ∧ ∃ p : Regrown, w'' = grow (redrawn (w.alloc (.cells #[.int .i64 n, .slice (some ⟨b, o, none⟩) m c] 30)) p.d) p.os := fun d os =>
    Ret.rg (hk ▸ graphCode_any n _ _ _ _ es (setB ls l u) _ ((h.alloc _).below (below_regrown _ _ _)) hm)
  have hIS : ∀ d os, Calls Try.prog 92 #[.slice (some ⟨b2, o2, none⟩) l c2, .int .i64 n] (grow (redrawn (w.alloc (.cells #[.int .i64 n, .slice (some ⟨b, o, none⟩) m c] 30)) d) os) fun e w'' => e = .returned (.bool (setB ls l u)) ∧ ∃ p : Regrown, w'' = grow (redrawn (w.alloc (.cells #[.int .i64 n, .slice (some ⟨b, o, none⟩) m c] 30)) p.d) p.os := fun d os =>
    Is.rg (isSet_any b2 o2 l c2 ls n u _ ((h2.below hbb).below (below_regrown _ _ _)) hl2 hu)
  have HGC := Lib.hid hGC
  have HIS := Lib.hid hIS
  clear hGC hIS hk
  rcases el_cases n es ls l with ⟨h1, h5⟩ | ⟨h1, h3, h5⟩ | ⟨h1, h3, h5⟩
  · have HL := Lib.hid (elL_n (show elC n es ls l ≠ 0 by rw [h5]; decide))
    rw [h5] at HGC ⊢
    clear h5
    go_enter Try.func42, Try.ntmps42
    go_wp2_with fail
    (refine wp_region_quiet_below (by kernel_rfl) (by kernel_rfl) ?_
     repeat (any_goals (go_big_quiet_step (first | (go_at_call 92; exact HIS.out _ _) | (go_at_call 56; exact HGC.out _ _))))
     all_goals (refine wpQuiet_nil ?_; intro wq1 hq1; replace hq1 := below_of_rg hq1))
    have hB1 := hbb.thenB (by simp) hq1
    clear hq1 hbx hbb
    go_wp2_with fail
    go_ret2
    exact retLC_nil HL.out hB1
  · have HL := Lib.hid (elL_n (show elC n es ls l ≠ 0 by rw [h5]; decide))
    rw [h5] at HGC ⊢
    clear h5
    go_enter Try.func42, Try.ntmps42
    go_wp2_with fail
    (refine wp_region_quiet_below (by kernel_rfl) (by kernel_rfl) ?_
     repeat (any_goals (go_big_quiet_step (first | (go_at_call 92; exact HIS.out _ _) | (go_at_call 56; exact HGC.out _ _))))
     all_goals (refine wpQuiet_nil ?_; intro wq1 hq1; replace hq1 := below_of_rg hq1))
    have hB1 := hbb.thenB (by simp) hq1
    clear hq1 hbx hbb
    go_wp2_with fail
    go_ret2
    exact retLC_nil HL.out hB1
  · have HL := Lib.hid (elL_0 h5)
    have HG := Lib.hid h1.wf
    have hn20 := h1.wf.2.1
    have H3 := Lib.hid h3
    rw [h5] at HGC ⊢
    clear h5 h1 h3
    go_enter Try.func42, Try.ntmps42
    go_wp2_with fail
    (refine wp_region_quiet_below (by kernel_rfl) (by kernel_rfl) ?_
     repeat (any_goals (go_big_quiet_step (first | (go_at_call 92; exact HIS.out _ _) | (go_at_call 56; exact HGC.out _ _))))
     all_goals (refine wpQuiet_nil ?_; intro wq1 hq1; replace hq1 := below_of_rg hq1))
    obtain ⟨s1, p1, q1'⟩ := hbx.below hq1
    have hB1 := hbb.thenB (by simp) hq1
    have E1 := h.below hB1
    have I1 := h2.below hB1
    clear hq1 hbx hbb
    have hs64 : setN ls l < 18446744073709551616 := setN_lt (fun j hj => by have := (H3.out j hj).1; omega)
    go_wp2_with fail
    refine wp_region_facts (fun i v W => match i with
      | 0 => v = .agg #[.int .i64 n, .slice (some ⟨b, o, none⟩) m c]
      | 1 => v = .slice (some ⟨b2, o2, none⟩) l c2
      | 2 => v = .int .u64 (setN ls l)
      | 3 => NewL wq1.heap.size (lvL es ls l) v W
      | 4 => NewL wq1.heap.size (lvL es ls l) v W
      | _ => v = .int .i64 0) (by kernel_rfl) (by kernel_rfl) ?_ ?_ ?_
    · intro i v W W' hf hb
      match i, hf with
      | 0, hf => exact hf
      | 1, hf => exact hf
      | 2, hf => exact hf
      | 3, hf => exact NewL.below hf hb
      | 4, hf => exact NewL.below hf hb
      | (i + 5), hf => exact hf
    · refine ⟨?_, ?_, ?_, ?_, ?_, ?_, trivial⟩
      · intro a W hW hs hd
        have e5 : a.tmps[2]?.getD undef = .pointer (some ⟨w.heap.size, 0, none⟩) := hs 2 (by kernel_rfl)
        have k0 := (hW.cell (p := ⟨w.heap.size, 0, none⟩) s1).trans p1
        have k1 := (hW.cell (p := ⟨w.heap.size, 1, none⟩) s1).trans q1'
        clear hs hd
        unfold Grows
        go_simp
        exact Below.refl _ _
      · intro a W hW hs hd
        have e1 : a.tmps[1]?.getD undef = .slice (some ⟨b2, o2, none⟩) l c2 := hs 1 (by kernel_rfl)
        clear hs hd
        unfold Grows
        go_simp
        exact Below.refl _ _
      · intro a W hW hs hd
        have e17 : a.tmps[17]?.getD undef = .slice (some ⟨b2, o2, none⟩) l c2 := hd 1 17 (by kernel_rfl) (by kernel_rfl)
        clear hs hd
        unfold Grows
        go_simp
        refine ⟨Below.refl _ _, (setOf_any b2 o2 l c2 ls _ (I1.below hW) hl2 (fun j hj => by have := (H3.out j hj).1; omega)).mono ?_⟩
        rintro e w6 ⟨rfl, rfl⟩
        exact ⟨_, rfl, Below.refl _ _, rfl⟩
      · intro a W hW hs hd
        have e16 : a.tmps[16]?.getD undef = .agg #[.int .i64 n, .slice (some ⟨b, o, none⟩) m c] := hd 0 16 (by kernel_rfl) (by kernel_rfl)
        have e18 : a.tmps[18]?.getD undef = .int .u64 (setN ls l) := hd 2 18 (by kernel_rfl) (by kernel_rfl)
        clear hs hd
        unfold Grows
        go_simp
        refine ⟨Below.refl _ _, (leaving_any n b o m c (setN ls l) es _ (E1.below hW) hm HG.out hs64).mono ?_⟩
        rintro e w6 ⟨A, c', rfl, ho, hb6⟩
        exact ⟨_, rfl, hb6, A, c', rfl, ho.mono hW.size⟩
      · intro a W hW hs hd
        have e19 : NewL wq1.heap.size (lvL es ls l) (a.tmps[19]?.getD undef) W := hd 3 19 (by kernel_rfl) (by kernel_rfl)
        obtain ⟨A, c', e19, ho⟩ := e19
        clear hs hd
        unfold Grows
        go_simp
        exact ⟨Below.refl _ _, A, c', rfl, ho⟩
      · intro a W hW hs hd
        clear hs hd
        unfold Grows
        go_simp
        exact Below.refl _ _
    intro vs W hW hf
    have f4 : NewL wq1.heap.size (lvL es ls l) (vs 4) W := hf 4 4 (by kernel_rfl)
    have f5 : vs 5 = .int .i64 0 := hf 5 5 (by kernel_rfl)
    obtain ⟨A, c', f4, ho⟩ := f4
    simp only [dsts, List.filterMap_cons, List.filterMap_nil, List.foldl_cons, List.foldl_nil, Act.put, List.setIfInBounds_toArray, List.set_cons_succ, List.set_cons_zero, f4, f5]
    clear hf
    go_wp2_with fail
    go_ret2
    exact retLC_of HL.out.symm hB1 ho hW
end Go.Proofs.Ytjaffbpgochemaa
