import Derived.Test.YtjaffbpgochemaaFl
namespace Go.Proofs.Ytjaffbpgochemaa
open Go.RowKit Go.Sort
theorem gc_li (n : Int) (es : List (Int × Int)) (md : Int) (len : Nat) (g : Nat → Int) (lo hi : Int) : gcC n es (inB md 2 6 && avB es len g lo hi) = liC n es md len g lo hi := by
  cases hG : B (IsG n es) <;> simp [gcC, liC, avB, hG, Bool.and_assoc]
theorem liC_md {n : Int} {es : List (Int × Int)} {md : Int} {len : Nat} {g : Nat → Int} {lo hi : Int} (h : inB md 2 6 = false) (hi' : Int) : liC n es md len g lo hi = liC n es md len g lo hi' := by simp [liC, h]
theorem liC_0 {n : Int} {es : List (Int × Int)} {md : Int} {len : Nat} {g : Nat → Int} {lo hi : Int} (h : liC n es md len g lo hi = 0) :
    IsG n es ∧ inB md 2 6 = true ∧ len = es.length ∧ ∀ j, j < len → lo ≤ g j ∧ g j ≤ hi := by
  cases hG : B (IsG n es) with
  | false => simp [liC, hG] at h
  | true =>
    cases hr : (inB md 2 6 && decide (len = es.length) && allB len (fun j => inB (g j) lo hi)) with
    | false => simp only [liC, hG, hr] at h; simp at h
    | true =>
      simp only [Bool.and_eq_true, decide_eq_true_eq] at hr
      exact ⟨B_iff.1 hG, hr.1.1, hr.1.2, fun j hj => inB_iff.1 (allB_iff.1 hr.2 j hj)⟩
theorem ret2b {a a' : Bool} {b b' : Int} (h1 : a = a') (h2 : b = b') : Ending.returned (.tuple #[.bool a, .int .i64 b]) = .returned (.tuple #[.bool a', .int .i64 b']) := by rw [h1, h2]
theorem isFlow1_any (x md : Int) (p : Nat) (w : World) (h : w.cell? ⟨p, 0, none⟩ = some (.int .i64 md)) (h1 : 2 ≤ md) (h2 : md ≤ 6) : Calls Try.prog 120 #[.int .i64 x, .pointer (some ⟨p, 0, none⟩)] w (Is (.bool (x.tmod md == 0)) w) := by
  go_enter Try.func120, Try.ntmps120
  go_wp2_with fail
  go_ret
  exact ⟨rfl, rfl⟩
theorem enF1 : Enters 120 := fun args w => by kernel_rfl
theorem enW1 : Enters 89 := fun args w => by kernel_rfl
theorem whole1_any (x : Int) (w : World) : Calls Try.prog 89 #[.int .i64 x] w (Is (.bool (x == 0)) w) := by
  go_enter Try.func89, Try.ntmps89
  go_wp2_with fail
  go_ret
  exact ⟨rfl, rfl⟩
theorem Ints.of_row' {w : World} {b m : Nat} {t : TypeId} {g : Nat → Int} (h : w.rowIs b t m (fun v => .int .i64 (g v))) : Ints w b 0 m g := Ints.of_row h
theorem isFlow_any (N : Nat) (b o m c : Nat) (es : List (Int × Int)) (md : Int) (b2 o2 c2 : Nat) (g : Nat → Int) (w : World) (h : Eds w b o m es) (hm : m ≤ 1048576) (h2 : Ints w b2 o2 m g) (hwf : WfP N es) (hg : ∀ j, j < m → -1000 ≤ g j ∧ g j ≤ 1000) (hd1 : 2 ≤ md) (hd2 : md ≤ 6) :
    Calls Try.prog 84 #[.agg #[.int .i64 N, .slice (some ⟨b, o, none⟩) m c], .int .i64 md, .slice (some ⟨b2, o2, none⟩) m c2] w (Ret (.bool (allB N (flB es g m md))) w) := by
  have hbb := (by go_grown : Below w.heap.size w ((w.alloc (.cells #[.int .i64 N, .slice (some ⟨b, o, none⟩) m c] 30)).alloc (.cells #[.int .i64 md] 2)))
  have hN : N ≤ 20 := by have := hwf.2.1; omega
  have HWF := Lib.hid hwf
  have HG := Lib.hid hg
  clear hwf hg
  go_enter Try.func84, Try.ntmps84
  go_wp2_with fail
  refine (excess_any N _ _ _ _ es _ _ _ g _ ((h.alloc _).alloc _) hm ((h2.alloc _).alloc _) HWF.out HG.out).mono ?_
  rintro e w1 ⟨q, rfl, hq, hrow, hb1⟩
  have hB1 := hbb.thenB (by simp; omega) hb1
  have k1 := (bcell hb1).1 (w.heap.size + 1) 0 (by simp)
  simp [go_sem] at k1
  go_wp2_with fail
  refine (areAllL_any 120 #[.pointer (some ⟨w.heap.size + 1, 0, none⟩)] (flB es g m md) _ 0 N N (fun v => netTo es g m v) w1 (Ints.of_row hrow) (by omega) enF1 (fun j _ w' hw' =>
    Is.ret (isFlow1_any _ _ _ _ ((hw'.cell (p := ⟨w.heap.size + 1, 0, none⟩) (World.block_lt_of_cell? _ _ k1)).trans k1) hd1 hd2))).mono ?_
  rintro e w2 ⟨rfl, hb2⟩
  go_wp2_with fail
  go_ret
  exact ⟨rfl, hB1.andB hb2⟩
/-! ### The three questions -/
noncomputable def flV (n : Int) (es : List (Int × Int)) (md : Int) (len : Nat) (g : Nat → Int) : Bool := decide (liC n es md len g 0 (md - 1) = 0) && allB n.toNat (flB es g len md)
noncomputable def nzV (n : Int) (es : List (Int × Int)) (md : Int) (len : Nat) (g : Nat → Int) : Bool := flV n es md len g && !(cnB len g 0)
noncomputable def whV (n : Int) (es : List (Int × Int)) (k : Int) (len : Nat) (g : Nat → Int) : Bool :=
  decide (liC n es k len g (-1000) 1000 = 0) && (allB n.toNat (fun v => netTo es g len v == 0) && (avB es len g (1 - k) (k - 1) && !(cnB len g 0)))
theorem gpos {n : Int} {es : List (Int × Int)} (h : IsG n es) : ∃ N : Nat, n = N ∧ n.toNat = N ∧ N ≤ 20 := ⟨n.toNat, by have := h.wf.1; omega, rfl, by have := h.wf.2.1; omega⟩
set_option maxHeartbeats 400000 in
theorem spIsFlow_any (n : Int) (b o m c : Nat) (es : List (Int × Int)) (md : Int) (b2 o2 len c2 : Nat) (g : Nat → Int) (w : World) (h : Eds w b o m es) (hm : m ≤ 1048576) (h2 : Ints w b2 o2 len g) (hlen : len ≤ 1048576) :
    Calls Try.prog 35 #[.agg #[.int .i64 n, .slice (some ⟨b, o, none⟩) m c], .int .i64 md, .slice (some ⟨b2, o2, none⟩) len c2] w (Ret (.tuple #[.bool (flV n es md len g), .int .i64 (liC n es md len g 0 (md - 1))]) w) := by
  have hbb := (by go_grown : Below w.heap.size w (w.alloc (.cells #[.int .i64 n, .slice (some ⟨b, o, none⟩) m c] 30)))
  have hbx := Box2.made w (.int .i64 n) (.slice (some ⟨b, o, none⟩) m c) 30
  have hl := Lib.hid h.len
  by_cases h0 : liC n es md len g 0 (md - 1) = 0
  · obtain ⟨hG, hA, hlm, hg⟩ := liC_0 h0
    obtain ⟨N, rfl, hN, hN20⟩ := gpos hG
    obtain ⟨d1, d2⟩ := inB_iff.1 hA
    have HG := Lib.hid hG
    have Hg : Hid (∀ j, j < len → -1000 ≤ g j ∧ g j ≤ 1000) := fun j hj => by have := hg j hj; omega
    have H0 := Lib.hid h0
    have HV : Hid (flV N es md len g = allB N (flB es g len md)) := by simp [Hid, flV, h0]
    obtain rfl : len = m := by rw [hlm, hl.out]
    clear h0 hg hG hA hN hlm
    go_enter Try.func35, Try.ntmps35
    go_wp2_with fail
    refine (l05List_any _ _ _ _ _ es md _ _ _ _ g _ _ _ (h.alloc _) hm (h2.alloc _) hlen).mono ?_
    rintro e w1 ⟨rfl, hb1⟩
    obtain ⟨s1, p1, q1⟩ := hbx.below hb1
    have hB1 := hbb.thenB (by simp) hb1
    rw [H0.out]
    clear hb1 hbx hbb
    go_wp2_with fail
    refine (l05Flow_any N _ _ _ _ es md _ _ _ g _ (h.below hB1) hm (h2.below hB1) HG.out.wf Hg.out d1 d2).mono ?_
    rintro e w2 ⟨rfl, hb2⟩
    go_wp2_with fail
    go_ret2
    exact ⟨ret2b HV.out.symm H0.out.symm, hB1.andB hb2⟩
  · have HV : Hid (flV n es md len g = false) := by simp [Hid, flV, h0]
    have hne : (liC n es md len g 0 (md - 1) != 0) = true := by simpa using h0
    have hhi : liC n es md len g 0 (wrap64 (md - 1)) = liC n es md len g 0 (md - 1) := by
      cases hA : inB md 2 6 with
      | false => exact liC_md hA _
      | true => obtain ⟨d1, d2⟩ := inB_iff.1 hA; rw [IntWalk.wrap64_in _ (by omega)]
    have HH := Lib.hid hhi
    clear h0 hhi
    go_enter Try.func35, Try.ntmps35
    go_wp2_with fail
    refine (l05List_any _ _ _ _ _ es md _ _ _ _ g _ _ _ (h.alloc _) hm (h2.alloc _) hlen).mono ?_
    rintro e w1 ⟨rfl, hb1⟩
    rw [HH.out]
    go_wp2_with fail
    go_ret2
    exact ⟨ret2b HV.out.symm rfl, hbb.thenB (by simp) hb1⟩
/-- The head of the three in the program: the code. -/
theorem imIsFlow_any (n : Int) (b o m c : Nat) (es : List (Int × Int)) (md : Int) (b2 o2 len c2 : Nat) (g : Nat → Int) (w : World) (h : Eds w b o m es) (hm : m ≤ 1048576) (h2 : Ints w b2 o2 len g) (hlen : len ≤ 1048576) :
    Calls Try.prog 36 #[.agg #[.int .i64 n, .slice (some ⟨b, o, none⟩) m c], .int .i64 md, .slice (some ⟨b2, o2, none⟩) len c2] w (Ret (.tuple #[.bool (flV n es md len g), .int .i64 (liC n es md len g 0 (md - 1))]) w) := by
  have KC := cell_rg
  have hbb := (by go_grown : Below w.heap.size w (w.alloc (.cells #[.int .i64 n, .slice (some ⟨b, o, none⟩) m c] 30)))
  have hbx := Box2.made w (.int .i64 n) (.slice (some ⟨b, o, none⟩) m c) 30
  have hl := Lib.hid h.len
  have HGC : Hid (∀ r : Bool, ∀ d os, Calls Try.prog 56 #[.agg #[.int .i64 n, .slice (some ⟨b, o, none⟩) m c], .bool r] (grow (redrawn (w.alloc (.cells #[.int .i64 n, .slice (some ⟨b, o, none⟩) m c] 30)) d) os) fun e w'' => e = .returned (.int .i64 (gcC n es r)) ∧ ∃ p : Regrown, w'' = grow (redrawn (w.alloc (.cells #[.int .i64 n, .slice (some ⟨b, o, none⟩) m c] 30)) p.d) p.os) := fun r d os =>
    Ret.rg (graphCode_any n _ _ _ _ es r _ ((h.alloc _).below (below_regrown _ _ _)) hm)
  have HAV : Hid (∀ lo hi d os, Calls Try.prog 83 #[.agg #[.int .i64 n, .slice (some ⟨b, o, none⟩) m c], .slice (some ⟨b2, o2, none⟩) len c2, .int .i64 lo, .int .i64 hi] (grow (redrawn (w.alloc (.cells #[.int .i64 n, .slice (some ⟨b, o, none⟩) m c] 30)) d) os) fun e w'' => e = .returned (.bool (avB es len g lo hi)) ∧ ∃ p : Regrown, w'' = grow (redrawn (w.alloc (.cells #[.int .i64 n, .slice (some ⟨b, o, none⟩) m c] 30)) p.d) p.os) := fun lo hi d os =>
    Ret.rg (areValues_any n _ _ _ es _ _ _ _ g lo hi _ hl.out ((h2.alloc _).below (below_regrown _ _ _)) hlen)
  cases hA : inB md 2 6 with
  | false =>
    have hM := fun W => (hA ▸ isModulus_any md W : Calls Try.prog 82 #[.int .i64 md] W (Is (.bool false) W))
    have HM := Lib.hid hM
    have hk : gcC n es false = liC n es md len g 0 (md - 1) := by rw [← gc_li, hA]; rfl
    have hne : liC n es md len g 0 (md - 1) ≠ 0 := fun h0 => by have := (liC_0 h0).2.1; rw [hA] at this; cases this
    have HV : Hid (flV n es md len g = false) := by simp [Hid, flV, hne]
    have hne' : (gcC n es false != 0) = true := by rw [hk]; simpa using hne
    have HK := Lib.hid hk
    clear hM hk hne
    go_enter Try.func36, Try.ntmps36
    go_wp2_with fail
    (refine wp_region_quiet_below (by kernel_rfl) (by kernel_rfl) ?_
     repeat (any_goals (go_big_quiet_step (first | (go_at_call 82; exact Is.rg (HM.out _)) | (go_at_call 56; exact HGC.out _ _ _))))
     all_goals (refine wpQuiet_nil ?_; intro wq1 hq1; replace hq1 := below_of_rg hq1))
    go_wp2_with fail
    go_ret2
    exact ⟨ret2b HV.out.symm HK.out, hbb.thenB (by simp) hq1⟩
  | true =>
    obtain ⟨d1, d2⟩ := inB_iff.1 hA
    have hM := fun W => (hA ▸ isModulus_any md W : Calls Try.prog 82 #[.int .i64 md] W (Is (.bool true) W))
    have HM := Lib.hid hM
    have hwd : IntKind.i64.wrap (md - 1) = md - 1 := IntWalk.i64_in _ (by omega)
    have hk : gcC n es (avB es len g 0 (md - 1)) = liC n es md len g 0 (md - 1) := by rw [← gc_li, hA, Bool.true_and]
    have HK := Lib.hid hk
    clear hM
    by_cases h0 : liC n es md len g 0 (md - 1) = 0
    · obtain ⟨hG, _, hlm, hg⟩ := liC_0 h0
      obtain ⟨N, rfl, hN, hN20⟩ := gpos hG
      have HG := Lib.hid hG
      have Hg : Hid (∀ j, j < len → -1000 ≤ g j ∧ g j ≤ 1000) := fun j hj => by have := hg j hj; omega
      have H0 := Lib.hid h0
      have HV : Hid (flV N es md len g = allB N (flB es g len md)) := by simp [Hid, flV, h0]
      obtain rfl : len = m := by rw [hlm, hl.out]
      rw [h0] at hk
      clear h0 hg hG hA hN hlm HK
      go_enter Try.func36, Try.ntmps36
      go_wp2_with fail
      (refine wp_region_quiet_below (by kernel_rfl) (by kernel_rfl) ?_
       repeat (any_goals (go_big_quiet_step (first | (go_at_call 82; exact Is.rg (HM.out _)) | (go_at_call 83; exact HAV.out _ _ _ _) | (go_at_call 56; exact HGC.out _ _ _))))
       all_goals (refine wpQuiet_nil ?_; intro wq1 hq1; replace hq1 := below_of_rg hq1))
      obtain ⟨s1, p1, q1⟩ := hbx.below hq1
      have hB1 := hbb.thenB (by simp) hq1
      clear hq1 hbx hbb
      go_wp2_with fail
      refine (isFlow_any N _ _ _ _ es md _ _ _ g _ (h.below hB1) hm (h2.below hB1) HG.out.wf Hg.out d1 d2).mono ?_
      rintro e w2 ⟨rfl, hb2⟩
      go_wp2_with fail
      go_ret2
      exact ⟨ret2b HV.out.symm H0.out.symm, hB1.andB hb2⟩
    · have HV : Hid (flV n es md len g = false) := by simp [Hid, flV, h0]
      have hne' : (gcC n es (avB es len g 0 (md - 1)) != 0) = true := by rw [hk]; simpa using h0
      clear h0 hA hk
      go_enter Try.func36, Try.ntmps36
      go_wp2_with fail
      (refine wp_region_quiet_below (by kernel_rfl) (by kernel_rfl) ?_
       repeat (any_goals (go_big_quiet_step (first | (go_at_call 82; exact Is.rg (HM.out _)) | (go_at_call 83; exact HAV.out _ _ _ _) | (go_at_call 56; exact HGC.out _ _ _))))
       all_goals (refine wpQuiet_nil ?_; intro wq1 hq1; replace hq1 := below_of_rg hq1))
      go_wp2_with fail
      go_ret2
      exact ⟨ret2b HV.out.symm HK.out, hbb.thenB (by simp) hq1⟩
end Go.Proofs.Ytjaffbpgochemaa
