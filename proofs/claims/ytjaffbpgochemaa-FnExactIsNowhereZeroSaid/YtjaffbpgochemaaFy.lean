import Derived.Test.YtjaffbpgochemaaFx
namespace Go.Proofs.Ytjaffbpgochemaa
open Go.RowKit Go.Sort
set_option maxHeartbeats 400000 in
theorem spNowhere_any (n : Int) (b o m c : Nat) (es : List (Int × Int)) (md : Int) (b2 o2 len c2 : Nat) (g : Nat → Int) (w : World) (h : Eds w b o m es) (hm : m ≤ 1048576) (h2 : Ints w b2 o2 len g) (hlen : len ≤ 1048576) :
    Calls Try.prog 39 #[.agg #[.int .i64 n, .slice (some ⟨b, o, none⟩) m c], .int .i64 md, .slice (some ⟨b2, o2, none⟩) len c2] w (Ret (.tuple #[.bool (nzV n es md len g), .int .i64 (liC n es md len g 0 (md - 1))]) w) := by
  have hbb := (by go_grown : Below w.heap.size w (w.alloc (.cells #[.int .i64 n, .slice (some ⟨b, o, none⟩) m c] 30)))
  have hbx := Box2.made w (.int .i64 n) (.slice (some ⟨b, o, none⟩) m c) 30
  have hl := Lib.hid h.len
  by_cases h0 : liC n es md len g 0 (md - 1) = 0
  · obtain ⟨hG, hA, hlm, hg⟩ := liC_0 h0
    obtain ⟨N, rfl, hN, hN20⟩ := gpos hG
    obtain ⟨d1, d2⟩ := inB_iff.1 hA
    have HG := Lib.hid hG
    have Hg : Hid (∀ j, j < len → -1000 ≤ g j ∧ g j ≤ 1000) := fun j hj => by have := hg j hj; omega
    have H0 := Lib.hid h0
    have HV : Hid (nzV N es md len g = (allB N (flB es g len md) && !(cnB len g 0))) := by simp [Hid, nzV, flV, h0]
    obtain rfl : len = m := by rw [hlm, hl.out]
    clear h0 hg hG hA hN hlm
    go_enter Try.func39, Try.ntmps39
    go_wp2_with fail
    refine (l05List_any _ _ _ _ _ es md _ _ _ _ g _ _ _ (h.alloc _) hm (h2.alloc _) hlen).mono ?_
    rintro e w1 ⟨rfl, hb1⟩
    obtain ⟨s1, p1, q1⟩ := hbx.below hb1
    have hB1 := hbb.thenB (by simp) hb1
    have I := h2.below hB1
    have HI := Lib.hid I
    rw [H0.out]
    clear hb1 hbx hbb I
    go_wp2_with fail
    go_loop [9] (fun i => ∃ k : Nat, k ≤ len ∧ i = .int .i64 k ∧ Hid (∀ j, j < k → g j ≠ 0)) (fun i => len - (intOf i).toNat)
    case atStart => exact ⟨0, Nat.zero_le _, rfl, fun j hj => absurd hj (by omega)⟩
    case round =>
      obtain ⟨k, hk, rfl, HP⟩ := hrel
      by_cases hlt : k < len
      · have e1 := HI.out.c k hlt
        cases hq : (g k == 0) with
        | true =>
          have hc : cnB len g 0 = true := cnB_iff.2 ⟨k, hlt, by simpa using hq⟩
          have HC := Lib.hid hc
          clear hc
          go_wp2_with fail
          go_ret2
          exact ⟨ret2b (by rw [HV.out, HC.out]; simp) H0.out.symm, hB1⟩
        | false =>
          have HP' : Hid (∀ j, j < k + 1 → g j ≠ 0) := fun j hj => by
            by_cases hjk : j < k
            · exact HP.out j hjk
            · obtain rfl : j = k := by omega
              simpa using hq
          go_wp2_with fail
          go_round
          case rel => exact ⟨k + 1, by omega, by go_num, HP'⟩
          case measure => simp [intOf]; omega
      · have hc : cnB len g 0 = false := cnB_not.2 fun j hj => HP.out j (by omega)
        have HC := Lib.hid hc
        clear hc
        go_wp2_with fail
        refine (l05Flow_any N _ _ _ _ es md _ _ _ g _ (h.below hB1) hm HI.out HG.out.wf Hg.out d1 d2).mono ?_
        rintro e w2 ⟨rfl, hb2⟩
        go_wp2_with fail
        go_ret2
        exact ⟨ret2b (by rw [HV.out, HC.out]; simp) H0.out.symm, hB1.andB hb2⟩
  · have HV : Hid (nzV n es md len g = false) := by simp [Hid, nzV, flV, h0]
    have hne : (liC n es md len g 0 (md - 1) != 0) = true := by simpa using h0
    have hhi : liC n es md len g 0 (wrap64 (md - 1)) = liC n es md len g 0 (md - 1) := by
      cases hA : inB md 2 6 with
      | false => exact liC_md hA _
      | true => obtain ⟨d1, d2⟩ := inB_iff.1 hA; rw [IntWalk.wrap64_in _ (by omega)]
    have HH := Lib.hid hhi
    clear h0 hhi
    go_enter Try.func39, Try.ntmps39
    go_wp2_with fail
    refine (l05List_any _ _ _ _ _ es md _ _ _ _ g _ _ _ (h.alloc _) hm (h2.alloc _) hlen).mono ?_
    rintro e w1 ⟨rfl, hb1⟩
    rw [HH.out]
    go_wp2_with fail
    go_ret2
    exact ⟨ret2b HV.out.symm rfl, hbb.thenB (by simp) hb1⟩
theorem imNowhere_any (n : Int) (b o m c : Nat) (es : List (Int × Int)) (md : Int) (b2 o2 len c2 : Nat) (g : Nat → Int) (w : World) (h : Eds w b o m es) (hm : m ≤ 1048576) (h2 : Ints w b2 o2 len g) (hlen : len ≤ 1048576) :
    Calls Try.prog 40 #[.agg #[.int .i64 n, .slice (some ⟨b, o, none⟩) m c], .int .i64 md, .slice (some ⟨b2, o2, none⟩) len c2] w (Ret (.tuple #[.bool (nzV n es md len g), .int .i64 (liC n es md len g 0 (md - 1))]) w) := by
  have KC := cell_rg
  have hbb := (by go_grown : Below w.heap.size w (w.alloc (.cells #[.int .i64 n, .slice (some ⟨b, o, none⟩) m c] 30)))
  have hbx := Box2.made w (.int .i64 n) (.slice (some ⟨b, o, none⟩) m c) 30
  have hl := Lib.hid h.len
  have HGC : Hid (∀ r : Bool, ∀ d os, Calls Try.prog 56 #[.agg #[.int .i64 n, .slice (some ⟨b, o, none⟩) m c], .bool r] (grow (redrawn (w.alloc (.cells #[.int .i64 n, .slice (some ⟨b, o, none⟩) m c] 30)) d) os) fun e w'' => e = .returned (.int .i64 (gcC n es r)) ∧ ∃ p : Regrown, w'' = grow (redrawn (w.alloc (.cells #[.int .i64 n, .slice (some ⟨b, o, none⟩) m c] 30)) p.d) p.os) := fun r d os =>
    Ret.rg (graphCode_any n _ _ _ _ es r _ ((h.alloc _).below (below_regrown _ _ _)) hm)
  have HAV : Hid (∀ lo hi d os, Calls Try.prog 83 #[.agg #[.int .i64 n, .slice (some ⟨b, o, none⟩) m c], .slice (some ⟨b2, o2, none⟩) len c2, .int .i64 lo, .int .i64 hi] (grow (redrawn (w.alloc (.cells #[.int .i64 n, .slice (some ⟨b, o, none⟩) m c] 30)) d) os) fun e w'' => e = .returned (.bool (avB es len g lo hi)) ∧ ∃ p : Regrown, w'' = grow (redrawn (w.alloc (.cells #[.int .i64 n, .slice (some ⟨b, o, none⟩) m c] 30)) p.d) p.os) := fun lo hi d os =>
    Ret.rg (areValues_any n _ _ _ es _ _ _ _ g lo hi _ hl.out ((h2.alloc _).below (below_regrown _ _ _)) hlen)
  cases hA : inB md 2 6 with
  | false =>
    have hM := fun W => (hA ▸ isModulus_any md W : Calls Try.prog 82 #[.int .i64 md] W (Is (.bool false) W))
    have HM := Lib.hid hM
    have hk : gcC n es false = liC n es md len g 0 (md - 1) := by rw [← gc_li, hA]; rfl
    have hne : liC n es md len g 0 (md - 1) ≠ 0 := fun h0 => by have := (liC_0 h0).2.1; rw [hA] at this; cases this
    have HV : Hid (nzV n es md len g = false) := by simp [Hid, nzV, flV, hne]
    have hne' : (gcC n es false != 0) = true := by rw [hk]; simpa using hne
    have HK := Lib.hid hk
    clear hM hk hne
    go_enter Try.func40, Try.ntmps40
    go_wp2_with fail
    (refine wp_region_quiet_below (by kernel_rfl) (by kernel_rfl) ?_
     repeat (any_goals (go_big_quiet_step (first | (go_at_call 82; exact Is.rg (HM.out _)) | (go_at_call 56; exact HGC.out _ _ _))))
     all_goals (refine wpQuiet_nil ?_; intro wq1 hq1; replace hq1 := below_of_rg hq1))
    go_wp2_with fail
    go_ret2
    exact ⟨ret2b HV.out.symm HK.out, hbb.thenB (by simp) hq1⟩
  | true =>
    obtain ⟨d1, d2⟩ := inB_iff.1 hA
    have hM := fun W => (hA ▸ isModulus_any md W : Calls Try.prog 82 #[.int .i64 md] W (Is (.bool true) W))
    have HM := Lib.hid hM
    have hwd : IntKind.i64.wrap (md - 1) = md - 1 := IntWalk.i64_in _ (by omega)
    have hk : gcC n es (avB es len g 0 (md - 1)) = liC n es md len g 0 (md - 1) := by rw [← gc_li, hA, Bool.true_and]
    have HK := Lib.hid hk
    clear hM
    by_cases h0 : liC n es md len g 0 (md - 1) = 0
    · obtain ⟨hG, _, hlm, hg⟩ := liC_0 h0
      obtain ⟨N, rfl, hN, hN20⟩ := gpos hG
      have HG := Lib.hid hG
      have Hg : Hid (∀ j, j < len → -1000 ≤ g j ∧ g j ≤ 1000) := fun j hj => by have := hg j hj; omega
      have H0 := Lib.hid h0
      have HV : Hid (nzV N es md len g = (allB N (flB es g len md) && !(cnB len g 0))) := by simp [Hid, nzV, flV, h0]
      obtain rfl : len = m := by rw [hlm, hl.out]
      rw [h0] at hk
      clear h0 hg hG hA hN hlm HK
      cases hF : allB N (flB es g len md) with
      | false =>
        have hFl : ∀ W, Eds W b o len es → Ints W b2 o2 len g → Calls Try.prog 84 #[.agg #[.int .i64 N, .slice (some ⟨b, o, none⟩) len c], .int .i64 md, .slice (some ⟨b2, o2, none⟩) len c2] W (Ret (.bool false) W) := fun W e1 e2 => hF ▸ isFlow_any N _ _ _ _ es md _ _ _ g _ e1 hm e2 HG.out.wf Hg.out d1 d2
        have HFl := Lib.hid hFl
        have HF := Lib.hid hF
        clear hFl hF
        go_enter Try.func40, Try.ntmps40
        go_wp2_with fail
        (refine wp_region_quiet_below (by kernel_rfl) (by kernel_rfl) ?_
         repeat (any_goals (go_big_quiet_step (first | (go_at_call 82; exact Is.rg (HM.out _)) | (go_at_call 83; exact HAV.out _ _ _ _) | (go_at_call 56; exact HGC.out _ _ _))))
         all_goals (refine wpQuiet_nil ?_; intro wq1 hq1; replace hq1 := below_of_rg hq1))
        obtain ⟨s1, p1, q1⟩ := hbx.below hq1
        have hB1 := hbb.thenB (by simp) hq1
        clear hq1 hbx hbb
        go_wp2_with fail
        refine (HFl.out _ (h.below hB1) (h2.below hB1)).mono ?_
        rintro e w2 ⟨rfl, hb2⟩
        go_wp2_with fail
        go_ret2
        exact ⟨ret2b (by rw [HV.out, HF.out]; rfl) H0.out.symm, hB1.andB hb2⟩
      | true =>
        have hFl : ∀ W, Eds W b o len es → Ints W b2 o2 len g → Calls Try.prog 84 #[.agg #[.int .i64 N, .slice (some ⟨b, o, none⟩) len c], .int .i64 md, .slice (some ⟨b2, o2, none⟩) len c2] W (Ret (.bool true) W) := fun W e1 e2 => hF ▸ isFlow_any N _ _ _ _ es md _ _ _ g _ e1 hm e2 HG.out.wf Hg.out d1 d2
        have HFl := Lib.hid hFl
        have HF := Lib.hid hF
        clear hFl hF
        go_enter Try.func40, Try.ntmps40
        go_wp2_with fail
        (refine wp_region_quiet_below (by kernel_rfl) (by kernel_rfl) ?_
         repeat (any_goals (go_big_quiet_step (first | (go_at_call 82; exact Is.rg (HM.out _)) | (go_at_call 83; exact HAV.out _ _ _ _) | (go_at_call 56; exact HGC.out _ _ _))))
         all_goals (refine wpQuiet_nil ?_; intro wq1 hq1; replace hq1 := below_of_rg hq1))
        obtain ⟨s1, p1, q1⟩ := hbx.below hq1
        have hB1 := hbb.thenB (by simp) hq1
        clear hq1 hbx hbb
        go_wp2_with fail
        refine (HFl.out _ (h.below hB1) (h2.below hB1)).mono ?_
        rintro e w2 ⟨rfl, hb2⟩
        go_wp2_with fail
        refine (containsL_any _ _ _ _ g _ _ (h2.below (hB1.andB hb2)) hlen).mono ?_
        rintro e w3 ⟨rfl, rfl⟩
        go_wp2_with fail
        go_ret2
        exact ⟨ret2b (by rw [HV.out, HF.out]; rfl) H0.out.symm, hB1.andB hb2⟩
    · have HV : Hid (nzV n es md len g = false) := by simp [Hid, nzV, flV, h0]
      have hne' : (gcC n es (avB es len g 0 (md - 1)) != 0) = true := by rw [hk]; simpa using h0
      clear h0 hA hk
      go_enter Try.func40, Try.ntmps40
      go_wp2_with fail
      (refine wp_region_quiet_below (by kernel_rfl) (by kernel_rfl) ?_
       repeat (any_goals (go_big_quiet_step (first | (go_at_call 82; exact Is.rg (HM.out _)) | (go_at_call 83; exact HAV.out _ _ _ _) | (go_at_call 56; exact HGC.out _ _ _))))
       all_goals (refine wpQuiet_nil ?_; intro wq1 hq1; replace hq1 := below_of_rg hq1))
      go_wp2_with fail
      go_ret2
      exact ⟨ret2b HV.out.symm HK.out, hbb.thenB (by simp) hq1⟩
end Go.Proofs.Ytjaffbpgochemaa
