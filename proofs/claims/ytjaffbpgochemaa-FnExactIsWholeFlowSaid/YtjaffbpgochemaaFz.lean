import Derived.Test.YtjaffbpgochemaaFx
namespace Go.Proofs.Ytjaffbpgochemaa
open Go.RowKit Go.Sort
def neB (es : List (Int × Int)) (g : Nat → Int) (len : Nat) (v : Nat) : Bool := netTo es g len v == 0
noncomputable def wvB (N : Nat) (es : List (Int × Int)) (k : Int) (len : Nat) (g : Nat → Int) : Bool := allB N (neB es g len) && (avB es len g (1 - k) (k - 1) && !(cnB len g 0))
theorem whV_0 {N : Nat} {es : List (Int × Int)} {k : Int} {len : Nat} {g : Nat → Int} (h : liC N es k len g (-1000) 1000 = 0) : whV N es k len g = wvB N es k len g := by
  simp [whV, wvB, h]; rfl
theorem av_all {es : List (Int × Int)} {len : Nat} {g : Nat → Int} {lo hi : Int} (h : len = es.length) : avB es len g lo hi = allB len (fun j => inB (g j) lo hi) := by simp [avB, h]
set_option maxHeartbeats 400000 in
theorem spWhole_any (n : Int) (b o m c : Nat) (es : List (Int × Int)) (k : Int) (b2 o2 len c2 : Nat) (g : Nat → Int) (w : World) (h : Eds w b o m es) (hm : m ≤ 1048576) (h2 : Ints w b2 o2 len g) (hlen : len ≤ 1048576) :
    Calls Try.prog 37 #[.agg #[.int .i64 n, .slice (some ⟨b, o, none⟩) m c], .int .i64 k, .slice (some ⟨b2, o2, none⟩) len c2] w (Ret (.tuple #[.bool (whV n es k len g), .int .i64 (liC n es k len g (-1000) 1000)]) w) := by
  have hbb := (by go_grown : Below w.heap.size w (w.alloc (.cells #[.int .i64 n, .slice (some ⟨b, o, none⟩) m c] 30)))
  have hbx := Box2.made w (.int .i64 n) (.slice (some ⟨b, o, none⟩) m c) 30
  have hl := Lib.hid h.len
  by_cases h0 : liC n es k len g (-1000) 1000 = 0
  · obtain ⟨hG, hA, hlm, hg⟩ := liC_0 h0
    obtain ⟨N, rfl, hN, hN20⟩ := gpos hG
    obtain ⟨d1, d2⟩ := inB_iff.1 hA
    have HG := Lib.hid hG
    have Hg := Lib.hid hg
    have H0 := Lib.hid h0
    have HV := Lib.hid (whV_0 h0)
    have HLM := Lib.hid hlm
    obtain rfl : len = m := by rw [hlm, hl.out]
    clear h0 hg hG hA hN hlm
    go_enter Try.func37, Try.ntmps37
    go_wp2_with fail
    refine (l05List_any _ _ _ _ _ es k _ _ _ _ g _ _ _ (h.alloc _) hm (h2.alloc _) hlen).mono ?_
    rintro e w1 ⟨rfl, hb1⟩
    obtain ⟨s1, p1, q1⟩ := hbx.below hb1
    have hB1 := hbb.thenB (by simp) hb1
    rw [H0.out]
    clear hb1 hbx hbb
    go_wp2_with fail
    refine (l05Net_any N _ _ _ _ es _ _ _ g _ (h.below hB1) hm (h2.below hB1) HG.out.wf Hg.out).mono ?_
    rintro e w2 ⟨q, rfl, hq, hrow, hb2⟩
    have hB2 := hB1.andB hb2
    have I := h2.below hB2
    have HI := Lib.hid I
    clear hb2 I s1 p1 q1 hB1
    go_wp2_with fail
    go_loop [10] (fun i => ∃ j : Nat, j ≤ N ∧ i = .int .i64 j ∧ Hid (∀ u, u < j → neB es g len u = true)) (fun i => N - (intOf i).toNat)
    case atStart => exact ⟨0, Nat.zero_le _, rfl, fun j hj => absurd hj (by omega)⟩
    case round =>
      obtain ⟨j, hj, rfl, HP⟩ := hrel
      by_cases hlt : j < N
      · have e1 := hrow.cell hlt
        cases hf : neB es g len j with
        | true =>
          have HP' : Hid (∀ u, u < j + 1 → neB es g len u = true) := fun u hu => by
            by_cases huj : u < j
            · exact HP.out u huj
            · obtain rfl : u = j := by omega
              exact hf
          have hf' : (netTo es g len j != 0) = false := by simpa [neB] using hf
          go_wp2_with fail
          go_round
          case rel => exact ⟨j + 1, by omega, by go_num, HP'⟩
          case measure => simp [intOf]; omega
        | false =>
          have hf' : (netTo es g len j != 0) = true := by simpa [neB] using hf
          have hx : allB N (neB es g len) = false := by
            cases hx : allB N (neB es g len) with
            | false => rfl
            | true => have := allB_iff.1 hx j hlt; rw [hf] at this; cases this
          have HX := Lib.hid hx
          clear hx
          go_wp2_with fail
          go_ret2
          exact ⟨ret2b (by rw [HV.out, wvB, HX.out]; rfl) H0.out.symm, hB2⟩
      · have hx : allB N (neB es g len) = true := allB_iff.2 fun u hu => HP.out u (by omega)
        have HX := Lib.hid hx
        clear hx hrow
        go_wp2_with fail
        go_loop [11] (fun i => ∃ j : Nat, j ≤ len ∧ i = .int .i64 j ∧ Hid (∀ u, u < j → g u ≠ 0 ∧ inB (g u) (1 - k) (k - 1) = true)) (fun i => len - (intOf i).toNat)
        case atStart => exact ⟨0, Nat.zero_le _, rfl, fun j hj => absurd hj (by omega)⟩
        case round =>
          obtain ⟨i, hi, rfl, HP2⟩ := hrel
          by_cases hlt2 : i < len
          · have e1 := HI.out.c i hlt2
            cases hq : (g i == 0) with
            | true =>
              have hc : cnB len g 0 = true := cnB_iff.2 ⟨i, hlt2, by simpa using hq⟩
              have HC := Lib.hid hc
              clear hc
              go_wp2_with fail
              go_ret2
              exact ⟨ret2b (by rw [HV.out, wvB, HC.out]; simp) H0.out.symm, hB2⟩
            | false =>
              cases hi2 : inB (g i) (1 - k) (k - 1) with
              | false =>
                have hx : avB es len g (1 - k) (k - 1) = false := by
                  rw [av_all HLM.out]
                  cases hx : allB len (fun j => inB (g j) (1 - k) (k - 1)) with
                  | false => rfl
                  | true => have := allB_iff.1 hx i hlt2; simp [hi2] at this
                have HA := Lib.hid hx
                clear hx
                go_wp2_with (go_at_call 54; refine (in_any _ _ _ _).mono ?_; rintro e w' ⟨rfl, rfl⟩)
                go_ret2
                exact ⟨ret2b (by rw [HV.out, wvB, HA.out]; simp) H0.out.symm, hB2⟩
              | true =>
                have HP' : Hid (∀ u, u < i + 1 → g u ≠ 0 ∧ inB (g u) (1 - k) (k - 1) = true) := fun u hu => by
                  by_cases hui : u < i
                  · exact HP2.out u hui
                  · obtain rfl : u = i := by omega
                    exact ⟨by simpa using hq, hi2⟩
                go_wp2_with (go_at_call 54; refine (in_any _ _ _ _).mono ?_; rintro e w' ⟨rfl, rfl⟩)
                go_round
                case rel => exact ⟨i + 1, by omega, by go_num, HP'⟩
                case measure => simp [intOf]; omega
          · have ha : avB es len g (1 - k) (k - 1) = true := by rw [av_all HLM.out]; exact allB_iff.2 fun u hu => (HP2.out u (by omega)).2
            have hc : cnB len g 0 = false := cnB_not.2 fun u hu => (HP2.out u (by omega)).1
            have HA := Lib.hid ha
            have HC := Lib.hid hc
            clear ha hc
            go_wp2_with fail
            go_ret2
            exact ⟨ret2b (by rw [HV.out, wvB, HA.out, HC.out, HX.out]; rfl) H0.out.symm, hB2⟩
  · have HV : Hid (whV n es k len g = false) := by simp [Hid, whV, h0]
    have hne : (liC n es k len g (-1000) 1000 != 0) = true := by simpa using h0
    clear h0
    go_enter Try.func37, Try.ntmps37
    go_wp2_with fail
    refine (l05List_any _ _ _ _ _ es k _ _ _ _ g _ _ _ (h.alloc _) hm (h2.alloc _) hlen).mono ?_
    rintro e w1 ⟨rfl, hb1⟩
    go_wp2_with fail
    go_ret2
    exact ⟨ret2b HV.out.symm rfl, hbb.thenB (by simp) hb1⟩
theorem imWhole_any (n : Int) (b o m c : Nat) (es : List (Int × Int)) (md : Int) (b2 o2 len c2 : Nat) (g : Nat → Int) (w : World) (h : Eds w b o m es) (hm : m ≤ 1048576) (h2 : Ints w b2 o2 len g) (hlen : len ≤ 1048576) :
    Calls Try.prog 38 #[.agg #[.int .i64 n, .slice (some ⟨b, o, none⟩) m c], .int .i64 md, .slice (some ⟨b2, o2, none⟩) len c2] w (Ret (.tuple #[.bool (whV n es md len g), .int .i64 (liC n es md len g (-1000) 1000)]) w) := by
  have KC := cell_rg
  have hbb := (by go_grown : Below w.heap.size w (w.alloc (.cells #[.int .i64 n, .slice (some ⟨b, o, none⟩) m c] 30)))
  have hbx := Box2.made w (.int .i64 n) (.slice (some ⟨b, o, none⟩) m c) 30
  have hl := Lib.hid h.len
  have HGC : Hid (∀ r : Bool, ∀ d os, Calls Try.prog 56 #[.agg #[.int .i64 n, .slice (some ⟨b, o, none⟩) m c], .bool r] (grow (redrawn (w.alloc (.cells #[.int .i64 n, .slice (some ⟨b, o, none⟩) m c] 30)) d) os) fun e w'' => e = .returned (.int .i64 (gcC n es r)) ∧ ∃ p : Regrown, w'' = grow (redrawn (w.alloc (.cells #[.int .i64 n, .slice (some ⟨b, o, none⟩) m c] 30)) p.d) p.os) := fun r d os =>
    Ret.rg (graphCode_any n _ _ _ _ es r _ ((h.alloc _).below (below_regrown _ _ _)) hm)
  have HAV : Hid (∀ lo hi d os, Calls Try.prog 83 #[.agg #[.int .i64 n, .slice (some ⟨b, o, none⟩) m c], .slice (some ⟨b2, o2, none⟩) len c2, .int .i64 lo, .int .i64 hi] (grow (redrawn (w.alloc (.cells #[.int .i64 n, .slice (some ⟨b, o, none⟩) m c] 30)) d) os) fun e w'' => e = .returned (.bool (avB es len g lo hi)) ∧ ∃ p : Regrown, w'' = grow (redrawn (w.alloc (.cells #[.int .i64 n, .slice (some ⟨b, o, none⟩) m c] 30)) p.d) p.os) := fun lo hi d os =>
    Ret.rg (areValues_any n _ _ _ es _ _ _ _ g lo hi _ hl.out ((h2.alloc _).below (below_regrown _ _ _)) hlen)
  cases hA : inB md 2 6 with
  | false =>
    have hM := fun W => (hA ▸ isModulus_any md W : Calls Try.prog 82 #[.int .i64 md] W (Is (.bool false) W))
    have HM := Lib.hid hM
    have hk : gcC n es false = liC n es md len g (-1000) 1000 := by rw [← gc_li, hA]; rfl
    have hne : liC n es md len g (-1000) 1000 ≠ 0 := fun h0 => by have := (liC_0 h0).2.1; rw [hA] at this; cases this
    have HV : Hid (whV n es md len g = false) := by simp [Hid, whV, hne]
    have hne' : (gcC n es false != 0) = true := by rw [hk]; simpa using hne
    have HK := Lib.hid hk
    clear hM hk hne
    go_enter Try.func38, Try.ntmps38
    go_wp2_with fail
    (refine wp_region_quiet_below (by kernel_rfl) (by kernel_rfl) ?_
     repeat (any_goals (go_big_quiet_step (first | (go_at_call 82; exact Is.rg (HM.out _)) | (go_at_call 56; exact HGC.out _ _ _))))
     all_goals (refine wpQuiet_nil ?_; intro wq1 hq1; replace hq1 := below_of_rg hq1))
    go_wp2_with fail
    go_ret2
    exact ⟨ret2b HV.out.symm HK.out, hbb.thenB (by simp) hq1⟩
  | true =>
    obtain ⟨d1, d2⟩ := inB_iff.1 hA
    have hM := fun W => (hA ▸ isModulus_any md W : Calls Try.prog 82 #[.int .i64 md] W (Is (.bool true) W))
    have HM := Lib.hid hM
    have hk : gcC n es (avB es len g (-1000) 1000) = liC n es md len g (-1000) 1000 := by rw [← gc_li, hA, Bool.true_and]
    have HK := Lib.hid hk
    clear hM
    by_cases h0 : liC n es md len g (-1000) 1000 = 0
    · obtain ⟨hG, _, hlm, hg⟩ := liC_0 h0
      obtain ⟨N, rfl, hN, hN20⟩ := gpos hG
      have HG := Lib.hid hG
      have Hg := Lib.hid hg
      have H0 := Lib.hid h0
      have HV := Lib.hid (whV_0 h0)
      obtain rfl : len = m := by rw [hlm, hl.out]
      rw [h0] at hk
      clear h0 hg hG hA hN hlm HK
      go_enter Try.func38, Try.ntmps38
      go_wp2_with fail
      (refine wp_region_quiet_below (by kernel_rfl) (by kernel_rfl) ?_
       repeat (any_goals (go_big_quiet_step (first | (go_at_call 82; exact Is.rg (HM.out _)) | (go_at_call 83; exact HAV.out _ _ _ _) | (go_at_call 56; exact HGC.out _ _ _))))
       all_goals (refine wpQuiet_nil ?_; intro wq1 hq1; replace hq1 := below_of_rg hq1))
      obtain ⟨s1, p1, q1⟩ := hbx.below hq1
      have hB1 := hbb.thenB (by simp) hq1
      clear hq1 hbx hbb
      go_wp2_with fail
      refine (areValues_any N _ _ _ es _ _ _ _ g _ _ _ hl.out (h2.below hB1) hlen).mono ?_
      rintro e w2 ⟨rfl, hb2⟩
      have X := Box2.below ⟨s1, p1, q1⟩ hb2
      have hB2 := hB1.andB hb2
      clear s1 p1 q1 hb2 hB1
      obtain ⟨s1, p1, q1⟩ := X
      cases hv : avB es len g (1 - md) (md - 1) with
      | false =>
        have HA := Lib.hid hv
        go_wp2_with fail
        go_ret2
        exact ⟨ret2b (by rw [HV.out, wvB, HA.out]; simp) H0.out.symm, hB2⟩
      | true =>
        have HA := Lib.hid hv
        go_wp2_with fail
        refine (containsL_any _ _ _ _ g _ _ (h2.below hB2) hlen).mono ?_
        rintro e w3 ⟨rfl, rfl⟩
        cases hc : cnB len g 0 with
        | true =>
          have HC := Lib.hid hc
          go_wp2_with fail
          go_ret2
          exact ⟨ret2b (by rw [HV.out, wvB, HC.out]; simp) H0.out.symm, hB2⟩
        | false =>
          have HC := Lib.hid hc
          go_wp2_with fail
          refine (excess_any N _ _ _ _ es _ _ _ g _ (h.below hB2) hm (h2.below hB2) HG.out.wf Hg.out).mono ?_
          rintro e w4 ⟨q, rfl, hq, hrow, hb4⟩
          go_wp2_with fail
          refine (areAllL_any 89 #[] (neB es g len) _ 0 N N (fun v => netTo es g len v) w4 (Ints.of_row hrow) (by omega) enW1 (fun j _ w' hw' => Is.ret (whole1_any _ _))).mono ?_
          rintro e w5 ⟨rfl, hb5⟩
          go_wp2_with fail
          go_ret2
          exact ⟨ret2b (by rw [HV.out, wvB, HC.out, HA.out]; simp) H0.out.symm, (hB2.andB hb4).andB hb5⟩
    · have HV : Hid (whV n es md len g = false) := by simp [Hid, whV, h0]
      have hne' : (gcC n es (avB es len g (-1000) 1000) != 0) = true := by rw [hk]; simpa using h0
      clear h0 hA hk
      go_enter Try.func38, Try.ntmps38
      go_wp2_with fail
      (refine wp_region_quiet_below (by kernel_rfl) (by kernel_rfl) ?_
       repeat (any_goals (go_big_quiet_step (first | (go_at_call 82; exact Is.rg (HM.out _)) | (go_at_call 83; exact HAV.out _ _ _ _) | (go_at_call 56; exact HGC.out _ _ _))))
       all_goals (refine wpQuiet_nil ?_; intro wq1 hq1; replace hq1 := below_of_rg hq1))
      go_wp2_with fail
      go_ret2
      exact ⟨ret2b HV.out.symm HK.out, hbb.thenB (by simp) hq1⟩
end Go.Proofs.Ytjaffbpgochemaa
