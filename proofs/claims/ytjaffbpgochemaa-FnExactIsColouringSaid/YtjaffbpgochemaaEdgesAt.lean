import Derived.Test.YtjaffbpgochemaaAt
import Derived.Test.YtjaffbpgochemaaOtherEnd
namespace Go.Proofs.Ytjaffbpgochemaa
open Go.RowKit Go.Sort
noncomputable def eaC (n : Int) (es : List (Int × Int)) (v : Int) : Int := vtxC n es 1 (fun _ => v)
noncomputable def eaL (n : Int) (es : List (Int × Int)) (v : Int) : List Int := if eaC n es v = 0 then atL es v else []
theorem eaL_0 {n : Int} {es : List (Int × Int)} {v : Int} (h : eaC n es v = 0) : eaL n es v = atL es v := by simp [eaL, h]
theorem eaL_n {n : Int} {es : List (Int × Int)} {v : Int} (h : eaC n es v ≠ 0) : eaL n es v = [] := by simp [eaL, h]
theorem eaL_len (n : Int) (es : List (Int × Int)) (v : Int) : (eaL n es v).length ≤ es.length := by
  unfold eaL
  split
  · exact atTo_len _ _ _
  · simp
theorem gcC_v (n : Int) (es : List (Int × Int)) (v : Int) : gcC n es (vxB n v) = eaC n es v := by
  unfold eaC
  cases hG : B (IsG n es) with
  | false => rw [vtxC_1 (B_not.1 hG)]; simp [gcC, hG]
  | true =>
    have hw := (B_iff.1 hG).wf
    cases hV : vxB n v with
    | false =>
      rw [vxB_wf hw.1 hw.2.1] at hV
      rw [vtxC_2 (B_iff.1 hG) (fun x => inB_not.1 hV (x 0 (by omega)))]
      simp [gcC, hG]
    | true =>
      rw [vxB_wf hw.1 hw.2.1] at hV
      rw [vtxC_0 (B_iff.1 hG) (fun _ _ => inB_iff.1 hV)]
      simp [gcC, hG]
theorem retLC_nil {xs : List Int} {k : Int} {w w' : World} (h : xs = []) (hb : Below w.heap.size w w') : RetLC xs k w (.returned (.tuple #[.slice none 0 0, .int .i64 k])) w' := by
  subst h
  exact ⟨none, 0, rfl, OwnL.nil _ _, hb⟩
theorem retLC_of {xs ys : List Int} {k : Int} {w w1 w' : World} {A : Option Addr} {c : Nat} (h : xs = ys) (hb : Below w.heap.size w w1) (ho : OwnL w1.heap.size w' A xs.length c xs) (hk : Below w1.heap.size w1 w') : RetLC ys k w (.returned (.tuple #[.slice A xs.length c, .int .i64 k])) w' := by
  subst h
  exact ⟨A, c, rfl, ho.mono hb.size, hb.andB hk⟩
set_option maxHeartbeats 400000 in
theorem spEdgesAt_any (n : Int) (b o m c : Nat) (es : List (Int × Int)) (v : Int) (w : World) (h : Eds w b o m es) (hm : m ≤ 1048576) :
    Calls Try.prog 31 #[.agg #[.int .i64 n, .slice (some ⟨b, o, none⟩) m c], .int .i64 v] w (RetLC (eaL n es v) (eaC n es v) w) := by
  have hbox := Box2.made w (.int .i64 n) (.slice (some ⟨b, o, none⟩) m c) 30
  have hbv := (by go_grown : Below w.heap.size w ((w.alloc (.cells #[.int .i64 n, .slice (some ⟨b, o, none⟩) m c] 30)).alloc (.cells #[.int .i64 v] 2)))
  have hbx := hbox.below (by go_grown : Below _ _ ((w.alloc (.cells #[.int .i64 n, .slice (some ⟨b, o, none⟩) m c] 30)).alloc (.cells #[.int .i64 v] 2)))
  have HV := Lib.hid (vertices_any n b o m c (w.alloc (.cells #[.int .i64 n, .slice (some ⟨b, o, none⟩) m c] 30)).heap.size 0 1 1 es (fun _ => v) _ ((h.alloc _).alloc _) hm (ints1 (w.alloc (.cells #[.int .i64 n, .slice (some ⟨b, o, none⟩) m c] 30)) v 2) (by omega))
  rw [show vtxC n es 1 (fun _ => v) = eaC n es v from rfl] at HV
  obtain ⟨K, hK⟩ : ∃ K, K = eaC n es v := ⟨_, rfl⟩
  rw [← hK] at HV ⊢
  by_cases h0 : K = 0
  · have HL := Lib.hid (eaL_0 (hK ▸ h0))
    subst h0
    clear hbox
    go_enter Try.func31, Try.ntmps31
    go_wp2_with fail
    refine (show Calls _ _ _ _ _ from by simpa [go_sem] using HV.out).mono ?_
    rintro e w1 ⟨rfl, hb1⟩
    obtain ⟨s1, p1, q1⟩ := hbx.below hb1
    have hB1 := hbv.thenB (by simp; omega) hb1
    have E1 := h.below hB1
    clear hb1 hbx hbv
    go_wp2_with fail
    refine (l01At_any n b o m c es v _ E1 hm).mono ?_
    rintro e w2 ⟨A, c', rfl, ho, hb2⟩
    go_wp2_with fail
    go_ret2
    exact retLC_of HL.out.symm hB1 ho hb2
  · have HL := Lib.hid (eaL_n (hK ▸ h0))
    have hkb : (K != 0) = true := by simpa using h0
    clear hbox hK h0
    go_enter Try.func31, Try.ntmps31
    go_wp2_with fail
    refine (show Calls _ _ _ _ _ from by simpa [go_sem] using HV.out).mono ?_
    rintro e w1 ⟨rfl, hb1⟩
    have hB1 := hbv.thenB (by simp; omega) hb1
    clear hb1 hbx hbv
    go_wp2_with fail
    go_ret2
    exact retLC_nil HL.out hB1
set_option maxHeartbeats 400000 in
theorem imEdgesAt_any (n : Int) (b o m c : Nat) (es : List (Int × Int)) (v : Int) (w : World) (h : Eds w b o m es) (hm : m ≤ 1048576) :
    Calls Try.prog 32 #[.agg #[.int .i64 n, .slice (some ⟨b, o, none⟩) m c], .int .i64 v] w (RetLC (eaL n es v) (eaC n es v) w) := by
  have KC := cell_rg
  have hbb := (by go_grown : Below w.heap.size w (w.alloc (.cells #[.int .i64 n, .slice (some ⟨b, o, none⟩) m c] 30)))
  have hbx := Box2.made w (.int .i64 n) (.slice (some ⟨b, o, none⟩) m c) 30
  have hGC : ∀ d os, Calls Try.prog 56 #[.agg #[.int .i64 n, .slice (some ⟨b, o, none⟩) m c], .bool (vxB n v)] (grow (redrawn (w.alloc (.cells #[.int .i64 n, .slice (some ⟨b, o, none⟩) m c] 30)) d) os) fun e w'' => e = .returned (.int .i64 (eaC n es v)) ∧ ∃ p : Regrown, w'' = grow (redrawn (w.alloc (.cells #[.int .i64 n, .slice (some ⟨b, o, none⟩) m c] 30)) p.d) p.os := fun d os =>
    Ret.rg (gcC_v n es v ▸ graphCode_any n _ _ _ _ es (vxB n v) _ ((h.alloc _).below (below_regrown _ _ _)) hm)
  have HGC := Lib.hid hGC
  clear hGC
  obtain ⟨K, hK⟩ : ∃ K, K = eaC n es v := ⟨_, rfl⟩
  rw [← hK] at HGC ⊢
  by_cases h0 : K = 0
  · have HL := Lib.hid (eaL_0 (hK ▸ h0))
    subst h0
    clear hK
    go_enter Try.func32, Try.ntmps32
    go_wp2_with fail
    (refine wp_region_quiet_below (by kernel_rfl) (by kernel_rfl) ?_
     repeat (any_goals (go_big_quiet_step (first | (go_at_call 58; exact Ret.rg (isVertex_any _ _ _ _ _ _)) | (go_at_call 56; exact HGC.out _ _))))
     all_goals (refine wpQuiet_nil ?_; intro wq1 hq1; replace hq1 := below_of_rg hq1))
    obtain ⟨s1, p1, q1'⟩ := hbx.below hq1
    have hB1 := hbb.thenB (by simp) hq1
    have E1 := h.below hB1
    clear hq1 hbx hbb
    go_wp2_with fail
    refine (at_any n b o m c es v _ E1 hm).mono ?_
    rintro e w2 ⟨A, c', rfl, ho, hb2⟩
    go_wp2_with fail
    go_ret2
    exact retLC_of HL.out.symm hB1 ho hb2
  · have HL := Lib.hid (eaL_n (hK ▸ h0))
    have hkb : (K != 0) = true := by simpa using h0
    clear hK h0
    go_enter Try.func32, Try.ntmps32
    go_wp2_with fail
    (refine wp_region_quiet_below (by kernel_rfl) (by kernel_rfl) ?_
     repeat (any_goals (go_big_quiet_step (first | (go_at_call 58; exact Ret.rg (isVertex_any _ _ _ _ _ _)) | (go_at_call 56; exact HGC.out _ _))))
     all_goals (refine wpQuiet_nil ?_; intro wq1 hq1; replace hq1 := below_of_rg hq1))
    have hB1 := hbb.thenB (by simp) hq1
    clear hq1 hbx hbb
    go_wp2_with fail
    go_ret2
    exact retLC_nil HL.out hB1
end Go.Proofs.Ytjaffbpgochemaa
