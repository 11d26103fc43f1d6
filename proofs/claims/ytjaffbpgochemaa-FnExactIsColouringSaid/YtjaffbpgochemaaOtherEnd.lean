import Derived.Test.YtjaffbpgochemaaSp2
namespace Go.Proofs.Ytjaffbpgochemaa
open Go.RowKit Go.Sort
theorem oe_cases (n : Int) (es : List (Int × Int)) (e v : Int) :
    (B (IsG n es) = false ∧ oeC n es e v = 1 ∧ oeV n es e v = 0) ∨
    (B (IsG n es) = true ∧ inB v 0 (n - 1) = false ∧ oeC n es e v = 2 ∧ oeV n es e v = 0) ∨
    (B (IsG n es) = true ∧ inB v 0 (n - 1) = true ∧ inB e 0 (es.length - 1) = false ∧ oeC n es e v = 2 ∧ oeV n es e v = 0) ∨
    (B (IsG n es) = true ∧ inB v 0 (n - 1) = true ∧ inB e 0 (es.length - 1) = true ∧ onB es e.toNat v = false ∧ oeC n es e v = 5 ∧ oeV n es e v = 0) ∨
    (B (IsG n es) = true ∧ inB v 0 (n - 1) = true ∧ inB e 0 (es.length - 1) = true ∧ onB es e.toNat v = true ∧ oeC n es e v = 0 ∧ oeV n es e v = ea es e.toNat + eb es e.toNat - v) := by
  cases h1 : B (IsG n es) <;> cases h2 : inB v 0 (n - 1) <;> cases h3 : inB e 0 (es.length - 1) <;> cases h4 : onB es e.toNat v <;> simp [oeC, oeV, h1, h2, h3, h4]
theorem ret2 {a b a' b' : Int} (h1 : a = a') (h2 : b = b') : Ending.returned (.tuple #[.int .i64 a, .int .i64 b]) = .returned (.tuple #[.int .i64 a', .int .i64 b']) := by rw [h1, h2]
theorem ints1 (w : World) (v : Int) (t : TypeId) : Ints (w.alloc (.cells #[.int .i64 v] t)) w.heap.size 0 1 (fun _ => v) :=
  ⟨by simp, fun j hj => by obtain rfl : j = 0 := by omega
                           simp⟩
set_option maxHeartbeats 400000 in
theorem spOtherEnd_any (n : Int) (b o m c : Nat) (es : List (Int × Int)) (e v : Int) (w : World) (h : Eds w b o m es) (hm : m ≤ 1048576) :
    Calls Try.prog 19 #[.agg #[.int .i64 n, .slice (some ⟨b, o, none⟩) m c], .int .i64 e, .int .i64 v] w (Ret (.tuple #[.int .i64 (oeV n es e v), .int .i64 (oeC n es e v)]) w) := by
  have hbox := Box2.made w (.int .i64 n) (.slice (some ⟨b, o, none⟩) m c) 30
  have hbb := (by go_grown : Below w.heap.size w (w.alloc (.cells #[.int .i64 n, .slice (some ⟨b, o, none⟩) m c] 30)))
  have hbv := (by go_grown : Below w.heap.size w ((w.alloc (.cells #[.int .i64 n, .slice (some ⟨b, o, none⟩) m c] 30)).alloc (.cells #[.int .i64 v] 2)))
  have hbx := hbox.below (by go_grown : Below _ _ ((w.alloc (.cells #[.int .i64 n, .slice (some ⟨b, o, none⟩) m c] 30)).alloc (.cells #[.int .i64 v] 2)))
  have hl := Lib.hid h.len
  rcases oe_cases n es e v with ⟨h1, h5, h6⟩ | ⟨h1, h2, h5, h6⟩ | ⟨h1, h2, h3, h5, h6⟩ | ⟨h1, h2, h3, h4, h5, h6⟩ | ⟨h1, h2, h3, h4, h5, h6⟩
  · have HV : Hid (vtxC n es 1 (fun _ => v) = 1) := vtxC_1 (B_not.1 h1)
    have H5 := Lib.hid h5
    have H6 := Lib.hid h6
    clear h1 h5 h6 hbox hbb
    go_enter Try.func19, Try.ntmps19
    go_wp2_with fail
    refine (vertices_any n _ _ _ _ _ _ 1 _ es (fun _ => v) _ ((h.alloc _).alloc _) hm (by simpa using ints1 (w.alloc (.cells #[.int .i64 n, .slice (some ⟨b, o, none⟩) m c] 30)) v 2) (by omega)).mono ?_
    rintro e w1 ⟨rfl, hb1⟩
    rw [HV.out]
    go_wp2_with fail
    go_ret2
    exact ⟨ret2 H6.out.symm H5.out.symm, hbv.thenB (by simp; omega) hb1⟩
  · have HV : Hid (vtxC n es 1 (fun _ => v) = 2) := vtxC_2 (B_iff.1 h1) (fun x => inB_not.1 h2 (x 0 (by omega)))
    have H5 := Lib.hid h5
    have H6 := Lib.hid h6
    clear h1 h5 h6 hbox hbb
    go_enter Try.func19, Try.ntmps19
    go_wp2_with fail
    refine (vertices_any n _ _ _ _ _ _ 1 _ es (fun _ => v) _ ((h.alloc _).alloc _) hm (by simpa using ints1 (w.alloc (.cells #[.int .i64 n, .slice (some ⟨b, o, none⟩) m c] 30)) v 2) (by omega)).mono ?_
    rintro e w1 ⟨rfl, hb1⟩
    obtain ⟨s1, p1, q1⟩ := hbx.below hb1
    have hB1 := hbv.thenB (by simp; omega) hb1
    have E1 := h.below hB1
    clear hb1 hbx hbv
    rw [HV.out]
    go_wp2_with fail
    go_ret2
    exact ⟨ret2 H6.out.symm H5.out.symm, hB1⟩
  · have HV : Hid (vtxC n es 1 (fun _ => v) = 0) := vtxC_0 (B_iff.1 h1) (fun j _ => inB_iff.1 h2)
    rw [hl.out] at h3
    have H5 := Lib.hid h5
    have H6 := Lib.hid h6
    clear h1 h5 h6 hbox hbb
    go_enter Try.func19, Try.ntmps19
    go_wp2_with fail
    refine (vertices_any n _ _ _ _ _ _ 1 _ es (fun _ => v) _ ((h.alloc _).alloc _) hm (by simpa using ints1 (w.alloc (.cells #[.int .i64 n, .slice (some ⟨b, o, none⟩) m c] 30)) v 2) (by omega)).mono ?_
    rintro e w1 ⟨rfl, hb1⟩
    obtain ⟨s1, p1, q1⟩ := hbx.below hb1
    have hB1 := hbv.thenB (by simp; omega) hb1
    have E1 := h.below hB1
    clear hb1 hbx hbv
    rw [HV.out]
    clear E1
    go_wp2_with (go_at_call 54; refine (in_any _ _ _ _).mono ?_; rintro e w' ⟨rfl, rfl⟩)
    go_ret2
    exact ⟨ret2 H6.out.symm H5.out.symm, hB1⟩
  · have HV : Hid (vtxC n es 1 (fun _ => v) = 0) := vtxC_0 (B_iff.1 h1) (fun j _ => inB_iff.1 h2)
    rw [hl.out] at h3
    obtain ⟨j, rfl⟩ : ∃ j : Nat, e = j := ⟨e.toNat, by have := (inB_iff.1 h3).1; omega⟩
    have hj : j < m := by have := (inB_iff.1 h3).2; omega
    simp only [Int.toNat_natCast] at h4 h6
    have hG := Lib.hid (B_iff.1 h1).wf
    have hvv := inB_iff.1 h2
    have hn20 := hG.out.2.1
    have a1 : (ea es j != v) = true := by simp [onB] at h4 ⊢; exact h4.1
    have a2 : (eb es j != v) = true := by simp [onB] at h4 ⊢; exact h4.2
    clear h4
    have H5 := Lib.hid h5
    have H6 := Lib.hid h6
    clear h1 h5 h6 hbox hbb
    go_enter Try.func19, Try.ntmps19
    go_wp2_with fail
    refine (vertices_any n _ _ _ _ _ _ 1 _ es (fun _ => v) _ ((h.alloc _).alloc _) hm (by simpa using ints1 (w.alloc (.cells #[.int .i64 n, .slice (some ⟨b, o, none⟩) m c] 30)) v 2) (by omega)).mono ?_
    rintro e w1 ⟨rfl, hb1⟩
    obtain ⟨s1, p1, q1⟩ := hbx.below hb1
    have hB1 := hbv.thenB (by simp; omega) hb1
    have E1 := h.below hB1
    clear hb1 hbx hbv
    rw [HV.out]
    have e1 := E1.ca j hj
    have e2 := E1.cb j hj
    have e3 := E1.blk
    clear E1
    go_wp2_with (go_at_call 54; refine (in_any _ _ _ _).mono ?_; rintro e w' ⟨rfl, rfl⟩)
    go_ret2
    exact ⟨ret2 H6.out.symm H5.out.symm, hB1⟩
  · have HV : Hid (vtxC n es 1 (fun _ => v) = 0) := vtxC_0 (B_iff.1 h1) (fun j _ => inB_iff.1 h2)
    rw [hl.out] at h3
    obtain ⟨j, rfl⟩ : ∃ j : Nat, e = j := ⟨e.toNat, by have := (inB_iff.1 h3).1; omega⟩
    have hj : j < m := by have := (inB_iff.1 h3).2; omega
    simp only [Int.toNat_natCast] at h4 h6
    have hG := Lib.hid (B_iff.1 h1).wf
    have hvv := inB_iff.1 h2
    have hn20 := hG.out.2.1
    have H5 := Lib.hid h5
    have H6 := Lib.hid h6
    clear h1 h5 h6 hbox hbb
    go_enter Try.func19, Try.ntmps19
    go_wp2_with fail
    refine (vertices_any n _ _ _ _ _ _ 1 _ es (fun _ => v) _ ((h.alloc _).alloc _) hm (by simpa using ints1 (w.alloc (.cells #[.int .i64 n, .slice (some ⟨b, o, none⟩) m c] 30)) v 2) (by omega)).mono ?_
    rintro e w1 ⟨rfl, hb1⟩
    obtain ⟨s1, p1, q1⟩ := hbx.below hb1
    have hB1 := hbv.thenB (by simp; omega) hb1
    have E1 := h.below hB1
    clear hb1 hbx hbv
    rw [HV.out]
    have e1 := E1.ca j hj
    have e2 := E1.cb j hj
    have e3 := E1.blk
    have HE := Lib.hid E1
    clear E1
    cases a1 : (ea es j != v) with
    | false =>
      go_wp2_with (first | (go_at_call 54; refine (in_any _ _ _ _).mono ?_; rintro e w' ⟨rfl, rfl⟩) | (go_at_call 55; refine (spOther_any n _ _ _ _ es j v _ HE.out hj hm hG.out (by omega) (by omega)).mono ?_; rintro e w2 ⟨rfl, hb2⟩))
      go_ret2
      exact ⟨ret2 H6.out.symm H5.out.symm, hB1.andB hb2⟩
    | true =>
      have a2 : (eb es j != v) = false := by simp [onB] at h4 a1 ⊢; rcases h4 with h4 | h4; exact absurd h4 a1; exact h4
      go_wp2_with (first | (go_at_call 54; refine (in_any _ _ _ _).mono ?_; rintro e w' ⟨rfl, rfl⟩) | (go_at_call 55; refine (spOther_any n _ _ _ _ es j v _ HE.out hj hm hG.out (by omega) (by omega)).mono ?_; rintro e w2 ⟨rfl, hb2⟩))
      go_ret2
      exact ⟨ret2 H6.out.symm H5.out.symm, hB1.andB hb2⟩
set_option maxHeartbeats 1000000 in
theorem imOtherEnd_any (n : Int) (b o m c : Nat) (es : List (Int × Int)) (e v : Int) (w : World) (h : Eds w b o m es) (hm : m ≤ 1048576) :
    Calls Try.prog 20 #[.agg #[.int .i64 n, .slice (some ⟨b, o, none⟩) m c], .int .i64 e, .int .i64 v] w (Ret (.tuple #[.int .i64 (oeV n es e v), .int .i64 (oeC n es e v)]) w) := by
  have KC := cell_rg
  have hbb := (by go_grown : Below w.heap.size w (w.alloc (.cells #[.int .i64 n, .slice (some ⟨b, o, none⟩) m c] 30)))
  have hbx := Box2.made w (.int .i64 n) (.slice (some ⟨b, o, none⟩) m c) 30
  have hl := Lib.hid h.len
  have hGC : ∀ r : Bool, ∀ k : Int, gcC n es r = k → ∀ d os, Calls Try.prog 56 #[.agg #[.int .i64 n, .slice (some ⟨b, o, none⟩) m c], .bool r] (grow (redrawn (w.alloc (.cells #[.int .i64 n, .slice (some ⟨b, o, none⟩) m c] 30)) d) os) fun e w'' => e = .returned (.int .i64 k) ∧ ∃ p : Regrown, w'' = grow (redrawn (w.alloc (.cells #[.int .i64 n, .slice (some ⟨b, o, none⟩) m c] 30)) p.d) p.os := fun r k hk d os =>
    Ret.rg (hk ▸ graphCode_any n _ _ _ _ es r _ ((h.alloc _).below (below_regrown _ _ _)) hm)
  have HGC := Lib.hid hGC
  clear hGC
  have main : ∀ k : Int, k ≠ 0 → oeC n es e v = k → oeV n es e v = 0 → (∀ r : Bool, r = (inB e 0 ((m : Int) - 1) && vxB n v) → gcC n es r = k) → Calls Try.prog 20 #[.agg #[.int .i64 n, .slice (some ⟨b, o, none⟩) m c], .int .i64 e, .int .i64 v] w (Ret (.tuple #[.int .i64 (oeV n es e v), .int .i64 (oeC n es e v)]) w) := by
    intro k hk h5 h6 hg
    have H5 := Lib.hid h5
    have H6 := Lib.hid h6
    have hkb : (k != 0) = true := by simpa using hk
    clear h5 h6 hk
    cases hE : inB e 0 ((m : Int) - 1) with
    | false =>
      have hE' := fun W => (hE ▸ isEdge_any n (some ⟨b, o, none⟩) m c e W (by omega) : Calls Try.prog 57 #[.agg #[.int .i64 n, .slice (some ⟨b, o, none⟩) m c], .int .i64 e] W (Ret (.bool false) W))
      have HE := Lib.hid hE'
      have HG := HGC.out false k (hg false (by rw [hE]; rfl))
      have HG' := Lib.hid HG
      clear hE' HG hg
      go_enter Try.func20, Try.ntmps20
      go_wp2_with fail
      (refine wp_region_quiet_below (by kernel_rfl) (by kernel_rfl) ?_
       repeat (any_goals (go_big_quiet_step (first | (go_at_call 57; exact Ret.rg (HE.out _)) | (go_at_call 56; exact HG'.out _ _))))
       all_goals (refine wpQuiet_nil ?_; intro wq1 hq1; replace hq1 := below_of_rg hq1))
      go_wp2_with fail
      go_ret2
      exact ⟨ret2 H6.out.symm H5.out.symm, hbb.thenB (by simp) hq1⟩
    | true =>
      have hE' := fun W => (hE ▸ isEdge_any n (some ⟨b, o, none⟩) m c e W (by omega) : Calls Try.prog 57 #[.agg #[.int .i64 n, .slice (some ⟨b, o, none⟩) m c], .int .i64 e] W (Ret (.bool true) W))
      have HE := Lib.hid hE'
      have HG := HGC.out (vxB n v) k (hg _ (by rw [hE]; simp))
      have HG' := Lib.hid HG
      clear hE' HG hg
      go_enter Try.func20, Try.ntmps20
      go_wp2_with fail
      (refine wp_region_quiet_below (by kernel_rfl) (by kernel_rfl) ?_
       repeat (any_goals (go_big_quiet_step (first | (go_at_call 57; exact Ret.rg (HE.out _)) | (go_at_call 58; exact Ret.rg (isVertex_any _ _ _ _ _ _)) | (go_at_call 56; exact HG'.out _ _))))
       all_goals (refine wpQuiet_nil ?_; intro wq1 hq1; replace hq1 := below_of_rg hq1))
      go_wp2_with fail
      go_ret2
      exact ⟨ret2 H6.out.symm H5.out.symm, hbb.thenB (by simp) hq1⟩
  rcases oe_cases n es e v with ⟨h1, h5, h6⟩ | ⟨h1, h2, h5, h6⟩ | ⟨h1, h2, h3, h5, h6⟩ | ⟨h1, h2, h3, h4, h5, h6⟩ | ⟨h1, h2, h3, h4, h5, h6⟩
  · exact main 1 (by decide) h5 h6 (fun r _ => by simp [gcC, h1])
  · exact main 2 (by decide) h5 h6 (fun r hr => by
      have hw := (B_iff.1 h1).wf
      rw [vxB_wf hw.1 hw.2.1, h2, Bool.and_false] at hr
      simp [gcC, h1, hr])
  · exact main 2 (by decide) h5 h6 (fun r hr => by
      rw [← hl.out, h3, Bool.false_and] at hr
      simp [gcC, h1, hr])
  all_goals
    have hw := (B_iff.1 h1).wf
    rw [hl.out] at h3
    have hX : vxB n v = true := by rw [vxB_wf hw.1 hw.2.1, h2]
    have hE' := fun W => (h3 ▸ isEdge_any n (some ⟨b, o, none⟩) m c e W (by omega) : Calls Try.prog 57 #[.agg #[.int .i64 n, .slice (some ⟨b, o, none⟩) m c], .int .i64 e] W (Ret (.bool true) W))
    have hX' := fun W => (hX ▸ isVertex_any n (some ⟨b, o, none⟩) m c v W : Calls Try.prog 58 #[.agg #[.int .i64 n, .slice (some ⟨b, o, none⟩) m c], .int .i64 v] W (Ret (.bool true) W))
    have HE := Lib.hid hE'
    have HX := Lib.hid hX'
    have HG := HGC.out true 0 (by simp [gcC, h1])
    have HG' := Lib.hid HG
    clear hE' hX' HG HGC hX main
    obtain ⟨j, rfl⟩ : ∃ j : Nat, e = j := ⟨e.toNat, by have := (inB_iff.1 h3).1; omega⟩
    have hj : j < m := by have := (inB_iff.1 h3).2; omega
    simp only [Int.toNat_natCast] at h4 h6
    have hG := Lib.hid hw
    have hvv := inB_iff.1 h2
    have hn20 := hG.out.2.1
    have hee := Lib.hid (hG.out.2.2.2.2 j (by rw [hl.out]; exact hj))
    have H5 := Lib.hid h5
    have H6 := Lib.hid h6
    have h4' : decide (ea es j = v ∨ eb es j = v) = onB es j v := rfl
    rw [h4] at h4'
    have H4 := Lib.hid h4'
    clear h1 h2 h3 h4 h4' h5 h6 hw
    go_enter Try.func20, Try.ntmps20
    go_wp2_with fail
    (refine wp_region_quiet_below (by kernel_rfl) (by kernel_rfl) ?_
     repeat (any_goals (go_big_quiet_step (first | (go_at_call 57; exact Ret.rg (HE.out _)) | (go_at_call 58; exact Ret.rg (HX.out _)) | (go_at_call 56; exact HG'.out _ _))))
     all_goals (refine wpQuiet_nil ?_; intro wq1 hq1; replace hq1 := below_of_rg hq1))
    obtain ⟨s1, p1, q1'⟩ := hbx.below hq1
    have hB1 := hbb.thenB (by simp) hq1
    have E1 := h.below hB1
    have e1 := E1.ca j hj
    have e2 := E1.cb j hj
    clear hq1 hbx hbb E1
    go_wp2_with fail
    refine (isOn_any _ _ _ _).mono ?_
    rintro e w1 ⟨rfl, hb1⟩
    rw [H4.out]
    have x1 := (hb1.cell (p := ⟨w.heap.size, 1, none⟩) s1).trans q1'
    have x2 := (hb1.cell (p := ⟨b, o + j * 2, none⟩) (World.block_lt_of_cell? _ _ e1)).trans e1
    have x3 := (hb1.cell (p := ⟨b, o + j * 2 + 1, none⟩) (World.block_lt_of_cell? _ _ e2)).trans e2
    have hB2 := hB1.andB hb1
    clear hb1 e1 e2 q1' p1
  · go_wp2_with fail
    go_ret2
    exact ⟨ret2 H6.out.symm H5.out.symm, hB2⟩
  · go_wp2_with fail
    refine (other_any _ _ _ _ hee.out.1 (by have := hee.out; omega) hee.out.2.2.1 (by have := hee.out; omega) (by omega) (by omega)).mono ?_
    rintro e w3 ⟨rfl, hb3⟩
    go_wp2_with fail
    go_ret2
    exact ⟨ret2 H6.out.symm H5.out.symm, hB2.andB hb3⟩
end Go.Proofs.Ytjaffbpgochemaa
