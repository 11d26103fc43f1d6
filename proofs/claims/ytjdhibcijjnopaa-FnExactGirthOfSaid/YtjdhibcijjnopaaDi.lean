import Derived.Test.YtjdhibcijjnopaaFs
import Derived.Test.YtjdhibcijjnopaaFi
import Derived.Test.YtjdhibcijjnopaaOtherEnd
import Derived.Test.YtjdhibcijjnopaaMb
namespace Go.Proofs.Ytjdhibcijjnopaa
open Go.RowKit Go.Sort
/-! ### DistanceOf -/
theorem sk_none : skI (-1) = noSk := by funext e; simp [skI, noSk]
theorem skS_none : skS 0 = noSk := by funext e; simp [skS, noSk, hasB]
theorem skS_one (i : Nat) : skS (2 ^ i) = skI i := by
  funext e
  rw [Bool.eq_iff_iff]
  simp [skS, skI, hasB, Nat.testBit_two_pow]
  omega
theorem ints2 (w : World) (a b : Int) (t : TypeId) : Ints (w.alloc (.cells #[.int .i64 a, .int .i64 b] t)) w.heap.size 0 2 (fun j => if j = 0 then a else b) :=
  ⟨by simp, fun j hj => by
    match j, hj with
    | 0, _ => simp
    | 1, _ => simp⟩
noncomputable def diC (n : Int) (es : List (Int × Int)) (a b : Int) : Int :=
  if vtxC n es 2 (fun j => if j = 0 then a else b) = 0 then (if farF es noSk n a b < 0 then 4 else 0) else vtxC n es 2 (fun j => if j = 0 then a else b)
noncomputable def diV (n : Int) (es : List (Int × Int)) (a b : Int) : Int := if diC n es a b = 0 then farF es noSk n a b else 0
theorem di_cases (n : Int) (es : List (Int × Int)) (a b : Int) :
    (¬ IsG n es ∧ diC n es a b = 1 ∧ diV n es a b = 0 ∧ vtxC n es 2 (fun j => if j = 0 then a else b) = 1) ∨
    (IsG n es ∧ ¬ ((0 ≤ a ∧ a ≤ n - 1) ∧ (0 ≤ b ∧ b ≤ n - 1)) ∧ diC n es a b = 2 ∧ diV n es a b = 0 ∧ vtxC n es 2 (fun j => if j = 0 then a else b) = 2) ∨
    (IsG n es ∧ (0 ≤ a ∧ a ≤ n - 1) ∧ (0 ≤ b ∧ b ≤ n - 1) ∧ farF es noSk n a b < 0 ∧ diC n es a b = 4 ∧ diV n es a b = 0 ∧ vtxC n es 2 (fun j => if j = 0 then a else b) = 0) ∨
    (IsG n es ∧ (0 ≤ a ∧ a ≤ n - 1) ∧ (0 ≤ b ∧ b ≤ n - 1) ∧ 0 ≤ farF es noSk n a b ∧ diC n es a b = 0 ∧ diV n es a b = farF es noSk n a b ∧ vtxC n es 2 (fun j => if j = 0 then a else b) = 0) := by
  have key : (∀ j, j < 2 → 0 ≤ (if j = 0 then a else b) ∧ (if j = 0 then a else b) ≤ n - 1) ↔ (0 ≤ a ∧ a ≤ n - 1) ∧ (0 ≤ b ∧ b ≤ n - 1) :=
    ⟨fun h => ⟨h 0 (by omega), h 1 (by omega)⟩, fun h j hj => by
      rcases (show j = 0 ∨ j = 1 by omega) with rfl | rfl
      · exact h.1
      · exact h.2⟩
  by_cases hG : IsG n es
  · by_cases hv : (0 ≤ a ∧ a ≤ n - 1) ∧ (0 ≤ b ∧ b ≤ n - 1)
    · have e := vtxC_0 (k := 2) (g := fun j => if j = 0 then a else b) hG (key.2 hv)
      by_cases hf : farF es noSk n a b < 0
      · right; right; left; simp [diC, diV, e, hG, hv, hf]
      · right; right; right; simp [diC, diV, e, hG, hv, hf]; omega
    · have e := vtxC_2 (k := 2) (g := fun j => if j = 0 then a else b) hG (fun h => hv (key.1 h))
      right; left; exact ⟨hG, hv, by simp [diC, e], by simp [diV, diC, e], e⟩
  · have e := vtxC_1 (k := 2) (g := fun j => if j = 0 then a else b) hG
    left; exact ⟨hG, by simp [diC, e], by simp [diV, diC, e], e⟩
set_option maxHeartbeats 800000 in
theorem spDistanceOf_any (n : Int) (b o m c : Nat) (es : List (Int × Int)) (x y : Int) (w : World) (h : Eds w b o m es) (hm : m ≤ 1048576) :
    Calls Try.prog 32 #[.agg #[.int .i64 n, .slice (some ⟨b, o, none⟩) m c], .int .i64 x, .int .i64 y] w (Ret (.tuple #[.int .i64 (diV n es x y), .int .i64 (diC n es x y)]) w) := by
  have hbox := Box2.made w (.int .i64 n) (.slice (some ⟨b, o, none⟩) m c) 31
  have hbv := (by go_grown : Below w.heap.size w ((w.alloc (.cells #[.int .i64 n, .slice (some ⟨b, o, none⟩) m c] 31)).alloc (.cells #[.int .i64 x, .int .i64 y] 2)))
  have hbx := hbox.below (by go_grown : Below _ _ ((w.alloc (.cells #[.int .i64 n, .slice (some ⟨b, o, none⟩) m c] 31)).alloc (.cells #[.int .i64 x, .int .i64 y] 2)))
  have HV := Lib.hid (vertices_any n b o m c (w.alloc (.cells #[.int .i64 n, .slice (some ⟨b, o, none⟩) m c] 31)).heap.size 0 2 2 es (fun j => if j = 0 then x else y) _ ((h.alloc _).alloc _) hm (ints2 (w.alloc (.cells #[.int .i64 n, .slice (some ⟨b, o, none⟩) m c] 31)) x y 2) (by omega))
  clear hbox
  rcases di_cases n es x y with ⟨hG, h1, h2, h3⟩ | ⟨hG, hv, h1, h2, h3⟩ | ⟨hG, hx, hy, hf, h1, h2, h3⟩ | ⟨hG, hx, hy, hf, h1, h2, h3⟩
  · rw [h1, h2]
    rw [h3] at HV
    clear h1 h2 h3
    go_enter Try.func32, Try.ntmps32
    go_wp2_with fail
    refine (show Calls _ _ _ _ _ from by simpa [go_sem] using HV.out).mono ?_
    rintro e w1 ⟨rfl, hb1⟩
    have hB1 := hbv.thenB (by simp; omega) hb1
    clear hb1 hbx hbv
    go_wp2_with fail
    go_ret2
    exact ⟨rfl, hB1⟩
  · rw [h1, h2]
    rw [h3] at HV
    clear h1 h2 h3 hv
    go_enter Try.func32, Try.ntmps32
    go_wp2_with fail
    refine (show Calls _ _ _ _ _ from by simpa [go_sem] using HV.out).mono ?_
    rintro e w1 ⟨rfl, hb1⟩
    have hB1 := hbv.thenB (by simp; omega) hb1
    clear hb1 hbx hbv
    go_wp2_with fail
    go_ret2
    exact ⟨rfl, hB1⟩
  · rw [h1, h2]
    rw [h3] at HV
    obtain ⟨u, rfl⟩ : ∃ u : Nat, y = u := ⟨y.toNat, by omega⟩
    have hu : u < n.toNat := by omega
    have HF := Lib.hid (fun W hE => sk_none ▸ l01Far_any n b o m c es x (-1) W hE hm hG.wf hx.1 hx.2)
    clear h1 h2 h3
    go_enter Try.func32, Try.ntmps32
    go_wp2_with fail
    refine (show Calls _ _ _ _ _ from by simpa [go_sem] using HV.out).mono ?_
    rintro e w1 ⟨rfl, hb1⟩
    obtain ⟨s1, p1, q1⟩ := hbx.below hb1
    have hB1 := hbv.thenB (by simp; omega) hb1
    clear hb1 hbx hbv
    go_wp2_with fail
    refine (HF.out _ (h.below hB1)).mono ?_
    rintro e w2 ⟨g, rfl, hg, R, hb2⟩
    have r1 := R.cell hu
    clear R
    go_wp2_with fail
    go_ret2
    exact ⟨rfl, hB1.andB hb2⟩
  · rw [h1, h2]
    rw [h3] at HV
    obtain ⟨u, rfl⟩ : ∃ u : Nat, y = u := ⟨y.toNat, by omega⟩
    have hu : u < n.toNat := by omega
    have HF := Lib.hid (fun W hE => sk_none ▸ l01Far_any n b o m c es x (-1) W hE hm hG.wf hx.1 hx.2)
    have hf2 : ¬ farF es noSk n x u < 0 := by omega
    clear h1 h2 h3
    go_enter Try.func32, Try.ntmps32
    go_wp2_with fail
    refine (show Calls _ _ _ _ _ from by simpa [go_sem] using HV.out).mono ?_
    rintro e w1 ⟨rfl, hb1⟩
    obtain ⟨s1, p1, q1⟩ := hbx.below hb1
    have hB1 := hbv.thenB (by simp; omega) hb1
    clear hb1 hbx hbv
    go_wp2_with fail
    refine (HF.out _ (h.below hB1)).mono ?_
    rintro e w2 ⟨g, rfl, hg, R, hb2⟩
    have r1 := R.cell hu
    clear R
    go_wp2_with fail
    go_ret2
    exact ⟨rfl, hB1.andB hb2⟩
theorem gc_v2 (n : Int) (es : List (Int × Int)) (x y : Int) : gcC n es (vxB n x && vxB n y) = vtxC n es 2 (fun j => if j = 0 then x else y) := by
  cases hG : B (IsG n es) with
  | false => rw [vtxC_1 (B_not.1 hG)]; simp [gcC, hG]
  | true =>
    have hg := B_iff.1 hG
    have hw := hg.wf
    rw [vxB_wf hw.1 hw.2.1, vxB_wf hw.1 hw.2.1]
    by_cases hv : (0 ≤ x ∧ x ≤ n - 1) ∧ (0 ≤ y ∧ y ≤ n - 1)
    · rw [vtxC_0 hg (fun j hj => by
        rcases (show j = 0 ∨ j = 1 by omega) with rfl | rfl
        · exact hv.1
        · exact hv.2), inB_true hv.1.1 hv.1.2, inB_true hv.2.1 hv.2.2]; simp [gcC, hG]
    · rw [vtxC_2 hg (fun h => hv ⟨h 0 (by omega), h 1 (by omega)⟩)]
      have : (inB x 0 (n - 1) && inB y 0 (n - 1)) = false := by
        rw [Bool.eq_false_iff]; intro hc; rw [Bool.and_eq_true, inB_iff, inB_iff] at hc; exact hv hc
      rw [this]; simp [gcC, hG]
set_option maxHeartbeats 1600000 in
theorem imDistanceOf_any (n : Int) (b o m c : Nat) (es : List (Int × Int)) (x y : Int) (w : World) (h : Eds w b o m es) (hm : m ≤ 1048576) :
    Calls Try.prog 33 #[.agg #[.int .i64 n, .slice (some ⟨b, o, none⟩) m c], .int .i64 x, .int .i64 y] w (Ret (.tuple #[.int .i64 (diV n es x y), .int .i64 (diC n es x y)]) w) := by
  have KC := cell_rg
  have hbb := (by go_grown : Below w.heap.size w (w.alloc (.cells #[.int .i64 n, .slice (some ⟨b, o, none⟩) m c] 31)))
  have hbx := Box2.made w (.int .i64 n) (.slice (some ⟨b, o, none⟩) m c) 31
  have hGC : ∀ r, r = (vxB n x && vxB n y) → ∀ d os, Calls Try.prog 49 #[.agg #[.int .i64 n, .slice (some ⟨b, o, none⟩) m c], .bool r] (grow (redrawn (w.alloc (.cells #[.int .i64 n, .slice (some ⟨b, o, none⟩) m c] 31)) d) os) fun e w'' => e = .returned (.int .i64 (vtxC n es 2 (fun j => if j = 0 then x else y))) ∧ ∃ p : Regrown, w'' = grow (redrawn (w.alloc (.cells #[.int .i64 n, .slice (some ⟨b, o, none⟩) m c] 31)) p.d) p.os := fun r hr d os => by
    subst hr
    exact Ret.rg (gc_v2 n es x y ▸ graphCode_any n _ _ _ _ es _ _ ((h.alloc _).below (below_regrown _ _ _)) hm)
  have HGC := Lib.hid hGC
  clear hGC
  have hIV : ∀ v W, Calls Try.prog 69 #[.agg #[.int .i64 n, .slice (some ⟨b, o, none⟩) m c], .int .i64 v] W (Ret (.bool (vxB n v)) W) := fun v W => isVertex_any n _ m c v W
  have HX := Lib.hid (hIV x)
  have HY := Lib.hid (hIV y)
  clear hIV
  have HD := Lib.hid (di_cases n es x y)
  cases hA : vxB n x with
  | false =>
    rw [hA] at HX HGC
    rcases HD.out with ⟨hG, h1, h2, h3⟩ | ⟨hG, hv, h1, h2, h3⟩ | ⟨hG, hx, hy, hf, h1, h2, h3⟩ | ⟨hG, hx, hy, hf, h1, h2, h3⟩
    rotate_left 2
    · exfalso; rw [vxB_wf hG.wf.1 hG.wf.2.1] at hA; exact inB_not.1 hA hx
    · exfalso; rw [vxB_wf hG.wf.1 hG.wf.2.1] at hA; exact inB_not.1 hA hx
    all_goals
      rw [h1, h2]
      rw [h3] at HGC
      clear h1 h2 h3 HD
      go_enter Try.func33, Try.ntmps33
      go_wp2_with fail
      (refine wp_region_quiet_below (by kernel_rfl) (by kernel_rfl) ?_
       repeat (any_goals (go_big_quiet_step (first | (go_at_call 69; exact Ret.rg (HX.out _)) | (go_at_call 49; exact HGC.out _ (by simp) _ _))))
       all_goals (refine wpQuiet_nil ?_; intro wq1 hq1; replace hq1 := below_of_rg hq1))
      have hB1 := hbb.thenB (by simp) hq1
      clear hq1 hbx hbb
      go_wp2_with fail
      go_ret2
      exact ⟨rfl, hB1⟩
  | true =>
    rw [hA] at HX HGC
    cases hA2 : vxB n y with
    | false =>
      rw [hA2] at HY HGC
      rcases HD.out with ⟨hG, h1, h2, h3⟩ | ⟨hG, hv, h1, h2, h3⟩ | ⟨hG, hx, hy, hf, h1, h2, h3⟩ | ⟨hG, hx, hy, hf, h1, h2, h3⟩
      rotate_left 2
      · exfalso; rw [vxB_wf hG.wf.1 hG.wf.2.1] at hA2; exact inB_not.1 hA2 hy
      · exfalso; rw [vxB_wf hG.wf.1 hG.wf.2.1] at hA2; exact inB_not.1 hA2 hy
      all_goals
        rw [h1, h2]
        rw [h3] at HGC
        clear h1 h2 h3 HD
        go_enter Try.func33, Try.ntmps33
        go_wp2_with fail
        (refine wp_region_quiet_below (by kernel_rfl) (by kernel_rfl) ?_
         repeat (any_goals (go_big_quiet_step (first | (go_at_call 69; first | with_reducible exact Ret.rg (HX.out _) | with_reducible exact Ret.rg (HY.out _)) | (go_at_call 49; exact HGC.out _ (by simp) _ _))))
         all_goals (refine wpQuiet_nil ?_; intro wq1 hq1; replace hq1 := below_of_rg hq1))
        have hB1 := hbb.thenB (by simp) hq1
        clear hq1 hbx hbb
        go_wp2_with fail
        go_ret2
        exact ⟨rfl, hB1⟩
    | true =>
      rw [hA2] at HY HGC
      rcases HD.out with ⟨hG, h1, h2, h3⟩ | ⟨hG, hv, h1, h2, h3⟩ | ⟨hG, hx, hy, hf, h1, h2, h3⟩ | ⟨hG, hx, hy, hf, h1, h2, h3⟩
      · rw [h1, h2]
        rw [h3] at HGC
        clear h1 h2 h3 HD
        go_enter Try.func33, Try.ntmps33
        go_wp2_with fail
        (refine wp_region_quiet_below (by kernel_rfl) (by kernel_rfl) ?_
         repeat (any_goals (go_big_quiet_step (first | (go_at_call 69; first | with_reducible exact Ret.rg (HX.out _) | with_reducible exact Ret.rg (HY.out _)) | (go_at_call 49; exact HGC.out _ (by simp) _ _))))
         all_goals (refine wpQuiet_nil ?_; intro wq1 hq1; replace hq1 := below_of_rg hq1))
        have hB1 := hbb.thenB (by simp) hq1
        clear hq1 hbx hbb
        go_wp2_with fail
        go_ret2
        exact ⟨rfl, hB1⟩
      · exfalso
        rw [vxB_wf hG.wf.1 hG.wf.2.1] at hA hA2
        exact hv ⟨inB_iff.1 hA, inB_iff.1 hA2⟩
      all_goals
        rw [h1, h2]
        rw [h3] at HGC
        obtain ⟨u, rfl⟩ : ∃ u : Nat, y = u := ⟨y.toNat, by omega⟩
        have hu : u < n.toNat := by omega
        have HF := Lib.hid (fun W hE => skS_none ▸ distances_any n b o m c 0 es x W hE hm hG.wf hx.1 hx.2 (by omega))
        have hf2 : (farF es noSk n x u < 0) ∨ ¬ farF es noSk n x u < 0 := Classical.em _
        clear h1 h2 h3 HD
        go_enter Try.func33, Try.ntmps33
        go_wp2_with fail
        (refine wp_region_quiet_below (by kernel_rfl) (by kernel_rfl) ?_
         repeat (any_goals (go_big_quiet_step (first | (go_at_call 69; first | with_reducible exact Ret.rg (HX.out _) | with_reducible exact Ret.rg (HY.out _)) | (go_at_call 49; exact HGC.out _ (by simp) _ _))))
         all_goals (refine wpQuiet_nil ?_; intro wq1 hq1; replace hq1 := below_of_rg hq1))
        obtain ⟨s1, p1, q1'⟩ := hbx.below hq1
        have hB1 := hbb.thenB (by simp) hq1
        clear hq1 hbx hbb
        go_wp2_with fail
        refine (HF.out _ (h.below hB1)).mono ?_
        rintro e w2 ⟨g, rfl, hg, R, hb2⟩
        have r1 := R.cell hu
        clear R
        rcases hf2 with hf2 | hf2
        all_goals first
          | (exfalso; omega)
          | (go_wp2_with fail
             go_ret2
             exact ⟨rfl, hB1.andB hb2⟩)
end Go.Proofs.Ytjdhibcijjnopaa
