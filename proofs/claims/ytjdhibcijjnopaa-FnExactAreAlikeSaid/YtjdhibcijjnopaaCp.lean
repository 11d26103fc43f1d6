import Derived.Test.YtjdhibcijjnopaaCo
namespace Go.Proofs.Ytjdhibcijjnopaa
open Go.RowKit Go.Sort
theorem colP_iff {n : Int} {es : List (Int × Int)} {cs : Nat → Int} (hn : WfP n es) : ColP es cs ↔ ∀ e, e < es.length → (0 ≤ cs e ∧ cs e ≤ 2) ∧ FitP es cs e := by
  constructor
  · rintro ⟨h1, h2⟩ e he
    exact ⟨h1 e he, (fitP_iff hn he).2 ⟨h2 _ (by omega), h2 _ (by omega)⟩⟩
  · intro h
    refine ⟨fun e he => (h e he).1, fun t ht => ?_⟩
    have h1 := (fitP_iff hn (by omega : t / 2 < es.length)).1 (h (t / 2) (by omega)).2
    rcases (show t = 2 * (t / 2) ∨ t = 2 * (t / 2) + 1 by omega) with e | e <;> rw [e]
    · exact h1.1
    · exact h1.2
set_option maxRecDepth 100000 in
set_option maxHeartbeats 2000000 in
theorem l02Is_any (n : Int) (b o m c b2 o2 l c2 : Nat) (es : List (Int × Int)) (cs : Nat → Int) (w : World) (h : Eds w b o m es) (hm : m ≤ 1048576) (hG : IsG n es) (h2 : Ints w b2 o2 l cs) (hl2 : l ≤ 1048576) :
    Calls Try.prog 84 #[.agg #[.int .i64 n, .slice (some ⟨b, o, none⟩) m c], .slice (some ⟨b2, o2, none⟩) l c2] w (Ret (.bool (colB es cs l)) w) := by
  have KC := cell_rg
  have hl := Lib.hid h.len
  have HG := Lib.hid hG
  have hbx := Box2.made w (.int .i64 n) (.slice (some ⟨b, o, none⟩) m c) 31
  have hbb := (by go_grown : Below w.heap.size w (w.alloc (.cells #[.int .i64 n, .slice (some ⟨b, o, none⟩) m c] 31)))
  clear hG
  by_cases hlm : l = m
  rotate_left
  · have HV : Hid (colB es cs l = false) := B_false fun x => hlm (by rw [x.1, hl.out])
    have hne : ((l : Int) != m) = true := by simp; omega
    go_enter Try.func84, Try.ntmps84
    go_wp2_with fail
    go_ret
    exact ⟨ret_bool HV.out.symm, hbb⟩
  subst hlm
  go_enter Try.func84, Try.ntmps84
  go_wp2_with fail
  obtain ⟨w1, hw1⟩ : ∃ w1, w1 = w.alloc (Obj.cells #[Value.int IntKind.i64 n, Value.slice (some ⟨b, o, none⟩) l c] 31) := ⟨_, rfl⟩
  rw [← hw1] at hbx hbb ⊢
  clear hw1
  have E1 := h.below hbb
  have I1 := h2.below hbb
  obtain ⟨s1, p1, q1⟩ := hbx
  go_loopw [5] (fun kv wv => ∃ e : Nat, e ≤ l ∧ kv = .int .i64 e ∧ Hid (∀ u, u < e → (0 ≤ cs u ∧ cs u ≤ 2) ∧ FitP es cs u) ∧ Below w1.heap.size w1 wv) (fun k _ => l - (intOf k).toNat)
  case atStart => exact ⟨0, by omega, rfl, fun k hk => absurd hk (by omega), Below.refl _ _⟩
  case round =>
    obtain ⟨e, he, rfl, HF, hbr⟩ := hrel
    have hsz := hbr.size
    by_cases hlt : e < l
    · have E := E1.below hbr
      have I := I1.below hbr
      have c1 := I.c e hlt
      have s3 := I.blk
      have k1 := (hbr.cell (p := ⟨w.heap.size, 0, none⟩) s1).trans p1
      have k2 := (hbr.cell (p := ⟨w.heap.size, 1, none⟩) s1).trans q1
      have s2 : w.heap.size < wr.heap.size := by omega
      cases hA : inB (cs e) 0 2 with
      | false =>
        have HV : Hid (colB es cs l = false) := B_false fun x => inB_not.1 hA (x.2.1 e (by rw [hl.out]; exact hlt))
        clear E I
        go_wp2_with fail
        (refine wp_region_quiet_below (by kernel_rfl) (by kernel_rfl) ?_
         repeat (any_goals (go_big_quiet_step (first | (go_at_call 70; exact Is.rg (in_any _ _ _ _)))))
         all_goals (refine wpQuiet_nil ?_; intro wq1 hq1; replace hq1 := below_of_rg hq1))
        go_wp2_with fail
        go_ret
        exact ⟨ret_bool HV.out.symm, (hbb.andB hbr).andB hq1⟩
      | true =>
        obtain ⟨r, hr⟩ : ∃ r, r = B (FitP es cs e) := ⟨_, rfl⟩
        have hFT : ∀ d os, Calls Try.prog 105 #[.agg #[.int .i64 n, .slice (some ⟨b, o, none⟩) l c], .slice (some ⟨b2, o2, none⟩) l c2, .int .i64 e, .int .i64 (cs e)] (grow (redrawn wr d) os) fun e w'' => e = .returned (.bool r) ∧ ∃ p : Regrown, w'' = grow (redrawn wr p.d) p.os := fun d os =>
          Ret.rg (hr ▸ l02Fits_any n b o l c b2 o2 c2 e es cs _ (E.below (below_regrown _ _ _)) hm HG.out (I.below (below_regrown _ _ _)) hlt)
        have HFT := Lib.hid hFT
        clear hFT E I
        cases r with
        | false =>
          have HV : Hid (colB es cs l = false) := B_false fun x => B_not.1 hr.symm (((colP_iff HG.out.wf).1 x.2 e (by rw [hl.out]; exact hlt)).2)
          clear hr
          go_wp2_with fail
          (refine wp_region_quiet_below (by kernel_rfl) (by kernel_rfl) ?_
           repeat (any_goals (go_big_quiet_step (first | (go_at_call 70; exact Is.rg (in_any _ _ _ _)) | (go_at_call 105; exact HFT.out _ _))))
           all_goals (refine wpQuiet_nil ?_; intro wq1 hq1; replace hq1 := below_of_rg hq1))
          go_wp2_with fail
          go_ret
          exact ⟨ret_bool HV.out.symm, (hbb.andB hbr).andB hq1⟩
        | true =>
          have HF' : Hid (∀ u, u < e + 1 → (0 ≤ cs u ∧ cs u ≤ 2) ∧ FitP es cs u) := fun u hu => by
            by_cases hue : u = e
            · subst hue; exact ⟨inB_iff.1 hA, B_iff.1 hr.symm⟩
            · exact HF.out u (by omega)
          clear hr
          go_wp2_with fail
          (refine wp_region_quiet_below (by kernel_rfl) (by kernel_rfl) ?_
           repeat (any_goals (go_big_quiet_step (first | (go_at_call 70; exact Is.rg (in_any _ _ _ _)) | (go_at_call 105; exact HFT.out _ _))))
           all_goals (refine wpQuiet_nil ?_; intro wq1 hq1; replace hq1 := below_of_rg hq1))
          go_wp2_with fail
          go_roundw
          case rel => exact ⟨e + 1, by omega, by go_num, HF', hbr.andB hq1⟩
          case measure => simp [intOf]; omega
    · obtain rfl : e = l := by omega
      have HV : Hid (colB es cs e = true) := B_true ⟨hl.out.symm, (colP_iff HG.out.wf).2 fun u hu => HF.out u (by rw [hl.out] at hu; exact hu)⟩
      go_wp2_with fail
      go_ret
      exact ⟨ret_bool HV.out.symm, hbb.andB hbr⟩
end Go.Proofs.Ytjdhibcijjnopaa
