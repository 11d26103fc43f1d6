import Derived.Test.YtjdhibcijjnopaaAn
namespace Go.Proofs.Ytjdhibcijjnopaa
open Go.RowKit Go.Sort
/-! ### AreAlike, the program -/
theorem aa_no {n : Int} {es : List (Int × Int)} {a g : Nat → Int} {la lb : Nat} (h : (B (IsG n es) && colB es a la) = false) : gcC n es false = aaC n es a la g lb := by
  unfold aaC gcC
  cases hG : B (IsG n es) with
  | false => rfl
  | true => rw [hG, Bool.true_and] at h; rw [h]; rfl
theorem aa_yes {n : Int} {es : List (Int × Int)} {a g : Nat → Int} {la lb : Nat} (h : (B (IsG n es) && colB es a la) = true) : gcC n es (B (IsG n es) && colB es g lb) = aaC n es a la g lb := by
  obtain ⟨h1, h2⟩ := Bool.and_eq_true_iff.1 h
  unfold aaC
  rw [h1, h2]
theorem nm_step {a b : Nat → Int} {i : Nat} {x : Int} (h : a i = x) (h2 : nmF a b i x = -1) : nmF a b (i + 1) x = b i := by
  simp only [nmF]; rw [if_pos ⟨h, h2⟩]
theorem nm_keep {a b : Nat → Int} {i : Nat} {x : Int} (h : ¬ (a i = x ∧ nmF a b i x = -1)) : nmF a b (i + 1) x = nmF a b i x := by
  simp only [nmF]; rw [if_neg h]
theorem alike_succ {a b : Nat → Int} {i : Nat} (h : AlikeP i a b) (h2 : ∀ f, f < i → a f = a i → b f = b i) : AlikeP (i + 1) a b := fun e f he hf hab => by
  by_cases e1 : e = i
  · by_cases e2 : f = i
    · rw [e1, e2]
    · rw [e1] at hab ⊢; exact (h2 f (by omega) hab.symm).symm
  · by_cases e2 : f = i
    · rw [e2] at hab ⊢; exact h2 e (by omega) hab
    · exact h e f (by omega) (by omega) hab
set_option maxRecDepth 100000 in
set_option maxHeartbeats 4000000 in
theorem imAreAlike_any (n : Int) (b o m c : Nat) (es : List (Int × Int)) (b2 o2 la c2 : Nat) (f : Nat → Int) (b3 o3 lb c3 : Nat) (g : Nat → Int) (w : World) (h : Eds w b o m es) (hm : m ≤ 1048576) (h2 : Ints w b2 o2 la f) (hla : la ≤ 1048576) (h3 : Ints w b3 o3 lb g) (hlb : lb ≤ 1048576) :
    Calls Try.prog 18 #[.agg #[.int .i64 n, .slice (some ⟨b, o, none⟩) m c], .slice (some ⟨b2, o2, none⟩) la c2, .slice (some ⟨b3, o3, none⟩) lb c3] w (Ret (.tuple #[.bool (aaV n es f la g lb), .int .i64 (aaC n es f la g lb)]) w) := by
  have KC := cell_rg
  have hbb := (by go_grown : Below w.heap.size w (w.alloc (.cells #[.int .i64 n, .slice (some ⟨b, o, none⟩) m c] 31)))
  have hbx := Box2.made w (.int .i64 n) (.slice (some ⟨b, o, none⟩) m c) 31
  have hlm := Lib.hid h.len
  have hIA : ∀ d os, Calls Try.prog 50 #[.agg #[.int .i64 n, .slice (some ⟨b, o, none⟩) m c], .slice (some ⟨b2, o2, none⟩) la c2] (grow (redrawn (w.alloc (.cells #[.int .i64 n, .slice (some ⟨b, o, none⟩) m c] 31)) d) os) fun e w'' => e = .returned (.bool (B (IsG n es) && colB es f la)) ∧ ∃ p : Regrown, w'' = grow (redrawn (w.alloc (.cells #[.int .i64 n, .slice (some ⟨b, o, none⟩) m c] 31)) p.d) p.os := fun d os =>
    Ret.rg (isColouring_all n b o m c b2 o2 la c2 es f _ ((h.alloc _).below (below_regrown _ _ _)) hm ((h2.below hbb).below (below_regrown _ _ _)) hla)
  have hIB : ∀ d os, Calls Try.prog 50 #[.agg #[.int .i64 n, .slice (some ⟨b, o, none⟩) m c], .slice (some ⟨b3, o3, none⟩) lb c3] (grow (redrawn (w.alloc (.cells #[.int .i64 n, .slice (some ⟨b, o, none⟩) m c] 31)) d) os) fun e w'' => e = .returned (.bool (B (IsG n es) && colB es g lb)) ∧ ∃ p : Regrown, w'' = grow (redrawn (w.alloc (.cells #[.int .i64 n, .slice (some ⟨b, o, none⟩) m c] 31)) p.d) p.os := fun d os =>
    Ret.rg (isColouring_all n b o m c b3 o3 lb c3 es g _ ((h.alloc _).below (below_regrown _ _ _)) hm ((h3.below hbb).below (below_regrown _ _ _)) hlb)
  have hGC : ∀ r, gcC n es r = aaC n es f la g lb → ∀ d os, Calls Try.prog 49 #[.agg #[.int .i64 n, .slice (some ⟨b, o, none⟩) m c], .bool r] (grow (redrawn (w.alloc (.cells #[.int .i64 n, .slice (some ⟨b, o, none⟩) m c] 31)) d) os) fun e w'' => e = .returned (.int .i64 (aaC n es f la g lb)) ∧ ∃ p : Regrown, w'' = grow (redrawn (w.alloc (.cells #[.int .i64 n, .slice (some ⟨b, o, none⟩) m c] 31)) p.d) p.os := fun r hk d os =>
    Ret.rg (hk ▸ graphCode_any n _ _ _ _ es r _ ((h.alloc _).below (below_regrown _ _ _)) hm)
  have HIA := Lib.hid hIA
  have HIB := Lib.hid hIB
  obtain ⟨kc, hkc⟩ : ∃ kc, kc = aaC n es f la g lb := ⟨_, rfl⟩
  obtain ⟨x, hx⟩ : ∃ x, x = (B (IsG n es) && colB es f la) := ⟨_, rfl⟩
  obtain ⟨y, hy⟩ : ∃ y, y = (B (IsG n es) && colB es g lb) := ⟨_, rfl⟩
  rw [← hx] at HIA
  rw [← hy] at HIB
  rw [← hkc] at hGC ⊢
  by_cases hz : kc = 0
  rotate_left
  · have HV : Hid (aaV n es f la g lb = false) := aa_n (by rw [← hkc]; exact hz)
    rw [HV.out]
    have hne : (kc != 0) = true := by simpa using hz
    cases x with
    | false =>
      have HGC := Lib.hid (hGC false (by rw [hkc]; exact aa_no hx.symm))
      clear hIA hIB hGC hkc hx hy hz
      go_enter Try.func18, Try.ntmps18
      go_wp2_with fail
      (refine wp_region_quiet_below (by kernel_rfl) (by kernel_rfl) ?_
       repeat (any_goals (go_big_quiet_step (first | (go_at_call 50; first | with_reducible exact HIA.out _ _ | with_reducible exact HIB.out _ _) | (go_at_call 49; exact HGC.out _ _))))
       all_goals (refine wpQuiet_nil ?_; intro wq1 hq1; replace hq1 := below_of_rg hq1))
      have hB1 := hbb.thenB (by simp) hq1
      clear hq1 hbx hbb
      go_wp2_with fail
      go_ret2
      exact ⟨rfl, hB1⟩
    | true =>
      have HGC := Lib.hid (hGC y (by rw [hkc, hy]; exact aa_yes hx.symm))
      clear hIA hIB hGC hkc hx hy hz
      go_enter Try.func18, Try.ntmps18
      go_wp2_with fail
      (refine wp_region_quiet_below (by kernel_rfl) (by kernel_rfl) ?_
       repeat (any_goals (go_big_quiet_step (first | (go_at_call 50; first | with_reducible exact HIA.out _ _ | with_reducible exact HIB.out _ _) | (go_at_call 49; exact HGC.out _ _))))
       all_goals (refine wpQuiet_nil ?_; intro wq1 hq1; replace hq1 := below_of_rg hq1))
      have hB1 := hbb.thenB (by simp) hq1
      clear hq1 hbx hbb
      go_wp2_with fail
      go_ret2
      exact ⟨rfl, hB1⟩
  obtain ⟨hG, ⟨hle, hca⟩, ⟨hle2, hcb⟩, hv⟩ := aa_0 (by rw [← hkc]; exact hz : aaC n es f la g lb = 0)
  have hxt : x = true := by rw [hx, B_true hG, show colB es f la = true from B_true ⟨hle, hca⟩]; rfl
  have HGC := Lib.hid (hGC y (by rw [hkc, hy]; exact aa_yes (by rw [← hx]; exact hxt)))
  obtain rfl : la = m := by rw [hle, hlm.out]
  obtain rfl : lb = la := by rw [hle2, hlm.out]
  obtain ⟨l, rfl⟩ : ∃ l, l = lb := ⟨lb, rfl⟩
  have HV : Hid (aaV n es f l g l = B (AlikeP l f g)) := by show _ = _; rw [hv, hlm.out]
  have HCA : Hid (∀ e, e < l → 0 ≤ f e ∧ f e ≤ 2) := fun e he => hca.1 e (by rw [hlm.out]; exact he)
  have HCB : Hid (∀ e, e < l → 0 ≤ g e ∧ g e ≤ 2) := fun e he => hcb.1 e (by rw [hlm.out]; exact he)
  subst hxt
  rw [hz] at HGC
  rw [hz, HV.out]
  obtain ⟨r, hr⟩ : ∃ r, r = B (AlikeP l f g) := ⟨_, rfl⟩
  rw [← hr]
  have HRT : Hid (AlikeP l f g → r = true) := fun x => by rw [hr]; exact B_true x
  have HRF : Hid (¬ AlikeP l f g → r = false) := fun x => by rw [hr]; exact B_false x
  clear hIA hIB hGC hkc hx hy hz hv hle hle2 hca hcb hG hr
  go_enter Try.func18, Try.ntmps18
  go_wp2_with fail
  (refine wp_region_quiet_below (by kernel_rfl) (by kernel_rfl) ?_
   repeat (any_goals (go_big_quiet_step (first | (go_at_call 50; first | with_reducible exact HIA.out _ _ | with_reducible exact HIB.out _ _) | (go_at_call 49; exact HGC.out _ _))))
   all_goals (refine wpQuiet_nil ?_; intro wq1 hq1; replace hq1 := below_of_rg hq1))
  have hB1 := hbb.thenB (by simp) hq1
  clear hq1 hbx hbb HIA HIB HGC
  go_wp2_with fail
  have R : (wq1.alloc (.cells #[.int .i64 (-1), .int .i64 (-1), .int .i64 (-1)] 58)).rowIs wq1.heap.size 58 3 (fun _ => .int .i64 (-1)) :=
    World.rowIs_alloc wq1 #[.int .i64 (-1), .int .i64 (-1), .int .i64 (-1)] 58 _ (fun i hi => by
      have : i < 3 := hi
      rcases (show i = 0 ∨ i = 1 ∨ i = 2 by omega) with rfl | rfl | rfl <;> rfl)
  have hb3 : Below wq1.heap.size wq1 (wq1.alloc (.cells #[.int .i64 (-1), .int .i64 (-1), .int .i64 (-1)] 58)) := (Below.refl _ _).alloc (Nat.le_refl _) _
  obtain ⟨w3, hw3⟩ : ∃ w3, w3 = wq1.alloc (.cells #[.int .i64 (-1), .int .i64 (-1), .int .i64 (-1)] 58) := ⟨_, rfl⟩
  rw [← hw3] at R hb3 ⊢
  clear hw3
  go_loopw [28] (fun iv wr => ∃ i : Nat, i ≤ l ∧ iv = .int .i64 i ∧ Hid (AlikeP i f g) ∧ wr.rowIs wq1.heap.size 58 3 (fun x => .int .i64 (nmF f g i x)) ∧ Below wq1.heap.size wq1 wr) (fun i _ => l - (intOf i).toNat)
  case atStart => exact ⟨0, Nat.zero_le _, rfl, (fun e f he => absurd he (by omega)), R.congr (fun x _ => rfl), hb3⟩
  case round =>
    clear R hb3
    obtain ⟨i, hi, rfl, HP, hrow, hbr⟩ := hrel
    by_cases hlt : i < l
    · have hB := hB1.andB hbr
      have I2 := h2.below hB
      have I3 := h3.below hB
      have k1 := I2.c i hlt
      have k2 := I3.c i hlt
      have s2 := I2.blk
      have s3 := I3.blk
      obtain ⟨u, hu⟩ : ∃ u : Nat, f i = u := ⟨(f i).toNat, by have := HCA.out i hlt; omega⟩
      have hu3 : u < 3 := by have := HCA.out i hlt; omega
      have e1 := hrow.cell hu3
      have f1 := hrow.frozen u
      have s4 := hrow.lt
      rw [hu] at k1
      have hg0 : ∀ j, j < i → 0 ≤ g j := fun j hj => (HCB.out j (by omega)).1
      by_cases hn : nmF f g i u = -1
      · have HP2 : Hid (AlikeP (i + 1) f g) := alike_succ HP.out (fun j hj hjf => absurd (hjf.trans hu) ((nmF_none hg0).1 hn j hj))
        have HR2 : Hid ((wr.setCell ⟨wq1.heap.size, u, none⟩ (.int .i64 (g i))).rowIs wq1.heap.size 58 3 (fun x => .int .i64 (nmF f g (i + 1) x))) := (hrow.set u (.int .i64 (g i))).congr (fun x _ => by
          by_cases hx : x = u
          · subst hx; rw [if_pos rfl, nm_step hu hn]
          · rw [if_neg hx, nm_keep (fun hc => by have := hc.1; rw [hu] at this; omega)])
        have hb5 : Below wq1.heap.size wq1 (wr.setCell ⟨wq1.heap.size, u, none⟩ (.int .i64 (g i))) := hbr.setCell (Nat.le_refl _) _
        have hB5 := hB1.andB hb5
        have z1 := (h3.below hB5).c i hlt
        have z2 := (h3.below hB5).blk
        have z3 := HR2.out.cell hu3
        rw [nm_step hu hn] at z3
        have z4 := HR2.out.lt
        rw [hn] at e1
        obtain ⟨v, hv⟩ : ∃ v, v = g i := ⟨_, rfl⟩
        rw [← hv] at z1 z3 k2 HR2 hb5 hB5 z2 z4
        clear hrow hbr hn hg0 hu I2 I3 hv
        go_wp2_with fail
        obtain ⟨w7, hw7⟩ : ∃ w7, w7 = wr.setCell ⟨wq1.heap.size, u, none⟩ (.int .i64 v) := ⟨_, rfl⟩
        rw [← hw7] at z1 z2 z3 z4 HR2 hb5 hB5 ⊢
        clear hw7
        (refine wp_region_quiet_below (by kernel_rfl) (by kernel_rfl) ?_
         repeat (any_goals (go_big_quiet_step (first | fail)))
         all_goals (refine wpQuiet_nil ?_; intro wq2 hq2; replace hq2 := below_of_rg hq2))
        go_wp2_with fail
        go_roundw
        case rel => exact ⟨i + 1, by omega, by go_num, HP2, HR2.out.of_block (hq2.block _ z4), hb5.andB hq2⟩
        case measure => simp [intOf]; omega
      · have hnb : (nmF f g i u == -1) = false := by simpa using hn
        obtain ⟨j, hj, hju, hjv⟩ := nmF_some hg0 hn
        have HK : Hid (∀ x : Nat, nmF f g (i + 1) x = nmF f g i x) := fun x => nm_keep (fun hc => by
          have e := hc.1; rw [hu] at e
          have : x = u := by omega
          subst this; exact hn hc.2)
        by_cases hne : nmF f g i u = g i
        · have hneb : (nmF f g i u != g i) = false := by simp [hne]
          have HP2 : Hid (AlikeP (i + 1) f g) := alike_succ HP.out (fun k hk hkf => by
            rw [← hne, hjv]
            exact HP.out k j hk hj (by rw [hkf, hu, hju]))
          clear hn hg0 hu hju hjv hne I2 I3
          go_wp2_with fail
          (refine wp_region_quiet_below (by kernel_rfl) (by kernel_rfl) ?_
           repeat (any_goals (go_big_quiet_step (first | fail)))
           all_goals (refine wpQuiet_nil ?_; intro wq2 hq2; replace hq2 := below_of_rg hq2))
          go_wp2_with fail
          go_roundw
          case rel => exact ⟨i + 1, by omega, by go_num, HP2, (hrow.of_block (hq2.block _ s4)).congr (fun x _ => by rw [HK.out]), hbr.andB hq2⟩
          case measure => simp [intOf]; omega
        · have hneb : (nmF f g i u != g i) = true := by simp [hne]
          have HF := Lib.hid (HRF.out (fun x => hne (by rw [hjv]; exact x j i (by omega) hlt (by rw [hju, hu]))))
          clear hn hg0 hu hju hjv hne I2 I3
          go_wp2_with fail
          (refine wp_region_quiet_below (by kernel_rfl) (by kernel_rfl) ?_
           repeat (any_goals (go_big_quiet_step (first | fail)))
           all_goals (refine wpQuiet_nil ?_; intro wq2 hq2; replace hq2 := below_of_rg hq2))
          go_wp2_with fail
          go_ret2
          exact ⟨by rw [HF.out] <;> rfl, hB.andB hq2⟩
    · obtain rfl : i = l := by omega
      have HT := Lib.hid (HRT.out HP.out)
      go_wp2_with fail
      go_ret2
      exact ⟨by rw [HT.out] <;> rfl, hB1.andB hbr⟩
end Go.Proofs.Ytjdhibcijjnopaa
