import Derived.Test.YtjdhibcijjnopaaQu
import Derived.Test.YtjdhibcijjnopaaFb
import Derived.Test.YtjdhibcijjnopaaFx
import Derived.Test.YtjdhibcijjnopaaEdgesAt
import Derived.StillTailTactics
namespace Go.Proofs.Ytjdhibcijjnopaa
open Go.RowKit Go.Sort
/-! ### Sums of flows -/
def sumL (md : Int) (f g : Nat → Int) : Nat → List Int
  | 0 => []
  | k + 1 => sumL md f g k ++ [(f k + g k).tmod md]
theorem sumL_len (md : Int) (f g : Nat → Int) (k : Nat) : (sumL md f g k).length = k := by
  induction k with
  | zero => rfl
  | succ k ih => simp [sumL, ih]
noncomputable def afC (n : Int) (es : List (Int × Int)) (md : Int) (la : Nat) (f : Nat → Int) (lb : Nat) (g : Nat → Int) : Int :=
  if liC n es md la f 0 (md - 1) = 0 then (if liC n es md lb g 0 (md - 1) = 0 then (if allB n.toNat (flB es f la md) && allB n.toNat (flB es g lb md) then 0 else 5) else liC n es md lb g 0 (md - 1)) else liC n es md la f 0 (md - 1)
noncomputable def afL (n : Int) (es : List (Int × Int)) (md : Int) (la : Nat) (f : Nat → Int) (lb : Nat) (g : Nat → Int) : List Int := if afC n es md la f lb g = 0 then sumL md f g la else []
theorem afL_len (n : Int) (es : List (Int × Int)) (md : Int) (la : Nat) (f : Nat → Int) (lb : Nat) (g : Nat → Int) : (afL n es md la f lb g).length ≤ la := by
  unfold afL; split
  · rw [sumL_len]; omega
  · simp
set_option maxRecDepth 100000 in
set_option maxHeartbeats 2000000 in
theorem spAddFlows_any (n : Int) (b o m c : Nat) (es : List (Int × Int)) (md : Int) (b2 o2 la c2 : Nat) (f : Nat → Int) (b3 o3 lb c3 : Nat) (g : Nat → Int) (w : World) (h : Eds w b o m es) (hm : m ≤ 1048576) (h2 : Ints w b2 o2 la f) (hla : la ≤ 1048576) (h3 : Ints w b3 o3 lb g) (hlb : lb ≤ 1048576) :
    Calls Try.prog 25 #[.agg #[.int .i64 n, .slice (some ⟨b, o, none⟩) m c], .int .i64 md, .slice (some ⟨b2, o2, none⟩) la c2, .slice (some ⟨b3, o3, none⟩) lb c3] w (RetLC (afL n es md la f lb g) (afC n es md la f lb g) w) := by
  have KC := cell_rg
  have hbb := (by go_grown : Below w.heap.size w (w.alloc (.cells #[.int .i64 n, .slice (some ⟨b, o, none⟩) m c] 31)))
  have hbx := Box2.made w (.int .i64 n) (.slice (some ⟨b, o, none⟩) m c) 31
  have hl := Lib.hid h.len
  have hhi : ∀ l k, liC n es md l k 0 (wrap64 (md - 1)) = liC n es md l k 0 (md - 1) := fun l k => by
    cases hA : inB md 2 6 with
    | false => exact liC_md hA _
    | true => obtain ⟨d1, d2⟩ := inB_iff.1 hA; rw [IntWalk.wrap64_in _ (by omega)]
  have HH := Lib.hid hhi
  clear hhi
  by_cases h0 : liC n es md la f 0 (md - 1) = 0
  rotate_left
  · have HC : Hid (afC n es md la f lb g = liC n es md la f 0 (md - 1)) := by simp [Hid, afC, h0]
    have HL : Hid (afL n es md la f lb g = []) := by simp [Hid, afL, afC, h0]
    rw [HC.out]
    have hne : (liC n es md la f 0 (md - 1) != 0) = true := by simpa using h0
    clear h0
    go_enter Try.func25, Try.ntmps25
    go_wp2_with fail
    refine (l05List_any _ _ _ _ _ es md _ _ _ _ f _ _ _ (h.alloc _) hm (h2.alloc _) hla).mono ?_
    rintro e w1 ⟨rfl, hb1⟩
    rw [HH.out]
    go_wp2_with fail
    go_ret2
    exact retLC_nil HL.out (hbb.thenB (by simp) hb1)
  have H0 := Lib.hid h0
  by_cases h1 : liC n es md lb g 0 (md - 1) = 0
  rotate_left
  · have HC : Hid (afC n es md la f lb g = liC n es md lb g 0 (md - 1)) := by simp [Hid, afC, h0, h1]
    have HL : Hid (afL n es md la f lb g = []) := by simp [Hid, afL, afC, h0, h1]
    rw [HC.out]
    have hne : (liC n es md lb g 0 (md - 1) != 0) = true := by simpa using h1
    clear h0 h1
    go_enter Try.func25, Try.ntmps25
    go_wp2_with fail
    refine (l05List_any _ _ _ _ _ es md _ _ _ _ f _ _ _ (h.alloc _) hm (h2.alloc _) hla).mono ?_
    rintro e w1 ⟨rfl, hb1⟩
    obtain ⟨s1, p1, q1⟩ := hbx.below hb1
    have hB1 := hbb.thenB (by simp) hb1
    rw [HH.out, H0.out]
    clear hb1 hbx hbb
    go_wp2_with fail
    refine (l05List_any _ _ _ _ _ es md _ _ _ _ g _ _ _ (h.below hB1) hm (h3.below hB1) hlb).mono ?_
    rintro e w2 ⟨rfl, hb2⟩
    rw [HH.out]
    go_wp2_with fail
    go_ret2
    exact retLC_nil HL.out (hB1.andB hb2)
  obtain ⟨hG, hA, hlm, hf⟩ := liC_0 h0
  obtain ⟨_, _, hlm2, hg⟩ := liC_0 h1
  obtain ⟨N, rfl, hN, hN20⟩ := gpos hG
  obtain ⟨d1, d2⟩ := inB_iff.1 hA
  have HG := Lib.hid hG
  have Hf : Hid (∀ j, j < la → -1000 ≤ f j ∧ f j ≤ 1000) := fun j hj => by have := hf j hj; omega
  have Hg : Hid (∀ j, j < lb → -1000 ≤ g j ∧ g j ≤ 1000) := fun j hj => by have := hg j hj; omega
  have H1 := Lib.hid h1
  obtain rfl : la = m := by rw [hlm, hl.out]
  obtain rfl : lb = la := by rw [hlm2, hl.out]
  obtain ⟨ra, hra⟩ : ∃ ra, ra = allB N (flB es f lb md) := ⟨_, rfl⟩
  obtain ⟨rb, hrb⟩ : ∃ rb, rb = allB N (flB es g lb md) := ⟨_, rfl⟩
  have HC : Hid (afC N es md lb f lb g = if ra && rb then 0 else 5) := by simp only [Hid, afC, h0, h1, if_true, Int.toNat_natCast, ← hra, ← hrb]
  have HFA : Hid (∀ W, Eds W b o lb es → Ints W b2 o2 lb f → Calls Try.prog 60 #[.agg #[.int .i64 N, .slice (some ⟨b, o, none⟩) lb c], .int .i64 md, .slice (some ⟨b2, o2, none⟩) lb c2] W (Ret (.bool ra) W)) := fun W E I => hra ▸ l05Flow_any N _ _ _ _ es md _ _ _ f W E hm I HG.out.wf Hf.out d1 d2
  have HFB : Hid (∀ W, Eds W b o lb es → Ints W b3 o3 lb g → Calls Try.prog 60 #[.agg #[.int .i64 N, .slice (some ⟨b, o, none⟩) lb c], .int .i64 md, .slice (some ⟨b3, o3, none⟩) lb c3] W (Ret (.bool rb) W)) := fun W E I => hrb ▸ l05Flow_any N _ _ _ _ es md _ _ _ g W E hm I HG.out.wf Hg.out d1 d2
  have HL : Hid (afL N es md lb f lb g = if ra && rb then sumL md f g lb else []) := by
    show (if afC N es md lb f lb g = 0 then _ else _) = _
    rw [HC.out]; cases ra <;> cases rb <;> simp
  rw [HC.out, HL.out]
  obtain ⟨kc, hkc⟩ : ∃ kc : Int, kc = if ra && rb then 0 else 5 := ⟨_, rfl⟩
  obtain ⟨xs, hxs⟩ : ∃ xs : List Int, xs = if ra && rb then sumL md f g lb else [] := ⟨_, rfl⟩
  rw [← hkc, ← hxs]
  have HK := Lib.hid hkc
  have HX := Lib.hid hxs
  clear hkc hxs HC HL hra hrb h0 h1 hf hg hG hA hN hlm hlm2
  go_enter Try.func25, Try.ntmps25
  go_wp2_with fail
  refine (l05List_any _ _ _ _ _ es md _ _ _ _ f _ _ _ (h.alloc _) hm (h2.alloc _) hla).mono ?_
  rintro e w1 ⟨rfl, hb1⟩
  obtain ⟨s1, p1, q1⟩ := hbx.below hb1
  have hB1 := hbb.thenB (by simp) hb1
  rw [H0.out]
  clear hb1 hbx hbb
  go_wp2_with fail
  refine (l05List_any _ _ _ _ _ es md _ _ _ _ g _ _ _ (h.below hB1) hm (h3.below hB1) hlb).mono ?_
  rintro e w2 ⟨rfl, hb2⟩
  have hB2 := hB1.andB hb2
  obtain ⟨s1, p1, q1⟩ := Box2.below ⟨s1, p1, q1⟩ hb2
  rw [H1.out]
  clear hb2 hB1
  go_wp2_with fail
  refine (HFA.out _ (h.below hB2) (h2.below hB2)).mono ?_
  rintro e w3 ⟨rfl, hb3⟩
  have hB3 := hB2.andB hb3
  obtain ⟨s1, p1, q1⟩ := Box2.below ⟨s1, p1, q1⟩ hb3
  clear hb3 hB2
  cases ra with
  | false =>
    obtain rfl : kc = 5 := HK.out
    have hx : xs = [] := HX.out
    go_wp2_with fail
    go_ret2
    exact retLC_nil hx hB3
  | true =>
    go_wp2_with fail
    refine (HFB.out _ (h.below hB3) (h3.below hB3)).mono ?_
    rintro e w4 ⟨rfl, hb4⟩
    have hB4 := hB3.andB hb4
    clear hb4 hB3 s1 p1 q1
    cases rb with
    | false =>
      obtain rfl : kc = 5 := HK.out
      have hx : xs = [] := HX.out
      go_wp2_with fail
      go_ret2
      exact retLC_nil hx hB4
    | true =>
      obtain rfl : kc = 0 := HK.out
      have hx : xs = sumL md f g lb := HX.out
      subst hx
      go_wp2_with fail
      have I4 := h2.below hB4
      have J4 := h3.below hB4
      have O : OwnL w4.heap.size (w4.alloc (.cells #[] 2)) (some ⟨w4.heap.size, 0, none⟩) 0 0 [] := OwnL.empty _ _ _ (Nat.le_refl _) (by show (w4.heap.push _)[w4.heap.size]? = _; simp)
      go_loopw [12, 13] (fun v1 i wv => ∃ j : Nat, j ≤ lb ∧ i = .int .i64 j ∧ (∃ A c', v1 = .slice A (sumL md f g j).length c' ∧ OwnL w4.heap.size wv A (sumL md f g j).length c' (sumL md f g j)) ∧ Below w4.heap.size w4 wv) (fun _ i _ => lb - (intOf i).toNat)
      case atStart => exact ⟨0, Nat.zero_le _, rfl, ⟨_, _, rfl, O⟩, (Below.refl _ _).alloc (Nat.le_refl _) _⟩
      case round =>
        obtain ⟨j, hj, rfl, ⟨A, c', rfl, hown⟩, hbr⟩ := hrel
        have hsz := hbr.size
        have hle := Nat.le_of_eq (sumL_len md f g j)
        by_cases hlt : j < lb
        · have c1 := (I4.below hbr).c j hlt
          have c2 := (J4.below hbr).c j hlt
          have zb1 := (I4.below hbr).blk
          have zb2 := (J4.below hbr).blk
          have k1 := Hf.out j hlt
          have hmd : (md == 0) = false := by simp; omega
          have hmd2 : md ≠ 0 := by omega
          have k2 := Hg.out j hlt
          have hw : IntKind.i64.wrap (f j + g j) = f j + g j := IntWalk.i64_in _ (by omega)
          go_wp2_with fail
          have hA2 : some b2 ≠ blkOf A := blk_ne (fun y hy => (hown.blk y hy).1) I4.blk
          have hA3 : some b3 ≠ blkOf A := blk_ne (fun y hy => (hown.blk y hy).1) J4.blk
          have i0 : (0 : Int) ≤ (j : Int) := by omega
          have i1 : (j : Int) < (lb : Int) := by omega
          go_region_held3 (fun W => W.cell? ⟨b2, o2 + j, none⟩ = some (.int .i64 (f j)) ∧ W.cell? ⟨b3, o3 + j, none⟩ = some (.int .i64 (g j)))
            (first | go_keep | (rw [hgr9.cell_far _ (by simp; omega) hA2, hgr9.cell_far _ (by simp; omega) hA3]; go_keep))
            ((refine step_appL (by rfl) (by rfl) (by rfl) (by rfl) (by exact heap_alloc_new wr _) (by exact hown.below (((Below.refl wr.heap.size wr).alloc (Nat.le_refl _) _).drew)) (by simp; omega) (by omega) ?_; intro A' c'' w9 hown' hgr9 hat9))
          have hb9 := (hbr.alloc hsz (.cells #[.int .i64 ((f j + g j).tmod md)] 2)).drew.grown hgr9 (by simp; omega) (fun y hy => (hown.blk y hy).1)
          have e2 : (sumL md f g (j + 1)).length = (sumL md f g j).length + 1 := by simp [sumL]
          go_wp2_with fail
          go_roundw
          case rel => exact ⟨j + 1, by omega, by go_num, ⟨A', c'', by rw [e2], by rw [e2]; exact hown'⟩, hb9⟩
          case measure => simp [intOf]; omega
        · obtain rfl : j = lb := by omega
          go_wp2_with fail
          go_ret2
          exact retLC_of rfl hB4 hown hbr
noncomputable def pcC (n : Int) (es : List (Int × Int)) (md : Int) (la : Nat) (f : Nat → Int) (lb : Nat) (g : Nat → Int) : Int :=
  if liC n es md la f 0 (md - 1) = 0 then liC n es md lb g 0 (md - 1) else liC n es md la f 0 (md - 1)
theorem pcC_0 {n : Int} {es : List (Int × Int)} {md : Int} {la : Nat} {f : Nat → Int} {lb : Nat} {g : Nat → Int} (h : pcC n es md la f lb g = 0) : liC n es md la f 0 (md - 1) = 0 ∧ liC n es md lb g 0 (md - 1) = 0 := by
  unfold pcC at h
  split at h
  · exact ⟨by assumption, h⟩
  · rename_i hh; exact absurd h hh
theorem afC_n {n : Int} {es : List (Int × Int)} {md : Int} {la : Nat} {f : Nat → Int} {lb : Nat} {g : Nat → Int} (h : pcC n es md la f lb g ≠ 0) : afC n es md la f lb g = pcC n es md la f lb g := by
  unfold afC pcC at *
  by_cases h1 : liC n es md la f 0 (md - 1) = 0
  · simp only [h1, if_true] at h ⊢
    rw [if_neg h]
  · simp only [if_neg h1]
theorem afL_n {n : Int} {es : List (Int × Int)} {md : Int} {la : Nat} {f : Nat → Int} {lb : Nat} {g : Nat → Int} (h : afC n es md la f lb g ≠ 0) : afL n es md la f lb g = [] := by simp [afL, h]
theorem gc_li2 (n : Int) (es : List (Int × Int)) (md : Int) (la : Nat) (f : Nat → Int) (lb : Nat) (g : Nat → Int) :
    gcC n es (inB md 2 6 && avB es la f 0 (md - 1) && avB es lb g 0 (md - 1)) = pcC n es md la f lb g := by
  unfold pcC
  rw [← gc_li n es md la f, ← gc_li n es md lb g]
  unfold gcC
  cases B (IsG n es) <;> cases inB md 2 6 <;> cases avB es la f 0 (md - 1) <;> cases avB es lb g 0 (md - 1) <;> simp
set_option maxRecDepth 100000 in
set_option maxHeartbeats 2000000 in
theorem imAddFlows_any (n : Int) (b o m c : Nat) (es : List (Int × Int)) (md : Int) (b2 o2 la c2 : Nat) (f : Nat → Int) (b3 o3 lb c3 : Nat) (g : Nat → Int) (w : World) (h : Eds w b o m es) (hm : m ≤ 1048576) (h2 : Ints w b2 o2 la f) (hla : la ≤ 1048576) (h3 : Ints w b3 o3 lb g) (hlb : lb ≤ 1048576) :
    Calls Try.prog 26 #[.agg #[.int .i64 n, .slice (some ⟨b, o, none⟩) m c], .int .i64 md, .slice (some ⟨b2, o2, none⟩) la c2, .slice (some ⟨b3, o3, none⟩) lb c3] w (RetLC (afL n es md la f lb g) (afC n es md la f lb g) w) := by
  have KC := cell_rg
  have hbb := (by go_grown : Below w.heap.size w (w.alloc (.cells #[.int .i64 n, .slice (some ⟨b, o, none⟩) m c] 31)))
  have hbx := Box2.made w (.int .i64 n) (.slice (some ⟨b, o, none⟩) m c) 31
  have hl := Lib.hid h.len
  have HGC : Hid (∀ r : Bool, ∀ d os, Calls Try.prog 49 #[.agg #[.int .i64 n, .slice (some ⟨b, o, none⟩) m c], .bool r] (grow (redrawn (w.alloc (.cells #[.int .i64 n, .slice (some ⟨b, o, none⟩) m c] 31)) d) os) fun e w'' => e = .returned (.int .i64 (gcC n es r)) ∧ ∃ p : Regrown, w'' = grow (redrawn (w.alloc (.cells #[.int .i64 n, .slice (some ⟨b, o, none⟩) m c] 31)) p.d) p.os) := fun r d os =>
    Ret.rg (graphCode_any n _ _ _ _ es r _ ((h.alloc _).below (below_regrown _ _ _)) hm)
  have HAVA : Hid (∀ d os, Calls Try.prog 62 #[.agg #[.int .i64 n, .slice (some ⟨b, o, none⟩) m c], .slice (some ⟨b2, o2, none⟩) la c2, .int .i64 0, .int .i64 (md - 1)] (grow (redrawn (w.alloc (.cells #[.int .i64 n, .slice (some ⟨b, o, none⟩) m c] 31)) d) os) fun e w'' => e = .returned (.bool (avB es la f 0 (md - 1))) ∧ ∃ p : Regrown, w'' = grow (redrawn (w.alloc (.cells #[.int .i64 n, .slice (some ⟨b, o, none⟩) m c] 31)) p.d) p.os) := fun d os =>
    Ret.rg (areValues_any n _ _ _ es _ _ _ _ f 0 (md - 1) _ hl.out ((h2.alloc _).below (below_regrown _ _ _)) hla)
  have HAVB : Hid (∀ d os, Calls Try.prog 62 #[.agg #[.int .i64 n, .slice (some ⟨b, o, none⟩) m c], .slice (some ⟨b3, o3, none⟩) lb c3, .int .i64 0, .int .i64 (md - 1)] (grow (redrawn (w.alloc (.cells #[.int .i64 n, .slice (some ⟨b, o, none⟩) m c] 31)) d) os) fun e w'' => e = .returned (.bool (avB es lb g 0 (md - 1))) ∧ ∃ p : Regrown, w'' = grow (redrawn (w.alloc (.cells #[.int .i64 n, .slice (some ⟨b, o, none⟩) m c] 31)) p.d) p.os) := fun d os =>
    Ret.rg (areValues_any n _ _ _ es _ _ _ _ g 0 (md - 1) _ hl.out ((h3.alloc _).below (below_regrown _ _ _)) hlb)
  cases hA : inB md 2 6 with
  | false =>
    have hM := fun W => (hA ▸ isModulus_any md W : Calls Try.prog 61 #[.int .i64 md] W (Is (.bool false) W))
    have HM := Lib.hid hM
    clear hM
    have hk : gcC n es false = pcC n es md la f lb g := by rw [← gc_li2, hA]; rfl
    have hne : pcC n es md la f lb g ≠ 0 := fun h0 => by have := (pcC_0 h0); have := (liC_0 this.1).2.1; rw [hA] at this; cases this
    have hkb : (gcC n es false != 0) = true := by rw [hk]; simpa using hne
    have HC : Hid (afC n es md la f lb g = gcC n es false) := by rw [hk]; exact afC_n hne
    have HL : Hid (afL n es md la f lb g = []) := afL_n (by rw [afC_n hne]; exact hne)
    rw [HC.out]
    clear hk hne
    go_enter Try.func26, Try.ntmps26
    go_wp2_with fail
    (refine wp_region_quiet_below (by kernel_rfl) (by kernel_rfl) ?_
     repeat (any_goals (go_big_quiet_step (first | (go_at_call 61; exact Is.rg (HM.out _)) | (go_at_call 62; first | with_reducible exact HAVA.out _ _ | with_reducible exact HAVB.out _ _) | (go_at_call 49; exact HGC.out _ _ _))))
     all_goals (refine wpQuiet_nil ?_; intro wq1 hq1; replace hq1 := below_of_rg hq1))
    have hB1 := hbb.thenB (by simp) hq1
    clear hq1 hbx hbb
    go_wp2_with fail
    go_ret2
    exact retLC_nil HL.out hB1
  | true =>
    obtain ⟨d1, d2⟩ := inB_iff.1 hA
    have hM := fun W => (hA ▸ isModulus_any md W : Calls Try.prog 61 #[.int .i64 md] W (Is (.bool true) W))
    have HM := Lib.hid hM
    have hwd : IntKind.i64.wrap (md - 1) = md - 1 := IntWalk.i64_in _ (by omega)
    clear hM
    cases hva : avB es la f 0 (md - 1) with
    | false =>
      rw [hva] at HAVA
      have hk : gcC n es false = pcC n es md la f lb g := by rw [← gc_li2, hA, hva]; rfl
      have hne : pcC n es md la f lb g ≠ 0 := fun h0 => by have := (pcC_0 h0); have h5 := (liC_0 this.1); have : avB es la f 0 (md - 1) = true := by { simp only [avB, Bool.and_eq_true, decide_eq_true_eq]; exact ⟨h5.2.2.1, allB_iff.2 fun j hj => inB_iff.2 (h5.2.2.2 j hj)⟩ }; rw [hva] at this; cases this
      have hkb : (gcC n es false != 0) = true := by rw [hk]; simpa using hne
      have HC : Hid (afC n es md la f lb g = gcC n es false) := by rw [hk]; exact afC_n hne
      have HL : Hid (afL n es md la f lb g = []) := afL_n (by rw [afC_n hne]; exact hne)
      rw [HC.out]
      clear hk hne
      go_enter Try.func26, Try.ntmps26
      go_wp2_with fail
      (refine wp_region_quiet_below (by kernel_rfl) (by kernel_rfl) ?_
       repeat (any_goals (go_big_quiet_step (first | (go_at_call 61; exact Is.rg (HM.out _)) | (go_at_call 62; first | with_reducible exact HAVA.out _ _ | with_reducible exact HAVB.out _ _) | (go_at_call 49; exact HGC.out _ _ _))))
       all_goals (refine wpQuiet_nil ?_; intro wq1 hq1; replace hq1 := below_of_rg hq1))
      have hB1 := hbb.thenB (by simp) hq1
      clear hq1 hbx hbb
      go_wp2_with fail
      go_ret2
      exact retLC_nil HL.out hB1
    | true =>
      rw [hva] at HAVA
      have hk : gcC n es (avB es lb g 0 (md - 1)) = pcC n es md la f lb g := by rw [← gc_li2, hA, hva]; rfl
      by_cases h0 : pcC n es md la f lb g = 0
      rotate_left
      · have hkb : (gcC n es (avB es lb g 0 (md - 1)) != 0) = true := by rw [hk]; simpa using h0
        have HC : Hid (afC n es md la f lb g = gcC n es (avB es lb g 0 (md - 1))) := by rw [hk]; exact afC_n h0
        have HL : Hid (afL n es md la f lb g = []) := afL_n (by rw [afC_n h0]; exact h0)
        rw [HC.out]
        clear hk h0
        go_enter Try.func26, Try.ntmps26
        go_wp2_with fail
        (refine wp_region_quiet_below (by kernel_rfl) (by kernel_rfl) ?_
         repeat (any_goals (go_big_quiet_step (first | (go_at_call 61; exact Is.rg (HM.out _)) | (go_at_call 62; first | with_reducible exact HAVA.out _ _ | with_reducible exact HAVB.out _ _) | (go_at_call 49; exact HGC.out _ _ _))))
         all_goals (refine wpQuiet_nil ?_; intro wq1 hq1; replace hq1 := below_of_rg hq1))
        have hB1 := hbb.thenB (by simp) hq1
        clear hq1 hbx hbb
        go_wp2_with fail
        go_ret2
        exact retLC_nil HL.out hB1
      obtain ⟨h0a, h0b⟩ := pcC_0 h0
      obtain ⟨hG, _, hlm, hf⟩ := liC_0 h0a
      obtain ⟨_, _, hlm2, hg⟩ := liC_0 h0b
      obtain ⟨N, rfl, hN, hN20⟩ := gpos hG
      have HG := Lib.hid hG
      have Hf : Hid (∀ j, j < la → -1000 ≤ f j ∧ f j ≤ 1000) := fun j hj => by have := hf j hj; omega
      have Hg : Hid (∀ j, j < lb → -1000 ≤ g j ∧ g j ≤ 1000) := fun j hj => by have := hg j hj; omega
      obtain rfl : la = m := by rw [hlm, hl.out]
      obtain rfl : lb = la := by rw [hlm2, hl.out]
      obtain ⟨ra, hra⟩ : ∃ ra, ra = allB N (flB es f lb md) := ⟨_, rfl⟩
      obtain ⟨rb, hrb⟩ : ∃ rb, rb = allB N (flB es g lb md) := ⟨_, rfl⟩
      have HC : Hid (afC N es md lb f lb g = if ra && rb then 0 else 5) := by simp only [Hid, afC, h0a, h0b, if_true, Int.toNat_natCast, ← hra, ← hrb]
      have HFA : Hid (∀ W, Eds W b o lb es → Ints W b2 o2 lb f → Calls Try.prog 63 #[.agg #[.int .i64 N, .slice (some ⟨b, o, none⟩) lb c], .int .i64 md, .slice (some ⟨b2, o2, none⟩) lb c2] W (Ret (.bool ra) W)) := fun W E I => hra ▸ isFlow_any N _ _ _ _ es md _ _ _ f W E hm I HG.out.wf Hf.out d1 d2
      have HFB : Hid (∀ W, Eds W b o lb es → Ints W b3 o3 lb g → Calls Try.prog 63 #[.agg #[.int .i64 N, .slice (some ⟨b, o, none⟩) lb c], .int .i64 md, .slice (some ⟨b3, o3, none⟩) lb c3] W (Ret (.bool rb) W)) := fun W E I => hrb ▸ isFlow_any N _ _ _ _ es md _ _ _ g W E hm I HG.out.wf Hg.out d1 d2
      have HL : Hid (afL N es md lb f lb g = if ra && rb then sumL md f g lb else []) := by
        show (if afC N es md lb f lb g = 0 then _ else _) = _
        rw [HC.out]; cases ra <;> cases rb <;> simp
      have hk0 : gcC N es (avB es lb g 0 (md - 1)) = 0 := by rw [hk]; exact h0
      rw [HC.out, HL.out]
      obtain ⟨kc, hkc⟩ : ∃ kc : Int, kc = if ra && rb then 0 else 5 := ⟨_, rfl⟩
      obtain ⟨xs, hxs⟩ : ∃ xs : List Int, xs = if ra && rb then sumL md f g lb else [] := ⟨_, rfl⟩
      rw [← hkc, ← hxs]
      have HK := Lib.hid hkc
      have HX := Lib.hid hxs
      clear hkc hxs HC HL hra hrb h0 h0a h0b hf hg hG hA hN hlm hlm2 hk
      go_enter Try.func26, Try.ntmps26
      go_wp2_with fail
      (refine wp_region_quiet_below (by kernel_rfl) (by kernel_rfl) ?_
       repeat (any_goals (go_big_quiet_step (first | (go_at_call 61; exact Is.rg (HM.out _)) | (go_at_call 62; first | with_reducible exact HAVA.out _ _ | with_reducible exact HAVB.out _ _) | (go_at_call 49; exact HGC.out _ _ _))))
       all_goals (refine wpQuiet_nil ?_; intro wq1 hq1; replace hq1 := below_of_rg hq1))
      have X := hbx.below hq1
      have hB1 := hbb.thenB (by simp) hq1
      obtain ⟨s1, p1, q1'⟩ := X
      clear hq1 hbx hbb
      go_wp2_with fail
      refine (HFA.out _ (h.below hB1) (h2.below hB1)).mono ?_
      rintro e w3 ⟨rfl, hb3⟩
      have hB3 := hB1.andB hb3
      obtain ⟨s1, p1, q1'⟩ := Box2.below ⟨s1, p1, q1'⟩ hb3
      clear hb3 hB1
      cases ra with
      | false =>
        obtain rfl : kc = 5 := HK.out
        have hx : xs = [] := HX.out
        go_wp2_with fail
        go_ret2
        exact retLC_nil hx hB3
      | true =>
        go_wp2_with fail
        refine (HFB.out _ (h.below hB3) (h3.below hB3)).mono ?_
        rintro e w4 ⟨rfl, hb4⟩
        have hB4 := hB3.andB hb4
        clear hb4 hB3 s1 p1 q1'
        cases rb with
        | false =>
          obtain rfl : kc = 5 := HK.out
          have hx : xs = [] := HX.out
          go_wp2_with fail
          go_ret2
          exact retLC_nil hx hB4
        | true =>
          obtain rfl : kc = 0 := HK.out
          have hx : xs = sumL md f g lb := HX.out
          subst hx
          go_wp2_with fail
          have I4 := h2.below hB4
          have J4 := h3.below hB4
          go_loopw [11, 49] (fun v1 i wv => ∃ j : Nat, j ≤ lb ∧ i = .int .i64 j ∧ (∃ A c', v1 = .slice A (sumL md f g j).length c' ∧ OwnL w4.heap.size wv A (sumL md f g j).length c' (sumL md f g j)) ∧ Below w4.heap.size w4 wv) (fun _ i _ => lb - (intOf i).toNat)
          case atStart => exact ⟨0, Nat.zero_le _, rfl, ⟨_, _, rfl, OwnL.nil _ _⟩, Below.refl _ _⟩
          case round =>
            obtain ⟨j, hj, rfl, ⟨A, c', rfl, hown⟩, hbr⟩ := hrel
            have hsz := hbr.size
            have hle := Nat.le_of_eq (sumL_len md f g j)
            by_cases hlt : j < lb
            · have c1 := (I4.below hbr).c j hlt
              have c2 := (J4.below hbr).c j hlt
              have k1 := Hf.out j hlt
              have hmd : (md == 0) = false := by simp; omega
              have hmd2 : md ≠ 0 := by omega
              have k2 := Hg.out j hlt
              have hw : IntKind.i64.wrap (f j + g j) = f j + g j := IntWalk.i64_in _ (by omega)
              have e2 : (sumL md f g (j + 1)).length = (sumL md f g j).length + 1 := by simp [sumL]
              have HE2 := Lib.hid e2
              clear e2
              go_wp2_with (first
                | (at_builtin; refine wp_appL1 rfl rfl rfl rfl rfl hown hsz (by omega) ?_; intro A' c'' w9 hown' hgr9 hat9))
              have hb9 := hbr.grown hgr9 hsz (fun y hy => (hown.blk y hy).1)
              go_roundw
              case rel => exact ⟨j + 1, by omega, by go_num, ⟨A', c'', by rw [HE2.out], by rw [HE2.out]; exact hown'⟩, hb9⟩
              case measure => simp [intOf]; omega
            · obtain rfl : j = lb := by omega
              go_wp2_with fail
              go_ret2
              exact retLC_of rfl hB4 hown hbr
end Go.Proofs.Ytjdhibcijjnopaa
