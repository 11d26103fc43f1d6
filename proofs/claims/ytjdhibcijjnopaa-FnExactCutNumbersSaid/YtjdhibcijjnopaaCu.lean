import Derived.Test.YtjdhibcijjnopaaCt
import Derived.Test.YtjdhibcijjnopaaLs
namespace Go.Proofs.Ytjdhibcijjnopaa
open Go.RowKit Go.Sort
/-! ### Numbers of a cut, the program's side -/
theorem cu_no {n : Int} {es : List (Int × Int)} {cs : Nat → Int} {l : Nat} {ls : Nat → Int} {l3 : Nat} (h : (B (IsG n es) && colB es cs l) = false) : gcC n es false = cuC n es cs l ls l3 := by
  unfold cuC cuB gcC
  cases hG : B (IsG n es) with
  | false => rfl
  | true => rw [hG, Bool.true_and] at h; rw [h]; rfl
theorem cu_yes {n : Int} {es : List (Int × Int)} {cs : Nat → Int} {l : Nat} {ls : Nat → Int} {l3 : Nat} {u : Int} (h : (B (IsG n es) && colB es cs l) = true) (hu : IntKind.i64.wrap (n - 1) = u) : gcC n es (setB ls l3 u) = cuC n es cs l ls l3 := by
  obtain ⟨h1, h2⟩ := Bool.and_eq_true_iff.1 h
  have hG := B_iff.1 h1
  have e : u = n - 1 := by rw [← hu]; exact IntWalk.i64_in _ (by have := hG.wf.1; have := hG.wf.2.1; omega)
  unfold cuC cuB
  rw [h2, Bool.true_and, e]
theorem cu_n {n : Int} {es : List (Int × Int)} {cs : Nat → Int} {l : Nat} {ls : Nat → Int} {l3 : Nat} (h : cuC n es cs l ls l3 ≠ 0) : cuL n es cs l ls l3 = [] := by simp [cuL, h]
theorem cu_0 {n : Int} {es : List (Int × Int)} {cs : Nat → Int} {l : Nat} {ls : Nat → Int} {l3 : Nat} (h : cuC n es cs l ls l3 = 0) : IsG n es ∧ (l = es.length ∧ ColP es cs) ∧ SetP ls l3 (n - 1) ∧ cuL n es cs l ls l3 = (List.range 3).map (ctv cs (lvL es ls l3)) := by
  rcases cu_cases n es cs l ls l3 with ⟨_, hc, _⟩ | ⟨_, hc, _⟩ | ⟨_, h1, h4, h5, h6⟩
  · rw [hc] at h; cases h
  · rw [hc] at h; cases h
  · by_cases hs : SetP ls l3 (n - 1)
    · exact ⟨h1, B_iff.1 h4, hs, (h6 hs).2⟩
    · rw [(h5 hs).1] at h; cases h
set_option maxRecDepth 100000 in
set_option maxHeartbeats 4000000 in
theorem imCutNumbers_any (n : Int) (b o m c : Nat) (es : List (Int × Int)) (b2 o2 l c2 : Nat) (cs : Nat → Int) (b3 o3 l3 c3 : Nat) (ls : Nat → Int) (w : World) (h : Eds w b o m es) (hm : m ≤ 1048576) (h2 : Ints w b2 o2 l cs) (hl : l ≤ 1048576) (h3 : Ints w b3 o3 l3 ls) (hl3 : l3 ≤ 1048576) :
    Calls Try.prog 35 #[.agg #[.int .i64 n, .slice (some ⟨b, o, none⟩) m c], .slice (some ⟨b2, o2, none⟩) l c2, .slice (some ⟨b3, o3, none⟩) l3 c3] w (RetLC (cuL n es cs l ls l3) (cuC n es cs l ls l3) w) := by
  have KC := cell_rg
  have hbb := (by go_grown : Below w.heap.size w (w.alloc (.cells #[.int .i64 n, .slice (some ⟨b, o, none⟩) m c] 31)))
  have hbx := Box2.made w (.int .i64 n) (.slice (some ⟨b, o, none⟩) m c) 31
  have hlm := Lib.hid h.len
  obtain ⟨u, hu⟩ : ∃ u, IntKind.i64.wrap (n - 1) = u := ⟨_, rfl⟩
  have hIC : ∀ d os, Calls Try.prog 50 #[.agg #[.int .i64 n, .slice (some ⟨b, o, none⟩) m c], .slice (some ⟨b2, o2, none⟩) l c2] (grow (redrawn (w.alloc (.cells #[.int .i64 n, .slice (some ⟨b, o, none⟩) m c] 31)) d) os) fun e w'' => e = .returned (.bool (B (IsG n es) && colB es cs l)) ∧ ∃ p : Regrown, w'' = grow (redrawn (w.alloc (.cells #[.int .i64 n, .slice (some ⟨b, o, none⟩) m c] 31)) p.d) p.os := fun d os =>
    Ret.rg (isColouring_all n b o m c b2 o2 l c2 es cs _ ((h.alloc _).below (below_regrown _ _ _)) hm ((h2.below hbb).below (below_regrown _ _ _)) hl)
  have hIS : ∀ d os, Calls Try.prog 71 #[.slice (some ⟨b3, o3, none⟩) l3 c3, .int .i64 n] (grow (redrawn (w.alloc (.cells #[.int .i64 n, .slice (some ⟨b, o, none⟩) m c] 31)) d) os) fun e w'' => e = .returned (.bool (setB ls l3 u)) ∧ ∃ p : Regrown, w'' = grow (redrawn (w.alloc (.cells #[.int .i64 n, .slice (some ⟨b, o, none⟩) m c] 31)) p.d) p.os := fun d os =>
    Is.rg (isSet_any b3 o3 l3 c3 ls n u _ ((h3.below hbb).below (below_regrown _ _ _)) hl3 hu)
  have hGC : ∀ r, gcC n es r = cuC n es cs l ls l3 → ∀ d os, Calls Try.prog 49 #[.agg #[.int .i64 n, .slice (some ⟨b, o, none⟩) m c], .bool r] (grow (redrawn (w.alloc (.cells #[.int .i64 n, .slice (some ⟨b, o, none⟩) m c] 31)) d) os) fun e w'' => e = .returned (.int .i64 (cuC n es cs l ls l3)) ∧ ∃ p : Regrown, w'' = grow (redrawn (w.alloc (.cells #[.int .i64 n, .slice (some ⟨b, o, none⟩) m c] 31)) p.d) p.os := fun r hk d os =>
    Ret.rg (hk ▸ graphCode_any n _ _ _ _ es r _ ((h.alloc _).below (below_regrown _ _ _)) hm)
  have HIC := Lib.hid hIC
  have HIS := Lib.hid hIS
  obtain ⟨kc, hkc⟩ : ∃ kc, kc = cuC n es cs l ls l3 := ⟨_, rfl⟩
  obtain ⟨x, hx⟩ : ∃ x, x = (B (IsG n es) && colB es cs l) := ⟨_, rfl⟩
  rw [← hx] at HIC
  rw [← hkc] at hGC ⊢
  by_cases hz : kc = 0
  rotate_left
  · have HL : Hid (cuL n es cs l ls l3 = []) := cu_n (by rw [← hkc]; exact hz)
    have hne : (kc != 0) = true := by simpa using hz
    cases x with
    | false =>
      have HGC := Lib.hid (hGC false (by rw [hkc]; exact cu_no hx.symm))
      clear hIC hIS hGC hkc hx hu hz
      go_enter Try.func35, Try.ntmps35
      go_wp2_with fail
      (refine wp_region_quiet_below (by kernel_rfl) (by kernel_rfl) ?_
       repeat (any_goals (go_big_quiet_step (first | (go_at_call 50; exact HIC.out _ _) | (go_at_call 71; exact HIS.out _ _) | (go_at_call 49; exact HGC.out _ _))))
       all_goals (refine wpQuiet_nil ?_; intro wq1 hq1; replace hq1 := below_of_rg hq1))
      have hB1 := hbb.thenB (by simp) hq1
      clear hq1 hbx hbb
      go_wp2_with fail
      go_ret2
      exact retLC_nil HL.out hB1
    | true =>
      have HGC := Lib.hid (hGC (setB ls l3 u) (by rw [hkc]; exact cu_yes hx.symm hu))
      clear hIC hIS hGC hkc hx hu hz
      go_enter Try.func35, Try.ntmps35
      go_wp2_with fail
      (refine wp_region_quiet_below (by kernel_rfl) (by kernel_rfl) ?_
       repeat (any_goals (go_big_quiet_step (first | (go_at_call 50; exact HIC.out _ _) | (go_at_call 71; exact HIS.out _ _) | (go_at_call 49; exact HGC.out _ _))))
       all_goals (refine wpQuiet_nil ?_; intro wq1 hq1; replace hq1 := below_of_rg hq1))
      have hB1 := hbb.thenB (by simp) hq1
      clear hq1 hbx hbb
      go_wp2_with fail
      go_ret2
      exact retLC_nil HL.out hB1
  obtain ⟨hG, ⟨hle, hcol⟩, hS, hL⟩ := cu_0 (by rw [← hkc]; exact hz : cuC n es cs l ls l3 = 0)
  obtain rfl : l = m := by rw [hle, hlm.out]
  have hxt : x = true := by rw [hx, B_true hG, show colB es cs l = true from B_true ⟨hle, hcol⟩]; rfl
  have HGC := Lib.hid (hGC (setB ls l3 u) (by rw [hkc]; exact cu_yes (by rw [← hx]; exact hxt) hu))
  have HG := Lib.hid hG.wf
  have hn20 := hG.wf.2.1
  have HCO := Lib.hid hcol
  have HV : Hid (∀ j, j < l3 → 0 ≤ ls j ∧ ls j ≤ 63) := fun j hj => by have := (hS j hj).1; omega
  have hs64 : setN ls l3 < 18446744073709551616 := setN_lt (fun j hj => by have := (hS j hj).1; omega)
  have HLV := Lib.hid (fun W (E : Eds W b o l es) => leaving_any n b o l c (setN ls l3) es W E hm hG.wf hs64)
  obtain ⟨L, hLL⟩ : ∃ L, L = lvL es ls l3 := ⟨_, rfl⟩
  rw [show lvTo es (hasB (setN ls l3)) es.length = lvL es ls l3 from rfl, ← hLL] at HLV
  rw [hL, ← hLL]
  have hmem : ∀ j, j < L.length → ∃ e : Nat, e < l ∧ ia L j = e := fun j hj => by
    have := lvTo_mem (show ia L j ∈ lvTo es (hasB (setN ls l3)) es.length from (show L = lvTo es (hasB (setN ls l3)) es.length from hLL) ▸ ia_mem hj)
    rw [hlm.out] at this; exact this
  have HME := Lib.hid hmem
  have hLl : L.length ≤ 1048576 := by rw [hLL]; have := lvTo_len es (hasB (setN ls l3)) es.length; have := hlm.out; simp only [lvL]; omega
  have hmk3 := run_make_row' (P := Try.prog) 25 2 (.int .i64 0) 8 Try.underlying25 inf2 rfl .i64 .i64 3 (by omega) (by omega)
  rw [show ((3 : Nat) : Int) = 3 from rfl] at hmk3
  subst hxt
  rw [hz] at HGC
  clear hIC hIS hGC hkc hx hu hle hcol hS hL hLL hmem hG
  rw [hz]
  clear hz
  go_enter Try.func35, Try.ntmps35
  go_wp2_with fail
  (refine wp_region_quiet_below (by kernel_rfl) (by kernel_rfl) ?_
   repeat (any_goals (go_big_quiet_step (first | (go_at_call 50; exact HIC.out _ _) | (go_at_call 71; exact HIS.out _ _) | (go_at_call 49; exact HGC.out _ _))))
   all_goals (refine wpQuiet_nil ?_; intro wq1 hq1; replace hq1 := below_of_rg hq1))
  have hB1 := hbb.thenB (by simp) hq1
  have hbx1 := hbx.below hq1
  clear hq1 hbx hbb HIC HIS HGC
  go_wp2_with fail
  have R := World.rowIs_made wq1 (.int .i64 0) 3 2
  have hb3 : Below wq1.heap.size wq1 (wq1.alloc (.cells (madeCells #[.int .i64 0] 3) 2)) := (Below.refl _ _).alloc (Nat.le_refl _) _
  obtain ⟨w4, hw4⟩ : ∃ w4, w4 = wq1.alloc (.cells (madeCells #[.int .i64 0] 3) 2) := ⟨_, rfl⟩
  rw [← hw4] at R hb3 ⊢
  clear hw4
  obtain ⟨s1, pp1, qq1⟩ := hbx1.below hb3
  have hB4 := hB1.andB hb3
  have E := h.below hB4
  have I2 := h2.below hB4
  have I3 := h3.below hB4
  have hlt4 := R.lt
  refine wp_region_facts (fun i v W => match i with
    | 0 => v = .agg #[.int .i64 n, .slice (some ⟨b, o, none⟩) l c]
    | 1 => v = .slice (some ⟨b3, o3, none⟩) l3 c3
    | 2 => v = .int .u64 (setN ls l3)
    | 3 => NewL w4.heap.size (L) v W
    | 4 => v = .int .i64 L.length
    | _ => v = .int .i64 0) (by kernel_rfl) (by kernel_rfl) ?_ ?_ ?_
  · intro i v W W' hf hb
    match i, hf with
    | 0, hf => exact hf
    | 1, hf => exact hf
    | 2, hf => exact hf
    | 3, hf => exact NewL.below hf hb
    | 4, hf => exact hf
    | (i + 5), hf => exact hf
  · refine ⟨?_, ?_, ?_, ?_, ?_, ?_, trivial⟩
    · intro a W hW hs hd
      have e3 : a.tmps[3]?.getD undef = .pointer (some ⟨w.heap.size, 0, none⟩) := hs 3 (by kernel_rfl)
      have k0 := (hW.cell (p := ⟨w.heap.size, 0, none⟩) (s1)).trans (pp1)
      have k1 := (hW.cell (p := ⟨w.heap.size, 1, none⟩) (s1)).trans (qq1)
      clear hs hd
      unfold Grows
      go_simp
      exact Below.refl _ _
    · intro a W hW hs hd
      have e2 : a.tmps[2]?.getD undef = .slice (some ⟨b3, o3, none⟩) l3 c3 := hs 2 (by kernel_rfl)
      clear hs hd
      unfold Grows
      go_simp
      exact Below.refl _ _
    · intro a W hW hs hd
      have e28 : (a.tmps[28]?.getD undef) = .slice (some ⟨b3, o3, none⟩) l3 c3 := hd 1 28 (by kernel_rfl) (by kernel_rfl)
      clear hs hd
      unfold Grows
      go_simp
      refine ⟨Below.refl _ _, (Is.ret (setOf_any b3 o3 l3 c3 ls _ (I3.below hW) hl3 HV.out)).mono ?_⟩
      rintro e w6 ⟨rfl, hb6⟩
      exact ⟨_, rfl, hb6, rfl⟩
    · intro a W hW hs hd
      have e27 : (a.tmps[27]?.getD undef) = .agg #[.int .i64 n, .slice (some ⟨b, o, none⟩) l c] := hd 0 27 (by kernel_rfl) (by kernel_rfl)
      have e29 : (a.tmps[29]?.getD undef) = .int .u64 (setN ls l3) := hd 2 29 (by kernel_rfl) (by kernel_rfl)
      clear hs hd
      unfold Grows
      go_simp
      refine ⟨Below.refl _ _, (HLV.out W (E.below hW)).mono ?_⟩
      rintro e w6 ⟨A6, c6, rfl, ho6, hb6⟩
      exact ⟨_, rfl, hb6, A6, c6, rfl, ho6.mono (hW.size)⟩
    · intro a W hW hs hd
      have e30 : NewL w4.heap.size (L) (a.tmps[30]?.getD undef) W := hd 3 30 (by kernel_rfl) (by kernel_rfl)
      obtain ⟨A30, c30, e30, O30⟩ := e30
      clear hs hd
      unfold Grows
      go_simp
      exact Below.refl _ _
    · intro a W hW hs hd
      clear hs hd
      unfold Grows
      go_simp
      exact Below.refl _ _
  intro vs W hW hf
  have f27 : vs 27 = .agg #[.int .i64 n, .slice (some ⟨b, o, none⟩) l c] := hf 0 27 (by kernel_rfl)
  have f28 : vs 28 = .slice (some ⟨b3, o3, none⟩) l3 c3 := hf 1 28 (by kernel_rfl)
  have f29 : vs 29 = .int .u64 (setN ls l3) := hf 2 29 (by kernel_rfl)
  have f30 : NewL w4.heap.size (L) (vs 30) W := hf 3 30 (by kernel_rfl)
  obtain ⟨A30, c30, f30, O30⟩ := f30
  have f31 : vs 31 = .int .i64 L.length := hf 4 31 (by kernel_rfl)
  have f32 : vs 32 = .int .i64 0 := hf 5 32 (by kernel_rfl)
  simp only [dsts, List.filterMap_cons, List.filterMap_nil, List.foldl_cons, List.foldl_nil, Act.put, List.setIfInBounds_toArray, List.set_cons_succ, List.set_cons_zero, f27, f28, f29, f30, f31, f32]
  clear hf
  have hb5 := hb3.andB hW
  have R5 := R.of_block (hW.block _ hlt4)
  have hnb : ∀ y, blkOf A30 = some y → wq1.heap.size < y := fun y hy => by have := (O30.blk y hy).1; omega
  clear R hb3 hW
  go_wp2_with fail
  go_loopw [11, 32] (fun _ i wv => ∃ j : Nat, j ≤ L.length ∧ i = .int .i64 j ∧ wv.rowIs wq1.heap.size 2 3 (fun v => .int .i64 (ctv cs (L.take j) v)) ∧ OwnL w4.heap.size wv A30 L.length c30 L ∧ Below wq1.heap.size wq1 wv) (fun _ i _ => L.length - (intOf i).toNat)
  case atStart => exact ⟨0, Nat.zero_le _, rfl, R5.congr (fun v _ => by simp [ctv_nil]), O30, hb5⟩
  case round =>
    clear R5 O30 hb5
    obtain ⟨j, hj, rfl, ho, hL, hbv⟩ := hrel
    by_cases hlt : j < L.length
    · obtain ⟨e, he, hme⟩ := HME.out j hlt
      obtain ⟨g, rfl, hg1, hg2⟩ : ∃ g, A30 = some ⟨g, 0, none⟩ ∧ w4.heap.size ≤ g ∧ g < wr.heap.size := by
        rcases hL.cases with ⟨_, h0, _⟩ | h0
        · omega
        · exact h0
      have k1 := hL.cell hlt
      rw [hme] at k1
      have hck := HCO.out.1 e (by rw [hlm.out]; exact he)
      obtain ⟨u, hu⟩ : ∃ u : Nat, cs e = u := ⟨(cs e).toNat, by omega⟩
      have hu3 : u < 3 := by omega
      have I := h2.below (hB1.andB hbv)
      have k2 := I.c e he
      rw [hu] at k2
      have s6 := I.blk
      obtain ⟨q, hq, hqle⟩ := ctv_le cs (L.take j) u
      have hq20 : q ≤ 1048576 := by have := List.length_take_le j L; omega
      have e1 := ho.cell hu3
      rw [hq] at e1
      have f1 := ho.frozen u
      have HR2 : Hid ((wr.setCell ⟨wq1.heap.size, u, none⟩ (.int .i64 ((q : Int) + 1))).rowIs wq1.heap.size 2 3 (fun v => .int .i64 (ctv cs (L.take (j + 1)) v))) := (ho.set u (.int .i64 ((q : Int) + 1))).congr (fun v _ => by
        rw [take_ia hlt, ctv_app, hme, Int.toNat_natCast, hu]
        by_cases hv : v = u
        · subst hv; rw [if_pos rfl, if_pos rfl, hq]
        · rw [if_neg hv, if_neg (by omega)])
      have HL2 : Hid (OwnL w4.heap.size (wr.setCell ⟨wq1.heap.size, u, none⟩ (.int .i64 ((q : Int) + 1))) (some ⟨g, 0, none⟩) L.length c30 L) := hL.setOther (by have := hnb g rfl; simp [blkOf]; omega) _
      clear ho hL hme hu hck hq hqle I
      go_wp2_with fail
      go_roundw
      case rel => exact ⟨j + 1, by omega, by go_num, HR2.out, HL2.out, hbv.setCell (Nat.le_refl _) _⟩
      case measure => simp [intOf]; omega
    · obtain rfl : j = L.length := by omega
      have HT : Hid (L.take L.length = L) := List.take_length
      go_wp2_with fail
      go_ret2
      exact ⟨some ⟨wq1.heap.size, 0, none⟩, 3, rfl, (OwnL.ofRow (m := 3) (by rw [HT.out] at ho; exact ho) (by have := hB1.size; omega) (by omega) : OwnL w.heap.size _ _ 3 3 _), hB1.andB hbv⟩
end Go.Proofs.Ytjdhibcijjnopaa
