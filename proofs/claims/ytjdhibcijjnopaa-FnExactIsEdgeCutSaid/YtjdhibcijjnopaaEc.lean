import Derived.Test.YtjdhibcijjnopaaBr
import Derived.Test.YtjdhibcijjnopaaEdgesLeaving
namespace Go.Proofs.Ytjdhibcijjnopaa
open Go.RowKit Go.Sort
/-! ### Sets of edges, IsEdgeCut -/
noncomputable def ecC (n : Int) (es : List (Int × Int)) (ls : Nat → Int) (l : Nat) : Int := if B (IsG n es) then setC ls l ((es.length : Int) - 1) else 1
theorem ec_cases (n : Int) (es : List (Int × Int)) (ls : Nat → Int) (l : Nat) :
    (¬ IsG n es ∧ ecC n es ls l = 1) ∨ (IsG n es ∧ ¬ SetP ls l ((es.length : Int) - 1) ∧ ecC n es ls l = 2) ∨ (IsG n es ∧ SetP ls l ((es.length : Int) - 1) ∧ ecC n es ls l = 0) := by
  by_cases hG : IsG n es
  · by_cases hs : SetP ls l ((es.length : Int) - 1)
    · right; right; exact ⟨hG, hs, by simp [ecC, B_true hG, setC_0 hs]⟩
    · right; left; exact ⟨hG, hs, by simp [ecC, B_true hG, setC_2 hs]⟩
  · left; exact ⟨hG, by simp [ecC, B_false hG]⟩
set_option maxHeartbeats 400000 in
theorem l03Edges_any (n : Int) (b o m c b2 o2 l c2 : Nat) (es : List (Int × Int)) (ls : Nat → Int) (w : World) (h : Eds w b o m es) (hm : m ≤ 1048576) (h2 : Ints w b2 o2 l ls) (hl2 : l ≤ 1048576) :
    Calls Try.prog 78 #[.agg #[.int .i64 n, .slice (some ⟨b, o, none⟩) m c], .slice (some ⟨b2, o2, none⟩) l c2] w (Ret (.int .i64 (ecC n es ls l)) w) := by
  have hbox := Box2.made w (.int .i64 n) (.slice (some ⟨b, o, none⟩) m c) 31
  have hbb := (by go_grown : Below w.heap.size w (w.alloc (.cells #[.int .i64 n, .slice (some ⟨b, o, none⟩) m c] 31)))
  have HSP := Lib.hid (l01Is_any n b o m c es _ (h.alloc (.cells #[.int .i64 n, .slice (some ⟨b, o, none⟩) m c] 31)) hm)
  by_cases hG : IsG n es
  · have HC : Hid (ecC n es ls l = setC ls l ((m : Int) - 1)) := by simp [Hid, ecC, B_true hG, h.len]
    rw [B_true hG] at HSP
    clear hG
    go_enter Try.func78, Try.ntmps78
    go_wp2_with fail
    refine HSP.out.mono ?_
    rintro e w1 ⟨rfl, hb1⟩
    have hB1 := hbb.thenB (by simp) hb1
    obtain ⟨s1, p1, q1⟩ := hbox.below hb1
    clear hb1 hbb hbox
    go_wp2_with fail
    refine (l03Set_any b2 o2 l c2 ls m ((m : Int) - 1) _ (h2.below hB1) hl2 (IntWalk.i64_in _ (by omega))).mono ?_
    rintro e w2 ⟨rfl, hb2⟩
    go_wp2_with fail
    go_ret
    exact ⟨ret_int HC.out.symm, hB1.andB hb2⟩
  · have HC : Hid (ecC n es ls l = 1) := by simp [Hid, ecC, B_false hG]
    rw [B_false hG] at HSP
    clear hG hbox
    go_enter Try.func78, Try.ntmps78
    go_wp2_with fail
    refine HSP.out.mono ?_
    rintro e w1 ⟨rfl, hb1⟩
    have hB1 := hbb.thenB (by simp) hb1
    clear hb1 hbb
    go_wp2_with fail
    go_ret
    exact ⟨ret_int HC.out.symm, hB1⟩
set_option maxHeartbeats 800000 in
theorem edgesCode_any (n : Int) (b o m c b2 o2 l c2 : Nat) (es : List (Int × Int)) (ls : Nat → Int) (w : World) (h : Eds w b o m es) (hm : m ≤ 1048576) (h2 : Ints w b2 o2 l ls) (hl2 : l ≤ 1048576) :
    Calls Try.prog 80 #[.agg #[.int .i64 n, .slice (some ⟨b, o, none⟩) m c], .slice (some ⟨b2, o2, none⟩) l c2] w (Ret (.int .i64 (ecC n es ls l)) w) := by
  have KC := cell_rg
  have hbb := (by go_grown : Below w.heap.size w (w.alloc (.cells #[.int .i64 n, .slice (some ⟨b, o, none⟩) m c] 31)))
  have hk : gcC n es (setB ls l ((m : Int) - 1)) = ecC n es ls l := by
    unfold ecC gcC setC
    rw [h.len]
  have hGC : ∀ d os, Calls Try.prog 49 #[.agg #[.int .i64 n, .slice (some ⟨b, o, none⟩) m c], .bool (setB ls l ((m : Int) - 1))] (grow (redrawn (w.alloc (.cells #[.int .i64 n, .slice (some ⟨b, o, none⟩) m c] 31)) d) os) fun e w'' => e = .returned (.int .i64 (ecC n es ls l)) ∧ ∃ p : Regrown, w'' = grow (redrawn (w.alloc (.cells #[.int .i64 n, .slice (some ⟨b, o, none⟩) m c] 31)) p.d) p.os := fun d os =>
    Ret.rg (hk ▸ graphCode_any n _ _ _ _ es _ _ ((h.alloc _).below (below_regrown _ _ _)) hm)
  have hIS : ∀ d os, Calls Try.prog 71 #[.slice (some ⟨b2, o2, none⟩) l c2, .int .i64 m] (grow (redrawn (w.alloc (.cells #[.int .i64 n, .slice (some ⟨b, o, none⟩) m c] 31)) d) os) fun e w'' => e = .returned (.bool (setB ls l ((m : Int) - 1))) ∧ ∃ p : Regrown, w'' = grow (redrawn (w.alloc (.cells #[.int .i64 n, .slice (some ⟨b, o, none⟩) m c] 31)) p.d) p.os := fun d os =>
    Is.rg (isSet_any b2 o2 l c2 ls m ((m : Int) - 1) _ ((h2.below hbb).below (below_regrown _ _ _)) hl2 (IntWalk.i64_in _ (by omega)))
  have HGC := Lib.hid hGC
  have HIS := Lib.hid hIS
  clear hGC hIS hk
  go_enter Try.func80, Try.ntmps80
  go_wp2_with fail
  (refine wp_region_quiet_below (by kernel_rfl) (by kernel_rfl) ?_
   repeat (any_goals (go_big_quiet_step (first | (go_at_call 56; exact Is.rg (lengthE_any _ _ _ _ (by omega))) | (go_at_call 71; exact HIS.out _ _) | (go_at_call 49; exact HGC.out _ _))))
   all_goals (refine wpQuiet_nil ?_; intro wq1 hq1; replace hq1 := below_of_rg hq1))
  go_wp2_with fail
  go_ret
  exact ⟨rfl, hbb.thenB (by simp) hq1⟩
noncomputable def ieV (n : Int) (es : List (Int × Int)) (ls : Nat → Int) (l : Nat) : Bool := decide (ecC n es ls l = 0) && cutB n es (skS (setN ls l))
theorem ieV_0 {n : Int} {es : List (Int × Int)} {ls : Nat → Int} {l : Nat} (h : ecC n es ls l = 0) : ieV n es ls l = cutB n es (skS (setN ls l)) := by simp [ieV, h]
theorem ieV_n {n : Int} {es : List (Int × Int)} {ls : Nat → Int} {l : Nat} (h : ecC n es ls l ≠ 0) : ieV n es ls l = false := by simp [ieV, h]
set_option maxRecDepth 100000 in
set_option maxHeartbeats 1600000 in
theorem spIsEdgeCut_any (n : Int) (b o m c b2 o2 l c2 : Nat) (es : List (Int × Int)) (ls : Nat → Int) (w : World) (h : Eds w b o m es) (hm : m ≤ 1048576) (h2 : Ints w b2 o2 l ls) (hl2 : l ≤ 1048576) :
    Calls Try.prog 40 #[.agg #[.int .i64 n, .slice (some ⟨b, o, none⟩) m c], .slice (some ⟨b2, o2, none⟩) l c2] w (Ret (.tuple #[.bool (ieV n es ls l), .int .i64 (ecC n es ls l)]) w) := by
  have hbox := Box2.made w (.int .i64 n) (.slice (some ⟨b, o, none⟩) m c) 31
  have hbb := (by go_grown : Below w.heap.size w (w.alloc (.cells #[.int .i64 n, .slice (some ⟨b, o, none⟩) m c] 31)))
  have HEC := Lib.hid (l03Edges_any n b o m c b2 o2 l c2 es ls _ (h.alloc (.cells #[.int .i64 n, .slice (some ⟨b, o, none⟩) m c] 31)) hm (h2.below hbb) hl2)
  have hc := ec_cases n es ls l
  rcases (show ecC n es ls l = 0 ∨ ecC n es ls l ≠ 0 from Classical.em _) with h0 | h0
  · have hGS : IsG n es ∧ SetP ls l ((es.length : Int) - 1) := by
      rcases hc with ⟨_, e⟩ | ⟨_, _, e⟩ | ⟨h1, h3, _⟩
      · rw [e] at h0; cases h0
      · rw [e] at h0; cases h0
      · exact ⟨h1, h3⟩
    have HG := Lib.hid hGS
    have hn2 := hGS.1.wf.1
    have hn20 := hGS.1.wf.2.1
    have hl := Lib.hid h.len
    rw [ieV_0 h0, h0]
    rw [h0] at HEC
    obtain ⟨N, rfl⟩ : ∃ N : Nat, n = N := ⟨n.toNat, by omega⟩
    obtain ⟨p0, hp0⟩ : ∃ p0, ldCnt es noSk N = p0 := ⟨_, rfl⟩
    obtain ⟨p1, hp1⟩ : ∃ p1, ldCnt es (skS (setN ls l)) N = p1 := ⟨_, rfl⟩
    have HCU : Hid (cutB N es (skS (setN ls l)) = decide (p0 < p1)) := by show decide _ = _; rw [Int.toNat_natCast, hp0, hp1]
    have HRE : Hid (∀ W, Eds W b o m es → Ints W b2 o2 l ls → Calls Try.prog 79 #[.agg #[.int .i64 N, .slice (some ⟨b, o, none⟩) m c], .slice (some ⟨b2, o2, none⟩) l c2] W (RetE (restE es (skS (setN ls l))) W)) := fun W hE hI => rest_any N b o m c b2 o2 l c2 es ls _ W hE hm hI hl2 HG.out.2
    have HPA : Hid (∀ W g c2, Eds W g 0 (restE es (skS (setN ls l))).length (restE es (skS (setN ls l))) → Calls Try.prog 55 #[.int .i64 N, .slice (some ⟨g, 0, none⟩) (restE es (skS (setN ls l))).length c2] W (Ret (.int .i64 p1) W)) := fun W g c2 hE => by
      rw [← hp1, ← ldCnt_rest]
      exact parts_any N g 0 _ c2 _ W hE (by have := restTo_len es (skS (setN ls l)) es.length; have := hl.out; show (restTo _ _ _).length ≤ _; omega) (inR_rest HG.out.1.wf.inR) (by omega) (by omega)
    have HP0 : Hid (∀ W, Eds W b o m es → Calls Try.prog 55 #[.int .i64 N, .slice (some ⟨b, o, none⟩) m c] W (Ret (.int .i64 p0) W)) := fun W hE => by rw [← hp0]; exact parts_any N b o m c es W hE hm HG.out.1.wf.inR (by omega) (by omega)
    have hlc1 : p1 ≤ N := by rw [← hp1]; exact ldCnt_le es _ N
    have hlc0 : p0 ≤ N := by rw [← hp0]; exact ldCnt_le es _ N
    clear hp0 hp1 hc hGS h0
    go_enter Try.func40, Try.ntmps40
    go_wp2_with fail
    refine HEC.out.mono ?_
    rintro e w1 ⟨rfl, hb1⟩
    have hB1 := hbb.thenB (by simp) hb1
    obtain ⟨s1, pp1, qq1⟩ := hbox.below hb1
    have E := h.below hB1
    have I := h2.below hB1
    clear hb1 hbb hbox
    go_wp2_with fail
    refine wp_region_facts (fun i v W => match i with
      | 0 => v = .pointer (some ⟨w.heap.size, 0, none⟩)
      | 1 => v = .int .i64 N
      | 2 => v = .agg #[.int .i64 N, .slice (some ⟨b, o, none⟩) m c]
      | 3 => v = .slice (some ⟨b2, o2, none⟩) l c2
      | 4 => NewE w1.heap.size (restE es (skS (setN ls l))) v W
      | 5 => v = .int .i64 p1
      | 6 => v = .pointer (some ⟨w.heap.size, 0, none⟩)
      | 7 => v = .int .i64 N
      | 8 => v = .pointer (some ⟨w.heap.size, 1, none⟩)
      | 9 => v = .slice (some ⟨b, o, none⟩) m c
      | 10 => v = .int .i64 p0
      | 11 => v = .bool (decide (p0 < p1))
      | 12 => v = .bool (decide (p0 < p1))
      | _ => v = .int .i64 0) (by kernel_rfl) (by kernel_rfl) ?_ ?_ ?_
    · intro i v W W' hf hb
      match i, hf with
      | 0, hf => exact hf
      | 1, hf => exact hf
      | 2, hf => exact hf
      | 3, hf => exact hf
      | 4, hf => exact NewE.below hf hb
      | 5, hf => exact hf
      | 6, hf => exact hf
      | 7, hf => exact hf
      | 8, hf => exact hf
      | 9, hf => exact hf
      | 10, hf => exact hf
      | 11, hf => exact hf
      | 12, hf => exact hf
      | (i + 13), hf => exact hf
    · refine ⟨?_, ?_, ?_, ?_, ?_, ?_, ?_, ?_, ?_, ?_, ?_, ?_, ?_, ?_, trivial⟩
      · intro a W hW hs hd
        have e2 : a.tmps[2]?.getD undef = .pointer (some ⟨w.heap.size, 0, none⟩) := hs 2 (by kernel_rfl)
        have k0 := (hW.cell (p := ⟨w.heap.size, 0, none⟩) (s1)).trans (pp1)
        have k1 := (hW.cell (p := ⟨w.heap.size, 1, none⟩) (s1)).trans (qq1)
        clear hs hd
        unfold Grows
        go_simp
        exact Below.refl _ _
      · intro a W hW hs hd
        have e13 : (a.tmps[13]?.getD undef) = .pointer (some ⟨w.heap.size, 0, none⟩) := hd 0 13 (by kernel_rfl) (by kernel_rfl)
        have k0 := (hW.cell (p := ⟨w.heap.size, 0, none⟩) (s1)).trans (pp1)
        have k1 := (hW.cell (p := ⟨w.heap.size, 1, none⟩) (s1)).trans (qq1)
        clear hs hd
        unfold Grows
        go_simp
        exact Below.refl _ _
      · intro a W hW hs hd
        have e2 : a.tmps[2]?.getD undef = .pointer (some ⟨w.heap.size, 0, none⟩) := hs 2 (by kernel_rfl)
        have k0 := (hW.cell (p := ⟨w.heap.size, 0, none⟩) (s1)).trans (pp1)
        have k1 := (hW.cell (p := ⟨w.heap.size, 1, none⟩) (s1)).trans (qq1)
        clear hs hd
        unfold Grows
        go_simp
        exact Below.refl _ _
      · intro a W hW hs hd
        have e1 : a.tmps[1]?.getD undef = .slice (some ⟨b2, o2, none⟩) l c2 := hs 1 (by kernel_rfl)
        clear hs hd
        unfold Grows
        go_simp
        exact Below.refl _ _
      · intro a W hW hs hd
        have e15 : (a.tmps[15]?.getD undef) = .agg #[.int .i64 N, .slice (some ⟨b, o, none⟩) m c] := hd 2 15 (by kernel_rfl) (by kernel_rfl)
        have e16 : (a.tmps[16]?.getD undef) = .slice (some ⟨b2, o2, none⟩) l c2 := hd 3 16 (by kernel_rfl) (by kernel_rfl)
        clear hs hd
        unfold Grows
        go_simp
        refine ⟨Below.refl _ _, (HRE.out W (E.below hW) (I.below hW)).mono ?_⟩
        rintro e w6 ⟨g6, c6, rfl, ho6, hb6⟩
        exact ⟨_, rfl, hb6, g6, c6, rfl, ho6.1, (ho6.mono (hW.size)).2⟩
      · intro a W hW hs hd
        have e14 : (a.tmps[14]?.getD undef) = .int .i64 N := hd 1 14 (by kernel_rfl) (by kernel_rfl)
        have e17 : NewE w1.heap.size (restE es (skS (setN ls l))) (a.tmps[17]?.getD undef) W := hd 4 17 (by kernel_rfl) (by kernel_rfl)
        obtain ⟨g17, c17, e17, O17⟩ := e17
        clear hs hd
        unfold Grows
        go_simp
        refine ⟨Below.refl _ _, (HPA.out W _ _ O17.eds).mono ?_⟩
        rintro e w6 ⟨rfl, hb6⟩
        exact ⟨_, rfl, hb6, rfl⟩
      · intro a W hW hs hd
        have e2 : a.tmps[2]?.getD undef = .pointer (some ⟨w.heap.size, 0, none⟩) := hs 2 (by kernel_rfl)
        have k0 := (hW.cell (p := ⟨w.heap.size, 0, none⟩) (s1)).trans (pp1)
        have k1 := (hW.cell (p := ⟨w.heap.size, 1, none⟩) (s1)).trans (qq1)
        clear hs hd
        unfold Grows
        go_simp
        exact Below.refl _ _
      · intro a W hW hs hd
        have e19 : (a.tmps[19]?.getD undef) = .pointer (some ⟨w.heap.size, 0, none⟩) := hd 6 19 (by kernel_rfl) (by kernel_rfl)
        have k0 := (hW.cell (p := ⟨w.heap.size, 0, none⟩) (s1)).trans (pp1)
        have k1 := (hW.cell (p := ⟨w.heap.size, 1, none⟩) (s1)).trans (qq1)
        clear hs hd
        unfold Grows
        go_simp
        exact Below.refl _ _
      · intro a W hW hs hd
        have e2 : a.tmps[2]?.getD undef = .pointer (some ⟨w.heap.size, 0, none⟩) := hs 2 (by kernel_rfl)
        have k0 := (hW.cell (p := ⟨w.heap.size, 0, none⟩) (s1)).trans (pp1)
        have k1 := (hW.cell (p := ⟨w.heap.size, 1, none⟩) (s1)).trans (qq1)
        clear hs hd
        unfold Grows
        go_simp
        exact Below.refl _ _
      · intro a W hW hs hd
        have e21 : (a.tmps[21]?.getD undef) = .pointer (some ⟨w.heap.size, 1, none⟩) := hd 8 21 (by kernel_rfl) (by kernel_rfl)
        have k0 := (hW.cell (p := ⟨w.heap.size, 0, none⟩) (s1)).trans (pp1)
        have k1 := (hW.cell (p := ⟨w.heap.size, 1, none⟩) (s1)).trans (qq1)
        clear hs hd
        unfold Grows
        go_simp
        exact Below.refl _ _
      · intro a W hW hs hd
        have e20 : (a.tmps[20]?.getD undef) = .int .i64 N := hd 7 20 (by kernel_rfl) (by kernel_rfl)
        have e22 : (a.tmps[22]?.getD undef) = .slice (some ⟨b, o, none⟩) m c := hd 9 22 (by kernel_rfl) (by kernel_rfl)
        clear hs hd
        unfold Grows
        go_simp
        refine ⟨Below.refl _ _, (HP0.out W (E.below hW)).mono ?_⟩
        rintro e w6 ⟨rfl, hb6⟩
        exact ⟨_, rfl, hb6, rfl⟩
      · intro a W hW hs hd
        have e18 : (a.tmps[18]?.getD undef) = .int .i64 p1 := hd 5 18 (by kernel_rfl) (by kernel_rfl)
        have e23 : (a.tmps[23]?.getD undef) = .int .i64 p0 := hd 10 23 (by kernel_rfl) (by kernel_rfl)
        clear hs hd
        unfold Grows
        go_simp
        exact Below.refl _ _
      · intro a W hW hs hd
        have e24 : (a.tmps[24]?.getD undef) = .bool (decide (p0 < p1)) := hd 11 24 (by kernel_rfl) (by kernel_rfl)
        clear hs hd
        unfold Grows
        go_simp
        exact Below.refl _ _
      · intro a W hW hs hd
        clear hs hd
        unfold Grows
        go_simp
        exact Below.refl _ _
    intro vs W hW hf
    have f4 : vs 4 = .bool (decide (p0 < p1)) := hf 12 4 (by kernel_rfl)
    have f5 : vs 5 = .int .i64 0 := hf 13 5 (by kernel_rfl)
    simp only [dsts, List.filterMap_cons, List.filterMap_nil, List.foldl_cons, List.foldl_nil, Act.put, List.setIfInBounds_toArray, List.set_cons_succ, List.set_cons_zero, f4, f5]
    clear hf
    go_wp2_with fail
    go_ret2
    exact ⟨retBC HCU.out.symm rfl, hB1.andB hW⟩
  · rw [ieV_n h0]
    obtain ⟨K, hK⟩ : ∃ K, ecC n es ls l = K := ⟨_, rfl⟩
    rw [hK] at HEC h0 ⊢
    have hkb : (K != 0) = true := by simpa using h0
    clear hK hc h0
    go_enter Try.func40, Try.ntmps40
    go_wp2_with fail
    refine HEC.out.mono ?_
    rintro e w1 ⟨rfl, hb1⟩
    have hB1 := hbb.thenB (by simp) hb1
    clear hb1 hbb hbox
    go_wp2_with fail
    go_ret2
    exact ⟨rfl, hB1⟩
set_option maxRecDepth 100000 in
set_option maxHeartbeats 1600000 in
theorem imIsEdgeCut_any (n : Int) (b o m c b2 o2 l c2 : Nat) (es : List (Int × Int)) (ls : Nat → Int) (w : World) (h : Eds w b o m es) (hm : m ≤ 1048576) (h2 : Ints w b2 o2 l ls) (hl2 : l ≤ 1048576) :
    Calls Try.prog 41 #[.agg #[.int .i64 n, .slice (some ⟨b, o, none⟩) m c], .slice (some ⟨b2, o2, none⟩) l c2] w (Ret (.tuple #[.bool (ieV n es ls l), .int .i64 (ecC n es ls l)]) w) := by
  have KC := cell_rg
  have hbox := Box2.made w (.int .i64 n) (.slice (some ⟨b, o, none⟩) m c) 31
  have hbb := (by go_grown : Below w.heap.size w (w.alloc (.cells #[.int .i64 n, .slice (some ⟨b, o, none⟩) m c] 31)))
  have HEC := Lib.hid (edgesCode_any n b o m c b2 o2 l c2 es ls _ (h.alloc (.cells #[.int .i64 n, .slice (some ⟨b, o, none⟩) m c] 31)) hm (h2.below hbb) hl2)
  have hc := ec_cases n es ls l
  rcases (show ecC n es ls l = 0 ∨ ecC n es ls l ≠ 0 from Classical.em _) with h0 | h0
  · have hGS : IsG n es ∧ SetP ls l ((es.length : Int) - 1) := by
      rcases hc with ⟨_, e⟩ | ⟨_, _, e⟩ | ⟨h1, h3, _⟩
      · rw [e] at h0; cases h0
      · rw [e] at h0; cases h0
      · exact ⟨h1, h3⟩
    have HG := Lib.hid hGS
    have hm30 : es.length ≤ 30 := by have := hGS.1.wf.2.2.2.1; have := hGS.1.wf.2.1; omega
    rw [ieV_0 h0, h0]
    rw [h0] at HEC
    obtain ⟨r, hr⟩ : ∃ r, cutB n es (skS (setN ls l)) = r := ⟨_, rfl⟩
    have HV : Hid (∀ j, j < l → 0 ≤ ls j ∧ ls j ≤ 63) := fun j hj => by have := (hGS.2 j hj).1; omega
    have hsl := setN_lt (ls := ls) (k := l) (fun j hj => (HV.out j hj).2)
    have HCT : Hid (∀ W, Eds W b o m es → Calls Try.prog 81 #[.agg #[.int .i64 n, .slice (some ⟨b, o, none⟩) m c], .int .u64 (setN ls l)] W (Ret (.bool r) W)) := fun W hE => by
      rw [← hr]; exact isCut_any n b o m c _ es W hE hm HG.out.1.wf hsl
    rw [hr]
    clear hr hc hGS h0 hsl
    go_enter Try.func41, Try.ntmps41
    go_wp2_with fail
    refine HEC.out.mono ?_
    rintro e w1 ⟨rfl, hb1⟩
    have hB1 := hbb.thenB (by simp) hb1
    obtain ⟨s1, pp1, qq1⟩ := hbox.below hb1
    have E := h.below hB1
    have I := h2.below hB1
    clear hb1 hbb hbox
    go_wp2_with fail
    (refine wp_region_quiet_below (by kernel_rfl) (by kernel_rfl) ?_
     repeat (any_goals (go_big_quiet_step (first | (go_at_call 73; exact Is.rg (setOf_any b2 o2 l c2 ls _ (I.below (below_regrown _ _ _)) hl2 HV.out)) | (go_at_call 81; exact Ret.rg (HCT.out _ (E.below (below_regrown _ _ _)))))))
     all_goals (refine wpQuiet_nil ?_; intro wq2 hq2; replace hq2 := below_of_rg hq2))
    go_wp2_with fail
    go_ret2
    exact ⟨rfl, hB1.andB hq2⟩
  · rw [ieV_n h0]
    obtain ⟨K, hK⟩ : ∃ K, ecC n es ls l = K := ⟨_, rfl⟩
    rw [hK] at HEC h0 ⊢
    have hkb : (K != 0) = true := by simpa using h0
    clear hK hc h0
    go_enter Try.func41, Try.ntmps41
    go_wp2_with fail
    refine HEC.out.mono ?_
    rintro e w1 ⟨rfl, hb1⟩
    have hB1 := hbb.thenB (by simp) hb1
    clear hb1 hbb hbox
    go_wp2_with fail
    go_ret2
    exact ⟨rfl, hB1⟩
end Go.Proofs.Ytjdhibcijjnopaa
