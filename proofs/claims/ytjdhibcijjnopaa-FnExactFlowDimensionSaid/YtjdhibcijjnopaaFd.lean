import Derived.Test.YtjdhibcijjnopaaCv
import Derived.Test.YtjdhibcijjnopaaMb
namespace Go.Proofs.Ytjdhibcijjnopaa
open Go.RowKit Go.Sort
/-! ### FlowDimension -/
theorem lengthLL_any (A : Option Addr) (m c : Nat) (w : World) : Calls Try.prog 57 #[.slice A m c] w (Is (.int .i64 m) w) := by
  go_enter Try.func57, Try.ntmps57
  go_wp2
  go_ret
  exact ⟨rfl, rfl⟩
noncomputable def fdV (n : Int) (es : List (Int × Int)) : Int := if B (IsG n es) then (es.length : Int) - n + ldCnt es noSk n.toNat else 0
set_option maxRecDepth 100000 in
set_option maxHeartbeats 800000 in
theorem spFlowDimension_any (n : Int) (b o m c : Nat) (es : List (Int × Int)) (w : World) (h : Eds w b o m es) (hm : m ≤ 1048576) :
    Calls Try.prog 23 #[.agg #[.int .i64 n, .slice (some ⟨b, o, none⟩) m c]] w (Ret (.tuple #[.int .i64 (fdV n es), .int .i64 (imC n es)]) w) := by
  have hbox := Box2.made w (.int .i64 n) (.slice (some ⟨b, o, none⟩) m c) 31
  have hbb := (by go_grown : Below w.heap.size w (w.alloc (.cells #[.int .i64 n, .slice (some ⟨b, o, none⟩) m c] 31)))
  have HSP := Lib.hid (l01Is_any n b o m c es _ (h.alloc (.cells #[.int .i64 n, .slice (some ⟨b, o, none⟩) m c] 31)) hm)
  by_cases hG : IsG n es
  · have HC : Hid (imC n es = 0) := by simp [Hid, imC, B_true hG]
    have HR : Hid (fdV n es = (m : Int) - n + ldCnt es noSk n.toNat) := by simp [Hid, fdV, B_true hG, h.len]
    have HG := Lib.hid hG
    rw [B_true hG] at HSP
    clear hG
    have KC := cell_rg
    have hn2 := HG.out.wf.1
    have hn20 := HG.out.wf.2.1
    have hm30 : m ≤ 30 := by have := HG.out.wf.2.2.2.1; have := h.len; omega
    obtain ⟨N, rfl⟩ : ∃ N : Nat, n = N := ⟨n.toNat, by omega⟩
    rw [Int.toNat_natCast] at HR
    have hlc := ldCnt_le es noSk N
    go_enter Try.func23, Try.ntmps23
    go_wp2_with fail
    refine HSP.out.mono ?_
    rintro e w1 ⟨rfl, hb1⟩
    have hB1 := hbb.thenB (by simp) hb1
    obtain ⟨s1, p1, q1⟩ := hbox.below hb1
    have E := h.below hB1
    have zb := E.blk
    have hw1 : IntKind.i64.wrap ((m : Int) - N) = m - N := IntWalk.i64_in _ (by omega)
    have hw2 : IntKind.i64.wrap ((m : Int) - N + ldCnt es noSk N) = m - N + ldCnt es noSk N := IntWalk.i64_in _ (by omega)
    clear hb1 hbb hbox
    go_wp2_with fail
    (refine wp_region_quiet_below (by kernel_rfl) (by kernel_rfl) ?_
     repeat (any_goals (go_big_quiet_step (first | (go_at_call 55; exact Ret.rg (parts_any N b o m c es _ (E.below (below_regrown _ _ _)) hm HG.out.wf.inR (by omega) (by omega))))))
     all_goals (refine wpQuiet_nil ?_; intro wqz hqz; replace hqz := below_of_rg hqz))
    go_wp2_with fail
    go_ret2
    exact ⟨ret2 HR.out.symm HC.out.symm, hB1.andB hqz⟩
  · have HC : Hid (imC n es = 1) := by simp [Hid, imC, B_false hG]
    have HR : Hid (fdV n es = 0) := by simp [Hid, fdV, B_false hG]
    rw [B_false hG] at HSP
    clear hG hbox
    go_enter Try.func23, Try.ntmps23
    go_wp2_with fail
    refine HSP.out.mono ?_
    rintro e w1 ⟨rfl, hb1⟩
    have hB1 := hbb.thenB (by simp) hb1
    clear hb1 hbb
    go_wp2_with fail
    go_ret2
    exact ⟨ret2 HR.out.symm HC.out.symm, hB1⟩
set_option maxRecDepth 100000 in
set_option maxHeartbeats 800000 in
theorem imFlowDimension_any (n : Int) (b o m c : Nat) (es : List (Int × Int)) (w : World) (h : Eds w b o m es) (hm : m ≤ 1048576) :
    Calls Try.prog 24 #[.agg #[.int .i64 n, .slice (some ⟨b, o, none⟩) m c]] w (Ret (.tuple #[.int .i64 (fdV n es), .int .i64 (imC n es)]) w) := by
  have hbox := Box2.made w (.int .i64 n) (.slice (some ⟨b, o, none⟩) m c) 31
  have hbb := (by go_grown : Below w.heap.size w (w.alloc (.cells #[.int .i64 n, .slice (some ⟨b, o, none⟩) m c] 31)))
  have HGC := Lib.hid (graphCode_any n b o m c es true _ (h.alloc (.cells #[.int .i64 n, .slice (some ⟨b, o, none⟩) m c] 31)) hm)
  by_cases hG : IsG n es
  · have HC : Hid (imC n es = 0) := by simp [Hid, imC, B_true hG]
    have HR : Hid (fdV n es = (m : Int) - n + ldCnt es noSk n.toNat) := by simp [Hid, fdV, B_true hG, h.len]
    have HG := Lib.hid hG
    rw [show gcC n es true = 0 by simp [gcC, B_true hG]] at HGC
    clear hG
    have KC := cell_rg
    have hn2 := HG.out.wf.1
    have hn20 := HG.out.wf.2.1
    have hm30 : m ≤ 30 := by have := HG.out.wf.2.2.2.1; have := h.len; omega
    obtain ⟨N, rfl⟩ : ∃ N : Nat, n = N := ⟨n.toNat, by omega⟩
    rw [Int.toNat_natCast] at HR
    have hlc := ldCnt_le es noSk N
    have HS0 := Lib.hid (fun W hE => skS_none ▸ sides_any N b o m c 0 es W hE hm HG.out.wf (by omega))
    rw [Int.toNat_natCast] at HS0
    go_enter Try.func24, Try.ntmps24
    go_wp2_with fail
    refine HGC.out.mono ?_
    rintro e w1 ⟨rfl, hb1⟩
    have hB1 := hbb.thenB (by simp) hb1
    obtain ⟨s1, p1, q1⟩ := hbox.below hb1
    have E := h.below hB1
    have hw1 : IntKind.i64.wrap ((m : Int) - N) = m - N := IntWalk.i64_in _ (by omega)
    have hw2 : IntKind.i64.wrap ((m : Int) - N + ldCnt es noSk N) = m - N + ldCnt es noSk N := IntWalk.i64_in _ (by omega)
    clear hb1 hbb hbox
    go_wp2_with fail
    refine wp_region_facts (fun i v W => match i with
      | 0 => v = .pointer (some ⟨w.heap.size, 1, none⟩)
      | 1 => v = .slice (some ⟨b, o, none⟩) m c
      | 2 => v = .int .i64 m
      | 3 => v = .pointer (some ⟨w.heap.size, 0, none⟩)
      | 4 => v = .int .i64 N
      | 5 => v = .int .i64 (m - N)
      | 6 => v = .agg #[.int .i64 N, .slice (some ⟨b, o, none⟩) m c]
      | 7 => NewLL w1.heap.size (sdTo es noSk N N) v W
      | 8 => v = .int .i64 (ldCnt es noSk N)
      | 9 => v = .int .i64 (m - N + ldCnt es noSk N)
      | 10 => v = .int .i64 (m - N + ldCnt es noSk N)
      | _ => v = .int .i64 0) (by kernel_rfl) (by kernel_rfl) ?_ ?_ ?_
    · intro i v W W' hf hb
      match i, hf with
      | 0, hf => exact hf
      | 1, hf => exact hf
      | 2, hf => exact hf
      | 3, hf => exact hf
      | 4, hf => exact hf
      | 5, hf => exact hf
      | 6, hf => exact hf
      | 7, hf => exact NewLL.below hf hb
      | 8, hf => exact hf
      | 9, hf => exact hf
      | 10, hf => exact hf
      | (i + 11), hf => exact hf
    · refine ⟨?_, ?_, ?_, ?_, ?_, ?_, ?_, ?_, ?_, ?_, ?_, ?_, trivial⟩
      · intro a W hW hs hd
        have e1 : a.tmps[1]?.getD undef = .pointer (some ⟨w.heap.size, 0, none⟩) := hs 1 (by kernel_rfl)
        have k0 := (hW.cell (p := ⟨w.heap.size, 0, none⟩) (s1)).trans (p1)
        have k1 := (hW.cell (p := ⟨w.heap.size, 1, none⟩) (s1)).trans (q1)
        clear hs hd
        unfold Grows
        go_simp
        exact Below.refl _ _
      · intro a W hW hs hd
        have e10 : (a.tmps[10]?.getD undef) = .pointer (some ⟨w.heap.size, 1, none⟩) := hd 0 10 (by kernel_rfl) (by kernel_rfl)
        have k0 := (hW.cell (p := ⟨w.heap.size, 0, none⟩) (s1)).trans (p1)
        have k1 := (hW.cell (p := ⟨w.heap.size, 1, none⟩) (s1)).trans (q1)
        clear hs hd
        unfold Grows
        go_simp
        exact Below.refl _ _
      · intro a W hW hs hd
        have e11 : (a.tmps[11]?.getD undef) = .slice (some ⟨b, o, none⟩) m c := hd 1 11 (by kernel_rfl) (by kernel_rfl)
        clear hs hd
        unfold Grows
        go_simp
        refine ⟨Below.refl _ _, (Is.ret (lengthE_any _ _ _ _ (by omega))).mono ?_⟩
        rintro e w6 ⟨rfl, hb6⟩
        exact ⟨_, rfl, hb6, rfl⟩
      · intro a W hW hs hd
        have e1 : a.tmps[1]?.getD undef = .pointer (some ⟨w.heap.size, 0, none⟩) := hs 1 (by kernel_rfl)
        have k0 := (hW.cell (p := ⟨w.heap.size, 0, none⟩) (s1)).trans (p1)
        have k1 := (hW.cell (p := ⟨w.heap.size, 1, none⟩) (s1)).trans (q1)
        clear hs hd
        unfold Grows
        go_simp
        exact Below.refl _ _
      · intro a W hW hs hd
        have e13 : (a.tmps[13]?.getD undef) = .pointer (some ⟨w.heap.size, 0, none⟩) := hd 3 13 (by kernel_rfl) (by kernel_rfl)
        have k0 := (hW.cell (p := ⟨w.heap.size, 0, none⟩) (s1)).trans (p1)
        have k1 := (hW.cell (p := ⟨w.heap.size, 1, none⟩) (s1)).trans (q1)
        clear hs hd
        unfold Grows
        go_simp
        exact Below.refl _ _
      · intro a W hW hs hd
        have e12 : (a.tmps[12]?.getD undef) = .int .i64 m := hd 2 12 (by kernel_rfl) (by kernel_rfl)
        have e14 : (a.tmps[14]?.getD undef) = .int .i64 N := hd 4 14 (by kernel_rfl) (by kernel_rfl)
        clear hs hd
        unfold Grows
        go_simp
        exact Below.refl _ _
      · intro a W hW hs hd
        have e1 : a.tmps[1]?.getD undef = .pointer (some ⟨w.heap.size, 0, none⟩) := hs 1 (by kernel_rfl)
        have k0 := (hW.cell (p := ⟨w.heap.size, 0, none⟩) (s1)).trans (p1)
        have k1 := (hW.cell (p := ⟨w.heap.size, 1, none⟩) (s1)).trans (q1)
        clear hs hd
        unfold Grows
        go_simp
        exact Below.refl _ _
      · intro a W hW hs hd
        have e16 : (a.tmps[16]?.getD undef) = .agg #[.int .i64 N, .slice (some ⟨b, o, none⟩) m c] := hd 6 16 (by kernel_rfl) (by kernel_rfl)
        clear hs hd
        unfold Grows
        go_simp
        refine ⟨Below.refl _ _, (HS0.out W (E.below hW)).mono ?_⟩
        rintro e w6 ⟨A6, c6, rfl, ho6, hb6⟩
        exact ⟨_, rfl, hb6, A6, c6, rfl, _, ho6.mono (hW.size)⟩
      · intro a W hW hs hd
        have e17 : NewLL w1.heap.size (sdTo es noSk N N) (a.tmps[17]?.getD undef) W := hd 7 17 (by kernel_rfl) (by kernel_rfl)
        obtain ⟨A17, c17, e17, T17, O17⟩ := e17
        rw [sdTo_len] at e17
        clear hs hd
        unfold Grows
        go_simp
        refine ⟨Below.refl _ _, (Is.ret (lengthLL_any _ _ _ _)).mono ?_⟩
        rintro e w6 ⟨rfl, hb6⟩
        exact ⟨_, rfl, hb6, rfl⟩
      · intro a W hW hs hd
        have e15 : (a.tmps[15]?.getD undef) = .int .i64 (m - N) := hd 5 15 (by kernel_rfl) (by kernel_rfl)
        have e18 : (a.tmps[18]?.getD undef) = .int .i64 (ldCnt es noSk N) := hd 8 18 (by kernel_rfl) (by kernel_rfl)
        clear hs hd
        unfold Grows
        go_simp
        exact Below.refl _ _
      · intro a W hW hs hd
        have e19 : (a.tmps[19]?.getD undef) = .int .i64 (m - N + ldCnt es noSk N) := hd 9 19 (by kernel_rfl) (by kernel_rfl)
        clear hs hd
        unfold Grows
        go_simp
        exact Below.refl _ _
      · intro a W hW hs hd
        clear hs hd
        unfold Grows
        go_simp
        exact Below.refl _ _
    intro vs W hW hf
    have f2 : vs 2 = .int .i64 (m - N + ldCnt es noSk N) := hf 10 2 (by kernel_rfl)
    have f3 : vs 3 = .int .i64 0 := hf 11 3 (by kernel_rfl)
    simp only [dsts, List.filterMap_cons, List.filterMap_nil, List.foldl_cons, List.foldl_nil, Act.put, List.setIfInBounds_toArray, List.set_cons_succ, List.set_cons_zero, f2, f3]
    clear hf
    go_wp2_with fail
    go_ret2
    exact ⟨ret2 HR.out.symm HC.out.symm, hB1.andB hW⟩
  · have HC : Hid (imC n es = 1) := by simp [Hid, imC, B_false hG]
    have HR : Hid (fdV n es = 0) := by simp [Hid, fdV, B_false hG]
    rw [show gcC n es true = 1 by simp [gcC, B_false hG]] at HGC
    clear hG hbox
    go_enter Try.func24, Try.ntmps24
    go_wp2_with fail
    refine HGC.out.mono ?_
    rintro e w1 ⟨rfl, hb1⟩
    have hB1 := hbb.thenB (by simp) hb1
    clear hb1 hbb
    go_wp2_with fail
    go_ret2
    exact ⟨ret2 HR.out.symm HC.out.symm, hB1⟩
end Go.Proofs.Ytjdhibcijjnopaa
