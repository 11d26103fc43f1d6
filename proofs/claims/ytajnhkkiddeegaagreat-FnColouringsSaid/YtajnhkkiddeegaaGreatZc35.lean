import Derived.Test.YtajnhkkiddeegaaGreatZc33
import Derived.Test.YtajnhkkiddeegaaGreatZc34
set_option linter.unusedVariables false
set_option linter.unusedSimpArgs false
namespace Go.Proofs.YtajnhkkiddeegaaGreat
open Go.RowKit Go.Sort
def MadeI (base m : Nat) (v : Value) (W : World) : Prop := ∃ g, v = .slice (some ⟨g, 0, none⟩) m m ∧ base ≤ g ∧ Ints W g 0 m (fun _ => 0)
theorem MadeI.below {base m : Nat} {v : Value} {W W' : World} (h : MadeI base m v W) (hb : Below W.heap.size W W') : MadeI base m v W' := let ⟨g, e, hg, I⟩ := h; ⟨g, e, hg, I.below hb⟩
theorem MadeI.made {base m : Nat} (W : World) (h : base ≤ W.heap.size) : Below W.heap.size W (W.alloc (.cells (madeCells #[.int .i64 0] m) 2)) ∧ MadeI base m (.slice (some ⟨W.heap.size, 0, none⟩) m m) (W.alloc (.cells (madeCells #[.int .i64 0] m) 2)) := by
  have R := World.rowIs_made W (.int .i64 0) m 2
  exact ⟨(Below.refl _ _).alloc (Nat.le_refl _) _, _, rfl, h, R.lt, fun j hj => by rw [Nat.zero_add]; exact R.cell hj⟩
noncomputable def ccV (n : Int) (es : List (Int × Int)) : Int := if B (IsG n es) then W64 (ccN es n.toNat) else 0
set_option maxHeartbeats 1000000 in
theorem imCountColourings_any (n : Int) (b o m c : Nat) (es : List (Int × Int)) (w : World) (h : Eds w b o m es) (hm : m ≤ 1048576) :
    Calls Tryz.prog 11 #[.agg #[.int .i64 n, .slice (some ⟨b, o, none⟩) m c]] w (Ret (.tuple #[.int .i64 (ccV n es), .int .i64 (imC n es)]) w) := by
  have hbox := Box2.made w (.int .i64 n) (.slice (some ⟨b, o, none⟩) m c) 26
  have hbb := (by go_grown : Below w.heap.size w (w.alloc (.cells #[.int .i64 n, .slice (some ⟨b, o, none⟩) m c] 26)))
  have HGC := Lib.hid (graphCode_any n b o m c es true _ (h.alloc (.cells #[.int .i64 n, .slice (some ⟨b, o, none⟩) m c] 26)) hm)
  have hl := h.len
  by_cases hG : IsG n es
  · have HC : Hid (imC n es = 0) := by simp [Hid, imC, B_true hG]
    have HR : Hid (ccV n es = W64 (ccN es n.toNat)) := by simp [Hid, ccV, B_true hG]
    have HG := Lib.hid hG
    rw [show gcC n es true = 0 by simp [gcC, B_true hG]] at HGC
    have hn2 := hG.wf.1
    clear hG
    obtain ⟨N, rfl⟩ : ∃ N : Nat, n = N := ⟨n.toNat, by omega⟩
    rw [Int.toNat_natCast] at HR
    go_enter Tryz.func11, Tryz.ntmps11
    go_wp2_with fail
    refine HGC.out.mono ?_
    rintro e w1 ⟨rfl, hb1⟩
    have hB1 := hbb.thenB (by simp) hb1
    obtain ⟨s1, p1, q1⟩ := hbox.below hb1
    have hcc := countCol_any N b o m c es w1 (h.below hB1) hm HG.out
    rw [show prI es (fun j => inTo es (ra (sdTo es noSk N N) j) m) (sdTo es noSk N N).length = ccN es N by
      have hlen : (sdTo es noSk N N).length = (LV es N).length := by rw [sd_LV]; simp
      rw [hlen, ← imp_prod HG.out, ← hl]; rfl] at hcc
    have HCW := Lib.hid hcc
    clear hb1 hbb hbox hcc hl
    go_wp2_with fail
    refine HCW.out.mono ?_
    rintro e w2 ⟨rfl, hb2⟩
    have hB2 := hB1.andB hb2
    go_wp2_with fail
    go_ret2
    exact ⟨ret2 HR.out.symm HC.out.symm, hB2⟩
  · have HC : Hid (imC n es = 1) := by simp [Hid, imC, B_false hG]
    have HR : Hid (ccV n es = 0) := by simp [Hid, ccV, B_false hG]
    rw [show gcC n es true = 1 by simp [gcC, B_false hG]] at HGC
    clear hG hbox hl
    go_enter Tryz.func11, Tryz.ntmps11
    go_wp2_with fail
    refine HGC.out.mono ?_
    rintro e w1 ⟨rfl, hb1⟩
    have hB1 := hbb.thenB (by simp) hb1
    clear hb1 hbb
    go_wp2_with fail
    go_ret2
    exact ⟨ret2 HR.out.symm HC.out.symm, hB1⟩
set_option maxRecDepth 100000 in
set_option maxHeartbeats 2000000 in
theorem spCountColourings_any (n : Int) (b o m c : Nat) (es : List (Int × Int)) (w : World) (h : Eds w b o m es) (hm : m ≤ 1048576) :
    Calls Tryz.prog 12 #[.agg #[.int .i64 n, .slice (some ⟨b, o, none⟩) m c]] w (Ret (.tuple #[.int .i64 (ccV n es), .int .i64 (imC n es)]) w) := by
  have hbox := Box2.made w (.int .i64 n) (.slice (some ⟨b, o, none⟩) m c) 26
  have hbb := (by go_grown : Below w.heap.size w (w.alloc (.cells #[.int .i64 n, .slice (some ⟨b, o, none⟩) m c] 26)))
  have HSP := Lib.hid (l01Is_any n b o m c es _ (h.alloc (.cells #[.int .i64 n, .slice (some ⟨b, o, none⟩) m c] 26)) hm)
  have hl := h.len
  by_cases hG : IsG n es
  · have HC : Hid (imC n es = 0) := by simp [Hid, imC, B_true hG]
    have HR : Hid (ccV n es = W64 (ccN es n.toNat)) := by simp [Hid, ccV, B_true hG]
    have HG := Lib.hid hG
    rw [B_true hG] at HSP
    have hn2 := hG.wf.1
    have hm30 : m ≤ 30 := by have := hG.wf.2.2.2.1; have := hG.wf.2.1; omega
    clear hG
    obtain ⟨N, rfl⟩ : ∃ N : Nat, n = N := ⟨n.toNat, by omega⟩
    rw [Int.toNat_natCast] at HR
    obtain ⟨RN, hRN⟩ : ∃ RN, RN = rowsN es := ⟨_, rfl⟩
    have HRV : Hid (prJ (fun j => hS es (RN.getD j [])) RN.length = ccN es N) := by show _ = _; rw [hRN]; exact spec_prod HG.out
    have HPT : Hid ((ptS es m).2 = RN.map natL) := by show _ = _; rw [← hl, hRN]; exact pt_rows HG.out.wf
    have HRL : Hid (∀ j, j < RN.length → (∀ d, d ∈ RN.getD j [] → d < m) ∧ 0 < (RN.getD j []).length ∧ (RN.getD j []).length ≤ m) := fun j hj => by
      have hmem : RN.getD j [] ∈ RN := by simp [hj]
      rw [hRN] at hmem
      obtain ⟨e, he, heq⟩ := List.mem_map.1 hmem
      rw [← hRN] at heq
      have hel := List.mem_range.1 (List.mem_filter.1 he).1
      rw [← heq, ← hl]
      refine ⟨fun d hd => (mem_clsV.1 hd).1, List.length_pos_of_mem (mem_clsV.2 ⟨hel, rfl⟩), ?_⟩
      unfold clsV
      have := List.length_filter_le (fun d => decide (ldE es d = ldE es e)) (List.range es.length)
      simpa using this
    have hrn : RN.length ≤ m := by
      rw [hRN, rowsN, List.length_map, ← hl]
      have := List.length_filter_le (isF es) (List.range es.length)
      simpa using this
    have HPA := Lib.hid (fun W hE => l02Parts_any N b o m c es W hE hm HG.out)
    rw [HPT.out] at HPA
    have HPLn : Hid ((RN.map natL).length = RN.length) := by simp [Hid]
    have HRA : Hid (∀ j, j < RN.length → ra (RN.map natL) j = natL (RN.getD j [])) := fun j hj => by simp [ra, hj]
    have hmk := run_make_row' (P := Tryz.prog) 34 2 (.int .i64 0) 8 Tryz.underlying34 inf2 rfl .i64 .i64 m (by omega) (by omega)
    have HEL := Lib.hid hl
    have h1w : W64 1 = 1 := rfl
    clear hRN hl
    go_enter Tryz.func12, Tryz.ntmps12
    go_wp2_with fail
    refine HSP.out.mono ?_
    rintro e w1 ⟨rfl, hb1⟩
    have hB1 := hbb.thenB (by simp) hb1
    obtain ⟨s1, p1, q1⟩ := hbox.below hb1
    have E1 := h.below hB1
    clear hb1 hbb hbox
    go_wp2_with fail
    refine (HPA.out _ E1).mono ?_
    rintro e w2 ⟨A, c0, rfl, O, hb2⟩
    rw [HPLn.out] at O ⊢
    obtain ⟨n0, hn0⟩ : ∃ n0, n0 = RN.length := ⟨_, rfl⟩
    rw [← hn0] at O ⊢
    have HN0 := Lib.hid hn0
    have hn0m : n0 ≤ m := by omega
    have hB2 := hB1.andB hb2
    have p2 := (hb2.cell (p := ⟨w.heap.size, 0, none⟩) s1).trans p1
    have q2 := (hb2.cell (p := ⟨w.heap.size, 1, none⟩) s1).trans q1
    have s2 := Nat.lt_of_lt_of_le s1 hb2.size
    clear hb2 p1 q1 s1 hn0
    go_wp2_with fail
    go_loopw [5, 6] (fun av iv wv => ∃ j : Nat, j ≤ n0 ∧ iv = .int .i64 j ∧ av = .int .i64 (W64 (prJ (fun j => hS es (RN.getD j [])) j)) ∧ Below w2.heap.size w2 wv) (fun _ j _ => n0 - (intOf j).toNat)
    case atStart => exact ⟨0, Nat.zero_le _, rfl, rfl, Below.refl _ _⟩
    case round =>
      obtain ⟨j, hj, rfl, rfl, hbr⟩ := hrel
      obtain ⟨w4, rfl⟩ : ∃ w4, w4 = wr := ⟨wr, rfl⟩
      by_cases hlt : j < n0
      · have O4 := O.below hbr
        have hjl : j < RN.length := by rw [← HN0.out]; exact hlt
        obtain ⟨g, Aj, cj, rfl, hg, zg, rc, OJ⟩ := O4.at hlt
        rw [HRA.out j hjl, natL_len] at rc OJ
        obtain ⟨Lr, hLr⟩ : ∃ Lr, Lr = RN.getD j [] := ⟨_, rfl⟩
        have hrl := HRL.out j hjl
        rw [← hLr] at rc OJ hrl
        obtain ⟨P, hP⟩ : ∃ P, P = prJ (fun j => hS es (RN.getD j [])) j := ⟨_, rfl⟩
        have HPR : Hid (prJ (fun j => hS es (RN.getD j [])) (j + 1) = P * 6 * cntS es (gN es (ea es (Lr.getD 0 0))) Lr (fun _ => 0)) := by
          show _ = _; rw [prJ, ← hP, ← hLr, hS, Nat.mul_assoc]
        rw [← hP]
        obtain ⟨gj, oj, rfl, IJ⟩ := OJ.src hrl.2.1
        have IP : Ints w4 gj oj Lr.length (fun i => ((Lr.getD i 0 : Nat) : Int)) := ⟨IJ.blk, fun i hi => by rw [IJ.c i hi, natL_at]⟩
        have hm6 : IntKind.i64.wrap (W64 P * 6) = W64 (P * 6) := by
          have := W64_mul P 6
          rwa [show W64 6 = 6 from rfl] at this
        have p4 := (hbr.cell (p := ⟨w.heap.size, 0, none⟩) s2).trans p2
        have q4 := (hbr.cell (p := ⟨w.heap.size, 1, none⟩) s2).trans q2
        have s4 := Nat.lt_of_lt_of_le s2 hbr.size
        have E4 := h.below (hB2.andB hbr)
        have HRC : Hid (∀ g5 W, Below w4.heap.size w4 W → Ints W g5 0 m (fun _ => 0) → Calls Tryz.prog 63 #[.agg #[.int .i64 N, .slice (some ⟨b, o, none⟩) m c], .slice (some ⟨gj, oj, none⟩) Lr.length cj, .slice (some ⟨g5, 0, none⟩) m m, .int .i64 0] W (Ret (.int .i64 (W64 (cntS es (gN es (ea es (Lr.getD 0 0))) Lr (fun _ => 0)))) W)) := fun g5 W hW I5 => by
          have := l02Count_any N b o m c gj oj cj es Lr hm HG.out HEL.out hrl.1 hrl.2.1 (by omega) (Lr.length + 1) 0 g5 0 m (fun _ => 0) W (by omega) (Nat.zero_le _) (E4.below hW) (IP.below hW) I5
          rw [List.drop_zero] at this
          have hle := cntS_le es (gN es (ea es (Lr.getD 0 0))) Lr (fun _ => 0)
          have hp30 : (3 : Nat) ^ Lr.length ≤ 205891132094649 := Nat.le_trans (Nat.pow_le_pow_right (by decide) (by omega : _ ≤ 30)) (by decide)
          rw [W64_small (by omega)]
          exact this
        obtain ⟨X, hX⟩ : ∃ X, X = cntS es (gN es (ea es (Lr.getD 0 0))) Lr (fun _ => 0) := ⟨_, rfl⟩
        rw [← hX] at HRC HPR
        have hmul := W64_mul (P * 6) X
        clear hP hLr OJ IJ O4 hX hrl E4 IP
        go_wp2_with fail
        refine wp_region_then 12 (fun i9 v W => match i9 with
          | 0 => v = .int .i64 (W64 P)
          | 1 => v = .int .i64 (W64 (P * 6))
          | 2 => v = .agg #[.int .i64 N, .slice (some ⟨b, o, none⟩) m c]
          | 3 => v = .slice (some ⟨g, 0, none⟩) n0 c0
          | 4 => v = .int .i64 j
          | 5 => v = .pointer (some ⟨g, j, none⟩)
          | 6 => v = .slice (some ⟨gj, oj, none⟩) Lr.length cj
          | 7 => v = .pointer (some ⟨w.heap.size, 1, none⟩)
          | 8 => v = .slice (some ⟨b, o, none⟩) m c
          | 9 => v = .int .i64 m
          | 10 => MadeI w4.heap.size m v W
          | _ => v = .int .i64 (W64 X))
          (fun i => match i with
          | _ => none)
          (fun k W W' => Below W.heap.size W W')  (fun W => Below w4.heap.size w4 W) (by kernel_rfl) (by kernel_rfl) ?_ ?_ ?_ ?_ ?_
        · exact (Below.refl _ _).drew
        · intro i k v W W' hne hd hC hf hE
          match i, hf with
          | 0, hf => exact hf
          | 1, hf => exact hf
          | 2, hf => exact hf
          | 3, hf => exact hf
          | 4, hf => exact hf
          | 5, hf => exact hf
          | 6, hf => exact hf
          | 7, hf => exact hf
          | 8, hf => exact hf
          | 9, hf => exact hf
          | 10, hf => exact MadeI.below hf hE
          | _ + 11, hf => exact hf
        · intro k W W' hC hE
          exact Below.andB hC hE
        · simp only [List.take_succ_cons, List.take_zero]
          refine ⟨?_, ?_, ?_, ?_, ?_, ?_, ?_, ?_, ?_, ?_, ?_, ?_, trivial⟩
          · intro a W hC hs hd
            have hW : Below w4.heap.size w4 W := hC
            have e5 : a.tmps[5]?.getD undef = .int .i64 (W64 P) := hs 5 (by kernel_rfl)
            refine growsG_none (E := fun W W' => Below W.heap.size W W') rfl ?_
            clear hs hd
            unfold GrowsE
            go_simp
            exact Below.refl _ _
          · intro a W hC hs hd
            have hW : Below w4.heap.size w4 W := hC
            have e18 : (a.tmps[18]?.getD undef) = .int .i64 (W64 P) := hd 0 18 (by kernel_rfl) (by kernel_rfl) (by kernel_rfl)
            refine growsG_none (E := fun W W' => Below W.heap.size W W') rfl ?_
            clear hs hd
            unfold GrowsE
            go_simp
            first | exact Below.refl _ _ | exact ⟨Below.refl _ _, hm6⟩
          · intro a W hC hs hd
            have hW : Below w4.heap.size w4 W := hC
            have e1 : a.tmps[1]?.getD undef = .pointer (some ⟨w.heap.size, 0, none⟩) := hs 1 (by kernel_rfl)
            refine growsG_none (E := fun W W' => Below W.heap.size W W') rfl ?_
            have k0 := (hW.cell (p := ⟨w.heap.size, 0, none⟩) (s4)).trans (p4)
            have k1 := (hW.cell (p := ⟨w.heap.size, 1, none⟩) (s4)).trans (q4)
            have k2 := (hW.cell (p := ⟨g, j, none⟩) (zg)).trans (rc)
            clear hs hd
            unfold GrowsE
            go_simp
            exact Below.refl _ _
          · intro a W hC hs hd
            have hW : Below w4.heap.size w4 W := hC
            have e4 : a.tmps[4]?.getD undef = .slice (some ⟨g, 0, none⟩) n0 c0 := hs 4 (by kernel_rfl)
            refine growsG_none (E := fun W W' => Below W.heap.size W W') rfl ?_
            clear hs hd
            unfold GrowsE
            go_simp
            exact Below.refl _ _
          · intro a W hC hs hd
            have hW : Below w4.heap.size w4 W := hC
            have e6 : a.tmps[6]?.getD undef = .int .i64 j := hs 6 (by kernel_rfl)
            refine growsG_none (E := fun W W' => Below W.heap.size W W') rfl ?_
            clear hs hd
            unfold GrowsE
            go_simp
            exact Below.refl _ _
          · intro a W hC hs hd
            have hW : Below w4.heap.size w4 W := hC
            have e21 : (a.tmps[21]?.getD undef) = .slice (some ⟨g, 0, none⟩) n0 c0 := hd 3 21 (by kernel_rfl) (by kernel_rfl) (by kernel_rfl)
            have e22 : (a.tmps[22]?.getD undef) = .int .i64 j := hd 4 22 (by kernel_rfl) (by kernel_rfl) (by kernel_rfl)
            refine growsG_none (E := fun W W' => Below W.heap.size W W') rfl ?_
            have k0 := (hW.cell (p := ⟨w.heap.size, 0, none⟩) (s4)).trans (p4)
            have k1 := (hW.cell (p := ⟨w.heap.size, 1, none⟩) (s4)).trans (q4)
            have k2 := (hW.cell (p := ⟨g, j, none⟩) (zg)).trans (rc)
            clear hs hd
            unfold GrowsE
            go_simp
            exact Below.refl _ _
          · intro a W hC hs hd
            have hW : Below w4.heap.size w4 W := hC
            have e23 : (a.tmps[23]?.getD undef) = .pointer (some ⟨g, j, none⟩) := hd 5 23 (by kernel_rfl) (by kernel_rfl) (by kernel_rfl)
            refine growsG_none (E := fun W W' => Below W.heap.size W W') rfl ?_
            have k0 := (hW.cell (p := ⟨w.heap.size, 0, none⟩) (s4)).trans (p4)
            have k1 := (hW.cell (p := ⟨w.heap.size, 1, none⟩) (s4)).trans (q4)
            have k2 := (hW.cell (p := ⟨g, j, none⟩) (zg)).trans (rc)
            clear hs hd
            unfold GrowsE
            go_simp
            exact Below.refl _ _
          · intro a W hC hs hd
            have hW : Below w4.heap.size w4 W := hC
            have e1 : a.tmps[1]?.getD undef = .pointer (some ⟨w.heap.size, 0, none⟩) := hs 1 (by kernel_rfl)
            refine growsG_none (E := fun W W' => Below W.heap.size W W') rfl ?_
            have k0 := (hW.cell (p := ⟨w.heap.size, 0, none⟩) (s4)).trans (p4)
            have k1 := (hW.cell (p := ⟨w.heap.size, 1, none⟩) (s4)).trans (q4)
            have k2 := (hW.cell (p := ⟨g, j, none⟩) (zg)).trans (rc)
            clear hs hd
            unfold GrowsE
            go_simp
            exact Below.refl _ _
          · intro a W hC hs hd
            have hW : Below w4.heap.size w4 W := hC
            have e25 : (a.tmps[25]?.getD undef) = .pointer (some ⟨w.heap.size, 1, none⟩) := hd 7 25 (by kernel_rfl) (by kernel_rfl) (by kernel_rfl)
            refine growsG_none (E := fun W W' => Below W.heap.size W W') rfl ?_
            have k0 := (hW.cell (p := ⟨w.heap.size, 0, none⟩) (s4)).trans (p4)
            have k1 := (hW.cell (p := ⟨w.heap.size, 1, none⟩) (s4)).trans (q4)
            have k2 := (hW.cell (p := ⟨g, j, none⟩) (zg)).trans (rc)
            clear hs hd
            unfold GrowsE
            go_simp
            exact Below.refl _ _
          · intro a W hC hs hd
            have hW : Below w4.heap.size w4 W := hC
            have e26 : (a.tmps[26]?.getD undef) = .slice (some ⟨b, o, none⟩) m c := hd 8 26 (by kernel_rfl) (by kernel_rfl) (by kernel_rfl)
            refine growsG_none (E := fun W W' => Below W.heap.size W W') rfl ?_
            clear hs hd
            unfold GrowsE
            go_simp
            exact Below.refl _ _
          · intro a W hC hs hd
            have hW : Below w4.heap.size w4 W := hC
            have e27 : (a.tmps[27]?.getD undef) = .int .i64 m := hd 9 27 (by kernel_rfl) (by kernel_rfl) (by kernel_rfl)
            refine growsG_none (E := fun W W' => Below W.heap.size W W') rfl ?_
            clear hs hd
            unfold GrowsE
            go_simp
            exact MadeI.made W hW.size
          · intro a W hC hs hd
            have hW : Below w4.heap.size w4 W := hC
            have e20 : (a.tmps[20]?.getD undef) = .agg #[.int .i64 N, .slice (some ⟨b, o, none⟩) m c] := hd 2 20 (by kernel_rfl) (by kernel_rfl) (by kernel_rfl)
            have e24 : (a.tmps[24]?.getD undef) = .slice (some ⟨gj, oj, none⟩) Lr.length cj := hd 6 24 (by kernel_rfl) (by kernel_rfl) (by kernel_rfl)
            have e28 : MadeI w4.heap.size m (a.tmps[28]?.getD undef) W := hd 10 28 (by kernel_rfl) (by kernel_rfl) (by kernel_rfl)
            obtain ⟨g28, e28, hg28, I28⟩ := e28
            refine growsG_none (E := fun W W' => Below W.heap.size W W') rfl ?_
            clear hs hd
            unfold GrowsE
            go_simp
            refine ⟨Below.refl _ _, (HRC.out g28 W hW I28).mono ?_⟩
            rintro e w6 ⟨rfl, hb6⟩
            exact ⟨_, rfl, hb6, rfl⟩
        intro vs W hW hf
        have f18 : (vs 18) = .int .i64 (W64 P) := hf 0 18 (by decide) (by kernel_rfl) (fun _ hk => by cases hk)
        have f19 : (vs 19) = .int .i64 (W64 (P * 6)) := hf 1 19 (by decide) (by kernel_rfl) (fun _ hk => by cases hk)
        have f20 : (vs 20) = .agg #[.int .i64 N, .slice (some ⟨b, o, none⟩) m c] := hf 2 20 (by decide) (by kernel_rfl) (fun _ hk => by cases hk)
        have f21 : (vs 21) = .slice (some ⟨g, 0, none⟩) n0 c0 := hf 3 21 (by decide) (by kernel_rfl) (fun _ hk => by cases hk)
        have f22 : (vs 22) = .int .i64 j := hf 4 22 (by decide) (by kernel_rfl) (fun _ hk => by cases hk)
        have f23 : (vs 23) = .pointer (some ⟨g, j, none⟩) := hf 5 23 (by decide) (by kernel_rfl) (fun _ hk => by cases hk)
        have f24 : (vs 24) = .slice (some ⟨gj, oj, none⟩) Lr.length cj := hf 6 24 (by decide) (by kernel_rfl) (fun _ hk => by cases hk)
        have f25 : (vs 25) = .pointer (some ⟨w.heap.size, 1, none⟩) := hf 7 25 (by decide) (by kernel_rfl) (fun _ hk => by cases hk)
        have f26 : (vs 26) = .slice (some ⟨b, o, none⟩) m c := hf 8 26 (by decide) (by kernel_rfl) (fun _ hk => by cases hk)
        have f27 : (vs 27) = .int .i64 m := hf 9 27 (by decide) (by kernel_rfl) (fun _ hk => by cases hk)
        have f28 : MadeI w4.heap.size m (vs 28) W := hf 10 28 (by decide) (by kernel_rfl) (fun _ hk => by cases hk)
        obtain ⟨g28, f28, hg28, I28⟩ := f28
        have f29 : (vs 29) = .int .i64 (W64 X) := hf 11 29 (by decide) (by kernel_rfl) (fun _ hk => by cases hk)
        simp only [dsts, List.take_succ_cons, List.take_zero, List.drop_succ_cons, List.drop_zero, List.filterMap_cons, List.filterMap_nil, List.foldl_cons, List.foldl_nil, Act.put, List.setIfInBounds_toArray, List.set_cons_succ, List.set_cons_zero, f18, f19, f20, f21, f22, f23, f24, f25, f26, f27, f28, f29]
        clear hf
        have hW : Below w4.heap.size w4 W := hW
        have hbF := hbr.andB hW
        clear hW p4 q4 s4 zg rc
        go_wp2_with fail
        go_roundw
        case rel => exact ⟨j + 1, by omega, by go_num, by rw [HPR.out], hbF⟩
        case measure => simp [intOf]; omega
      · obtain rfl : j = n0 := by omega
        have HE : Hid (W64 (prJ (fun j => hS es (RN.getD j [])) j) = W64 (ccN es N)) := by show _ = _; rw [← HRV.out, HN0.out]
        have hbF := hB2.andB hbr
        rw [HE.out]
        go_wp2_with fail
        go_ret2
        exact ⟨ret2 HR.out.symm HC.out.symm, hbF⟩
  · have HC : Hid (imC n es = 1) := by simp [Hid, imC, B_false hG]
    have HR : Hid (ccV n es = 0) := by simp [Hid, ccV, B_false hG]
    rw [B_false hG] at HSP
    clear hG hbox hl
    go_enter Tryz.func12, Tryz.ntmps12
    go_wp2_with fail
    refine HSP.out.mono ?_
    rintro e w1 ⟨rfl, hb1⟩
    have hB1 := hbb.thenB (by simp) hb1
    clear hb1 hbb
    go_wp2_with fail
    go_ret2
    exact ⟨ret2 HR.out.symm HC.out.symm, hB1⟩
end Go.Proofs.YtajnhkkiddeegaaGreat
namespace Go.Proofs.YtajnhkkiddeegaaGreat
open Go.RowKit Go.Sort
theorem okP_offC {es : List (Int × Int)} {k : Int} {g : Nat → Int} {e : Nat} {x : Int} (he : e ∉ clsV es k) : okP es noG (clsV es k) (upF g e x) = okP es noG (clsV es k) g :=
  okP_congr fun d hd => upF_other (fun hh => he (hh ▸ hd))
theorem clsN_nodup {es : List (Int × Int)} : ∀ {ks : List Int}, ks.Nodup → (ks.flatMap (clsV es)).Nodup := by
  intro ks
  induction ks with
  | nil => intro _; exact List.nodup_nil
  | cons k ks ih =>
    intro h
    have h' := List.nodup_cons.1 h
    rw [List.flatMap_cons, List.nodup_append]
    refine ⟨(clsV_asc es k).imp fun h => by omega, ih h'.2, fun a ha b hb hab => ?_⟩
    subst hab
    obtain ⟨k', hk', hb⟩ := List.mem_flatMap.1 hb
    have h1 := (mem_clsV.1 ha).2
    have h2 := (mem_clsV.1 hb).2
    exact h'.1 (by rw [← h1, h2]; exact hk')
theorem cntC_parts {es : List (Int × Int)} (f : Nat → Int) : ∀ {ks : List Int}, ks.Nodup → cntG col3 (fun g => ks.all fun k => okP es noG (clsV es k) g) (ks.flatMap (clsV es)) f = prodL (ks.map fun k => cntG col3 (okP es noG (clsV es k)) (clsV es k) f) := by
  intro ks
  induction ks with
  | nil => intro _; rfl
  | cons k ks ih =>
    intro h
    have h' := List.nodup_cons.1 h
    have hnd := clsN_nodup (es := es) h
    rw [List.flatMap_cons] at hnd ⊢
    show cntG col3 (fun g => okP es noG (clsV es k) g && ks.all fun k => okP es noG (clsV es k) g) (clsV es k ++ ks.flatMap (clsV es)) f = cntG col3 (okP es noG (clsV es k)) (clsV es k) f * prodL (ks.map fun k => cntG col3 (okP es noG (clsV es k)) (clsV es k) f)
    rw [← ih h'.2]
    have hdis : ∀ e, e ∈ clsV es k → ∀ k', k' ∈ ks → e ∉ clsV es k' := fun e he k' hk' he' => h'.1 (by rw [← (mem_clsV.1 he).2, (mem_clsV.1 he').2]; exact hk')
    refine cnt_mul (P := okP es noG (clsV es k)) (Q := fun g => ks.all fun k => okP es noG (clsV es k) g) (clsV es k) (ks.flatMap (clsV es)) f hnd (fun g e x he => ?_) (fun g e x he => ?_)
    · obtain ⟨k', hk', he'⟩ := List.mem_flatMap.1 he
      exact okP_offC fun hh => hdis e hh k' hk' he'
    · show ks.all (fun k => okP es noG (clsV es k) (upF g e x)) = ks.all fun k => okP es noG (clsV es k) g
      rw [Bool.eq_iff_iff, List.all_eq_true, List.all_eq_true]
      exact ⟨fun hh k' hk' => by rw [← hh k' hk', okP_offC (hdis e he k' hk')], fun hh k' hk' => by rw [okP_offC (hdis e he k' hk')]; exact hh k' hk'⟩
theorem okP_cls {N : Nat} {es : List (Int × Int)} (hn : WfP N es) {ks : List Int} (hks : ∀ d, d < es.length → ldE es d ∈ ks) (g : Nat → Int) :
    okP es noG (List.range es.length) g = ks.all (fun k => okP es noG (clsV es k) g) := by
  rw [Bool.eq_iff_iff, List.all_eq_true, okP_noG]
  constructor
  · intro h k _
    rw [okP_noG]
    exact fun d e hd he => h d e (List.mem_range.2 (mem_clsV.1 hd).1) (List.mem_range.2 (mem_clsV.1 he).1)
  · intro h d e hd he ha
    have hd := List.mem_range.1 hd
    have he := List.mem_range.1 he
    exact okP_noG.1 (h _ (hks d hd)) d e (mem_clsV.2 ⟨hd, rfl⟩) (mem_clsV.2 ⟨he, (lead_adj hn hd he ha).symm⟩) ha
theorem ccN_all {N : Nat} {es : List (Int × Int)} (hG : IsG N es) : ccN es N = 6 * (allC es (ia [])).length := by
  have hn := hG.wf
  have h1 : (allC es (ia [])).length = cntG col3 (okP es (gN es 0) (List.range' 0 es.length)) (List.range' 0 es.length) noG := by
    have := congrArg List.length (allC_any es (gN es 0) (ia []) noG)
    simp only [List.length_map] at this
    unfold allC
    rw [this, cnt_len]
  have h3 : (atL es 0).length = 3 := atL_3 hG (by omega) (by have := hn.1; omega)
  obtain ⟨e0, e1, e2, h01, h12, hl2, v0, v1, v2, hg, g0, g1, g2⟩ := gN_at h3
  have hin : ∀ d, d < es.length → d ∈ List.range' 0 es.length := fun d hd => List.mem_range'_1.2 (by omega)
  have adj : ∀ a b : Nat, (ea es a = 0 ∨ eb es a = 0) → (ea es b = 0 ∨ eb es b = 0) → adjP es a b := fun a b ha hb => by
    unfold adjP
    rcases ha with ha | ha <;> rcases hb with hb | hb
    · exact .inl (.inl (by omega))
    · exact .inr (.inl (by omega))
    · exact .inl (.inr (by omega))
    · exact .inr (.inr (by omega))
  have h6 := sixfold (List.nodup_range') (hin e0 (by omega)) (hin e1 (by omega)) (hin e2 hl2) (adj _ _ v0 v1) (adj _ _ v0 v2) (adj _ _ v1 v2) (by omega) (by omega) (by omega) hg g0 g1 g2 noG
  rw [h1, ← h6, ← List.range_eq_range']
  have hnd : ((LV es N).map fun v : Nat => (v : Int)).Nodup := by
    refine List.pairwise_map.2 ((LV_nodup es N).imp fun h => ?_)
    omega
  have hks : ∀ d, d < es.length → ldE es d ∈ ((LV es N).map fun v : Nat => (v : Int)) := fun e hel => by
    have hw := hn.2.2.2.2 e hel
    have h1 := leadF_nonneg es noSk (ea es e)
    have h2 := leadF_le (es := es) (sk := noSk) hw.1
    refine List.mem_map.2 ⟨(ldE es e).toNat, mem_LV.2 ⟨?_, ?_⟩, ?_⟩
    · unfold ldE; omega
    · have h3 := leadF_lead (es := es) (sk := noSk) hw.1
      have h4 : ((ldE es e).toNat : Int) = leadF es noSk (ea es e) := by unfold ldE; omega
      rw [h4]; exact h3
    · unfold ldE; omega
  have hperm : (List.range es.length).Perm ((((LV es N).map fun v : Nat => (v : Int))).flatMap (clsV es)) := by
    refine (List.perm_ext_iff_of_nodup List.nodup_range (clsN_nodup hnd)).2 fun d => ?_
    rw [List.mem_range, List.mem_flatMap]
    exact ⟨fun hd => ⟨_, hks d hd, mem_clsV.2 ⟨hd, rfl⟩⟩, fun ⟨k, _, hd⟩ => (mem_clsV.1 hd).1⟩
  rw [cnt_perm hperm List.nodup_range noG, show okP es noG (List.range es.length) = fun g => ((LV es N).map fun v : Nat => (v : Int)).all fun k => okP es noG (clsV es k) g from funext fun g => okP_cls hn hks g, cntC_parts _ hnd, List.map_map]
  rfl
theorem allG_len3 : ∀ (L : List Nat) (f : Nat → Int), (allG col3 L f).length = 3 ^ L.length := by
  intro L
  induction L with
  | nil => intro f; rfl
  | cons d L ih =>
    intro f
    have h : allG col3 (d :: L) f = allG col3 L (upF f d 0) ++ (allG col3 L (upF f d 1) ++ (allG col3 L (upF f d 2) ++ [])) := rfl
    rw [h]
    simp only [List.length_append, List.length_nil, ih, List.length_cons, Nat.pow_succ]
    omega
theorem allC_le {n : Int} {es : List (Int × Int)} (hn : WfP n es) : (allC es (ia [])).length ≤ 205891132094649 := by
  unfold allC
  refine Nat.le_trans (List.length_filter_le _ _) ?_
  rw [allG_len3, List.length_range']
  have h30 : es.length ≤ 30 := by have := hn.2.2.2.1; have := hn.1; have := hn.2.1; omega
  exact Nat.le_trans (Nat.pow_le_pow_right (by omega) h30) (by decide)
theorem im0 {n : Int} {es : List (Int × Int)} (h : imC n es = 0) : IsG n es := by
  refine Classical.byContradiction fun hG => ?_
  simp [imC, B_false hG] at h
theorem cc_six {n : Int} {es : List (Int × Int)} (h : imC n es = 0) : ccV n es = 6 * ((allC es (ia [])).length : Int) := by
  have hG := im0 h
  have hn := hG.wf.1
  obtain ⟨N, rfl⟩ : ∃ N : Nat, n = N := ⟨n.toNat, by omega⟩
  have hle := allC_le hG.wf
  simp only [ccV, B_true hG, if_true, Int.toNat_natCast]
  rw [ccN_all hG, W64_small (by omega)]
  omega
theorem has_first {n : Int} {es : List (Int × Int)} (h : imC n es = 0) : hcR n es = decide (fcC n es = 0) := by
  have hG := im0 h
  simp only [hcR, fcC, B_true hG, Bool.true_and, if_true]
  cases allC es (ia []) with
  | nil => simp [B]
  | cons g T => simp [B]
theorem has_count {n : Int} {es : List (Int × Int)} (h : imC n es = 0) : hcR n es = decide (ccV n es > 0) := by
  have hG := im0 h
  rw [cc_six h]
  simp only [hcR, B_true hG, Bool.true_and]
  cases allC es (ia []) with
  | nil => simp [B]
  | cons g T => simp [B]; omega
theorem nc_not {n : Int} {es : List (Int × Int)} (h : ncC n es ≠ 0) : ncL n es = [] := by
  unfold ncC at h
  unfold ncL
  split
  · next hB =>
    rw [if_pos hB] at h
    split
    · next hl => rw [if_pos hl] at h; exact absurd rfl h
    · rfl
  · rfl
theorem nc_0 {n : Int} {es : List (Int × Int)} (h : ncC n es = 0) : imC n es = 0 ∧ ncL n es = (allC es (ia [])).map (lsN es.length) := by
  unfold ncC at h
  by_cases hG : IsG n es
  · rw [B_true hG, if_pos rfl] at h
    split at h
    · next hl => exact ⟨by simp [imC, B_true hG], by simp only [ncL, B_true hG, if_true, if_pos hl]⟩
    · cases h
  · rw [B_false hG] at h; simp at h
theorem nc_six {n : Int} {es : List (Int × Int)} (h : ncC n es = 0) : ccV n es = 6 * ((ncL n es).length : Int) := by
  rw [cc_six (nc_0 h).1, (nc_0 h).2, List.length_map]
theorem okP_col {N : Nat} {es : List (Int × Int)} (hn : WfP N es) {f g : Nat → Int} (h : g ∈ allC es f) : ColP es g := by
  obtain ⟨h1, h2⟩ := List.mem_filter.1 h
  have hv := ((mem_allG List.nodup_range').1 h1).2
  have hp := (okP_iff.1 h2).2
  have hin : ∀ d, d < es.length → d ∈ List.range' 0 es.length := fun d hd => List.mem_range'_1.2 (by omega)
  refine (colP_iff hn).2 fun e he => ⟨mem_col3.1 (hv e (hin e he)), fun k hk f hfe hv => hp f e (hin f (by omega)) (hin e he) ?_ (by omega)⟩
  unfold adjP
  rcases (show k = 0 ∨ k = 1 by omega) with rfl | rfl
  · rw [Nat.add_zero, vE_0] at hv; exact .inl hv
  · rw [vE_1] at hv; exact .inr hv
theorem bg_mem {N : Nat} {es : List (Int × Int)} : ∀ k, 0 < (brTo N es k).length → ∃ j, j < k ∧ cutB N es (skI j) = true := by
  intro k
  induction k with
  | zero => intro h; simp [brTo] at h
  | succ k ih =>
    intro h
    cases hc : cutB N es (skI k) with
    | true => exact ⟨k, by omega, hc⟩
    | false =>
      rw [brTo_no hc] at h
      obtain ⟨j, hj, hj2⟩ := ih h
      exact ⟨j, by omega, hj2⟩
theorem bridge_cc {n : Int} {es : List (Int × Int)} (h : imC n es = 0) (hb : 0 < (bgL n es).length) : ccV n es = 0 := by
  have hG := im0 h
  have hn := hG.wf.1
  obtain ⟨N, rfl⟩ : ∃ N : Nat, n = N := ⟨n.toNat, by omega⟩
  simp only [bgL, B_true hG, if_true] at hb
  obtain ⟨k, hk, hc⟩ := bg_mem _ hb
  rw [cc_six h]
  have : allC es (ia []) = [] := List.eq_nil_iff_forall_not_mem.2 fun g hg => bridge_none hG hk hc (okP_col hG.wf hg)
  rw [this]; rfl
theorem nc_row {n : Int} {es : List (Int × Int)} (h : ncC n es = 0) {i : Nat} (hi : i < (ncL n es).length) : icR n es (ia (ra (ncL n es) i)) (ra (ncL n es) i).length = true ∧ (ra (ncL n es) i).length = es.length := by
  have hG := im0 (nc_0 h).1
  have hn := hG.wf.1
  obtain ⟨N, rfl⟩ : ∃ N : Nat, n = N := ⟨n.toNat, by omega⟩
  rw [(nc_0 h).2] at hi ⊢
  rw [List.length_map] at hi
  have hr : ra ((allC es (ia [])).map (lsN es.length)) i = lsN es.length (allC es (ia []))[i] := by
    simp only [ra, List.getD_eq_getElem?_getD, List.getElem?_map, List.getElem?_eq_getElem hi, Option.map_some, Option.getD_some]
  have hc := okP_col hG.wf (List.getElem_mem hi)
  rw [hr, lsN_len]
  refine ⟨?_, rfl⟩
  simp only [icR, colB, B_true hG, Bool.true_and]
  rw [B_iff]
  refine ⟨trivial, (colP_iff hG.wf).2 fun e he => ?_⟩
  have hc2 := (colP_iff hG.wf).1 hc e he
  rw [lsN_at he]
  refine ⟨hc2.1, fun k hk f hfe hv => ?_⟩
  rw [lsN_at he, lsN_at (show f < es.length by omega)]
  exact hc2.2 k hk f hfe hv
theorem aaC_symm (n : Int) (es : List (Int × Int)) (a : Nat → Int) (la : Nat) (g : Nat → Int) (lb : Nat) : aaC n es a la g lb = aaC n es g lb a la := by
  unfold aaC; rw [Bool.and_comm]
theorem aaV_symm {n : Int} {es : List (Int × Int)} {a g : Nat → Int} {la lb : Nat} (h : aaC n es a la g lb = 0) : aaV n es g lb a la = aaV n es a la g lb := by
  obtain ⟨hG, ⟨_, ha⟩, ⟨_, hg⟩, hv⟩ := aa_0 h
  obtain ⟨_, _, _, hv2⟩ := aa_0 ((aaC_symm n es g lb a la).trans h)
  rw [hv, hv2]
  refine B_congr ?_
  rw [← alike_iff hG ha hg, ← alike_iff hG hg ha]
  exact ⟨fun h e he => (h e he).symm, fun h e he => (h e he).symm⟩
end Go.Proofs.YtajnhkkiddeegaaGreat
