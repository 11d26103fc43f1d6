import Derived.Test.YtajnhkkiddeegaaGreatZp28
set_option linter.unusedVariables false
set_option linter.unusedSimpArgs false
namespace Go.Proofs.YtajnhkkiddeegaaGreat
open Go.RowKit Go.Sort
theorem lit7 {k : Nat} (hk : k < 6) : ∃ N : Nat, ia [1, 2, 3, 4, 5, 7] k = N ∧ 1 ≤ N ∧ N ≤ 7 := by
  have h : ∀ v ∈ ([1, 2, 3, 4, 5, 7] : List Int), 1 ≤ v ∧ v ≤ 7 := by decide
  have := h _ (ia_mem (xs := [1, 2, 3, 4, 5, 7]) (i := k) hk)
  exact ⟨(ia [1, 2, 3, 4, 5, 7] k).toNat, by omega, by omega, by omega⟩
set_option maxRecDepth 100000 in
set_option maxHeartbeats 2000000 in
theorem drawIsBipartite_any (A : Option Addr) (l c : Nat) (w : World) (hB0 : Bys0 w A l) (hl : l ≤ 4096) : Calls Tryz.prog 45 #[.slice A l c] w (RetDG w) := by
  have KC := cell_rg
  have HB := Lib.hid (Box2F.made w (.int .i64 0) (.slice none 0 0) 26)
  have D1 : Below w.heap.size w (w.alloc (.cells #[.int .i64 0, .slice none 0 0] 26)) := (Below.refl _ _).alloc (Nat.le_refl _) _
  have HFR := Lib.hid (fun W (h : Bys0 W A l) => l01From_p A l c W h hl)
  have HSP := Lib.hid (fun p W (hS : SR A l c p W) => l01Spoil_any A l c p W hS hl)
  have HDR := Lib.hid (fun p N W (hS : SR A l c p W) => l01DrawOrder_any A l c p N W hS hl)
  have HNX := Lib.hid (fun p (k : Int) W (hS : SR A l c p W) => l01Next_any A l c p k W hS hl)
  have HPQ := Lib.hid (fun p W (hS : SR A l c p W) (g8 : Nat) (I : Ints W g8 0 6 (ia [1, 2, 3, 4, 5, 7])) (hg8 : g8 ≠ p) => l01Pick_any A l c p g8 0 6 6 (ia [1, 2, 3, 4, 5, 7]) W hS hl I hg8 (by omega) (by omega))
  have HBE := Lib.hid (fun p (N b o m ce : Nat) es W (hS : SR A l c p W) => l01Bad_any A l c p N b o m ce es W hS hl)
  go_enter Tryz.func45, Tryz.ntmps45
  go_wp2_with fail
  obtain ⟨w1, hw1⟩ : ∃ w1, w1 = w.alloc (.cells #[.int .i64 0, .slice none 0 0] 26) := ⟨_, rfl⟩
  rw [← hw1] at HB D1 ⊢
  obtain ⟨b4, hb4⟩ : ∃ b4, b4 = w.heap.size := ⟨_, rfl⟩
  have HB4 := Lib.hid hb4
  have hbw4 : w.heap.size = b4 := hb4.symm
  rw [← hb4] at HB ⊢
  clear hw1 hb4
  have hB1 := hB0.below D1
  have hz1 := D1.size
  have hb41 := HB.out.box.lt
  refine (HFR.out _ hB1).mono ?_
  rintro e w2 ⟨p, rfl, hp, D2, S2⟩
  have PB := HB.out.below D2
  have D := D1.andB D2
  have hz2 := D2.size
  have hpz := S2.lt
  clear HB D1 D2 hB1 hB0
  go_wp2_with fail
  refine (HNX.out p 3 w2 S2).mono ?_
  rintro e w3 ⟨y, rfl, _, D3⟩
  have PB := PB.keptP D3.1 (by omega)
  have D := D.trans (D3.belowB (B := w.heap.size) (by omega) (by omega))
  have hz3 := D3.1.size
  have S3 := D3.2
  have hp3 := S3.lt
  clear S2 D3
  by_cases hy : y = 0
  rotate_left
  · have hyb : (y == 0) = false := by simp; omega
    go_wp2_with fail
    refine (HSP.out p w3 S3).mono ?_
    rintro e w8 ⟨n8, g6, o6, c6, SL, rfl, E8, hg8, hl8, D8⟩
    have hl8 : SL.length ≤ 60 := hl8
    have PW := PB.keptP D8.1 (by omega)
    have DW : Below w.heap.size w w8 := D.trans (D8.belowB (B := w.heap.size) (by omega) (by omega))
    have hg6 : b4 ≠ g6 ∧ w.heap.size ≤ g6 := by omega
    clear S3 D8 D PB
    have hb4l := PW.box.lt
    have P9 := PW.set2 (.int .i64 n8) (.slice (some ⟨g6, o6, none⟩) SL.length c6)
    have D9 : Below w.heap.size w ((_ : World).setCell ⟨b4, 0, none⟩ (.int .i64 n8) |>.setCell ⟨b4, 1, none⟩ (.slice (some ⟨g6, o6, none⟩) SL.length c6)) := (DW.setCell (p := ⟨b4, 0, none⟩) (by simp only; omega) (.int .i64 n8)).setCell (p := ⟨b4, 1, none⟩) (by simp only; omega) (.slice (some ⟨g6, o6, none⟩) SL.length c6)
    have E9 := (E8.setOther (a := ⟨b4, 0, none⟩) (by simp only; omega) (.int .i64 n8)).setOther (a := ⟨b4, 1, none⟩) (by simp only; omega) (.slice (some ⟨g6, o6, none⟩) SL.length c6)
    obtain ⟨⟨sW, pW, qW⟩, fW, gW⟩ := PW
    clear E8 DW 
    go_wp2_with fail
    generalize hw9 : (World.setCell (World.setCell _ ⟨b4, 0, none⟩ (.int .i64 n8)) ⟨b4, 1, none⟩ (.slice (some ⟨g6, o6, none⟩) SL.length c6)) = w9 at E9 P9 D9 ⊢
    clear hw9 pW qW
    obtain ⟨⟨k0, k1, k2⟩, _, _⟩ := P9
    refine bodyPost_ret (v := .agg #[.int .i64 n8, .slice (some ⟨g6, o6, none⟩) SL.length c6]) ?_ rfl ⟨n8, g6, o6, c6, SL, rfl, E9, by omega, hl8, D9⟩
    simp [results, Tryz.results45, go_sem, k1, k2]
  · subst hy
    have ha3 : Below w3.heap.size w3 (w3.alloc (.cells (([1, 2, 3, 4, 5, 7] : List Int).map (Value.int .i64)).toArray 2)) := (Below.refl _ _).alloc (Nat.le_refl _) _
    have HPK := Lib.hid (HPQ.out p (w3.alloc (.cells (([1, 2, 3, 4, 5, 7] : List Int).map (Value.int .i64)).toArray 2)) (S3.below ha3) w3.heap.size (ints_of9 w3 [1, 2, 3, 4, 5, 7] 2) (by omega))
    have D3 := D.andB ha3
    have PB3 := PB.below ha3
    have hz33 := ha3.size
    clear D PB S3 ha3
    go_wp2_with fail
    refine HPK.out.mono ?_
    rintro e w4 ⟨x, rfl, ⟨k, hk, hxk⟩, D4⟩
    obtain ⟨N, hN, hN1, hN7⟩ := lit7 hk
    rw [hN] at hxk
    subst hxk
    have PB4 := PB3.keptP D4.1 (by omega)
    have D := D3.trans (D4.belowB (B := w.heap.size) (by omega) (by omega))
    have hz4 : w3.heap.size ≤ w4.heap.size := Nat.le_trans hz33 D4.1.size
    have HS4 := Lib.hid D4.2
    have hp4 := D4.2.lt
    have D5 : DR A l c p w4 (w4.alloc (.cells #[] 78)) := DR.ofB D4.2 ((Below.refl _ _).alloc (Nat.le_refl _) _)
    have O5 : OwnE w4.heap.size (w4.alloc (.cells #[] 78)) w4.heap.size 0 0 [] := OwnE.empty _ _ _ (Nat.le_refl _) (heap_alloc_new w4 _)
    have hz45 : w4.heap.size ≤ (w4.alloc (.cells #[] 78)).heap.size := by simp
    clear hN hk D3 D4 PB3 HPK
    go_upto_region 4 with fail
    obtain ⟨w5, hw5⟩ : ∃ w5, w5 = w4.alloc (.cells #[] 78) := ⟨_, rfl⟩
    rw [← hw5] at O5 D5 hz45 ⊢
    clear hw5
    go_wp2_with fail
    go_loopw [5, 6] (fun ev kv wv => ∃ (k m : Nat) (A1 : Option Addr) (c1 : Nat) (es : List (Int × Int)), k ≤ 3 ∧ Hid (m = k * N) ∧ m ≤ 7 * k ∧ kv = .int .i64 k ∧ ev = .slice A1 m c1 ∧ OwnEA w4.heap.size wv A1 m c1 es ∧ (∀ e ∈ es, WfE ((2 * N : Nat) : Int) e) ∧ w4.heap.size ≤ wv.heap.size ∧ DR A l c p w4 wv) (fun _ kv _ => 3 - (intOf kv).toNat)
    case atStart => exact ⟨0, 0, _, _, [], Nat.zero_le _, (Nat.zero_mul N).symm, Nat.zero_le _, rfl, rfl, O5.any, by simp, hz45, D5⟩
    case round =>
      clear O5 D5 hz45
      obtain ⟨k, m, A1, c1, es, hk3, hmk, hm7, rfl, rfl, OE, hwf, hz4v, D6⟩ := hrel
      have hWF := Lib.hid hwf
      clear hwf
      obtain ⟨w6, rfl⟩ : ∃ w6, w6 = wr := ⟨wr, rfl⟩
      by_cases hlt : k < 3
      · have hwk : IntKind.i64.wrap ((k : Int) + 1) = (k : Int) + 1 := IntWalk.i64_in _ (by omega)
        go_wp2_with fail
        refine (HDR.out p N _ D6.2 (by omega)).mono ?_
        rintro e w7 ⟨g7, c7, xs, rfl, O7, HO, D7⟩
        have OE7 := OE.kept D7.1.grown (by
          cases h : blkOf A1 with
          | none => exact .inl rfl
          | some g => right; have := (OE.blk g h).1; intro e; injection e with e; omega)
        have hz67 := D7.1.size
        have D7 := D6.trans D7
        have I7 := O7.ints
        have hg7 := O7.blk g7 rfl
        have hA7 : ∀ g, blkOf A1 = some g → g < w6.heap.size := fun g h => (OE.blk g h).2
        have HAP : blkOf (some (⟨g7, 0, none⟩ : Addr)) = none ∨ blkOf (some (⟨g7, 0, none⟩ : Addr)) ≠ blkOf A1 := .inr fun e => by
          have := hA7 g7 e.symm; omega
        have hz47 : w4.heap.size ≤ w7.heap.size := Nat.le_trans hz4v hz67
        clear O7 D6 OE hA7
        go_wp2_with fail
        go_loopw [5, 8] (fun ev iv wv => ∃ (i m2 : Nat) (A1 : Option Addr) (c1 : Nat) (es : List (Int × Int)), i ≤ N ∧ Hid (m2 = m + i) ∧ m2 ≤ 7 * k + i ∧ iv = .int .i64 i ∧ ev = .slice A1 m2 c1 ∧ OwnEA w4.heap.size wv A1 m2 c1 es ∧ (∀ e ∈ es, WfE ((2 * N : Nat) : Int) e) ∧ Hid (blkOf (some (⟨g7, 0, none⟩ : Addr)) = none ∨ blkOf (some (⟨g7, 0, none⟩ : Addr)) ≠ blkOf A1) ∧ Ints wv g7 0 N (ia xs) ∧ w4.heap.size ≤ wv.heap.size ∧ DR A l c p w4 wv) (fun _ iv _ => N - (intOf iv).toNat)
        case atStart => exact ⟨0, m, _, _, es, Nat.zero_le _, rfl, by omega, rfl, rfl, OE7, hWF.out, HAP, I7, hz47, D7⟩
        case round =>
          clear OE7 I7 D7 HAP hg7 hz47 hWF
          obtain ⟨i, m2, A2, c2, fs, hi, hm2, hm27, rfl, rfl, OE, hwf, HAP, I, hz4w, D⟩ := hrel
          have hWF := Lib.hid hwf
          clear hwf
          by_cases hin : i < N
          · have hwi : IntKind.i64.wrap ((i : Int) + 1) = (i : Int) + 1 := IntWalk.i64_in _ (by omega)
            have hxr := HO.at hin
            obtain ⟨q, hq⟩ : ∃ q : Nat, ia xs i = q := ⟨(ia xs i).toNat, by omega⟩
            have d1 := I.c i hin
            rw [Nat.zero_add, hq] at d1
            rw [hq] at hxr
            have zI := I.blk
            have hwq : IntKind.i64.wrap ((N : Int) + q) = (N : Int) + q := IntWalk.i64_in _ (by omega)
            have hW2 := Lib.hid (wf_snoc (a := (i : Int)) (b := (N : Int) + q) hWF.out (by unfold WfE; simp only; omega))
            have hm21 : m2 ≤ 1048576 := by omega
            clear hq hxr
            go_wp2_with (at_builtin; refine wp_appEA1 rfl rfl rfl rfl rfl OE hz4w hm21 ?_; intro A6 c6 w8 O8 hg8 hat8)
            have D8 := DR.grown HS4.out D hg8 (fun g hg => (OE.blk g hg).1)
            have AP8 := hat8.apart (AX := some ⟨g7, 0, none⟩) (fun g hg => by injection hg with hg; rw [← hg]; exact I.blk) HAP.out
            have I8 : Ints w8 g7 0 N (ia xs) := I.kept hg8 (by
              rcases HAP.out with h | h
              · cases h
              · exact h)
            go_roundw
            case rel => exact ⟨i + 1, m2 + 1, A6, c6, _, by omega, (by show _ = _; have := hm2.out; omega), by omega, by go_num, rfl, O8, hW2.out, AP8, I8, Nat.le_trans hz4w hg8.size, D8⟩
            case measure => simp [intOf]; omega
          · obtain rfl : i = N := by omega
            have hmk2 : Hid (m2 = (k + 1) * i) := by
              show _ = _
              have h1 := hm2.out
              have h2 := hmk.out
              rw [Nat.succ_mul]; omega
            clear I HAP hm2
            go_wp2_with fail
            go_roundw
            case rel => exact ⟨k + 1, m2, A2, c2, fs, by omega, hmk2, by omega, by go_num, rfl, OE, hWF.out, hz4w, D⟩
            case measure => simp [intOf]; omega
      · obtain rfl : k = 3 := by omega
        have hm3 : m = 3 * N := hmk.out
        have HM3 := Lib.hid hm3
        obtain ⟨M, hM⟩ : ∃ M, M = 2 * N := ⟨_, rfl⟩
        have hwM : IntKind.i64.wrap (2 * (N : Int)) = (M : Int) := by rw [IntWalk.i64_in _ (by omega)]; omega
        have HM := Lib.hid hM
        have hM2 : 2 ≤ M ∧ M ≤ 14 := by omega
        obtain ⟨ge, rfl, OG⟩ : ∃ g, A1 = some ⟨g, 0, none⟩ ∧ OwnE w4.heap.size w6 g m c1 es := by
          rcases OE.cases with ⟨_, h0, _⟩ | h
          · omega
          · exact h
        have hes := OG.eds.len
        have hwfS : WfP (M : Int) (srtE es) := wfP_srt (by omega) (by omega) (fun e he => by have := hWF.out e he; rw [← hM] at this; exact this)
        have HMD := Lib.hid (l01Made_any (M : Int) ge 0 m c1 es w6 OG.eds (by omega))
        have S6 := D6.2
        have DD := D.trans (D6.belowB (B := w.heap.size) (by omega) (by omega))
        have PB6 := PB4.keptP D6.1 (by omega)
        have hb4z := PB4.box.lt
        obtain ⟨SL, hSL⟩ : ∃ SL, SL = srtE es := ⟨_, rfl⟩
        rw [← hSL] at HMD hwfS
        clear hmk hm3 hM OE OG hes hWF D6 D PB4 hSL
        go_wp2_with fail
        refine HMD.out.mono ?_
        rintro e w5 ⟨g, c6, rfl, O8, hb8⟩
        have PB8 := PB6.below hb8
        have D8 := DD.andB hb8
        have S8 := S6.below hb8
        have hg8 := O8.ge
        have hp6 := S6.lt
        have E8 := O8.eds
        clear O8 DD PB6 S6 hb8 HMD
        go_wp2_with fail
        have X9 := Box2.made w5 (.int .i64 (M : Int)) (.slice (some ⟨g, 0, none⟩) SL.length c6) 26
        have hb9 : Below w5.heap.size w5 (w5.alloc (.cells #[.int .i64 (M : Int), .slice (some ⟨g, 0, none⟩) SL.length c6] 26)) := (Below.refl _ _).alloc (Nat.le_refl _) _
        obtain ⟨w6, hw6⟩ : ∃ w6, w6 = w5.alloc (.cells #[.int .i64 (M : Int), .slice (some ⟨g, 0, none⟩) SL.length c6] 26) := ⟨_, rfl⟩
        rw [← hw6] at X9 hb9 ⊢
        obtain ⟨x9, hx9⟩ : ∃ x9, x9 = w5.heap.size := ⟨_, rfl⟩
        rw [← hx9] at X9 ⊢
        have E6 := E8.below hb9
        have PB := PB8.below hb9
        have D := D8.andB hb9
        have S6 := S8.below hb9
        have hz56 := hb9.size
        have hpz9 := S8.lt
        have hgp : g ≠ p ∧ x9 ≠ p := by omega
        have HSR := Lib.hid S6
        obtain ⟨B0, hB0⟩ : ∃ B0, B0 = w1.heap.size := ⟨_, rfl⟩
        have hB0b : b4 < B0 ∧ w.heap.size ≤ B0 ∧ B0 ≤ p ∧ B0 ≤ w6.heap.size := by omega
        have HDO := Lib.hid (fun W (hW : DR A l c p w6 W) => HDR.out p M W hW.2 (by omega))
        have HRN := Lib.hid (fun W (hW : DR A l c p w6 W) g51 c51 xs51 (I51 : Ints W g51 0 M (ia xs51)) (HO51 : OrdL M xs51) => l01Renamed_any (M : Int) g 0 SL.length c6 g51 0 M c51 SL (ia xs51) W (hW.1.eds E6 hgp.1) I51 hwfS rfl)
        have HWF : Hid (∀ xs, OrdL M xs → WfP (M : Int) (srtE (SL.map (rnE (ia xs))))) := fun xs hx => wfP_ren hwfS hx
        have HBD : Hid (∀ W, DR A l c p w6 W → ∀ g52 c52 e52, Eds W g52 0 e52.length e52 → p < g52 → WfP (M : Int) e52 → Calls Tryz.prog 77 #[.pointer (some ⟨p, 0, none⟩), .agg #[.int .i64 (M : Int), .slice (some ⟨g52, 0, none⟩) e52.length c52]] W (fun e w' => ∃ n g o c' es, e = .returned (.agg #[.int .i64 n, .slice (some ⟨g, o, none⟩) es.length c']) ∧ Eds w' g o es.length es ∧ (B0 ≤ g ∧ (g = g52 ∨ W.heap.size ≤ g) ∧ g ≠ p) ∧ es.length ≤ 60 ∧ DR A l c p W w')) := fun W hW g52 c52 e52 E52 hg52 hw52 =>
          (HBE.out p M g52 0 e52.length c52 e52 W hW.2 (by omega) E52 (by omega) (by have := hw52.2.2.2.1; omega)).mono fun e w' ⟨n, g, o, c', es', h1, h2, h3, h4, h5⟩ => ⟨n, g, o, c', es', h1, h2, ⟨by have := hW.1.size; omega, h3, by have := hW.2.lt; omega⟩, h4, h5⟩
        obtain ⟨s6, p6, q6⟩ := X9
        clear hw6 hx9 hb9 E8 PB8 D8 S8 hB0
        go_wp2_with fail
        refine wp_region_then 8 (fun i9 v W => match i9 with
          | 0 => v = .pointer (some ⟨p, 0, none⟩)
          | 1 => v = .agg #[.int .i64 (M : Int), .slice (some ⟨g, 0, none⟩) SL.length c6]
          | 2 => v = .pointer (some ⟨p, 0, none⟩)
          | 3 => v = .int .i64 (N : Int)
          | 4 => v = .int .i64 (M : Int)
          | 5 => OrdV p M v W
          | 6 => WfV p M v W
          | _ => GrV p B0 v W)
          (fun i => match i with
          | _ => none)
          (fun _ W W' => DR A l c p W W')  (fun W => DR A l c p w6 W) (by kernel_rfl) (by kernel_rfl) ?_ ?_ ?_ ?_ ?_
        · exact DR.ofB HSR.out ((Below.refl _ _).drew)
        · intro i k v W W' hne hd hC hf hE
          match i, hf with
          | 0, hf => exact hf
          | 1, hf => exact hf
          | 2, hf => exact hf
          | 3, hf => exact hf
          | 4, hf => exact hf
          | 5, hf => exact OrdV.dr hf hE
          | 6, hf => exact WfV.dr hf hE
          | _ + 7, hf => exact GrV.dr hf hE
        · intro k W W' hC hE
          exact DR.trans hC hE
        · simp only [List.take_succ_cons, List.take_zero]
          refine ⟨?_, ?_, ?_, ?_, ?_, ?_, ?_, ?_, trivial⟩
          · intro a W hC hs hd
            have hW : DR A l c p w6 W := hC
            have e3 : a.tmps[3]?.getD undef = .pointer (some ⟨p, 0, none⟩) := hs 3 (by kernel_rfl)
            refine growsG_none (E := fun W W' => DR A l c p W W') rfl ?_
            clear hs hd
            unfold GrowsE
            go_simp
            exact DR.refl hW.2
          · intro a W hC hs hd
            have hW : DR A l c p w6 W := hC
            have e9 : a.tmps[9]?.getD undef = .pointer (some ⟨x9, 0, none⟩) := hs 9 (by kernel_rfl)
            refine growsG_none (E := fun W W' => DR A l c p W W') rfl ?_
            have k0 := (hW.cell (a := ⟨x9, 0, none⟩) (s6) (by simp only; omega) rfl).trans (p6)
            have k1 := (hW.cell (a := ⟨x9, 1, none⟩) (s6) (by simp only; omega) rfl).trans (q6)
            clear hs hd
            unfold GrowsE
            go_simp
            exact DR.refl hW.2
          · intro a W hC hs hd
            have hW : DR A l c p w6 W := hC
            have e3 : a.tmps[3]?.getD undef = .pointer (some ⟨p, 0, none⟩) := hs 3 (by kernel_rfl)
            refine growsG_none (E := fun W W' => DR A l c p W W') rfl ?_
            clear hs hd
            unfold GrowsE
            go_simp
            exact DR.refl hW.2
          · intro a W hC hs hd
            have hW : DR A l c p w6 W := hC
            have e4 : a.tmps[4]?.getD undef = .int .i64 (N : Int) := hs 4 (by kernel_rfl)
            refine growsG_none (E := fun W W' => DR A l c p W W') rfl ?_
            clear hs hd
            unfold GrowsE
            go_simp
            exact DR.refl hW.2
          · intro a W hC hs hd
            have hW : DR A l c p w6 W := hC
            have e49 : (a.tmps[49]?.getD undef) = .int .i64 (N : Int) := hd 3 49 (by kernel_rfl) (by kernel_rfl) (by kernel_rfl)
            refine growsG_none (E := fun W W' => DR A l c p W W') rfl ?_
            clear hs hd
            unfold GrowsE
            go_simp
            exact DR.refl hW.2
          · intro a W hC hs hd
            have hW : DR A l c p w6 W := hC
            have e48 : (a.tmps[48]?.getD undef) = .pointer (some ⟨p, 0, none⟩) := hd 2 48 (by kernel_rfl) (by kernel_rfl) (by kernel_rfl)
            have e50 : (a.tmps[50]?.getD undef) = .int .i64 (M : Int) := hd 4 50 (by kernel_rfl) (by kernel_rfl) (by kernel_rfl)
            refine growsG_none (E := fun W W' => DR A l c p W W') rfl ?_
            clear hs hd
            unfold GrowsE
            go_simp
            refine ⟨Below.refl _ _, (HDO.out W hW).mono ?_⟩
            rintro e w9 ⟨g9, c9, xs9, rfl, O9, HO9, D9⟩
            exact ⟨_, rfl, D9, g9, c9, xs9, rfl, (by have h1 := (O9.blk g9 rfl).1; have h2 := hW.2.lt; omega), O9.ints, HO9⟩
          · intro a W hC hs hd
            have hW : DR A l c p w6 W := hC
            have e47 : (a.tmps[47]?.getD undef) = .agg #[.int .i64 (M : Int), .slice (some ⟨g, 0, none⟩) SL.length c6] := hd 1 47 (by kernel_rfl) (by kernel_rfl) (by kernel_rfl)
            have e51 : OrdV p M (a.tmps[51]?.getD undef) W := hd 5 51 (by kernel_rfl) (by kernel_rfl) (by kernel_rfl)
            obtain ⟨g51, c51, xs51, e51, hg51, I51, HO51⟩ := e51
            refine growsG_none (E := fun W W' => DR A l c p W W') rfl ?_
            clear hs hd
            unfold GrowsE
            go_simp
            refine ⟨Below.refl _ _, (HRN.out W hW g51 c51 xs51 I51 HO51).mono ?_⟩
            rintro e w9 ⟨g9, c9, rfl, O9, hb9⟩
            exact ⟨_, rfl, DR.ofB hW.2 hb9, g9, c9, _, rfl, O9.eds, (by have h1 := O9.ge.1; have h2 := hW.2.lt; omega), HWF.out xs51 HO51⟩
          · intro a W hC hs hd
            have hW : DR A l c p w6 W := hC
            have e46 : (a.tmps[46]?.getD undef) = .pointer (some ⟨p, 0, none⟩) := hd 0 46 (by kernel_rfl) (by kernel_rfl) (by kernel_rfl)
            have e52 : WfV p M (a.tmps[52]?.getD undef) W := hd 6 52 (by kernel_rfl) (by kernel_rfl) (by kernel_rfl)
            obtain ⟨g52, c52, l52, e52, E52, hg52, hw52⟩ := e52
            refine growsG_none (E := fun W W' => DR A l c p W W') rfl ?_
            clear hs hd
            unfold GrowsE
            go_simp
            refine ⟨Below.refl _ _, (HBD.out W hW g52 c52 l52 E52 hg52 hw52).mono ?_⟩
            rintro e w9 ⟨n9, g9, o9, c9, e9, rfl, E9, hg9, hl9, D9⟩
            exact ⟨_, rfl, D9, n9, g9, o9, c9, e9, rfl, E9, (by have := hW.1.size; omega), (by have := hW.2.lt; omega), hl9⟩
        intro vs W hW hf
        have f46 : (vs 46) = .pointer (some ⟨p, 0, none⟩) := hf 0 46 (by decide) (by kernel_rfl) (fun _ hk => by cases hk)
        have f47 : (vs 47) = .agg #[.int .i64 (M : Int), .slice (some ⟨g, 0, none⟩) SL.length c6] := hf 1 47 (by decide) (by kernel_rfl) (fun _ hk => by cases hk)
        have f48 : (vs 48) = .pointer (some ⟨p, 0, none⟩) := hf 2 48 (by decide) (by kernel_rfl) (fun _ hk => by cases hk)
        have f49 : (vs 49) = .int .i64 (N : Int) := hf 3 49 (by decide) (by kernel_rfl) (fun _ hk => by cases hk)
        have f50 : (vs 50) = .int .i64 (M : Int) := hf 4 50 (by decide) (by kernel_rfl) (fun _ hk => by cases hk)
        have f51 : OrdV p M (vs 51) W := hf 5 51 (by decide) (by kernel_rfl) (fun _ hk => by cases hk)
        obtain ⟨g51, c51, xs51, f51, hg51, I51, HO51⟩ := f51
        have f52 : WfV p M (vs 52) W := hf 6 52 (by decide) (by kernel_rfl) (fun _ hk => by cases hk)
        obtain ⟨g52, c52, l52, f52, E52, hg52, hw52⟩ := f52
        have f53 : GrV p B0 (vs 53) W := hf 7 53 (by decide) (by kernel_rfl) (fun _ hk => by cases hk)
        obtain ⟨n3, g3, o3, c3, e3, f53, E3, hg3, hgp3, hl3⟩ := f53
        simp only [dsts, List.take_succ_cons, List.take_zero, List.drop_succ_cons, List.drop_zero, List.filterMap_cons, List.filterMap_nil, List.foldl_cons, List.foldl_nil, Act.put, List.setIfInBounds_toArray, List.set_cons_succ, List.set_cons_zero, f46, f47, f48, f49, f50, f51, f52, f53]
        clear hf
        have hW : DR A l c p w6 W := hW
        have PW := PB.keptP hW.1 (by omega)
        have DW : Below w.heap.size w W := D.trans (hW.belowB (by omega) (by omega))
        have E8 := E3
        clear hW PB D S6 E6 s6 p6 q6 E3
        have hb4l := PW.box.lt
        have P9 := PW.set2 (.int .i64 n3) (.slice (some ⟨g3, o3, none⟩) e3.length c3)
        have D9 : Below w.heap.size w ((_ : World).setCell ⟨b4, 0, none⟩ (.int .i64 n3) |>.setCell ⟨b4, 1, none⟩ (.slice (some ⟨g3, o3, none⟩) e3.length c3)) := (DW.setCell (p := ⟨b4, 0, none⟩) (by simp only; omega) (.int .i64 n3)).setCell (p := ⟨b4, 1, none⟩) (by simp only; omega) (.slice (some ⟨g3, o3, none⟩) e3.length c3)
        have E9 := (E8.setOther (a := ⟨b4, 0, none⟩) (by simp only; omega) (.int .i64 n3)).setOther (a := ⟨b4, 1, none⟩) (by simp only; omega) (.slice (some ⟨g3, o3, none⟩) e3.length c3)
        obtain ⟨⟨sW, pW, qW⟩, fW, gW⟩ := PW
        clear E8 DW 
        go_wp2_with fail
        generalize hw9 : (World.setCell (World.setCell _ ⟨b4, 0, none⟩ (.int .i64 n3)) ⟨b4, 1, none⟩ (.slice (some ⟨g3, o3, none⟩) e3.length c3)) = w9 at E9 P9 D9 ⊢
        clear hw9 pW qW
        obtain ⟨⟨k0, k1, k2⟩, _, _⟩ := P9
        refine bodyPost_ret (v := .agg #[.int .i64 n3, .slice (some ⟨g3, o3, none⟩) e3.length c3]) ?_ rfl ⟨n3, g3, o3, c3, e3, rfl, E9, by omega, hl3, D9⟩
        simp [results, Tryz.results45, go_sem, k1, k2]
end Go.Proofs.YtajnhkkiddeegaaGreat
