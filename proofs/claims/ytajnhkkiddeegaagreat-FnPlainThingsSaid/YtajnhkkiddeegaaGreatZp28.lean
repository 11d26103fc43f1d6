import Derived.Deep.CutBlock
import Derived.Test.YtajnhkkiddeegaaGreatZp27
set_option linter.unusedVariables false
set_option linter.unusedSimpArgs false
namespace Go.Proofs.YtajnhkkiddeegaaGreat
open Go.RowKit Go.Sort
set_option maxRecDepth 100000 in
set_option maxHeartbeats 1000000 in
theorem drawDistanceOf_any (A : Option Addr) (l c : Nat) (w : World) (hB0 : Bys0 w A l) (hl : l ≤ 4096) : Calls Tryz.prog 37 #[.slice A l c] w (RetDG2 w) := by
  have KC := cell_rg
  have HB := Lib.hid (Box2F.made w (.int .i64 0) (.slice none 0 0) 26)
  have D1 : Below w.heap.size w (w.alloc (.cells #[.int .i64 0, .slice none 0 0] 26)) := (Below.refl _ _).alloc (Nat.le_refl _) _
  have HFR := Lib.hid (fun W (h : Bys0 W A l) => l01From_p A l c W h hl)
  have HDW := Lib.hid (fun p W (hS : SR A l c p W) => l01Draw_any A l c p W hS hl)
  have HNR := Lib.hid (fun p (k : Int) W (hS : SR A l c p W) => l01Near_any A l c p k W hS hl)
  have HBD := Lib.hid (fun p (N b o m ce : Nat) es W (hS : SR A l c p W) => l01Bad_any A l c p N b o m ce es W hS hl)
  go_enter Tryz.func37, Tryz.ntmps37
  go_wp2_with fail
  obtain ⟨w1, hw1⟩ : ∃ w1, w1 = w.alloc (.cells #[.int .i64 0, .slice none 0 0] 26) := ⟨_, rfl⟩
  rw [← hw1] at HB D1 ⊢
  obtain ⟨b4, hb4⟩ : ∃ b4, b4 = w.heap.size := ⟨_, rfl⟩
  have HB4 := Lib.hid hb4
  have hbw4 : w.heap.size = b4 := hb4.symm
  rw [← hb4] at HB ⊢
  clear hw1 hb4
  have hB1 := hB0.below D1
  have hz1 := D1.size
  have hb41 := HB.out.box.lt
  refine (HFR.out _ hB1).mono ?_
  rintro e w2 ⟨p, rfl, hp, D2, S2⟩
  have PB := HB.out.below D2
  have D := D1.andB D2
  have hz2 := D2.size
  have hpz := S2.lt
  clear HB D1 D2 hB1 hB0
  go_wp2_with fail
  refine (HDW.out p w2 S2).mono ?_
  rintro e w3 ⟨n, g, o, c1, es, rfl, E3, hg3, ⟨N, rfl, hN2, hN40, hl0, hl60⟩, D3⟩
  have PB := PB.keptP D3.1 (by omega)
  have D := D.trans (D3.belowB (B := w.heap.size) (by omega) (by omega))
  have hz3 := D3.1.size
  have S3 := D3.2
  clear S2 D3
  go_wp2_with fail
  have X5 := Box2.made w3 (.int .i64 N) (.slice (some ⟨g, o, none⟩) es.length c1) 26
  have hb5 : Below w3.heap.size w3 (w3.alloc (.cells #[.int .i64 N, .slice (some ⟨g, o, none⟩) es.length c1] 26)) := (Below.refl _ _).alloc (Nat.le_refl _) _
  obtain ⟨w4, hw4⟩ : ∃ w4, w4 = w3.alloc (.cells #[.int .i64 N, .slice (some ⟨g, o, none⟩) es.length c1] 26) := ⟨_, rfl⟩
  rw [← hw4] at X5 hb5 ⊢
  have hz4 : w4.heap.size ≤ w3.heap.size + 1 ∧ w3.heap.size + 1 ≤ w4.heap.size := by rw [hw4]; simp
  obtain ⟨x6, hx6⟩ : ∃ x6, x6 = w3.heap.size := ⟨_, rfl⟩
  rw [← hx6] at X5 ⊢
  have E4 := E3.below hb5
  have PB := PB.below hb5
  have S4 := S3.below hb5
  have D := D.andB hb5
  have hgp : g ≠ p ∧ x6 ≠ p := by omega
  have hwn : IntKind.i64.wrap ((N : Int) - 1) = (N : Int) - 1 := IntWalk.i64_in _ (by omega)
  have H1 := Lib.hid (HNR.out p ((N : Int) - 1) w4 S4 (by omega) (by omega))
  have XC := X5
  obtain ⟨s6, p6, q6⟩ := XC
  clear hw4 hx6 E3 S3 hb5
  go_wp2_with fail
  refine H1.out.mono ?_
  rintro e w5 ⟨y1, rfl, _, D5⟩
  have X6 := D5.1.box2 X5 hgp.2
  have H2 := Lib.hid (HNR.out p ((N : Int) - 1) w5 D5.2 (by omega) (by omega))
  have XC := X6
  clear s6 p6 q6 H1
  obtain ⟨s6, p6, q6⟩ := XC
  go_wp2_with fail
  refine H2.out.mono ?_
  rintro e w6 ⟨y2, rfl, _, D6⟩
  have D6 := D5.trans D6
  have X7 := D6.1.box2 X5 hgp.2
  have E6 := D6.1.eds E4 hgp.1
  have PB := PB.keptP D6.1 (by omega)
  have D := D.trans (D6.belowB (B := w.heap.size) (by omega) (by omega))
  have hz6 := D6.1.size
  have HX := Lib.hid (HBD.out p N g o es.length c1 es w6 D6.2 hN40 E6 hgp.1 ⟨hl0, hl60⟩)
  clear s6 p6 q6 H2 X6 X5 D5 D6 E4 S4 hwn E6
  obtain ⟨s6, p6, q6⟩ := X7
  go_wp2_with fail
  refine HX.out.mono ?_
  rintro e w8 ⟨n8, g6, o6, c6, SL, rfl, E8, hg8, hl8, D8⟩
  have PW := PB.keptP D8.1 (by omega)
  have DW : Below w.heap.size w w8 := D.trans (D8.belowB (B := w.heap.size) (by omega) (by omega))
  have hg6 : b4 ≠ g6 ∧ w.heap.size ≤ g6 := by omega
  clear D8 D PB s6 p6 q6
  have hb4l := PW.box.lt
  have P9 := PW.set2 (.int .i64 n8) (.slice (some ⟨g6, o6, none⟩) SL.length c6)
  have D9 : Below w.heap.size w ((_ : World).setCell ⟨b4, 0, none⟩ (.int .i64 n8) |>.setCell ⟨b4, 1, none⟩ (.slice (some ⟨g6, o6, none⟩) SL.length c6)) := (DW.setCell (p := ⟨b4, 0, none⟩) (by simp only; omega) (.int .i64 n8)).setCell (p := ⟨b4, 1, none⟩) (by simp only; omega) (.slice (some ⟨g6, o6, none⟩) SL.length c6)
  have E9 := (E8.setOther (a := ⟨b4, 0, none⟩) (by simp only; omega) (.int .i64 n8)).setOther (a := ⟨b4, 1, none⟩) (by simp only; omega) (.slice (some ⟨g6, o6, none⟩) SL.length c6)
  obtain ⟨⟨sW, pW, qW⟩, fW, gW⟩ := PW
  clear E8 DW 
  go_wp2_with fail
  generalize hw9 : (World.setCell (World.setCell _ ⟨b4, 0, none⟩ (.int .i64 n8)) ⟨b4, 1, none⟩ (.slice (some ⟨g6, o6, none⟩) SL.length c6)) = w9 at E9 P9 D9 ⊢
  clear hw9 pW qW
  obtain ⟨⟨k0, k1, k2⟩, _, _⟩ := P9
  refine bodyPost_ret (v := .tuple #[.agg #[.int .i64 n8, .slice (some ⟨g6, o6, none⟩) SL.length c6], .int .i64 y1, .int .i64 y2]) ?_ rfl ⟨n8, g6, o6, c6, SL, y1, y2, rfl, E9, by omega, hl8, D9⟩
  simp [results, Tryz.results37, go_sem, k1, k2]
theorem OwnL.set0 {base : Nat} {w : World} {g m c : Nat} {xs : List Int} (h : OwnL base w (some ⟨g, 0, none⟩) m c xs) (hm : 0 < m) (x : Int) :
    w.frozen? ⟨g, 0, none⟩ = false ∧ Ints (w.setCell ⟨g, 0, none⟩ (.int .i64 x)) g 0 m (ia (xs.set 0 x)) := by
  have I := h.ints
  have hl := h.1
  refine ⟨h.2.frozenAt 0, by simpa using I.blk, fun j hj => ?_⟩
  have hj' := I.c j hj
  rw [Nat.zero_add] at hj' ⊢
  by_cases e : j = 0
  · subst e
    rw [World.cell?_setCell_same _ _ _ hj']
    simp [ia, show 0 < xs.length by omega]
  · rw [World.cell?_setCell_other _ _ _ _ (by intro e2; injection e2 with _ e3; exact e e3.symm), hj']
    simp [ia, List.getElem?_set_ne (fun e2 => e e2.symm)]
set_option maxRecDepth 100000 in
set_option maxHeartbeats 2000000 in
theorem drawRenumberGraph_any (A : Option Addr) (l c : Nat) (w : World) (hB0 : Bys0 w A l) (hl : l ≤ 4096) : Calls Tryz.prog 26 #[.slice A l c] w (RetDV w) := by
  have KC := cell_rg
  have HB := Lib.hid (Box2F.made w (.int .i64 0) (.slice none 0 0) 26)
  have D1 : Below w.heap.size w (w.alloc (.cells #[.int .i64 0, .slice none 0 0] 26)) := (Below.refl _ _).alloc (Nat.le_refl _) _
  have HFR := Lib.hid (fun W (h : Bys0 W A l) => l01From_p A l c W h hl)
  have HDW := Lib.hid (fun p W (hS : SR A l c p W) => l01Draw_any A l c p W hS hl)
  have HDO := Lib.hid (fun p N W (hS : SR A l c p W) => l01DrawOrder_any A l c p N W hS hl)
  have HNX := Lib.hid (fun p (k : Int) W (hS : SR A l c p W) => l01Next_any A l c p k W hS hl)
  have HPQ := Lib.hid (fun p (N p1 : Int) W (hS : SR A l c p W) (g8 : Nat) (I : Ints W g8 0 3 (ia [-1, N, p1])) (hg8 : g8 ≠ p) => l01Pick_any A l c p g8 0 3 3 (ia [-1, N, p1]) W hS hl I hg8 (by omega) (by omega))
  have HBD := Lib.hid (fun p (N b o m ce : Nat) es W (hS : SR A l c p W) => l01Bad_any A l c p N b o m ce es W hS hl)
  go_enter Tryz.func26, Tryz.ntmps26
  go_wp2_with fail
  obtain ⟨w1, hw1⟩ : ∃ w1, w1 = w.alloc (.cells #[.int .i64 0, .slice none 0 0] 26) := ⟨_, rfl⟩
  rw [← hw1] at HB D1 ⊢
  obtain ⟨b4, hb4⟩ : ∃ b4, b4 = w.heap.size := ⟨_, rfl⟩
  have HB4 := Lib.hid hb4
  have hbw4 : w.heap.size = b4 := hb4.symm
  rw [← hb4] at HB ⊢
  clear hw1 hb4
  have hB1 := hB0.below D1
  have hz1 := D1.size
  have hb41 := HB.out.box.lt
  refine (HFR.out _ hB1).mono ?_
  rintro e w2 ⟨p, rfl, hp, D2, S2⟩
  have PB := HB.out.below D2
  have D := D1.andB D2
  have hz2 := D2.size
  have hpz := S2.lt
  clear HB D1 D2 hB1 hB0
  go_wp2_with fail
  refine (HDW.out p w2 S2).mono ?_
  rintro e w3 ⟨n, g, o, c1, es, rfl, E3, hg3, ⟨N, rfl, hN2, hN40, hl0, hl60⟩, D3⟩
  have PB := PB.keptP D3.1 (by omega)
  have D := D.trans (D3.belowB (B := w.heap.size) (by omega) (by omega))
  have hz3 := D3.1.size
  have S3 := D3.2
  clear S2 D3
  go_wp2_with fail
  have X5 := Box2.made w3 (.int .i64 N) (.slice (some ⟨g, o, none⟩) es.length c1) 26
  have hb5 : Below w3.heap.size w3 (w3.alloc (.cells #[.int .i64 N, .slice (some ⟨g, o, none⟩) es.length c1] 26)) := (Below.refl _ _).alloc (Nat.le_refl _) _
  obtain ⟨w4, hw4⟩ : ∃ w4, w4 = w3.alloc (.cells #[.int .i64 N, .slice (some ⟨g, o, none⟩) es.length c1] 26) := ⟨_, rfl⟩
  rw [← hw4] at X5 hb5 ⊢
  have hz4 : w4.heap.size ≤ w3.heap.size + 1 ∧ w3.heap.size + 1 ≤ w4.heap.size := by rw [hw4]; simp
  obtain ⟨x5, hx5⟩ : ∃ x5, x5 = w3.heap.size := ⟨_, rfl⟩
  rw [← hx5] at X5 ⊢
  have E4 := E3.below hb5
  have PB := PB.below hb5
  have S4 := S3.below hb5
  have D := D.andB hb5
  have hgp : g ≠ p ∧ x5 ≠ p := by omega
  have H1 := Lib.hid (HDO.out p N w4 S4 (by omega))
  have HS4 := Lib.hid S4
  have hp4 := S4.lt
  have XC := X5
  obtain ⟨s6, p6, q6⟩ := XC
  clear hw4 hx5 E3 S3 hb5 S4
  go_wp2_with fail
  refine H1.out.mono ?_
  rintro e w5 ⟨g7, c7, xs, rfl, O5, HO, D5⟩
  clear s6 p6 q6
  go_wp2_with fail
  refine (HNX.out p 16 _ D5.2).mono ?_
  rintro e w6 ⟨y, rfl, hy, D6⟩
  have O6 := O5.keptP D6.1 hp4
  have D6 := D5.trans D6
  have X6 := D6.1.box2 X5 hgp.2
  have hz6 := D6.1.size
  clear O5 D5
  go_upto_block 0 with fail
  go_cut [6] from 7 (fun s6 wx => ∃ (h7 m7 d7 : Nat) (ys : List Int), s6 = .slice (some ⟨h7, 0, none⟩) m7 d7 ∧ ys.length = m7 ∧ Ints wx h7 0 m7 (ia ys) ∧ w4.heap.size ≤ h7 ∧ m7 ≤ 60 ∧ DR A l c p w4 wx)
  case first =>
    by_cases hy0 : y = 0
    · subst hy0
      clear hy
      go_wp2_with (at_builtin; refine wp_appL1 rfl rfl rfl rfl (by simp) O6 (by omega) (by omega) ?_; intro A8 c8 w8 O8 hg8 hat8)
      obtain ⟨g8, rfl⟩ : ∃ g8, A8 = some ⟨g8, 0, none⟩ := by
        rcases O8.cases with ⟨_, h0, _⟩ | ⟨g, e, _⟩
        · omega
        · exact ⟨g, e⟩
      have D8 := DR.grown HS4.out D6 hg8 (fun g hg => (O6.blk g hg).1)
      go_meet
      case rel => exact ⟨g8, N + 1, c8, _, rfl, O8.1, O8.ints, (O8.blk g8 rfl).1, by omega, D8⟩
    by_cases hy1 : y = 1
    · subst hy1
      clear hy
      obtain ⟨s6, q6, r6⟩ := X6
      have z7 := (O6.blk g7 rfl).2
      have hg74 := (O6.blk g7 rfl).1
      have d7 := O6.ints.c 1 (by omega)
      rw [Nat.zero_add] at d7
      obtain ⟨p1, hp1⟩ : ∃ p1, p1 = ia xs 1 := ⟨_, rfl⟩
      rw [← hp1] at d7
      have HPK := Lib.hid (HPQ.out p (N : Int) p1)
      have HSR := Lib.hid D6.2
      have hN2i : (1 : Int) < (N : Int) := by omega
      have hN0i : (0 : Int) < (N : Int) := by omega
      have hN0n : 0 < N := by omega
      have hN1n : 1 < N := by omega
      clear hp1
      go_wp2_with fail
      refine wp_region_then 10 (fun i9 v W => match i9 with
        | 0 => v = .slice (some ⟨g7, 0, none⟩) N c7
        | 1 => v = .pointer (some ⟨p, 0, none⟩)
        | 2 => v = .pointer (some ⟨x5, 0, none⟩)
        | 3 => v = .int .i64 (N : Int)
        | 4 => v = .slice (some ⟨g7, 0, none⟩) N c7
        | 5 => v = .pointer (some ⟨g7, 1, none⟩)
        | 6 => v = .int .i64 p1
        | 7 => LstV p [-1, (N : Int), p1] v W
        | 8 => IntV v
        | _ => v = .pointer (some ⟨g7, 0, none⟩))
        (fun i => match i with
        | _ => none)
        (fun _ W W' => DR A l c p W W')  (fun W => DR A l c p w6 W) (by kernel_rfl) (by kernel_rfl) ?_ ?_ ?_ ?_ ?_
      · exact DR.ofB HSR.out ((Below.refl _ _).drew)
      · intro i k v W W' hne hd hC hf hE
        match i, hf with
        | 0, hf => exact hf
        | 1, hf => exact hf
        | 2, hf => exact hf
        | 3, hf => exact hf
        | 4, hf => exact hf
        | 5, hf => exact hf
        | 6, hf => exact hf
        | 7, hf => exact LstV.dr hf hE
        | 8, hf => exact hf
        | _ + 9, hf => exact hf
      · intro k W W' hC hE
        exact DR.trans hC hE
      · simp only [List.take_succ_cons, List.take_zero]
        refine ⟨?_, ?_, ?_, ?_, ?_, ?_, ?_, ?_, ?_, ?_, trivial⟩
        · intro a W hC hs hd
          have hW : DR A l c p w6 W := hC
          have e6 : a.tmps[6]?.getD undef = .slice (some ⟨g7, 0, none⟩) N c7 := hs 6 (by kernel_rfl)
          refine growsG_none (E := fun W W' => DR A l c p W W') rfl ?_
          clear hs hd
          unfold GrowsE
          go_simp
          exact DR.refl hW.2
        · intro a W hC hs hd
          have hW : DR A l c p w6 W := hC
          have e4 : a.tmps[4]?.getD undef = .pointer (some ⟨p, 0, none⟩) := hs 4 (by kernel_rfl)
          refine growsG_none (E := fun W W' => DR A l c p W W') rfl ?_
          clear hs hd
          unfold GrowsE
          go_simp
          exact DR.refl hW.2
        · intro a W hC hs hd
          have hW : DR A l c p w6 W := hC
          have e5 : a.tmps[5]?.getD undef = .pointer (some ⟨x5, 0, none⟩) := hs 5 (by kernel_rfl)
          refine growsG_none (E := fun W W' => DR A l c p W W') rfl ?_
          have k0 := (hW.cell (a := ⟨x5, 0, none⟩) (s6) (by simp only; omega) rfl).trans (q6)
          have k1 := (hW.cell (a := ⟨g7, 1, none⟩) (z7) (by simp only; omega) rfl).trans (d7)
          clear hs hd
          unfold GrowsE
          go_simp
          exact DR.refl hW.2
        · intro a W hC hs hd
          have hW : DR A l c p w6 W := hC
          have e26 : (a.tmps[26]?.getD undef) = .pointer (some ⟨x5, 0, none⟩) := hd 2 26 (by kernel_rfl) (by kernel_rfl) (by kernel_rfl)
          refine growsG_none (E := fun W W' => DR A l c p W W') rfl ?_
          have k0 := (hW.cell (a := ⟨x5, 0, none⟩) (s6) (by simp only; omega) rfl).trans (q6)
          have k1 := (hW.cell (a := ⟨g7, 1, none⟩) (z7) (by simp only; omega) rfl).trans (d7)
          clear hs hd
          unfold GrowsE
          go_simp
          exact DR.refl hW.2
        · intro a W hC hs hd
          have hW : DR A l c p w6 W := hC
          have e6 : a.tmps[6]?.getD undef = .slice (some ⟨g7, 0, none⟩) N c7 := hs 6 (by kernel_rfl)
          refine growsG_none (E := fun W W' => DR A l c p W W') rfl ?_
          clear hs hd
          unfold GrowsE
          go_simp
          exact DR.refl hW.2
        · intro a W hC hs hd
          have hW : DR A l c p w6 W := hC
          have e28 : (a.tmps[28]?.getD undef) = .slice (some ⟨g7, 0, none⟩) N c7 := hd 4 28 (by kernel_rfl) (by kernel_rfl) (by kernel_rfl)
          refine growsG_none (E := fun W W' => DR A l c p W W') rfl ?_
          have k0 := (hW.cell (a := ⟨x5, 0, none⟩) (s6) (by simp only; omega) rfl).trans (q6)
          have k1 := (hW.cell (a := ⟨g7, 1, none⟩) (z7) (by simp only; omega) rfl).trans (d7)
          clear hs hd
          unfold GrowsE
          go_simp
          exact DR.refl hW.2
        · intro a W hC hs hd
          have hW : DR A l c p w6 W := hC
          have e29 : (a.tmps[29]?.getD undef) = .pointer (some ⟨g7, 1, none⟩) := hd 5 29 (by kernel_rfl) (by kernel_rfl) (by kernel_rfl)
          refine growsG_none (E := fun W W' => DR A l c p W W') rfl ?_
          have k0 := (hW.cell (a := ⟨x5, 0, none⟩) (s6) (by simp only; omega) rfl).trans (q6)
          have k1 := (hW.cell (a := ⟨g7, 1, none⟩) (z7) (by simp only; omega) rfl).trans (d7)
          clear hs hd
          unfold GrowsE
          go_simp
          exact DR.refl hW.2
        · intro a W hC hs hd
          have hW : DR A l c p w6 W := hC
          have e27 : (a.tmps[27]?.getD undef) = .int .i64 (N : Int) := hd 3 27 (by kernel_rfl) (by kernel_rfl) (by kernel_rfl)
          have e30 : (a.tmps[30]?.getD undef) = .int .i64 p1 := hd 6 30 (by kernel_rfl) (by kernel_rfl) (by kernel_rfl)
          refine growsG_none (E := fun W W' => DR A l c p W W') rfl ?_
          clear hs hd
          unfold GrowsE
          go_simp
          exact ⟨DR.ofB hW.2 ((Below.refl _ _).alloc (Nat.le_refl _) _), _, rfl, by have := hW.2.lt; omega, ints_of9 W [-1, (N : Int), p1] _⟩
        · intro a W hC hs hd
          have hW : DR A l c p w6 W := hC
          have e25 : (a.tmps[25]?.getD undef) = .pointer (some ⟨p, 0, none⟩) := hd 1 25 (by kernel_rfl) (by kernel_rfl) (by kernel_rfl)
          have e31 : LstV p [-1, (N : Int), p1] (a.tmps[31]?.getD undef) W := hd 7 31 (by kernel_rfl) (by kernel_rfl) (by kernel_rfl)
          obtain ⟨g31, e31, hg31, I31⟩ := e31
          refine growsG_none (E := fun W W' => DR A l c p W W') rfl ?_
          clear hs hd
          unfold GrowsE
          go_simp
          refine ⟨Below.refl _ _, (HPK.out W hW.2 g31 I31 hg31).mono ?_⟩
          rintro e w9 ⟨x9, rfl, hx9, D9⟩
          exact ⟨_, rfl, D9, x9, rfl⟩
        · intro a W hC hs hd
          have hW : DR A l c p w6 W := hC
          have e24 : (a.tmps[24]?.getD undef) = .slice (some ⟨g7, 0, none⟩) N c7 := hd 0 24 (by kernel_rfl) (by kernel_rfl) (by kernel_rfl)
          refine growsG_none (E := fun W W' => DR A l c p W W') rfl ?_
          have k0 := (hW.cell (a := ⟨x5, 0, none⟩) (s6) (by simp only; omega) rfl).trans (q6)
          have k1 := (hW.cell (a := ⟨g7, 1, none⟩) (z7) (by simp only; omega) rfl).trans (d7)
          clear hs hd
          unfold GrowsE
          go_simp
          exact DR.refl hW.2
      intro vs W hW hf
      have f24 : (vs 24) = .slice (some ⟨g7, 0, none⟩) N c7 := hf 0 24 (by decide) (by kernel_rfl) (fun _ hk => by cases hk)
      have f25 : (vs 25) = .pointer (some ⟨p, 0, none⟩) := hf 1 25 (by decide) (by kernel_rfl) (fun _ hk => by cases hk)
      have f26 : (vs 26) = .pointer (some ⟨x5, 0, none⟩) := hf 2 26 (by decide) (by kernel_rfl) (fun _ hk => by cases hk)
      have f27 : (vs 27) = .int .i64 (N : Int) := hf 3 27 (by decide) (by kernel_rfl) (fun _ hk => by cases hk)
      have f28 : (vs 28) = .slice (some ⟨g7, 0, none⟩) N c7 := hf 4 28 (by decide) (by kernel_rfl) (fun _ hk => by cases hk)
      have f29 : (vs 29) = .pointer (some ⟨g7, 1, none⟩) := hf 5 29 (by decide) (by kernel_rfl) (fun _ hk => by cases hk)
      have f30 : (vs 30) = .int .i64 p1 := hf 6 30 (by decide) (by kernel_rfl) (fun _ hk => by cases hk)
      have f31 : LstV p [-1, (N : Int), p1] (vs 31) W := hf 7 31 (by decide) (by kernel_rfl) (fun _ hk => by cases hk)
      obtain ⟨g31, f31, hg31, I31⟩ := f31
      have f32 : IntV (vs 32) := hf 8 32 (by decide) (by kernel_rfl) (fun _ hk => by cases hk)
      obtain ⟨x32, f32⟩ := f32
      have f33 : (vs 33) = .pointer (some ⟨g7, 0, none⟩) := hf 9 33 (by decide) (by kernel_rfl) (fun _ hk => by cases hk)
      simp only [dsts, List.take_succ_cons, List.take_zero, List.drop_succ_cons, List.drop_zero, List.filterMap_cons, List.filterMap_nil, List.foldl_cons, List.foldl_nil, Act.put, List.setIfInBounds_toArray, List.set_cons_succ, List.set_cons_zero, f24, f25, f26, f27, f28, f29, f30, f31, f32, f33]
      clear hf
      have hW : DR A l c p w6 W := hW
      have O7 := O6.keptP hW.1 (by omega)
      have D7 := D6.trans hW
      obtain ⟨fz, I9⟩ := O7.set0 (by omega) x32
      have D9 := DR.set (o := 0) HS4.out D7 (b := g7) hg74 (.int .i64 x32)
      have d0 := O7.ints.c 0 (by omega)
      rw [Nat.zero_add] at d0
      have z7 := (O7.blk g7 rfl).2
      have hxl := O7.1
      clear hW O6 O7 D6 D7
      go_wp2_with fail
      go_meet
      case rel => exact ⟨g7, N, c7, _, rfl, by rw [List.length_set]; exact hxl, I9, hg74, by omega, D9⟩
    · have hyb0 : (y == 0) = false := by simp; omega
      have hyb1 : (y == 1) = false := by simp; omega
      go_wp2_with fail
      go_meet
      case rel => exact ⟨g7, N, c7, xs, rfl, O6.1, O6.ints, (O6.blk g7 rfl).1, by omega, D6⟩
  obtain ⟨h7, m7, d7, ys, rfl, hyl, I7, hh7, hm7, D7⟩ := hcut
  obtain ⟨w7, rfl⟩ : ∃ w7, w7 = wc := ⟨wc, rfl⟩
  have X7 := D7.1.box2 X5 hgp.2
  have E7 := D7.1.eds E4 hgp.1
  have PB := PB.keptP D7.1 (by omega)
  have D := D.trans (D7.belowB (B := w.heap.size) (by omega) (by omega))
  have hz7 := D7.1.size
  have HX := Lib.hid (HBD.out p N g o es.length c1 es w7 D7.2 hN40 E7 hgp.1 ⟨hl0, hl60⟩)
  clear X6 X5 O6 D6 E4 D7 E7 HO
  obtain ⟨s6, p6, q6⟩ := X7
  go_wp2_with fail
  refine HX.out.mono ?_
  rintro e w8 ⟨n8, g6, o6, c6, SL, rfl, E8, hg8, hl8, D8⟩
  have PW := PB.keptP D8.1 (by omega)
  have J7 := D8.1.ints I7 (show ¬ h7 = p by omega)
  have DW : Below w.heap.size w w8 := D.trans (D8.belowB (B := w.heap.size) (by omega) (by omega))
  have hg6 : b4 ≠ g6 ∧ w.heap.size ≤ g6 := by omega
  clear D8 D PB s6 p6 q6 I7
  have hb4l := PW.box.lt
  have P9 := PW.set2 (.int .i64 n8) (.slice (some ⟨g6, o6, none⟩) SL.length c6)
  have D9 : Below w.heap.size w ((_ : World).setCell ⟨b4, 0, none⟩ (.int .i64 n8) |>.setCell ⟨b4, 1, none⟩ (.slice (some ⟨g6, o6, none⟩) SL.length c6)) := (DW.setCell (p := ⟨b4, 0, none⟩) (by simp only; omega) (.int .i64 n8)).setCell (p := ⟨b4, 1, none⟩) (by simp only; omega) (.slice (some ⟨g6, o6, none⟩) SL.length c6)
  have E9 := (E8.setOther (a := ⟨b4, 0, none⟩) (by simp only; omega) (.int .i64 n8)).setOther (a := ⟨b4, 1, none⟩) (by simp only; omega) (.slice (some ⟨g6, o6, none⟩) SL.length c6)
  have J79 := (J7.set (a := ⟨b4, 0, none⟩) (by simp only; omega) (.int .i64 n8)).set (a := ⟨b4, 1, none⟩) (by simp only; omega) (.slice (some ⟨g6, o6, none⟩) SL.length c6)
  obtain ⟨⟨sW, pW, qW⟩, fW, gW⟩ := PW
  clear E8 DW J7
  go_wp2_with fail
  generalize hw9 : (World.setCell (World.setCell _ ⟨b4, 0, none⟩ (.int .i64 n8)) ⟨b4, 1, none⟩ (.slice (some ⟨g6, o6, none⟩) SL.length c6)) = w9 at E9 P9 D9 J79 ⊢
  clear hw9 pW qW
  obtain ⟨⟨k0, k1, k2⟩, _, _⟩ := P9
  refine bodyPost_ret (v := .tuple #[.agg #[.int .i64 n8, .slice (some ⟨g6, o6, none⟩) SL.length c6], .slice (some ⟨h7, 0, none⟩) m7 d7]) ?_ rfl ⟨n8, g6, o6, c6, SL, h7, 0, m7, d7, ys, rfl, E9, by omega, hl8, hyl, by omega, J79, hm7, D9⟩
  simp [results, Tryz.results26, go_sem, k1, k2]
end Go.Proofs.YtajnhkkiddeegaaGreat
namespace Go.Proofs.YtajnhkkiddeegaaGreat
open Go.RowKit Go.Sort
def GrV (p B : Nat) (v : Value) (W : World) : Prop := ∃ (n : Int) (g o c : Nat) (es : List (Int × Int)), v = .agg #[.int .i64 n, .slice (some ⟨g, o, none⟩) es.length c] ∧ Eds W g o es.length es ∧ B ≤ g ∧ g ≠ p ∧ es.length ≤ 60
theorem GrV.dr {A : Option Addr} {l c p B : Nat} {v : Value} {W W' : World} (h : GrV p B v W) (hb : DR A l c p W W') : GrV p B v W' := by
  obtain ⟨n, g, o, c3, es, e, E, hB, hp, hl⟩ := h
  exact ⟨n, g, o, c3, es, e, hb.1.eds E (show ¬ g = p from hp), hB, hp, hl⟩
def WfV (p M : Nat) (v : Value) (W : World) : Prop := ∃ (g c : Nat) (es : List (Int × Int)), v = .agg #[.int .i64 (M : Int), .slice (some ⟨g, 0, none⟩) es.length c] ∧ Eds W g 0 es.length es ∧ p < g ∧ WfP M es
theorem WfV.dr {A : Option Addr} {l c p M : Nat} {v : Value} {W W' : World} (h : WfV p M v W) (hb : DR A l c p W W') : WfV p M v W' := by
  obtain ⟨g, c3, es, e, E, hp, hw⟩ := h
  exact ⟨g, c3, es, e, hb.1.eds E (show ¬ g = p by omega), hp, hw⟩
def RetDGG (w : World) (e : Ending) (w' : World) : Prop := ∃ (n : Int) (g o c' : Nat) (es : List (Int × Int)) (n2 : Int) (g2 o2 c2 : Nat) (fs : List (Int × Int)), e = .returned (.tuple #[.agg #[.int .i64 n, .slice (some ⟨g, o, none⟩) es.length c'], .agg #[.int .i64 n2, .slice (some ⟨g2, o2, none⟩) fs.length c2]]) ∧ Eds w' g o es.length es ∧ w.heap.size ≤ g ∧ es.length ≤ 60 ∧ Eds w' g2 o2 fs.length fs ∧ w.heap.size ≤ g2 ∧ fs.length ≤ 60 ∧ Below w.heap.size w w'
set_option maxRecDepth 100000 in
set_option maxHeartbeats 1000000 in
theorem drawPutBeside_any (A : Option Addr) (l c : Nat) (w : World) (hB0 : Bys0 w A l) (hl : l ≤ 4096) : Calls Tryz.prog 34 #[.slice A l c] w (RetDGG w) := by
  have KC := cell_rg
  have HB2 := Box2F.made w (.int .i64 0) (.slice none 0 0) 26
  have ha : Below w.heap.size w (w.alloc (.cells #[.int .i64 0, .slice none 0 0] 26)) := (Below.refl _ _).alloc (Nat.le_refl _) _
  obtain ⟨v1, hv1⟩ : ∃ v1, v1 = w.alloc (.cells #[.int .i64 0, .slice none 0 0] 26) := ⟨_, rfl⟩
  rw [← hv1] at HB2 ha
  have HB3 := Box2F.made v1 (.int .i64 0) (.slice none 0 0) 26
  have hb : Below v1.heap.size v1 (v1.alloc (.cells #[.int .i64 0, .slice none 0 0] 26)) := (Below.refl _ _).alloc (Nat.le_refl _) _
  have hs1 : v1.heap.size = w.heap.size + 1 := by rw [hv1]; simp
  obtain ⟨w1, hw1⟩ : ∃ w1, w1 = v1.alloc (.cells #[.int .i64 0, .slice none 0 0] 26) := ⟨_, rfl⟩
  rw [← hw1] at HB3 hb
  have HB2 := HB2.below hb
  have D1 := ha.andB hb
  obtain ⟨b2, hb2⟩ : ∃ b2, b2 = w.heap.size := ⟨_, rfl⟩
  obtain ⟨b3, hb3⟩ : ∃ b3, b3 = v1.heap.size := ⟨_, rfl⟩
  rw [← hb2] at HB2
  rw [← hb3] at HB3
  have HW : Hid (w1 = (w.alloc (.cells #[.int .i64 0, .slice none 0 0] 26)).alloc (.cells #[.int .i64 0, .slice none 0 0] 26) ∧ w.heap.size = b2 ∧ w.heap.size + 1 = b3) := by rw [← hv1]; exact ⟨hw1, hb2.symm, by omega⟩
  have hbb : w.heap.size ≤ b2 ∧ b2 < b3 ∧ b3 < w1.heap.size := ⟨by omega, by omega, HB3.box.lt⟩
  have hB1 := hB0.below D1
  clear hv1 hw1 hb2 hb3 hs1 ha hb
  have HFR := Lib.hid (fun W (h : Bys0 W A l) => l01From_p A l c W h hl)
  have HSM := Lib.hid (fun p W (hS : SR A l c p W) => l01Small_any A l c p W hS hl)
  have HDW := Lib.hid (fun p W (hS : SR A l c p W) => l01Draw_any A l c p W hS hl)
  have HNX := Lib.hid (fun p (k : Int) W (hS : SR A l c p W) => l01Next_any A l c p k W hS hl)
  have HBD := Lib.hid (fun p (N b o m ce : Nat) es W (hS : SR A l c p W) => l01Bad_any A l c p N b o m ce es W hS hl)
  go_enter Tryz.func34, Tryz.ntmps34
  go_upto_region 1 with fail
  rw [← HW.out.1, HW.out.2.2, HW.out.2.1]
  go_wp2_with fail
  refine (HFR.out _ hB1).mono ?_
  rintro e w2 ⟨p, rfl, hp, D2, S2⟩
  have HB2 := HB2.below D2
  have HB3 := HB3.below D2
  have D := D1.andB D2
  have hz2 := D2.size
  have hpz := S2.lt
  clear D1 D2 hB1 hB0
  go_wp2_with fail
  refine (HSM.out p w2 S2).mono ?_
  rintro e w3 ⟨n1, g1, o1, c1, es, rfl, E1, hg1, hwf1, D3⟩
  obtain ⟨N1, rfl⟩ : ∃ N1 : Nat, n1 = N1 := ⟨n1.toNat, by have := hwf1.1; omega⟩
  have h1 : N1 ≤ 40 ∧ 0 < es.length ∧ es.length ≤ 60 := by have := hwf1.1; have := hwf1.2.1; have := hwf1.2.2.2.1; omega
  have HB2 := HB2.keptP D3.1 (by omega)
  have HB3 := HB3.keptP D3.1 (by omega)
  have D := D.trans (D3.belowB (B := w.heap.size) (by omega) (by omega))
  have hz3 := D3.1.size
  have S3 := D3.2
  clear S2 D3 hwf1
  go_wp2_with fail
  have X5 := Box2.made w3 (.int .i64 N1) (.slice (some ⟨g1, o1, none⟩) es.length c1) 26
  have hb5 : Below w3.heap.size w3 (w3.alloc (.cells #[.int .i64 N1, .slice (some ⟨g1, o1, none⟩) es.length c1] 26)) := (Below.refl _ _).alloc (Nat.le_refl _) _
  obtain ⟨w4, hw4⟩ : ∃ w4, w4 = w3.alloc (.cells #[.int .i64 N1, .slice (some ⟨g1, o1, none⟩) es.length c1] 26) := ⟨_, rfl⟩
  rw [← hw4] at X5 hb5 ⊢
  have hz4 : w4.heap.size ≤ w3.heap.size + 1 ∧ w3.heap.size + 1 ≤ w4.heap.size := by rw [hw4]; simp
  obtain ⟨x5, hx5⟩ : ∃ x5, x5 = w3.heap.size := ⟨_, rfl⟩
  rw [← hx5] at X5 ⊢
  have E1 := E1.below hb5
  have HB2 := HB2.below hb5
  have HB3 := HB3.below hb5
  have S4 := S3.below hb5
  have D := D.andB hb5
  have hgp : g1 ≠ p ∧ x5 ≠ p := by omega
  have hx53 : x5 = w3.heap.size := hx5
  have hx5b : b3 < x5 ∧ w3.heap.size ≤ x5 := by omega
  clear hw4 hx5 S3 hb5 hx53
  refine (HSM.out p w4 S4).mono ?_
  rintro e w5 ⟨n2, g2, o2, c2, fs, rfl, E2, hg2, hwf2, D5⟩
  obtain ⟨N2, rfl⟩ : ∃ N2 : Nat, n2 = N2 := ⟨n2.toNat, by have := hwf2.1; omega⟩
  have h2 : N2 ≤ 40 ∧ 0 < fs.length ∧ fs.length ≤ 60 := by have := hwf2.1; have := hwf2.2.1; have := hwf2.2.2.2.1; omega
  have HB2 := HB2.keptP D5.1 (by omega)
  have HB3 := HB3.keptP D5.1 (by omega)
  have X5 := D5.1.box2 X5 hgp.2
  have E1 := D5.1.eds E1 hgp.1
  have D := D.trans (D5.belowB (B := w.heap.size) (by omega) (by omega))
  have hz5 := D5.1.size
  have S5 := D5.2
  clear S4 D5 hwf2
  go_wp2_with fail
  have X6 := Box2F.made w5 (.int .i64 N2) (.slice (some ⟨g2, o2, none⟩) fs.length c2) 26
  have hb6 : Below w5.heap.size w5 (w5.alloc (.cells #[.int .i64 N2, .slice (some ⟨g2, o2, none⟩) fs.length c2] 26)) := (Below.refl _ _).alloc (Nat.le_refl _) _
  obtain ⟨w6, hw6⟩ : ∃ w6, w6 = w5.alloc (.cells #[.int .i64 N2, .slice (some ⟨g2, o2, none⟩) fs.length c2] 26) := ⟨_, rfl⟩
  rw [← hw6] at X6 hb6 ⊢
  obtain ⟨x6, hx6⟩ : ∃ x6, x6 = w5.heap.size := ⟨_, rfl⟩
  rw [← hx6] at X6 ⊢
  have hx6b : w5.heap.size ≤ x6 ∧ x6 ≠ p ∧ x6 ≠ g2 := by have := E2.blk; have := S5.lt; omega
  have E2 := E2.below hb6
  have D6 : DR A l c p w5 w6 := DR.ofB S5 hb6
  have HS5 := Lib.hid S5
  clear hw6 hx6
  refine (HNX.out p 6 _ D6.2).mono ?_
  rintro e w7 ⟨y, rfl, _, D7⟩
  have X6 := X6.keptP D7.1 (by omega)
  have E2 := D7.1.eds E2 (show ¬ g2 = p by omega)
  have D7 := D6.trans D7
  have hg2p : w1.heap.size ≤ g2 ∧ g2 ≠ p := by omega
  clear D6 hb6 S5
  go_upto_if 15 with fail
  go_cut [] from 13 (fun wx => ∃ (N2 g2 o2 c2 : Nat) (fs : List (Int × Int)), Box2F wx x6 (.int .i64 (N2 : Int)) (.slice (some ⟨g2, o2, none⟩) fs.length c2) ∧ Eds wx g2 o2 fs.length fs ∧ (N2 ≤ 40 ∧ 0 < fs.length ∧ fs.length ≤ 60) ∧ (w1.heap.size ≤ g2 ∧ g2 ≠ p) ∧ DR A l c p w5 wx)
  case first =>
    by_cases hy : y = 0
    · subst hy
      have hz7 := D7.1.size
      have hx6l := X6.box.lt
      go_wp2_with fail
      refine (HDW.out p w7 D7.2).mono ?_
      rintro e w8 ⟨n3, g3, o3, c3, gs, rfl, E3, hg3, ⟨N3, rfl, hN2, hN40, hl0, hl60⟩, D8⟩
      have X8 := X6.keptP D8.1 (by omega)
      have D8 := D7.trans D8
      have X9 := X8.set2 (.int .i64 (N3 : Int)) (.slice (some ⟨g3, o3, none⟩) gs.length c3)
      have D9 := DR.set2 HS5.out D8 (b := x6) hx6b.1 (.int .i64 (N3 : Int)) (.slice (some ⟨g3, o3, none⟩) gs.length c3)
      have E9 := (E3.setOther (a := ⟨x6, 0, none⟩) (by simp only; omega) (.int .i64 (N3 : Int))).setOther (a := ⟨x6, 1, none⟩) (by simp only; omega) (.slice (some ⟨g3, o3, none⟩) gs.length c3)
      obtain ⟨⟨s8, p8, q8⟩, f8, f9⟩ := X8
      have hpw5 := HS5.out.lt
      clear E2 X6 D7 D8 E3
      go_wp2_with fail
      go_meet
      case rel => exact ⟨N3, g3, o3, c3, gs, X9, E9, ⟨hN40, hl0, hl60⟩, ⟨by omega, by omega⟩, D9⟩
    · have hyb : (y == 0) = false := by simp; omega
      go_wp2_with fail
      go_meet
      case rel => exact ⟨N2, g2, o2, c2, fs, X6, E2, h2, hg2p, D7⟩
  clear h2 hg2p hg2 E2 X6 D7
  obtain ⟨N2, g2, o2, c2, fs, X6, E2, h2, hg2, D6⟩ := hcut
  obtain ⟨w6, rfl⟩ : ∃ w6, w6 = wc := ⟨wc, rfl⟩
  have HB2 := HB2.keptP D6.1 (by omega)
  have HB3 := HB3.keptP D6.1 (by omega)
  have X5 := D6.1.box2 X5 hgp.2
  have E1 := D6.1.eds E1 hgp.1
  have D := D.trans (D6.belowB (B := w.heap.size) (by omega) (by omega))
  have hz6 := D6.1.size
  have HSR := Lib.hid D6.2
  obtain ⟨B0, hB0⟩ : ∃ B0, B0 = w1.heap.size := ⟨_, rfl⟩
  have hB0b : b2 < B0 ∧ b3 < B0 ∧ w.heap.size ≤ B0 := by omega
  have HX1 : Hid (∀ W, DR A l c p w6 W → Calls Tryz.prog 77 #[.pointer (some ⟨p, 0, none⟩), .agg #[.int .i64 (N1 : Int), .slice (some ⟨g1, o1, none⟩) es.length c1]] W (fun e w' => ∃ n g o c' es, e = .returned (.agg #[.int .i64 n, .slice (some ⟨g, o, none⟩) es.length c']) ∧ Eds w' g o es.length es ∧ (B0 ≤ g ∧ (g = g1 ∨ W.heap.size ≤ g)) ∧ es.length ≤ 60 ∧ DR A l c p W w')) := fun W hW =>
    (HBD.out p N1 g1 o1 es.length c1 es W hW.2 h1.1 (hW.1.eds E1 hgp.1) hgp.1 h1.2).mono fun e w' ⟨n, g, o, c', es', h1, h2, h3, h4, h5⟩ => ⟨n, g, o, c', es', h1, h2, ⟨by have := hW.1.size; omega, h3⟩, h4, h5⟩
  have HX2 : Hid (∀ W, DR A l c p w6 W → Calls Tryz.prog 77 #[.pointer (some ⟨p, 0, none⟩), .agg #[.int .i64 (N2 : Int), .slice (some ⟨g2, o2, none⟩) fs.length c2]] W (fun e w' => ∃ n g o c' es, e = .returned (.agg #[.int .i64 n, .slice (some ⟨g, o, none⟩) es.length c']) ∧ Eds w' g o es.length es ∧ (B0 ≤ g ∧ (g = g2 ∨ W.heap.size ≤ g)) ∧ es.length ≤ 60 ∧ DR A l c p W w')) := fun W hW =>
    (HBD.out p N2 g2 o2 fs.length c2 fs W hW.2 h2.1 (hW.1.eds E2 hg2.2) hg2.2 h2.2).mono fun e w' ⟨n, g, o, c', es', h1, h2, h3, h4, h5⟩ => ⟨n, g, o, c', es', h1, h2, ⟨by have := hW.1.size; omega, h3⟩, h4, h5⟩
  have hpw6 := D6.2.lt
  have hpB : b2 < p ∧ b3 < p := by omega
  have hgpp : g1 ≠ p ∧ g2 ≠ p := ⟨hgp.1, hg2.2⟩
  obtain ⟨s5, p5, q5⟩ := X5
  obtain ⟨⟨s6, p6, q6⟩, _, _⟩ := X6
  clear hB0 E1 E2 D6
  go_wp2_with fail
  refine wp_region_then 6 (fun i9 v W => match i9 with
    | 0 => v = .pointer (some ⟨p, 0, none⟩)
    | 1 => v = .agg #[.int .i64 (N1 : Int), .slice (some ⟨g1, o1, none⟩) es.length c1]
    | 2 => GrV p B0 v W
    | 3 => v = .pointer (some ⟨p, 0, none⟩)
    | 4 => v = .agg #[.int .i64 (N2 : Int), .slice (some ⟨g2, o2, none⟩) fs.length c2]
    | _ => GrV p B0 v W)
    (fun i => match i with
    | _ => none)
    (fun _ W W' => DR A l c p W W')  (fun W => DR A l c p w6 W) (by kernel_rfl) (by kernel_rfl) ?_ ?_ ?_ ?_ ?_
  · exact DR.ofB HSR.out ((Below.refl _ _).drew)
  · intro i k v W W' hne hd hC hf hE
    match i, hf with
    | 0, hf => exact hf
    | 1, hf => exact hf
    | 2, hf => exact GrV.dr hf hE
    | 3, hf => exact hf
    | 4, hf => exact hf
    | _ + 5, hf => exact GrV.dr hf hE
  · intro k W W' hC hE
    exact DR.trans hC hE
  · simp only [List.take_succ_cons, List.take_zero]
    refine ⟨?_, ?_, ?_, ?_, ?_, ?_, trivial⟩
    · intro a W hC hs hd
      have hW : DR A l c p w6 W := hC
      have e4 : a.tmps[4]?.getD undef = .pointer (some ⟨p, 0, none⟩) := hs 4 (by kernel_rfl)
      refine growsG_none (E := fun W W' => DR A l c p W W') rfl ?_
      clear hs hd
      unfold GrowsE
      go_simp
      exact DR.refl hW.2
    · intro a W hC hs hd
      have hW : DR A l c p w6 W := hC
      have e5 : a.tmps[5]?.getD undef = .pointer (some ⟨x5, 0, none⟩) := hs 5 (by kernel_rfl)
      refine growsG_none (E := fun W W' => DR A l c p W W') rfl ?_
      have k0 := (hW.cell (a := ⟨x5, 0, none⟩) (s5) (by simp only; omega) rfl).trans (p5)
      have k1 := (hW.cell (a := ⟨x5, 1, none⟩) (s5) (by simp only; omega) rfl).trans (q5)
      have k2 := (hW.cell (a := ⟨x6, 0, none⟩) (s6) (by simp only; omega) rfl).trans (p6)
      have k3 := (hW.cell (a := ⟨x6, 1, none⟩) (s6) (by simp only; omega) rfl).trans (q6)
      clear hs hd
      unfold GrowsE
      go_simp
      exact DR.refl hW.2
    · intro a W hC hs hd
      have hW : DR A l c p w6 W := hC
      have e18 : (a.tmps[18]?.getD undef) = .pointer (some ⟨p, 0, none⟩) := hd 0 18 (by kernel_rfl) (by kernel_rfl) (by kernel_rfl)
      have e19 : (a.tmps[19]?.getD undef) = .agg #[.int .i64 (N1 : Int), .slice (some ⟨g1, o1, none⟩) es.length c1] := hd 1 19 (by kernel_rfl) (by kernel_rfl) (by kernel_rfl)
      refine growsG_none (E := fun W W' => DR A l c p W W') rfl ?_
      clear hs hd
      unfold GrowsE
      go_simp
      refine ⟨Below.refl _ _, (HX1.out W hW).mono ?_⟩
      rintro e w9 ⟨n9, g9, o9, c9, e9, rfl, E9, hg9, hl9, D9⟩
      exact ⟨_, rfl, D9, n9, g9, o9, c9, e9, rfl, E9, (by have := hW.1.size; omega), (by have := hW.2.lt; omega), hl9⟩
    · intro a W hC hs hd
      have hW : DR A l c p w6 W := hC
      have e4 : a.tmps[4]?.getD undef = .pointer (some ⟨p, 0, none⟩) := hs 4 (by kernel_rfl)
      refine growsG_none (E := fun W W' => DR A l c p W W') rfl ?_
      clear hs hd
      unfold GrowsE
      go_simp
      exact DR.refl hW.2
    · intro a W hC hs hd
      have hW : DR A l c p w6 W := hC
      have e6 : a.tmps[6]?.getD undef = .pointer (some ⟨x6, 0, none⟩) := hs 6 (by kernel_rfl)
      refine growsG_none (E := fun W W' => DR A l c p W W') rfl ?_
      have k0 := (hW.cell (a := ⟨x5, 0, none⟩) (s5) (by simp only; omega) rfl).trans (p5)
      have k1 := (hW.cell (a := ⟨x5, 1, none⟩) (s5) (by simp only; omega) rfl).trans (q5)
      have k2 := (hW.cell (a := ⟨x6, 0, none⟩) (s6) (by simp only; omega) rfl).trans (p6)
      have k3 := (hW.cell (a := ⟨x6, 1, none⟩) (s6) (by simp only; omega) rfl).trans (q6)
      clear hs hd
      unfold GrowsE
      go_simp
      exact DR.refl hW.2
    · intro a W hC hs hd
      have hW : DR A l c p w6 W := hC
      have e21 : (a.tmps[21]?.getD undef) = .pointer (some ⟨p, 0, none⟩) := hd 3 21 (by kernel_rfl) (by kernel_rfl) (by kernel_rfl)
      have e22 : (a.tmps[22]?.getD undef) = .agg #[.int .i64 (N2 : Int), .slice (some ⟨g2, o2, none⟩) fs.length c2] := hd 4 22 (by kernel_rfl) (by kernel_rfl) (by kernel_rfl)
      refine growsG_none (E := fun W W' => DR A l c p W W') rfl ?_
      clear hs hd
      unfold GrowsE
      go_simp
      refine ⟨Below.refl _ _, (HX2.out W hW).mono ?_⟩
      rintro e w9 ⟨n9, g9, o9, c9, e9, rfl, E9, hg9, hl9, D9⟩
      exact ⟨_, rfl, D9, n9, g9, o9, c9, e9, rfl, E9, (by have := hW.1.size; omega), (by have := hW.2.lt; omega), hl9⟩
  intro vs W hW hf
  have f18 : (vs 18) = .pointer (some ⟨p, 0, none⟩) := hf 0 18 (by decide) (by kernel_rfl) (fun _ hk => by cases hk)
  have f19 : (vs 19) = .agg #[.int .i64 (N1 : Int), .slice (some ⟨g1, o1, none⟩) es.length c1] := hf 1 19 (by decide) (by kernel_rfl) (fun _ hk => by cases hk)
  have f20 : GrV p B0 (vs 20) W := hf 2 20 (by decide) (by kernel_rfl) (fun _ hk => by cases hk)
  obtain ⟨n3, g3, o3, c3, e3, f20, E3, hg3, hgp3, hl3⟩ := f20
  have f21 : (vs 21) = .pointer (some ⟨p, 0, none⟩) := hf 3 21 (by decide) (by kernel_rfl) (fun _ hk => by cases hk)
  have f22 : (vs 22) = .agg #[.int .i64 (N2 : Int), .slice (some ⟨g2, o2, none⟩) fs.length c2] := hf 4 22 (by decide) (by kernel_rfl) (fun _ hk => by cases hk)
  have f23 : GrV p B0 (vs 23) W := hf 5 23 (by decide) (by kernel_rfl) (fun _ hk => by cases hk)
  obtain ⟨n4, g4, o4, c4, e4, f23, E4, hg4, hgp4, hl4⟩ := f23
  simp only [dsts, List.take_succ_cons, List.take_zero, List.drop_succ_cons, List.drop_zero, List.filterMap_cons, List.filterMap_nil, List.foldl_cons, List.foldl_nil, Act.put, List.setIfInBounds_toArray, List.set_cons_succ, List.set_cons_zero, f18, f19, f20, f21, f22, f23]
  clear hf
  have hW : DR A l c p w6 W := hW
  have HB2 := HB2.keptP hW.1 (by omega)
  have HB3 := HB3.keptP hW.1 (by omega)
  have DW := D.trans (hW.belowB (B := w.heap.size) (by omega) (by omega))
  have P2 := ((HB2.set2 (.int .i64 n3) (.slice (some ⟨g3, o3, none⟩) e3.length c3)).setOther (a := ⟨b3, 0, none⟩) (by simp only; omega) (.int .i64 n4)).setOther (a := ⟨b3, 1, none⟩) (by simp only; omega) (.slice (some ⟨g4, o4, none⟩) e4.length c4)
  have P3 := ((HB3.setOther (a := ⟨b2, 0, none⟩) (by simp only; omega) (.int .i64 n3)).setOther (a := ⟨b2, 1, none⟩) (by simp only; omega) (.slice (some ⟨g3, o3, none⟩) e3.length c3)).set2 (.int .i64 n4) (.slice (some ⟨g4, o4, none⟩) e4.length c4)
  have Q3 := (((E3.setOther (a := ⟨b2, 0, none⟩) (by simp only; omega) (.int .i64 n3)).setOther (a := ⟨b2, 1, none⟩) (by simp only; omega) (.slice (some ⟨g3, o3, none⟩) e3.length c3)).setOther (a := ⟨b3, 0, none⟩) (by simp only; omega) (.int .i64 n4)).setOther (a := ⟨b3, 1, none⟩) (by simp only; omega) (.slice (some ⟨g4, o4, none⟩) e4.length c4)
  have Q4 := (((E4.setOther (a := ⟨b2, 0, none⟩) (by simp only; omega) (.int .i64 n3)).setOther (a := ⟨b2, 1, none⟩) (by simp only; omega) (.slice (some ⟨g3, o3, none⟩) e3.length c3)).setOther (a := ⟨b3, 0, none⟩) (by simp only; omega) (.int .i64 n4)).setOther (a := ⟨b3, 1, none⟩) (by simp only; omega) (.slice (some ⟨g4, o4, none⟩) e4.length c4)
  have D9 := (((DW.setCell (p := ⟨b2, 0, none⟩) (by simp only; omega) (.int .i64 n3)).setCell (p := ⟨b2, 1, none⟩) (by simp only; omega) (.slice (some ⟨g3, o3, none⟩) e3.length c3)).setCell (p := ⟨b3, 0, none⟩) (by simp only; omega) (.int .i64 n4)).setCell (p := ⟨b3, 1, none⟩) (by simp only; omega) (.slice (some ⟨g4, o4, none⟩) e4.length c4)
  obtain ⟨⟨s2, p2, q2⟩, f2, f3⟩ := HB2
  have HB3' := (Box2F.setOther (Box2F.setOther HB3 (a := ⟨b2, 0, none⟩) (by simp only; omega) (.int .i64 n3)) (a := ⟨b2, 1, none⟩) (by simp only; omega) (.slice (some ⟨g3, o3, none⟩) e3.length c3))
  obtain ⟨⟨s3, p3, q3⟩, f4, f5⟩ := HB3'
  clear s5 p5 q5 s6 p6 q6 DW E3 E4 HB3 hW D
  go_wp2_with fail
  generalize hw9 : (World.setCell (World.setCell (World.setCell (World.setCell W ⟨b2, 0, none⟩ (.int .i64 n3)) ⟨b2, 1, none⟩ (.slice (some ⟨g3, o3, none⟩) e3.length c3)) ⟨b3, 0, none⟩ (.int .i64 n4)) ⟨b3, 1, none⟩ (.slice (some ⟨g4, o4, none⟩) e4.length c4)) = w9 at P2 P3 Q3 Q4 D9 ⊢
  clear hw9 p2 q2 p3 q3 f2 f3 f4 f5
  obtain ⟨⟨k0, k1, k2⟩, _, _⟩ := P2
  obtain ⟨⟨k3, k4, k5⟩, _, _⟩ := P3
  refine bodyPost_ret (v := .tuple #[.agg #[.int .i64 n3, (.slice (some ⟨g3, o3, none⟩) e3.length c3)], .agg #[.int .i64 n4, (.slice (some ⟨g4, o4, none⟩) e4.length c4)]]) ?_ rfl ⟨n3, g3, o3, c3, e3, n4, g4, o4, c4, e4, rfl, Q3, by omega, hl3, Q4, by omega, hl4, D9⟩
  simp [results, Tryz.results34, go_sem, k1, k2, k4, k5]
end Go.Proofs.YtajnhkkiddeegaaGreat
