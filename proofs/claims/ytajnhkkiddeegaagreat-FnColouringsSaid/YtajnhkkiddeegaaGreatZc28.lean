import Derived.Deep.Cut
import Derived.Test.YtajnhkkiddeegaaGreatZc24
import Derived.Test.YtajnhkkiddeegaaGreatZc27
set_option linter.unusedVariables false
set_option linter.unusedSimpArgs false
namespace Go.Proofs.YtajnhkkiddeegaaGreat
open Go.RowKit Go.Sort
theorem Kept.box2 {S : Nat → Prop} {w w' : World} (k : Kept S w w') {b : Nat} {v0 v1 : Value} (h : Box2 w b v0 v1) (hs : ¬ S b) : Box2 w' b v0 v1 :=
  ⟨k.lt h.lt, (k.cell h.lt hs 0).trans h.c0, (k.cell h.lt hs 1).trans h.c1⟩
/-- The call returns a list of m numbers. -/
def RetM (m : Nat) (w : World) (e : Ending) (w' : World) : Prop := ∃ (g c' : Nat) (xs : List Int), e = .returned (.slice (some ⟨g, 0, none⟩) m c') ∧ xs.length = m ∧ w.heap.size ≤ g ∧ Ints w' g 0 m (ia xs) ∧ Below w.heap.size w w'
set_option maxRecDepth 100000 in
set_option maxHeartbeats 1000000 in
theorem l02Exchange_any (n : Int) (b o m c b2 o2 c2 e : Nat) (es : List (Int × Int)) (cs : Nat → Int) (bb : Int) (w : World) (h : Eds w b o m es) (hm : m ≤ 60) (hG : IsG n es) (h2 : Ints w b2 o2 m cs) (he : e < m) :
    Calls Tryz.prog 115 #[.agg #[.int .i64 n, .slice (some ⟨b, o, none⟩) m c], .slice (some ⟨b2, o2, none⟩) m c2, .int .i64 e, .int .i64 bb] w (RetM m w) := by
  have KC := cell_rg
  have hb1 : Below w.heap.size w (w.alloc (.cells #[.int .i64 n, .slice (some ⟨b, o, none⟩) m c] 26)) := (Below.refl _ _).alloc (Nat.le_refl _) _
  obtain ⟨w1, hw1⟩ : ∃ w1, w1 = w.alloc (.cells #[.int .i64 n, .slice (some ⟨b, o, none⟩) m c] 26) := ⟨_, rfl⟩
  have HCH := Lib.hid (l02Chain_any n b o m c b2 o2 c2 e es cs bb w1 (by rw [hw1]; exact h.below hb1) (by omega) hG (by rw [hw1]; exact h2.below hb1) he)
  go_enter Tryz.func115, Tryz.ntmps115
  go_wp2_with fail
  rw [← hw1] at hb1 ⊢
  clear hw1
  refine HCH.out.mono ?_
  rintro ee w2 ⟨g, rfl, hg, R, hb2⟩
  have hB := hb1.andB hb2
  have I2 := h2.below hB
  have hz1 := hb1.size
  clear hb1 hb2
  go_wp2_with fail
  have O3 : OwnL w2.heap.size (w2.alloc (.cells #[] 2)) (some ⟨w2.heap.size, 0, none⟩) 0 0 [] := OwnL.empty _ _ _ (Nat.le_refl _) (heap_alloc_new w2 _)
  have hb3 : Below w2.heap.size w2 (w2.alloc (.cells #[] 2)) := (Below.refl _ _).alloc (Nat.le_refl _) _
  obtain ⟨w3, hw3⟩ : ∃ w3, w3 = w2.alloc (.cells #[] 2) := ⟨_, rfl⟩
  rw [← hw3] at O3 hb3 ⊢
  clear hw3
  go_loopw [10, 11] (fun ov fv wv => ∃ (f : Nat) (A1 : Option Addr) (c1 : Nat) (xs : List Int), f ≤ m ∧ fv = .int .i64 f ∧ ov = .slice A1 f c1 ∧ OwnL w2.heap.size wv A1 f c1 xs ∧ Below w2.heap.size w2 wv) (fun _ fv _ => m - (intOf fv).toNat)
  case atStart => exact ⟨0, _, _, [], Nat.zero_le _, rfl, rfl, O3, hb3⟩
  case round =>
    clear O3 hb3
    obtain ⟨f, A1, c1, xs, hf, rfl, rfl, O, hbv⟩ := hrel
    by_cases hlt : f < m
    · have hwf : IntKind.i64.wrap ((f : Int) + 1) = (f : Int) + 1 := IntWalk.i64_in _ (by omega)
      have I := I2.below hbv
      have R4 := R.of_block (hbv.block g R.lt)
      have r1 := R4.cell hlt
      have zR := R4.lt
      have d1 := I.c f hlt
      have d2 := I.c e he
      have zI := I.blk
      have hzv := hbv.size
      clear I R4
      cases hh : hasB (chS es cs e bb) f with
      | true =>
        rw [hh] at r1
        clear hh
        go_wp2_with fail
        have hA2 : some b2 ≠ blkOf A1 := blk_ne (fun y hy => (O.blk y hy).1) I2.blk
        have i0 : (0 : Int) ≤ (f : Int) := by omega
        have i1 : (f : Int) < (m : Int) := by omega
        have i2 : (0 : Int) ≤ (e : Int) := by omega
        have i3 : (e : Int) < (m : Int) := by omega
        go_region_held3 (fun W => W.cell? ⟨b2, o2 + e, none⟩ = some (.int .i64 (cs e)) ∧ W.cell? ⟨b2, o2 + f, none⟩ = some (.int .i64 (cs f)))
          (first | go_keep | (rw [hgr9.cell_far _ (by simp; omega) hA2, hgr9.cell_far _ (by simp; omega) hA2]; go_keep))
          ((refine step_appL (by rfl) (by rfl) (by rfl) (by rfl) (by exact heap_alloc_new wr _) (by exact O.below (((Below.refl wr.heap.size wr).alloc (Nat.le_refl _) _).drew)) (by simp; omega) (by omega) ?_; intro A8 c8 w8 O8 hgr9 hat9))
        have hb8 := (hbv.alloc hzv _).drew.grown hgr9 (by simp; omega) (fun y hy => (O.blk y hy).1)
        go_wp2_with fail
        go_roundw
        case rel => exact ⟨f + 1, A8, c8, _, by omega, by go_num, rfl, O8, hb8⟩
        case measure => simp [intOf]; omega
      | false =>
        rw [hh] at r1
        clear hh
        go_wp2_with (at_builtin; refine wp_appL1 rfl rfl rfl rfl (by simp) O hzv (by omega) ?_; intro A8 c8 w8 O8 hg8 hat8)
        have hb8 := hbv.grown hg8 hzv (fun x hx => (O.blk x hx).1)
        go_roundw
        case rel => exact ⟨f + 1, A8, c8, _, by omega, by go_num, rfl, O8, hb8⟩
        case measure => simp [intOf]; omega
    · obtain rfl : f = m := by omega
      obtain ⟨g9, rfl, hg9⟩ : ∃ g, A1 = some ⟨g, 0, none⟩ ∧ w2.heap.size ≤ g := by
        rcases O.cases with ⟨_, h0, _⟩ | ⟨g, e, hg, _⟩
        · omega
        · exact ⟨g, e, hg⟩
      obtain ⟨bb, oo, e0, I⟩ := O.src (by omega)
      injection e0 with e0
      injection e0 with e1 e2
      subst e1 e2
      have hxl := O.1
      have hBF := hB.andB hbv
      have hz2 := hB.size
      clear O
      go_wp2_with fail
      go_ret
      exact ⟨g9, c1, xs, rfl, hxl, by omega, I, hBF⟩
theorem tk_rows {m most : Nat} (L : List (Nat → Int)) {j : Nat} (hj : j < (tkL most (L.map (lsN m))).length) : (ra (tkL most (L.map (lsN m))) j).length = m := by
  have hm : ra (tkL most (L.map (lsN m))) j ∈ tkL most (L.map (lsN m)) := by
    simp only [ra, List.getD_eq_getElem?_getD, List.getElem?_eq_getElem hj, Option.getD_some]
    exact List.getElem_mem hj
  unfold tkL at hm
  obtain ⟨x, _, hx⟩ := List.mem_map.1 (List.take_subset _ _ hm)
  unfold tkL
  rw [← hx, lsN_len]
/-- The call returns a list, whatever it holds. -/
def RetV (A : Option Addr) (l c p : Nat) (w : World) (e : Ending) (w' : World) : Prop := ∃ (g o m' c' : Nat) (xs : List Int), e = .returned (.slice (some ⟨g, o, none⟩) m' c') ∧ xs.length = m' ∧ w.heap.size ≤ g ∧ Ints w' g o m' (ia xs) ∧ m' ≤ 60 ∧ DR A l c p w w'
set_option maxRecDepth 100000 in
set_option maxHeartbeats 4000000 in
theorem l02DrawOf_any (A : Option Addr) (l c p : Nat) (n : Int) (b o m c2 : Nat) (es : List (Int × Int)) (w : World) (S : SR A l c p w) (hl : l ≤ 4096) (E : Eds w b o m es) (hbp : b ≠ p) (hm : m ≤ 60) :
    Calls Tryz.prog 64 #[.pointer (some ⟨p, 0, none⟩), .agg #[.int .i64 n, .slice (some ⟨b, o, none⟩) m c2]] w (RetV A l c p w) := by
  have KC := cell_rg
  have hpw := S.lt
  have HS0 := Lib.hid S
  have X1 := Box2.made w (.int .i64 n) (.slice (some ⟨b, o, none⟩) m c2) 26
  have hb1 : Below w.heap.size w (w.alloc (.cells #[.int .i64 n, .slice (some ⟨b, o, none⟩) m c2] 26)) := (Below.refl _ _).alloc (Nat.le_refl _) _
  have HNX := Lib.hid (fun (k : Int) W (hS : SR A l c p W) => l01Next_any A l c p k W hS hl)
  have HIS := Lib.hid (fun W (h : Eds W b o m es) => l01Is_any n b o m c2 es W h (by omega))
  have E1 := E.below hb1
  have D1 : DR A l c p w (w.alloc (.cells #[.int .i64 n, .slice (some ⟨b, o, none⟩) m c2] 26)) := DR.ofB S hb1
  obtain ⟨w1, hw1⟩ : ∃ w1, w1 = w.alloc (.cells #[.int .i64 n, .slice (some ⟨b, o, none⟩) m c2] 26) := ⟨_, rfl⟩
  obtain ⟨x3, hx3⟩ : ∃ x3, x3 = w.heap.size := ⟨_, rfl⟩
  rw [← hw1, ← hx3] at X1
  rw [← hw1] at hb1 E1 D1
  have hEl := Lib.hid E.len
  clear S E
  go_enter Tryz.func64, Tryz.ntmps64
  go_upto_region 1 with fail
  rw [← hw1, ← hx3]
  have HX3 : w.heap.size = x3 := hx3.symm
  have XC := X1
  obtain ⟨s3, p3, q3⟩ := XC
  clear hw1 hx3 hb1
  go_wp2_with fail
  refine (HIS.out _ E1).mono ?_
  rintro e w2 ⟨rfl, hb2⟩
  have X2 := X1.below hb2
  have E2 := E1.below hb2
  have D2 := D1.thenB hb2
  clear X1 E1 D1 hb2 s3 p3 q3
  by_cases hG : IsG n es
  rotate_left
  · have hBG := B_false hG
    have hz2 := D2.1.size
    rw [hBG]
    clear X2 E2 hBG
    go_wp2_with fail
    go_ret
    refine ⟨w2.heap.size, 0, 0, 0, [], rfl, rfl, hz2, ⟨by simp, fun j hj => by omega⟩, Nat.zero_le _, D2.thenB ((Below.refl _ _).alloc (Nat.le_refl _) _)⟩
  have hn2 := hG.wf.1
  have hlen := hG.wf.2.2.2.1
  obtain ⟨N, rfl⟩ : ∃ N : Nat, n = N := ⟨n.toNat, by omega⟩
  have hm3 : 3 ≤ m := by rw [← hEl.out]; omega
  have HNM := Lib.hid (l02Normal_any N b o m c2 5 es w2 E2 (by omega) hG (by omega))
  have HG := Lib.hid hG
  rw [B_true hG]
  have XC := X2
  obtain ⟨s3, p3, q3⟩ := XC
  clear hG hn2 hlen hm3
  have hm3 : 3 ≤ m := by have := HG.out.wf.1; have := HG.out.wf.2.2.2.1; rw [hEl.out] at this; omega
  go_wp2_with fail
  refine HNM.out.mono ?_
  rintro e w3 ⟨AL, cL, rfl, OL, hb3⟩
  have hz2 := D2.1.size
  have HRW := Lib.hid (fun j hj => tk_rows (m := m) (most := 5) (allC es (ia [])) (j := j) hj)
  obtain ⟨rows, hrows⟩ : ∃ rows, rows = tkL 5 ((allC es (ia [])).map (lsN m)) := ⟨_, rfl⟩
  rw [← hrows] at OL HRW ⊢
  have X3 := X2.below hb3
  have E3 := E2.below hb3
  have D3 := D2.thenB hb3
  obtain ⟨R, hR⟩ : ∃ R, R = rows.length := ⟨_, rfl⟩
  rw [← hR] at OL HRW ⊢
  have HRL := Lib.hid hR
  have hR6 : R ≤ 6 := by rw [hR, hrows]; unfold tkL; exact List.length_take_le _ _
  clear hrows hR X2 E2 D2 s3 p3 q3 hb3 HNM
  go_upto_region 4 with fail
  go_cut [24] from 17 (fun s24 wx => ∃ bb : Bool, s24 = .bool bb ∧ DR A l c p w wx ∧ Box2 wx x3 (.int .i64 (N : Int)) (.slice (some ⟨b, o, none⟩) m c2) ∧ Eds wx b o m es ∧ (bb = false → 0 < R ∧ ∀ j, j < R → ∃ g gj cj, AL = some ⟨g, 0, none⟩ ∧ w.heap.size ≤ g ∧ g < wx.heap.size ∧ w.heap.size ≤ gj ∧ wx.cell? ⟨g, j, none⟩ = some (.slice (some ⟨gj, 0, none⟩) m cj) ∧ Ints wx gj 0 m (ia (ra rows j))))
  case first =>
    by_cases hR0 : R = 0
    · subst hR0
      go_wp2_with fail
      go_meet
      case rel => exact ⟨true, rfl, D3, X3, E3, fun h => nomatch h⟩
    · have hR1 : (0 : Int) < R := by omega
      have hRb : ((R : Int) == 0) = false := by simp; omega
      go_wp2_with fail
      refine (HNX.out 24 _ D3.2).mono ?_
      rintro e w4 ⟨y, rfl, _, D4⟩
      have hz3 := D3.1.size
      have hFR : ∀ j, j < R → ∃ g gj cj, AL = some ⟨g, 0, none⟩ ∧ w.heap.size ≤ g ∧ g < w4.heap.size ∧ w.heap.size ≤ gj ∧ w4.cell? ⟨g, j, none⟩ = some (.slice (some ⟨gj, 0, none⟩) m cj) ∧ Ints w4 gj 0 m (ia (ra rows j)) := fun j hj => by
        obtain ⟨g, Aj, cj, hA, hbg, hg, hc, ho⟩ := OL.at hj
        have hrl := HRW.out j hj
        rw [hrl] at hc ho
        obtain ⟨gj, rfl, hgj⟩ : ∃ gj, Aj = some ⟨gj, 0, none⟩ ∧ w2.heap.size ≤ gj := by
          rcases ho.cases with ⟨_, h0, _⟩ | ⟨gj, e, hg, _⟩
          · omega
          · exact ⟨gj, e, hg⟩
        obtain ⟨bb, oo, e0, I⟩ := ho.src (by omega)
        injection e0 with e0
        injection e0 with e1 e2
        subst e1 e2
        exact ⟨g, gj, cj, hA, by omega, Nat.lt_of_lt_of_le hg D4.1.size, by omega, (D4.cell (a := ⟨g, j, none⟩) hg (by simp only; omega) rfl).trans hc, D4.1.ints I (show ¬ gj = p by omega)⟩
      have X4 := D4.1.box2 X3 (show ¬ x3 = p by omega)
      have E4 := D4.1.eds E3 hbp
      have D4 := D3.trans D4
      clear OL X3 E3 D3
      by_cases hy : y = 0
      · subst hy
        go_wp2_with fail
        go_meet
        case rel => exact ⟨true, rfl, D4, X4, E4, fun h => nomatch h⟩
      · have hyb : (y == 0) = false := by simp; omega
        go_wp2_with fail
        go_meet
        case rel => exact ⟨false, rfl, D4, X4, E4, fun _ => ⟨by omega, hFR⟩⟩
  case rest =>
    clear OL X3 E3 D3
    obtain ⟨bb, rfl, D4, X4, E4, HF⟩ := hcut
    obtain ⟨w4, rfl⟩ : ∃ w4, w4 = wc := ⟨wc, rfl⟩
    have HF := Lib.hid HF
    cases bb with
    | true =>
      clear HF E4
      have hx4 := X4.lt
      have O5 : OwnL w4.heap.size (w4.alloc (.cells #[] 2)) (some ⟨w4.heap.size, 0, none⟩) 0 0 [] := OwnL.empty _ _ _ (Nat.le_refl _) (heap_alloc_new w4 _)
      have D5 : DR A l c p w (w4.alloc (.cells #[] 2)) := D4.thenB ((Below.refl _ _).alloc (Nat.le_refl _) _)
      have X5 : Box2 (w4.alloc (.cells #[] 2)) x3 (.int .i64 (N : Int)) (.slice (some ⟨b, o, none⟩) m c2) := X4.below ((Below.refl _ _).alloc (Nat.le_refl _) _)
      go_upto_region 6 with fail
      obtain ⟨w5, hw5⟩ : ∃ w5, w5 = w4.alloc (.cells #[] 2) := ⟨_, rfl⟩
      rw [← hw5] at O5 D5 X5 ⊢
      have hz45 : w4.heap.size ≤ w5.heap.size := by rw [hw5]; simp
      clear hw5
      have hz4 := D4.1.size
      go_wp2_with fail
      go_loopw [6, 7] (fun ov fv wv => ∃ (f : Nat) (A1 : Option Addr) (c1 : Nat) (xs : List Int), f ≤ m ∧ fv = .int .i64 f ∧ ov = .slice A1 f c1 ∧ OwnL w4.heap.size wv A1 f c1 xs ∧ Box2 wv x3 (.int .i64 (N : Int)) (.slice (some ⟨b, o, none⟩) m c2) ∧ w4.heap.size ≤ wv.heap.size ∧ DR A l c p w wv) (fun _ fv _ => m - (intOf fv).toNat)
      case atStart => exact ⟨0, _, _, [], Nat.zero_le _, rfl, rfl, O5, X5, hz45, D5⟩
      case round =>
        clear O5 X5 D5
        obtain ⟨f, A1, c1, xs, hf, rfl, rfl, O, X, hz4v, D⟩ := hrel
        have XC := X
        obtain ⟨s3, p3, q3⟩ := XC
        by_cases hlt : f < m
        · have hwf : IntKind.i64.wrap ((f : Int) + 1) = (f : Int) + 1 := IntWalk.i64_in _ (by omega)
          go_wp2_with fail
          refine (HNX.out 3 _ D.2).mono ?_
          rintro e w6 ⟨y, rfl, _, D6⟩
          have O6 := O.keptP D6.1 (by omega)
          have X6 := D6.1.box2 X (show ¬ x3 = p by omega)
          have hz67 := D6.1.size
          have D6 := D.trans D6
          have hz46 : w4.heap.size ≤ w6.heap.size := Nat.le_trans hz4v hz67
          clear O X D s3 p3 q3
          go_wp2_with (at_builtin; refine wp_appL1 rfl rfl rfl rfl (by simp) O6 hz46 (by omega) ?_; intro A8 c8 w8 O8 hg8 hat8)
          have X8 := X6.kept hg8 (fun e => by have := (O6.blk x3 e.symm).1; omega)
          have D8 := DR.grown HS0.out D6 hg8 (fun g hg => by have := (O6.blk g hg).1; omega)
          go_roundw
          case rel => exact ⟨f + 1, A8, c8, _, by omega, by go_num, rfl, O8, X8, Nat.le_trans hz46 hg8.size, D8⟩
          case measure => simp [intOf]; omega
        · obtain rfl : f = m := by omega
          obtain ⟨g9, rfl, hg9⟩ : ∃ g, A1 = some ⟨g, 0, none⟩ ∧ w4.heap.size ≤ g := by
            rcases O.cases with ⟨_, h0, _⟩ | ⟨g, e, hg, _⟩
            · omega
            · exact ⟨g, e, hg⟩
          obtain ⟨bb, oo, e0, I⟩ := O.src (by omega)
          injection e0 with e0
          injection e0 with e1 e2
          subst e1 e2
          have hxl := O.1
          clear O X
          go_wp2_with fail
          go_ret
          exact ⟨g9, 0, f, c1, xs, rfl, hxl, by omega, I, hm, D⟩
    | false =>
      obtain ⟨hR1, HF2⟩ := HF.out rfl
      have HF2 := Lib.hid HF2
      clear HF
      go_wp2_with fail
      refine (HNX.out R _ D4.2).mono ?_
      rintro e w5 ⟨y, rfl, hy, D5⟩
      obtain ⟨q, rfl⟩ : ∃ q : Nat, y = q := ⟨y.toNat, by have := hy.1; omega⟩
      have hqR : q < R := by have := hy.2.1 (by omega); omega
      obtain ⟨g, gj, cj, rfl, hg0, hg4, hgj, cq, I4⟩ := HF2.out q hqR
      have cq := (D5.cell (a := ⟨g, q, none⟩) hg4 (by simp only; omega) rfl).trans cq
      have zg := Nat.lt_of_lt_of_le hg4 D5.1.size
      have I5 := D5.1.ints I4 (show ¬ gj = p by omega)
      have X5 := D5.1.box2 X4 (show ¬ x3 = p by omega)
      have E5 := D5.1.eds E4 hbp
      have D5 := D4.trans D5
      clear hy I4 X4 E4 D4 HF2
      go_wp2_with fail
      refine (HNX.out 3 _ D5.2).mono ?_
      rintro e w6 ⟨y, rfl, hy, D6⟩
      obtain ⟨k0, rfl⟩ : ∃ q : Nat, y = q := ⟨y.toNat, by have := hy.1; omega⟩
      have I6 := D6.1.ints I5 (show ¬ gj = p by omega)
      have X6 := D6.1.box2 X5 (show ¬ x3 = p by omega)
      have E6 := D6.1.eds E5 hbp
      have D6 := D5.trans D6
      have hk02 : k0 ≤ 2 := by have := hy.2.1 (by omega); omega
      have hxl := HRW.out q hqR
      clear hy I5 X5 E5 D5 cq zg
      go_wp2_with fail
      go_loopw [8, 9] (fun sv kv wv => ∃ (k g8 c8 : Nat) (xs : List Int), k ≤ 2 ∧ kv = .int .i64 k ∧ sv = .slice (some ⟨g8, 0, none⟩) m c8 ∧ xs.length = m ∧ w.heap.size ≤ g8 ∧ Ints wv g8 0 m (ia xs) ∧ Box2 wv x3 (.int .i64 (N : Int)) (.slice (some ⟨b, o, none⟩) m c2) ∧ Eds wv b o m es ∧ DR A l c p w wv) (fun _ kv _ => (intOf kv).toNat)
      case atStart => exact ⟨k0, gj, cj, _, hk02, rfl, rfl, hxl, hgj, I6, X6, E6, D6⟩
      case round =>
        clear I6 X6 E6 D6 hxl hgj
        obtain ⟨k, g8, c8, xs, hk2, rfl, rfl, hxl, hg8, I, X, E, D⟩ := hrel
        by_cases hk0 : 0 < k
        · have hwk : IntKind.i64.wrap ((k : Int) - 1) = ((k - 1 : Nat) : Int) := by rw [IntWalk.i64_in _ (by omega)]; omega
          obtain ⟨k1, hk1⟩ : ∃ k1, k1 = k - 1 := ⟨_, rfl⟩
          rw [← hk1] at hwk
          go_wp2_with fail
          refine (HNX.out m _ D.2).mono ?_
          rintro e w7 ⟨y, rfl, hy, D7⟩
          obtain ⟨q, rfl⟩ : ∃ q : Nat, y = q := ⟨y.toNat, by have := hy.1; omega⟩
          have hqm : q < m := by have := hy.2.1 (by omega); omega
          have I7 := D7.1.ints I (show ¬ g8 = p by omega)
          have X7 := D7.1.box2 X (show ¬ x3 = p by omega)
          have E7 := D7.1.eds E hbp
          have D7 := D.trans D7
          have HSR := Lib.hid D7.2
          clear hy I X E D
          obtain ⟨s3, p3, q3⟩ := X7
          have d8 := I7.c q hqm
          rw [Nat.zero_add] at d8
          have z8 := I7.blk
          go_wp2_with fail
          refine wp_region_then 12 (fun i9 v W => match i9 with
            | 0 => v = .agg #[.int .i64 (N : Int), .slice (some ⟨b, o, none⟩) m c2]
            | 1 => v = .slice (some ⟨g8, 0, none⟩) m c8
            | 2 => v = .int .i64 (q : Int)
            | 3 => v = .slice (some ⟨g8, 0, none⟩) m c8
            | 4 => v = .int .i64 (q : Int)
            | 5 => v = .pointer (some ⟨g8, q, none⟩)
            | 6 => v = .int .i64 (ia xs q)
            | 7 => IntV v
            | 8 => v = .pointer (some ⟨p, 0, none⟩)
            | 9 => IntV v
            | 10 => IntV v
            | _ => IntV v)
            (fun i => match i with
            | _ => none)
            (fun _ W W' => DR A l c p W W')  (fun W => DR A l c p w7 W) (by kernel_rfl) (by kernel_rfl) ?_ ?_ ?_ ?_ ?_
          · exact DR.ofB HSR.out ((Below.refl _ _).drew)
          · intro i k v W W' hne hd hC hf hE
            match i, hf with
            | 0, hf => exact hf
            | 1, hf => exact hf
            | 2, hf => exact hf
            | 3, hf => exact hf
            | 4, hf => exact hf
            | 5, hf => exact hf
            | 6, hf => exact hf
            | 7, hf => exact hf
            | 8, hf => exact hf
            | 9, hf => exact hf
            | 10, hf => exact hf
            | _ + 11, hf => exact hf
          · intro k W W' hC hE
            exact DR.trans hC hE
          · simp only [List.take_succ_cons, List.take_zero]
            refine ⟨?_, ?_, ?_, ?_, ?_, ?_, ?_, ?_, ?_, ?_, ?_, ?_, trivial⟩
            · intro a W hC hs hd
              have hW : DR A l c p w7 W := hC
              have e3 : a.tmps[3]?.getD undef = .pointer (some ⟨x3, 0, none⟩) := hs 3 (by kernel_rfl)
              refine growsG_none (E := fun W W' => DR A l c p W W') rfl ?_
              have k0 := (hW.cell (a := ⟨x3, 0, none⟩) (s3) (by simp only; omega) rfl).trans (p3)
              have k1 := (hW.cell (a := ⟨x3, 1, none⟩) (s3) (by simp only; omega) rfl).trans (q3)
              have k2 := (hW.cell (a := ⟨g8, q, none⟩) (z8) (by simp only; omega) rfl).trans (d8)
              clear hs hd
              unfold GrowsE
              go_simp
              exact DR.refl hW.2
            · intro a W hC hs hd
              have hW : DR A l c p w7 W := hC
              have e8 : a.tmps[8]?.getD undef = .slice (some ⟨g8, 0, none⟩) m c8 := hs 8 (by kernel_rfl)
              refine growsG_none (E := fun W W' => DR A l c p W W') rfl ?_
              clear hs hd
              unfold GrowsE
              go_simp
              exact DR.refl hW.2
            · intro a W hC hs hd
              have hW : DR A l c p w7 W := hC
              have e10 : a.tmps[10]?.getD undef = .int .i64 (q : Int) := hs 10 (by kernel_rfl)
              refine growsG_none (E := fun W W' => DR A l c p W W') rfl ?_
              clear hs hd
              unfold GrowsE
              go_simp
              exact DR.refl hW.2
            · intro a W hC hs hd
              have hW : DR A l c p w7 W := hC
              have e8 : a.tmps[8]?.getD undef = .slice (some ⟨g8, 0, none⟩) m c8 := hs 8 (by kernel_rfl)
              refine growsG_none (E := fun W W' => DR A l c p W W') rfl ?_
              clear hs hd
              unfold GrowsE
              go_simp
              exact DR.refl hW.2
            · intro a W hC hs hd
              have hW : DR A l c p w7 W := hC
              have e10 : a.tmps[10]?.getD undef = .int .i64 (q : Int) := hs 10 (by kernel_rfl)
              refine growsG_none (E := fun W W' => DR A l c p W W') rfl ?_
              clear hs hd
              unfold GrowsE
              go_simp
              exact DR.refl hW.2
            · intro a W hC hs hd
              have hW : DR A l c p w7 W := hC
              have e59 : (a.tmps[59]?.getD undef) = .slice (some ⟨g8, 0, none⟩) m c8 := hd 3 59 (by kernel_rfl) (by kernel_rfl) (by kernel_rfl)
              have e60 : (a.tmps[60]?.getD undef) = .int .i64 (q : Int) := hd 4 60 (by kernel_rfl) (by kernel_rfl) (by kernel_rfl)
              refine growsG_none (E := fun W W' => DR A l c p W W') rfl ?_
              have k0 := (hW.cell (a := ⟨x3, 0, none⟩) (s3) (by simp only; omega) rfl).trans (p3)
              have k1 := (hW.cell (a := ⟨x3, 1, none⟩) (s3) (by simp only; omega) rfl).trans (q3)
              have k2 := (hW.cell (a := ⟨g8, q, none⟩) (z8) (by simp only; omega) rfl).trans (d8)
              clear hs hd
              unfold GrowsE
              go_simp
              exact DR.refl hW.2
            · intro a W hC hs hd
              have hW : DR A l c p w7 W := hC
              have e61 : (a.tmps[61]?.getD undef) = .pointer (some ⟨g8, q, none⟩) := hd 5 61 (by kernel_rfl) (by kernel_rfl) (by kernel_rfl)
              refine growsG_none (E := fun W W' => DR A l c p W W') rfl ?_
              have k0 := (hW.cell (a := ⟨x3, 0, none⟩) (s3) (by simp only; omega) rfl).trans (p3)
              have k1 := (hW.cell (a := ⟨x3, 1, none⟩) (s3) (by simp only; omega) rfl).trans (q3)
              have k2 := (hW.cell (a := ⟨g8, q, none⟩) (z8) (by simp only; omega) rfl).trans (d8)
              clear hs hd
              unfold GrowsE
              go_simp
              exact DR.refl hW.2
            · intro a W hC hs hd
              have hW : DR A l c p w7 W := hC
              have e62 : (a.tmps[62]?.getD undef) = .int .i64 (ia xs q) := hd 6 62 (by kernel_rfl) (by kernel_rfl) (by kernel_rfl)
              refine growsG_none (E := fun W W' => DR A l c p W W') rfl ?_
              clear hs hd
              unfold GrowsE
              go_simp
              exact ⟨DR.refl hW.2, _, rfl⟩
            · intro a W hC hs hd
              have hW : DR A l c p w7 W := hC
              have e0 : a.tmps[0]?.getD undef = .pointer (some ⟨p, 0, none⟩) := hs 0 (by kernel_rfl)
              refine growsG_none (E := fun W W' => DR A l c p W W') rfl ?_
              clear hs hd
              unfold GrowsE
              go_simp
              exact DR.refl hW.2
            · intro a W hC hs hd
              have hW : DR A l c p w7 W := hC
              have e64 : (a.tmps[64]?.getD undef) = .pointer (some ⟨p, 0, none⟩) := hd 8 64 (by kernel_rfl) (by kernel_rfl) (by kernel_rfl)
              refine growsG_none (E := fun W W' => DR A l c p W W') rfl ?_
              clear hs hd
              unfold GrowsE
              go_simp
              refine ⟨Below.refl _ _, (HNX.out 2 W hW.2).mono ?_⟩
              rintro e w9 ⟨x9, rfl, hx9, D9⟩
              exact ⟨_, rfl, D9, x9, rfl⟩
            · intro a W hC hs hd
              have hW : DR A l c p w7 W := hC
              have e63 : IntV (a.tmps[63]?.getD undef) := hd 7 63 (by kernel_rfl) (by kernel_rfl) (by kernel_rfl)
              obtain ⟨x63, e63⟩ := e63
              have e65 : IntV (a.tmps[65]?.getD undef) := hd 9 65 (by kernel_rfl) (by kernel_rfl) (by kernel_rfl)
              obtain ⟨x65, e65⟩ := e65
              refine growsG_none (E := fun W W' => DR A l c p W W') rfl ?_
              clear hs hd
              unfold GrowsE
              go_simp
              exact ⟨DR.refl hW.2, _, rfl⟩
            · intro a W hC hs hd
              have hW : DR A l c p w7 W := hC
              have e66 : IntV (a.tmps[66]?.getD undef) := hd 10 66 (by kernel_rfl) (by kernel_rfl) (by kernel_rfl)
              obtain ⟨x66, e66⟩ := e66
              refine growsG_none (E := fun W W' => DR A l c p W W') rfl ?_
              clear hs hd
              unfold GrowsE
              go_simp
              exact ⟨DR.refl hW.2, _, rfl⟩
          intro vs W hW hf
          have f56 : (vs 56) = .agg #[.int .i64 (N : Int), .slice (some ⟨b, o, none⟩) m c2] := hf 0 56 (by decide) (by kernel_rfl) (fun _ hk => by cases hk)
          have f57 : (vs 57) = .slice (some ⟨g8, 0, none⟩) m c8 := hf 1 57 (by decide) (by kernel_rfl) (fun _ hk => by cases hk)
          have f58 : (vs 58) = .int .i64 (q : Int) := hf 2 58 (by decide) (by kernel_rfl) (fun _ hk => by cases hk)
          have f59 : (vs 59) = .slice (some ⟨g8, 0, none⟩) m c8 := hf 3 59 (by decide) (by kernel_rfl) (fun _ hk => by cases hk)
          have f60 : (vs 60) = .int .i64 (q : Int) := hf 4 60 (by decide) (by kernel_rfl) (fun _ hk => by cases hk)
          have f61 : (vs 61) = .pointer (some ⟨g8, q, none⟩) := hf 5 61 (by decide) (by kernel_rfl) (fun _ hk => by cases hk)
          have f62 : (vs 62) = .int .i64 (ia xs q) := hf 6 62 (by decide) (by kernel_rfl) (fun _ hk => by cases hk)
          have f63 : IntV (vs 63) := hf 7 63 (by decide) (by kernel_rfl) (fun _ hk => by cases hk)
          obtain ⟨x63, f63⟩ := f63
          have f64 : (vs 64) = .pointer (some ⟨p, 0, none⟩) := hf 8 64 (by decide) (by kernel_rfl) (fun _ hk => by cases hk)
          have f65 : IntV (vs 65) := hf 9 65 (by decide) (by kernel_rfl) (fun _ hk => by cases hk)
          obtain ⟨x65, f65⟩ := f65
          have f66 : IntV (vs 66) := hf 10 66 (by decide) (by kernel_rfl) (fun _ hk => by cases hk)
          obtain ⟨x66, f66⟩ := f66
          have f67 : IntV (vs 67) := hf 11 67 (by decide) (by kernel_rfl) (fun _ hk => by cases hk)
          obtain ⟨x67, f67⟩ := f67
          simp only [dsts, List.take_succ_cons, List.take_zero, List.drop_succ_cons, List.drop_zero, List.filterMap_cons, List.filterMap_nil, List.foldl_cons, List.foldl_nil, Act.put, List.setIfInBounds_toArray, List.set_cons_succ, List.set_cons_zero, f56, f57, f58, f59, f60, f61, f62, f63, f64, f65, f66, f67]
          clear hf
          have hW : DR A l c p w7 W := hW
          have I8 := hW.1.ints I7 (show ¬ g8 = p by omega)
          have X8 := hW.1.box2 ⟨s3, p3, q3⟩ (show ¬ x3 = p by omega)
          have E8 := hW.1.eds E7 hbp
          have DV := D7.trans hW
          have HEX := Lib.hid (l02Exchange_any N b o m c2 g8 0 c8 q es (ia xs) x67 W E8 hm HG.out I8 hqm)
          have hzW := DV.1.size
          clear hW E7 I7 D7 s3 p3 q3 d8 z8 I8
          go_wp2_with fail
          refine HEX.out.mono ?_
          rintro e w8 ⟨g9, c9, ys, rfl, hyl, hg9, I9, hb9⟩
          have X9 := X8.below hb9
          have E9 := E8.below hb9
          have D9 := DV.thenB hb9
          clear X8 E8 DV
          go_wp2_with fail
          go_roundw
          case rel => exact ⟨k1, g9, c9, ys, by omega, by go_num, rfl, hyl, by omega, I9, X9, E9, D9⟩
          case measure => simp [intOf]; omega
        · obtain rfl : k = 0 := by omega
          clear X E
          go_wp2_with fail
          go_ret
          exact ⟨g8, 0, m, c8, xs, rfl, hxl, hg8, I, hm, D⟩
end Go.Proofs.YtajnhkkiddeegaaGreat
