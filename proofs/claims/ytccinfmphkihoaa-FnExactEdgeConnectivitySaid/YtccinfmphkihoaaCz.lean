import Derived.Test.YtccinfmphkihoaaCy
import Derived.Deep.RegionHeld3
namespace Go.Proofs.Ytccinfmphkihoaa
open Go.RowKit Go.Sort
/-! ### Sides with a cycle, the reference -/
set_option maxRecDepth 100000 in
set_option maxHeartbeats 4000000 in
theorem l03Cycles_any (n : Int) (b o m c b2 o2 l c2 : Nat) (es : List (Int × Int)) (ls : Nat → Int) (u : Int) (w : World) (h : Eds w b o m es) (hm : m ≤ 1048576) (hn : WfP n es) (h2 : Ints w b2 o2 l ls) (hl2 : l ≤ 1048576) (hls : SetP ls l u) :
    Calls Try.prog 68 #[.agg #[.int .i64 n, .slice (some ⟨b, o, none⟩) m c], .slice (some ⟨b2, o2, none⟩) l c2] w (Ret (.tuple #[.int .i64 (ldCnt es (skS (setN ls l)) n.toNat), .int .i64 (cyT es (skS (setN ls l)) n.toNat n.toNat)]) w) := by
  have KC := cell_rg
  have hbox := Box2.made w (.int .i64 n) (.slice (some ⟨b, o, none⟩) m c) 30
  have hbb := (by go_grown : Below w.heap.size w (w.alloc (.cells #[.int .i64 n, .slice (some ⟨b, o, none⟩) m c] 30)))
  have hl := Lib.hid h.len
  have HW := Lib.hid hn
  have hn2 := hn.1
  have hn20 := hn.2.1
  obtain ⟨N, rfl⟩ : ∃ N : Nat, n = N := ⟨n.toNat, by omega⟩
  rw [Int.toNat_natCast]
  have HRE : Hid (∀ W, Eds W b o m es → Ints W b2 o2 l ls → Calls Try.prog 55 #[.agg #[.int .i64 N, .slice (some ⟨b, o, none⟩) m c], .slice (some ⟨b2, o2, none⟩) l c2] W (RetE (restE es (skS (setN ls l))) W)) := fun W hE hI => rest_any N b o m c b2 o2 l c2 es ls u W hE hm hI hl2 hls
  have HLE : Hid (∀ W g c2, Eds W g 0 (restE es (skS (setN ls l))).length (restE es (skS (setN ls l))) → Calls Try.prog 65 #[.int .i64 N, .slice (some ⟨g, 0, none⟩) (restE es (skS (setN ls l))).length c2] W (RetL (lsF (leadF es (skS (setN ls l))) N) W)) := fun W g c2 hE => by
    have e : lsF (leadF es (skS (setN ls l))) N = lsF (leadF (restE es (skS (setN ls l))) noSk) N := lsF_congr (fun v _ => (lead_rest _ _ _).symm)
    rw [e]
    exact leaders_any N g 0 _ c2 _ W hE (by have := restTo_len es (skS (setN ls l)) es.length; have := hl.out; show (restTo _ _ _).length ≤ _; omega) (inR_rest HW.out.inR) (by omega) (by omega)
  have hmk := run_make_row' (P := Try.prog) 34 2 (.int .i64 0) 8 Try.underlying34 inf2 rfl .i64 .i64 N (by omega) (by omega)
  obtain ⟨sk, hsk⟩ : ∃ sk, skS (setN ls l) = sk := ⟨_, rfl⟩
  rw [hsk] at HRE HLE ⊢
  obtain ⟨fs, hfs⟩ : ∃ fs, restE es sk = fs := ⟨_, rfl⟩
  have hfl : fs.length ≤ m := by rw [← hfs, ← hl.out]; exact restTo_len es sk es.length
  rw [hfs] at HRE HLE
  have HFS := Lib.hid hfs
  have HR : Hid (∀ j, j < fs.length → 0 ≤ ea fs j ∧ ea fs j ≤ (N : Int) - 1 ∧ 0 ≤ eb fs j ∧ eb fs j ≤ (N : Int) - 1) := hfs ▸ inR_rest (sk := sk) hn.inR
  clear hn hls hsk hfs
  go_enter Try.func68, Try.ntmps68
  go_wp2_with fail
  refine (HRE.out _ (h.below hbb) (h2.below hbb)).mono ?_
  rintro e w1 ⟨g1, c1, rfl, ho1, hb1⟩
  have hB1 := hbb.thenB (by simp) hb1
  have hbx := hbox.below hb1
  obtain ⟨s1, p1, q1⟩ := hbox.below hb1
  clear hb1 hbb hbox
  go_wp2_with fail
  refine (HLE.out _ _ _ ho1.eds).mono ?_
  rintro e w2 ⟨AL, cl, rfl, OL, hb2⟩
  obtain ⟨gl, rfl, hbg, hlg⟩ : ∃ g, AL = some ⟨g, 0, none⟩ ∧ w1.heap.size ≤ g ∧ g < w2.heap.size := by
    rcases OL.cases with ⟨_, h0, _⟩ | h0
    · rw [lsF_len] at h0; omega
    · exact h0
  rw [lsF_len] at OL ⊢
  have hF := ho1.eds.below hb2
  have hB2 := hB1.andB hb2
  obtain ⟨s1, p1, q1⟩ := hbx.below hb2
  clear hb2 hB1 ho1 hbx
  go_wp2_with fail
  have HR0 : Hid (((w2.alloc (.cells (madeCells #[.int .i64 0] N) 2)).alloc (.cells (madeCells #[.int .i64 0] N) 2)).drew.rowIs w2.heap.size 2 N (fun _ => .int .i64 0)) :=
    (World.rowIs_made w2 (.int .i64 0) N 2).alloc _
  have HR1 : Hid (((w2.alloc (.cells (madeCells #[.int .i64 0] N) 2)).alloc (.cells (madeCells #[.int .i64 0] N) 2)).drew.rowIs (w2.heap.size + 1) 2 N (fun _ => .int .i64 0)) := by
    have := World.rowIs_made (w2.alloc (.cells (madeCells #[.int .i64 0] N) 2)) (.int .i64 0) N 2
    rw [show (w2.alloc (.cells (madeCells #[.int .i64 0] N) 2)).heap.size = w2.heap.size + 1 by simp [go_sem]] at this
    exact this
  have HB0 : Hid (Below w2.heap.size w2 ((w2.alloc (.cells (madeCells #[.int .i64 0] N) 2)).alloc (.cells (madeCells #[.int .i64 0] N) 2)).drew) :=
    (((Below.refl w2.heap.size w2).alloc (Nat.le_refl _) _).alloc (by simp [go_sem]) _).drew
  go_region_held3 (fun W => W.cell? ⟨w.heap.size, 0, none⟩ = some (.int .i64 N) ∧ W.heap.size ≤ w2.heap.size + 2) (first | go_keep) (fail)
  · obtain ⟨W3, hW3⟩ : ∃ W, W = ((w2.alloc (.cells (madeCells #[.int .i64 0] N) 2)).alloc (.cells (madeCells #[.int .i64 0] N) 2)).drew := ⟨_, rfl⟩
    rw [← hW3] at HR0 HR1 HB0 ⊢
    obtain ⟨I, hI⟩ : ∃ I0, I0 = w2.heap.size + 1 := ⟨_, rfl⟩
    obtain ⟨V, hV⟩ : ∃ V0, V0 = w2.heap.size := ⟨_, rfl⟩
    rw [← hI] at HR1 ⊢
    rw [← hV] at HR0 ⊢
    have hVw : w2.heap.size ≤ V := by omega
    have hIw : w2.heap.size ≤ I := by omega
    have hne : V ≠ I := by omega
    have RV := HR0.out
    have RI := HR1.out
    have HB := HB0.out
    clear hW3 hI hV HR0 HR1 HB0 hmk HLE HRE
    go_wp2_with fail
    go_loopw [10] (fun i wr => ∃ v : Nat, v ≤ N ∧ i = .int .i64 v ∧ wr.rowIs V 2 N (fun x => .int .i64 (cntTo (fun u => decide (leadF es sk u = (x : Int))) v : Nat)) ∧ wr.rowIs I 2 N (fun _ => .int .i64 0) ∧ Below w2.heap.size w2 wr) (fun i _ => N - (intOf i).toNat)
    case atStart => exact ⟨0, Nat.zero_le _, rfl, RV.congr (fun v _ => by simp [cntTo]), RI, HB⟩
    case round =>
      clear RV RI HB
      obtain ⟨v, hv, rfl, hrv, hri, hbr⟩ := hrel
      have s2 : w.heap.size < wr.heap.size := Nat.lt_of_lt_of_le s1 hbr.size
      have p2 := (hbr.cell (p := ⟨w.heap.size, 0, none⟩) s1).trans p1
      by_cases hlt : v < N
      · have l1 := (OL.below hbr).cell hlt
        rw [lsF_at _ hlt] at l1
        have l2 : gl < wr.heap.size := Nat.lt_of_lt_of_le hlg hbr.size
        have y1 := leadF_nonneg es sk v
        have y2 := leadF_le (es := es) (sk := sk) (v := (v : Int)) (by omega)
        obtain ⟨y, hy⟩ : ∃ y : Nat, leadF es sk v = y := ⟨(leadF es sk v).toNat, by omega⟩
        have hyN : y < N := by omega
        rw [hy] at l1
        have e1 := hrv.cell hyN
        have f1 := hrv.frozen y
        have e2 := hrv.lt
        obtain ⟨q, hq⟩ : ∃ q : Nat, cntTo (fun u => decide (leadF es sk u = (y : Int))) v = q := ⟨_, rfl⟩
        have hq20 : q ≤ 20 := by have := cntTo_le (fun u => decide (leadF es sk u = (y : Int))) v; omega
        have HR2 : Hid ((wr.setCell ⟨V, y, none⟩ (.int .i64 ((q : Int) + 1))).rowIs V 2 N (fun x => .int .i64 (cntTo (fun u => decide (leadF es sk u = (x : Int))) (v + 1) : Nat))) := (hrv.set y (.int .i64 ((q : Int) + 1))).congr (fun x _ => by
          by_cases hx : x = y
          · subst hx
            rw [if_pos rfl, cntTo_yes (by simpa using hy), hq]; simp
          · rw [if_neg hx, cntTo_no (by simp only [hy, decide_eq_false_iff_not]; omega)])
        rw [hq] at e1
        have HR3 : Hid ((wr.setCell ⟨V, y, none⟩ (.int .i64 ((q : Int) + 1))).rowIs I 2 N (fun _ => .int .i64 0)) := hri.of_block (Below.heap_setCell _ _ _ _ (fun e => hne e.symm))
        have hb5 : Below w2.heap.size w2 (wr.setCell ⟨V, y, none⟩ (.int .i64 ((q : Int) + 1))) := hbr.setCell hVw _
        clear hy hrv hri hq y1 y2 hbr
        go_wp2_with fail
        go_roundw
        case rel => exact ⟨v + 1, by omega, by go_num, HR2.out, HR3.out, hb5⟩
        case measure => simp [intOf]; omega
      · obtain rfl : v = N := by omega
        go_wp2_with fail
        obtain ⟨w9, rfl⟩ : ∃ w9, w9 = wr := ⟨wr, rfl⟩
        go_loopw [11] (fun i wr => ∃ k : Nat, k ≤ fs.length ∧ i = .int .i64 k ∧ wr.rowIs I 2 v (fun x => .int .i64 (cntTo (fun j => decide (leadF es sk (ea fs j) = (x : Int))) k : Nat)) ∧ wr.rowIs V 2 v (fun x => .int .i64 (vcF es sk v x)) ∧ Below w2.heap.size w2 wr) (fun i _ => fs.length - (intOf i).toNat)
        case atStart => exact ⟨0, Nat.zero_le _, rfl, hri.congr (fun v _ => by simp [cntTo]), hrv, hbr⟩
        case round =>
          clear hri hrv hbr s2 p2
          obtain ⟨k, hk, rfl, hri, hrv, hbr⟩ := hrel
          have s2 : w.heap.size < wr.heap.size := Nat.lt_of_lt_of_le s1 hbr.size
          have p2 := (hbr.cell (p := ⟨w.heap.size, 0, none⟩) s1).trans p1
          by_cases hlt2 : k < fs.length
          · have E := hF.below hbr
            have c1 := E.ca k hlt2
            have s3 := E.blk
            simp only [Nat.zero_add] at c1
            obtain ⟨a1, a2, _, _⟩ := HR.out k hlt2
            obtain ⟨x, hx⟩ : ∃ x : Nat, ea fs k = x := ⟨(ea fs k).toNat, by omega⟩
            have hxN : x < v := by omega
            rw [hx] at c1
            have l1 := (OL.below hbr).cell hxN
            rw [lsF_at _ hxN] at l1
            have l2 : gl < wr.heap.size := Nat.lt_of_lt_of_le hlg hbr.size
            have y1 := leadF_nonneg es sk x
            have y2 := leadF_le (es := es) (sk := sk) (v := (x : Int)) (by omega)
            obtain ⟨y, hy⟩ : ∃ y : Nat, leadF es sk x = y := ⟨(leadF es sk x).toNat, by omega⟩
            have hyN : y < v := by omega
            rw [hy] at l1
            have e1 := hri.cell hyN
            have f1 := hri.frozen y
            have e2 := hri.lt
            obtain ⟨q, hq⟩ : ∃ q : Nat, cntTo (fun j => decide (leadF es sk (ea fs j) = (y : Int))) k = q := ⟨_, rfl⟩
            have hq20 : q ≤ 1048576 := by have := cntTo_le (fun j => decide (leadF es sk (ea fs j) = (y : Int))) k; omega
            have HR2 : Hid ((wr.setCell ⟨I, y, none⟩ (.int .i64 ((q : Int) + 1))).rowIs I 2 v (fun z => .int .i64 (cntTo (fun j => decide (leadF es sk (ea fs j) = (z : Int))) (k + 1) : Nat))) := (hri.set y (.int .i64 ((q : Int) + 1))).congr (fun z _ => by
              by_cases hz : z = y
              · subst hz
                rw [if_pos rfl, cntTo_yes (by simp only [hx, hy, decide_true]), hq]; simp
              · rw [if_neg hz, cntTo_no (by simp only [hx, hy, decide_eq_false_iff_not]; omega)])
            rw [hq] at e1
            have HR3 : Hid ((wr.setCell ⟨I, y, none⟩ (.int .i64 ((q : Int) + 1))).rowIs V 2 v (fun x => .int .i64 (vcF es sk v x))) := hrv.of_block (Below.heap_setCell _ _ _ _ (fun e => hne e))
            have hb5 : Below w2.heap.size w2 (wr.setCell ⟨I, y, none⟩ (.int .i64 ((q : Int) + 1))) := hbr.setCell hIw _
            clear hy hrv hri hq y1 y2 hbr hx a1 a2 E
            go_wp2_with fail
            go_roundw
            case rel => exact ⟨k + 1, by omega, by go_num, HR2.out, HR3.out, hb5⟩
            case measure => simp [intOf]; omega
          · obtain rfl : k = fs.length := by omega
            have hri := hri.congr (g := fun x => .int .i64 (inF es sk x)) (fun x _ => by
              have := rest_cnt es sk (fun z => decide (leadF es sk z = (x : Int))) es.length
              rw [show restTo es sk es.length = fs from HFS.out] at this
              rw [this]; rfl)
            go_wp2_with fail
            obtain ⟨w8, rfl⟩ : ∃ w8, w8 = wr := ⟨wr, rfl⟩
            go_loopw [12, 13, 14] (fun sv cv i wr => ∃ z : Nat, z ≤ v ∧ i = .int .i64 z ∧ sv = .int .i64 (ldCnt es sk z) ∧ cv = .int .i64 (cyT es sk v z) ∧ wr.rowIs I 2 v (fun x => .int .i64 (inF es sk x)) ∧ wr.rowIs V 2 v (fun x => .int .i64 (vcF es sk v x)) ∧ Below w2.heap.size w2 wr) (fun _ _ i _ => v - (intOf i).toNat)
            case atStart => exact ⟨0, Nat.zero_le _, rfl, rfl, rfl, hri, hrv, hbr⟩
            case round =>
              clear hri hrv hbr s2 p2
              obtain ⟨z, hz, rfl, rfl, rfl, hri, hrv, hbr⟩ := hrel
              have s2 : w.heap.size < wr.heap.size := Nat.lt_of_lt_of_le s1 hbr.size
              have p2 := (hbr.cell (p := ⟨w.heap.size, 0, none⟩) s1).trans p1
              have hsl := ldCnt_le es sk z
              have hcl : cyT es sk v z ≤ z := cntTo_le _ _
              by_cases hlt3 : z < v
              · have l1 := (OL.below hbr).cell hlt3
                rw [lsF_at _ hlt3] at l1
                have l2 : gl < wr.heap.size := Nat.lt_of_lt_of_le hlg hbr.size
                by_cases hld : leadF es sk z = z
                · have hne2 : (leadF es sk z != z) = false := by simp [hld]
                  have e1 := hri.cell hlt3
                  have e2 := hrv.cell hlt3
                  have e3 := hri.lt
                  have e4 := hrv.lt
                  have HS : Hid (ldCnt es sk (z + 1) = ldCnt es sk z + 1) := by simp [Hid, ldCnt, hld]
                  by_cases hle : vcF es sk v z ≤ inF es sk z
                  · have HC : Hid (cyT es sk v (z + 1) = cyT es sk v z + 1) := cntTo_yes (by simp [hld, hle])
                    have hle' : (vcF es sk v z : Int) ≤ inF es sk z := by omega
                    clear hld hle
                    go_wp2_with fail
                    (refine wp_region_quiet_below (by kernel_rfl) (by kernel_rfl) ?_
                     repeat (any_goals (go_big_quiet_step (first | fail)))
                     all_goals (refine wpQuiet_nil ?_; intro wq1 hq1; replace hq1 := below_of_rg hq1))
                    go_wp2_with fail
                    go_roundw
                    case rel => exact ⟨z + 1, by omega, by go_num, by rw [HS.out]; go_num, by rw [HC.out]; go_num, hri.of_block (hq1.block _ e3), hrv.of_block (hq1.block _ e4), hbr.andB hq1⟩
                    case measure => simp [intOf]; omega
                  · have HC : Hid (cyT es sk v (z + 1) = cyT es sk v z) := cntTo_no (by simp [hle])
                    have hle' : ¬ (vcF es sk v z : Int) ≤ inF es sk z := by omega
                    clear hld hle
                    go_wp2_with fail
                    (refine wp_region_quiet_below (by kernel_rfl) (by kernel_rfl) ?_
                     repeat (any_goals (go_big_quiet_step (first | fail)))
                     all_goals (refine wpQuiet_nil ?_; intro wq1 hq1; replace hq1 := below_of_rg hq1))
                    go_wp2_with fail
                    go_roundw
                    case rel => exact ⟨z + 1, by omega, by go_num, by rw [HS.out]; go_num, by rw [HC.out], hri.of_block (hq1.block _ e3), hrv.of_block (hq1.block _ e4), hbr.andB hq1⟩
                    case measure => simp [intOf]; omega
                · have hne2 : (leadF es sk z != z) = true := by simp [hld]
                  have HS : Hid (ldCnt es sk (z + 1) = ldCnt es sk z) := by simp [Hid, ldCnt, hld]
                  have HC : Hid (cyT es sk v (z + 1) = cyT es sk v z) := cntTo_no (by simp [hld])
                  clear hld
                  go_wp2_with fail
                  go_roundw
                  case rel => exact ⟨z + 1, by omega, by go_num, by rw [HS.out], by rw [HC.out], hri, hrv, hbr⟩
                  case measure => simp [intOf]; omega
              · obtain rfl : z = v := by omega
                go_wp2_with fail
                go_ret2
                exact ⟨rfl, hB2.trans (hbr.mono (by have := hB2.size; omega))⟩
  · obtain ⟨W3, hW3⟩ : ∃ W, W = ((w2.alloc (.cells (madeCells #[.int .i64 0] N) 2)).alloc (.cells (madeCells #[.int .i64 0] N) 2)).drew := ⟨_, rfl⟩
    rw [← hW3] at HR0 HR1 HB0 ⊢
    obtain ⟨V, hI⟩ : ∃ I0, I0 = w2.heap.size + 1 := ⟨_, rfl⟩
    obtain ⟨I, hV⟩ : ∃ V0, V0 = w2.heap.size := ⟨_, rfl⟩
    rw [← hI] at HR1 ⊢
    rw [← hV] at HR0 ⊢
    have hVw : w2.heap.size ≤ V := by omega
    have hIw : w2.heap.size ≤ I := by omega
    have hne : V ≠ I := by omega
    have RV := HR1.out
    have RI := HR0.out
    have HB := HB0.out
    clear hW3 hI hV HR0 HR1 HB0 hmk HLE HRE
    go_wp2_with fail
    go_loopw [10] (fun i wr => ∃ v : Nat, v ≤ N ∧ i = .int .i64 v ∧ wr.rowIs V 2 N (fun x => .int .i64 (cntTo (fun u => decide (leadF es sk u = (x : Int))) v : Nat)) ∧ wr.rowIs I 2 N (fun _ => .int .i64 0) ∧ Below w2.heap.size w2 wr) (fun i _ => N - (intOf i).toNat)
    case atStart => exact ⟨0, Nat.zero_le _, rfl, RV.congr (fun v _ => by simp [cntTo]), RI, HB⟩
    case round =>
      clear RV RI HB
      obtain ⟨v, hv, rfl, hrv, hri, hbr⟩ := hrel
      have s2 : w.heap.size < wr.heap.size := Nat.lt_of_lt_of_le s1 hbr.size
      have p2 := (hbr.cell (p := ⟨w.heap.size, 0, none⟩) s1).trans p1
      by_cases hlt : v < N
      · have l1 := (OL.below hbr).cell hlt
        rw [lsF_at _ hlt] at l1
        have l2 : gl < wr.heap.size := Nat.lt_of_lt_of_le hlg hbr.size
        have y1 := leadF_nonneg es sk v
        have y2 := leadF_le (es := es) (sk := sk) (v := (v : Int)) (by omega)
        obtain ⟨y, hy⟩ : ∃ y : Nat, leadF es sk v = y := ⟨(leadF es sk v).toNat, by omega⟩
        have hyN : y < N := by omega
        rw [hy] at l1
        have e1 := hrv.cell hyN
        have f1 := hrv.frozen y
        have e2 := hrv.lt
        obtain ⟨q, hq⟩ : ∃ q : Nat, cntTo (fun u => decide (leadF es sk u = (y : Int))) v = q := ⟨_, rfl⟩
        have hq20 : q ≤ 20 := by have := cntTo_le (fun u => decide (leadF es sk u = (y : Int))) v; omega
        have HR2 : Hid ((wr.setCell ⟨V, y, none⟩ (.int .i64 ((q : Int) + 1))).rowIs V 2 N (fun x => .int .i64 (cntTo (fun u => decide (leadF es sk u = (x : Int))) (v + 1) : Nat))) := (hrv.set y (.int .i64 ((q : Int) + 1))).congr (fun x _ => by
          by_cases hx : x = y
          · subst hx
            rw [if_pos rfl, cntTo_yes (by simpa using hy), hq]; simp
          · rw [if_neg hx, cntTo_no (by simp only [hy, decide_eq_false_iff_not]; omega)])
        rw [hq] at e1
        have HR3 : Hid ((wr.setCell ⟨V, y, none⟩ (.int .i64 ((q : Int) + 1))).rowIs I 2 N (fun _ => .int .i64 0)) := hri.of_block (Below.heap_setCell _ _ _ _ (fun e => hne e.symm))
        have hb5 : Below w2.heap.size w2 (wr.setCell ⟨V, y, none⟩ (.int .i64 ((q : Int) + 1))) := hbr.setCell hVw _
        clear hy hrv hri hq y1 y2 hbr
        go_wp2_with fail
        go_roundw
        case rel => exact ⟨v + 1, by omega, by go_num, HR2.out, HR3.out, hb5⟩
        case measure => simp [intOf]; omega
      · obtain rfl : v = N := by omega
        go_wp2_with fail
        obtain ⟨w9, rfl⟩ : ∃ w9, w9 = wr := ⟨wr, rfl⟩
        go_loopw [11] (fun i wr => ∃ k : Nat, k ≤ fs.length ∧ i = .int .i64 k ∧ wr.rowIs I 2 v (fun x => .int .i64 (cntTo (fun j => decide (leadF es sk (ea fs j) = (x : Int))) k : Nat)) ∧ wr.rowIs V 2 v (fun x => .int .i64 (vcF es sk v x)) ∧ Below w2.heap.size w2 wr) (fun i _ => fs.length - (intOf i).toNat)
        case atStart => exact ⟨0, Nat.zero_le _, rfl, hri.congr (fun v _ => by simp [cntTo]), hrv, hbr⟩
        case round =>
          clear hri hrv hbr s2 p2
          obtain ⟨k, hk, rfl, hri, hrv, hbr⟩ := hrel
          have s2 : w.heap.size < wr.heap.size := Nat.lt_of_lt_of_le s1 hbr.size
          have p2 := (hbr.cell (p := ⟨w.heap.size, 0, none⟩) s1).trans p1
          by_cases hlt2 : k < fs.length
          · have E := hF.below hbr
            have c1 := E.ca k hlt2
            have s3 := E.blk
            simp only [Nat.zero_add] at c1
            obtain ⟨a1, a2, _, _⟩ := HR.out k hlt2
            obtain ⟨x, hx⟩ : ∃ x : Nat, ea fs k = x := ⟨(ea fs k).toNat, by omega⟩
            have hxN : x < v := by omega
            rw [hx] at c1
            have l1 := (OL.below hbr).cell hxN
            rw [lsF_at _ hxN] at l1
            have l2 : gl < wr.heap.size := Nat.lt_of_lt_of_le hlg hbr.size
            have y1 := leadF_nonneg es sk x
            have y2 := leadF_le (es := es) (sk := sk) (v := (x : Int)) (by omega)
            obtain ⟨y, hy⟩ : ∃ y : Nat, leadF es sk x = y := ⟨(leadF es sk x).toNat, by omega⟩
            have hyN : y < v := by omega
            rw [hy] at l1
            have e1 := hri.cell hyN
            have f1 := hri.frozen y
            have e2 := hri.lt
            obtain ⟨q, hq⟩ : ∃ q : Nat, cntTo (fun j => decide (leadF es sk (ea fs j) = (y : Int))) k = q := ⟨_, rfl⟩
            have hq20 : q ≤ 1048576 := by have := cntTo_le (fun j => decide (leadF es sk (ea fs j) = (y : Int))) k; omega
            have HR2 : Hid ((wr.setCell ⟨I, y, none⟩ (.int .i64 ((q : Int) + 1))).rowIs I 2 v (fun z => .int .i64 (cntTo (fun j => decide (leadF es sk (ea fs j) = (z : Int))) (k + 1) : Nat))) := (hri.set y (.int .i64 ((q : Int) + 1))).congr (fun z _ => by
              by_cases hz : z = y
              · subst hz
                rw [if_pos rfl, cntTo_yes (by simp only [hx, hy, decide_true]), hq]; simp
              · rw [if_neg hz, cntTo_no (by simp only [hx, hy, decide_eq_false_iff_not]; omega)])
            rw [hq] at e1
            have HR3 : Hid ((wr.setCell ⟨I, y, none⟩ (.int .i64 ((q : Int) + 1))).rowIs V 2 v (fun x => .int .i64 (vcF es sk v x))) := hrv.of_block (Below.heap_setCell _ _ _ _ (fun e => hne e))
            have hb5 : Below w2.heap.size w2 (wr.setCell ⟨I, y, none⟩ (.int .i64 ((q : Int) + 1))) := hbr.setCell hIw _
            clear hy hrv hri hq y1 y2 hbr hx a1 a2 E
            go_wp2_with fail
            go_roundw
            case rel => exact ⟨k + 1, by omega, by go_num, HR2.out, HR3.out, hb5⟩
            case measure => simp [intOf]; omega
          · obtain rfl : k = fs.length := by omega
            have hri := hri.congr (g := fun x => .int .i64 (inF es sk x)) (fun x _ => by
              have := rest_cnt es sk (fun z => decide (leadF es sk z = (x : Int))) es.length
              rw [show restTo es sk es.length = fs from HFS.out] at this
              rw [this]; rfl)
            go_wp2_with fail
            obtain ⟨w8, rfl⟩ : ∃ w8, w8 = wr := ⟨wr, rfl⟩
            go_loopw [12, 13, 14] (fun sv cv i wr => ∃ z : Nat, z ≤ v ∧ i = .int .i64 z ∧ sv = .int .i64 (ldCnt es sk z) ∧ cv = .int .i64 (cyT es sk v z) ∧ wr.rowIs I 2 v (fun x => .int .i64 (inF es sk x)) ∧ wr.rowIs V 2 v (fun x => .int .i64 (vcF es sk v x)) ∧ Below w2.heap.size w2 wr) (fun _ _ i _ => v - (intOf i).toNat)
            case atStart => exact ⟨0, Nat.zero_le _, rfl, rfl, rfl, hri, hrv, hbr⟩
            case round =>
              clear hri hrv hbr s2 p2
              obtain ⟨z, hz, rfl, rfl, rfl, hri, hrv, hbr⟩ := hrel
              have s2 : w.heap.size < wr.heap.size := Nat.lt_of_lt_of_le s1 hbr.size
              have p2 := (hbr.cell (p := ⟨w.heap.size, 0, none⟩) s1).trans p1
              have hsl := ldCnt_le es sk z
              have hcl : cyT es sk v z ≤ z := cntTo_le _ _
              by_cases hlt3 : z < v
              · have l1 := (OL.below hbr).cell hlt3
                rw [lsF_at _ hlt3] at l1
                have l2 : gl < wr.heap.size := Nat.lt_of_lt_of_le hlg hbr.size
                by_cases hld : leadF es sk z = z
                · have hne2 : (leadF es sk z != z) = false := by simp [hld]
                  have e1 := hri.cell hlt3
                  have e2 := hrv.cell hlt3
                  have e3 := hri.lt
                  have e4 := hrv.lt
                  have HS : Hid (ldCnt es sk (z + 1) = ldCnt es sk z + 1) := by simp [Hid, ldCnt, hld]
                  by_cases hle : vcF es sk v z ≤ inF es sk z
                  · have HC : Hid (cyT es sk v (z + 1) = cyT es sk v z + 1) := cntTo_yes (by simp [hld, hle])
                    have hle' : (vcF es sk v z : Int) ≤ inF es sk z := by omega
                    clear hld hle
                    go_wp2_with fail
                    (refine wp_region_quiet_below (by kernel_rfl) (by kernel_rfl) ?_
                     repeat (any_goals (go_big_quiet_step (first | fail)))
                     all_goals (refine wpQuiet_nil ?_; intro wq1 hq1; replace hq1 := below_of_rg hq1))
                    go_wp2_with fail
                    go_roundw
                    case rel => exact ⟨z + 1, by omega, by go_num, by rw [HS.out]; go_num, by rw [HC.out]; go_num, hri.of_block (hq1.block _ e3), hrv.of_block (hq1.block _ e4), hbr.andB hq1⟩
                    case measure => simp [intOf]; omega
                  · have HC : Hid (cyT es sk v (z + 1) = cyT es sk v z) := cntTo_no (by simp [hle])
                    have hle' : ¬ (vcF es sk v z : Int) ≤ inF es sk z := by omega
                    clear hld hle
                    go_wp2_with fail
                    (refine wp_region_quiet_below (by kernel_rfl) (by kernel_rfl) ?_
                     repeat (any_goals (go_big_quiet_step (first | fail)))
                     all_goals (refine wpQuiet_nil ?_; intro wq1 hq1; replace hq1 := below_of_rg hq1))
                    go_wp2_with fail
                    go_roundw
                    case rel => exact ⟨z + 1, by omega, by go_num, by rw [HS.out]; go_num, by rw [HC.out], hri.of_block (hq1.block _ e3), hrv.of_block (hq1.block _ e4), hbr.andB hq1⟩
                    case measure => simp [intOf]; omega
                · have hne2 : (leadF es sk z != z) = true := by simp [hld]
                  have HS : Hid (ldCnt es sk (z + 1) = ldCnt es sk z) := by simp [Hid, ldCnt, hld]
                  have HC : Hid (cyT es sk v (z + 1) = cyT es sk v z) := cntTo_no (by simp [hld])
                  clear hld
                  go_wp2_with fail
                  go_roundw
                  case rel => exact ⟨z + 1, by omega, by go_num, by rw [HS.out], by rw [HC.out], hri, hrv, hbr⟩
                  case measure => simp [intOf]; omega
              · obtain rfl : z = v := by omega
                go_wp2_with fail
                go_ret2
                exact ⟨rfl, hB2.trans (hbr.mono (by have := hB2.size; omega))⟩
end Go.Proofs.Ytccinfmphkihoaa
