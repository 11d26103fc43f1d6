import Derived.Test.YtnoneppmeaeicaaDoorBase
namespace Go.Proofs.YtnoneppmeaeicaaDoor
open Go.RowKit Go.Sort
theorem toEdge_any (a b : Int) (w : World) : Calls Tryd.prog 20 #[.agg #[.int .i64 a, .int .i64 b]] w (Ret (.agg #[.int .i64 a, .int .i64 b]) w) := by
  go_enter Tryd.func20, Tryd.ntmps20
  go_wp2
  go_rounds 3
  refine bodyPost_ret (v := .agg #[.int .i64 a, .int .i64 b]) (by simp [results, Tryd.results20, go_sem]) rfl ⟨rfl, by go_grown⟩
theorem in_any (n l h : Int) (w : World) : Calls Tryd.prog 25 #[.int .i64 n, .int .i64 l, .int .i64 h] w (Is (.bool (inB n l h)) w) := by
  go_enter Tryd.func25, Tryd.ntmps25
  go_wp2
  all_goals (go_ret; exact ⟨ret_bool (by simp [inB, *]; try omega), rfl⟩)
theorem before_any (a b c d : Int) (w : World) : Calls Tryd.prog 18 #[.agg #[.int .i64 a, .int .i64 b], .agg #[.int .i64 c, .int .i64 d]] w (Ret (.bool (befB a b c d)) w) := by
  go_enter Tryd.func18, Tryd.ntmps18
  go_wp2
  all_goals (go_ret; exact ⟨ret_bool (by simp [befB, *]), by go_grown⟩)
theorem eqEdge_any (a b c d : Int) (w : World) : Calls Tryd.prog 24 #[.agg #[.int .i64 a, .int .i64 b], .agg #[.int .i64 c, .int .i64 d]] w (Ret (.bool (eqB a b c d)) w) := by
  have KC := cell_rg
  go_enter Tryd.func24, Tryd.ntmps24
  go_wp2
  go_rounds 3
  (refine wp_region_quiet_below (by kernel_rfl) (by kernel_rfl) ?_
   repeat (any_goals (go_big_quiet_step (first | fail)))
   all_goals (refine wpQuiet_nil ?_; intro wq1 hq1; replace hq1 := below_of_rg hq1))
  have hc := (bcell hq1).1
  have s0 := bsz hq1 w.heap.size (by simp; omega)
  have s1 := bsz hq1 (w.heap.size + 1) (by simp)
  go_wp2
  · rename_i h1
    go_ret
    exact ⟨ret_bool (by simp [eqB] at h1 ⊢; intro h; exact absurd h h1), (by go_grown : Below _ _ _).thenB (by simp; omega) hq1⟩
  · rename_i h1
    rw [rounds_succ]
    go_wp2
    (refine wp_region_quiet_below (by kernel_rfl) (by kernel_rfl) ?_
     repeat (any_goals (go_big_quiet_step (first | fail)))
     all_goals (refine wpQuiet_nil ?_; intro wq2 hq2; replace hq2 := below_of_rg hq2))
    have hc2 := (bcell hq2).1
    go_wp2
    · rename_i h2
      go_ret
      exact ⟨ret_bool (by simp [eqB] at h1 h2 ⊢; intro h; exact h2), ((by go_grown : Below _ _ _).thenB (by simp; omega) hq1).thenB (by have := hq1.size; simp at this; omega) hq2⟩
    · rename_i h2
      rw [rounds_succ]
      go_wp2
      go_ret
      exact ⟨ret_bool (by simp [eqB] at h1 h2 ⊢; exact ⟨h1, h2⟩), ((by go_grown : Below _ _ _).thenB (by simp; omega) hq1).thenB (by have := hq1.size; simp at this; omega) hq2⟩
noncomputable def endsC (n : Int) (es : List (Int × Int)) : Int := if B (WfP n es) then 0 else 2
theorem endsC_no {n : Int} {es : List (Int × Int)} (h : ¬ WfP n es) : 2 = endsC n es := by simp [endsC, B_false h]
theorem endsC_yes {n : Int} {es : List (Int × Int)} (h : WfP n es) : 0 = endsC n es := by simp [endsC, B_true h]
set_option maxHeartbeats 400000 in
theorem ends_any (n : Int) (b o m c : Nat) (es : List (Int × Int)) (w : World) (h : Eds w b o m es) (hm : m ≤ 1048576) :
    Calls Tryd.prog 16 #[.int .i64 n, .slice (some ⟨b, o, none⟩) m c] w (Ret (.int .i64 (endsC n es)) w) := by
  have KC := cell_rg
  have hl := h.len
  by_cases h1 : 2 ≤ n ∧ n ≤ 20
  · obtain ⟨h1a, h1b⟩ := h1
    have hB : inB n 2 20 = true := inB_true h1a h1b
    by_cases h2 : n % 2 = 0
    · by_cases h3 : (m : Int) = 3 * n / 2
      · have H3 : Hid ((m : Int) = 3 * n / 2 ∧ n % 2 = 0 ∧ es.length = m) := ⟨h3, h2, hl⟩
        have h3' : ((m : Int) != 3 * n / 2) = false := by simp [h3]
        have h2' : (n % 2 != 0) = false := by simp [h2]
        clear h3 h2 hl
        go_enter Tryd.func16, Tryd.ntmps16
        go_wp2_with (go_at_call 25; refine (in_any _ _ _ _).mono ?_; rintro e w' ⟨rfl, rfl⟩)
        go_loopw [5] (fun i wr => ∃ k : Nat, k ≤ m ∧ i = .int .i64 k ∧ Hid (∀ j, j < k → 0 ≤ ea es j ∧ ea es j ≤ n - 1 ∧ 0 ≤ eb es j ∧ eb es j ≤ n - 1 ∧ ea es j ≠ eb es j) ∧ Below w.heap.size w wr) (fun i _ => m - (intOf i).toNat)
        case atStart => exact ⟨0, Nat.zero_le _, rfl, fun j hj => by omega, Below.refl _ _⟩
        case round =>
          obtain ⟨k, hk, rfl, HP, hbw⟩ := hrel
          have E := h.below hbw
          by_cases hlt : k < m
          · have e1 := E.ca k hlt
            have e2 := E.cb k hlt
            have eb1 := E.blk
            have hwn : IntKind.i64.wrap (n - 1) = n - 1 := IntWalk.i64_in _ (by omega)
            cases hA : inB (ea es k) 0 (n - 1) with
            | false =>
              have hno : ¬ WfP n es := fun hw => inB_not.1 hA (by have := hw.2.2.2.2 k (by have := h.len; omega); exact ⟨this.1, this.2.1⟩)
              go_wp2_with fail
              (refine wp_region_quiet_below (by kernel_rfl) (by kernel_rfl) ?_
               repeat (any_goals (go_big_quiet_step (first | (go_at_call 25; exact Is.rg (in_any _ _ _ _)))))
               all_goals (refine wpQuiet_nil ?_; intro wq1 hq1; replace hq1 := below_of_rg hq1))
              go_wp2
              go_ret
              exact ⟨ret_int (endsC_no hno), hbw.andB hq1⟩
            | true =>
              cases hA2 : inB (eb es k) 0 (n - 1) with
              | false =>
                have hno : ¬ WfP n es := fun hw => inB_not.1 hA2 (by have := hw.2.2.2.2 k (by have := h.len; omega); exact ⟨this.2.2.1, this.2.2.2.1⟩)
                go_wp2_with fail
                (refine wp_region_quiet_below (by kernel_rfl) (by kernel_rfl) ?_
                 repeat (any_goals (go_big_quiet_step (first | (go_at_call 25; exact Is.rg (in_any _ _ _ _)))))
                 all_goals (refine wpQuiet_nil ?_; intro wq1 hq1; replace hq1 := below_of_rg hq1))
                go_wp2
                go_ret
                exact ⟨ret_int (endsC_no hno), hbw.andB hq1⟩
              | true =>
                cases hA3 : (ea es k == eb es k) with
                | true =>
                  have hno : ¬ WfP n es := fun hw => (hw.2.2.2.2 k (by have := h.len; omega)).2.2.2.2 (by simpa using hA3)
                  go_wp2_with fail
                  (refine wp_region_quiet_below (by kernel_rfl) (by kernel_rfl) ?_
                   repeat (any_goals (go_big_quiet_step (first | (go_at_call 25; exact Is.rg (in_any _ _ _ _)))))
                   all_goals (refine wpQuiet_nil ?_; intro wq1 hq1; replace hq1 := below_of_rg hq1))
                  go_wp2
                  go_ret
                  exact ⟨ret_int (endsC_no hno), hbw.andB hq1⟩
                | false =>
                  have HP' : Hid (∀ j, j < k + 1 → 0 ≤ ea es j ∧ ea es j ≤ n - 1 ∧ 0 ≤ eb es j ∧ eb es j ≤ n - 1 ∧ ea es j ≠ eb es j) := by
                    intro j hj
                    by_cases hjk : j < k
                    · exact HP.out j hjk
                    · obtain rfl : j = k := by omega
                      have a1 := inB_iff.1 hA
                      have a2 := inB_iff.1 hA2
                      exact ⟨a1.1, a1.2, a2.1, a2.2, by simpa using hA3⟩
                  go_wp2_with fail
                  (refine wp_region_quiet_below (by kernel_rfl) (by kernel_rfl) ?_
                   repeat (any_goals (go_big_quiet_step (first | (go_at_call 25; exact Is.rg (in_any _ _ _ _)))))
                   all_goals (refine wpQuiet_nil ?_; intro wq1 hq1; replace hq1 := below_of_rg hq1))
                  go_wp2
                  go_roundw
                  case rel => exact ⟨k + 1, by omega, by go_num, HP', hbw.andB hq1⟩
                  case measure => simp [intOf]; omega
          · have hkm : k = m := by omega
            have hyes : WfP n es := ⟨h1a, h1b, H3.out.2.1, by rw [H3.out.2.2]; exact H3.out.1, fun j hj => HP.out j (by rw [H3.out.2.2] at hj; omega)⟩
            go_wp2_with fail
            go_ret
            exact ⟨ret_int (endsC_yes hyes), hbw⟩
      · have h3' : ((m : Int) != 3 * n / 2) = true := by simp [h3]
        have h2' : (n % 2 != 0) = false := by simp [h2]
        have hno : ¬ WfP n es := fun hw => h3 (by have := hw.2.2.2.1; omega)
        clear h3 h2 hl
        go_enter Tryd.func16, Tryd.ntmps16
        go_wp2_with (go_at_call 25; refine (in_any _ _ _ _).mono ?_; rintro e w' ⟨rfl, rfl⟩)
        go_ret
        exact ⟨ret_int (endsC_no hno), Below.refl _ _⟩
    · have h2' : (n % 2 != 0) = true := by simp; omega
      have hno : ¬ WfP n es := fun hw => h2 hw.2.2.1
      clear h2 hl
      go_enter Tryd.func16, Tryd.ntmps16
      go_wp2_with (go_at_call 25; refine (in_any _ _ _ _).mono ?_; rintro e w' ⟨rfl, rfl⟩)
      go_ret
      exact ⟨ret_int (endsC_no hno), Below.refl _ _⟩
  · have hB : inB n 2 20 = false := inB_false h1
    have hno : ¬ WfP n es := fun hw => h1 ⟨hw.1, hw.2.1⟩
    clear h1 hl
    go_enter Tryd.func16, Tryd.ntmps16
    go_wp2_with (go_at_call 25; refine (in_any _ _ _ _).mono ?_; rintro e w' ⟨rfl, rfl⟩)
    go_ret
    exact ⟨ret_int (endsC_no hno), Below.refl _ _⟩
theorem inf2 : (Tryd.prog.info? 2).map (fun i => (i.zero, i.size, i.bytes)) = some (some (.int .i64 0), 1, 8) := by kernel_rfl
set_option maxHeartbeats 400000 in
theorem cubic_any (N : Nat) (b o m c : Nat) (es : List (Int × Int)) (w : World) (h : Eds w b o m es) (hm : m ≤ 1048576) (hwf : WfP N es) :
    Calls Tryd.prog 17 #[.int .i64 N, .slice (some ⟨b, o, none⟩) m c] w (Ret (.bool (B (CubP N es))) w) := by
  have hN : N ≤ 20 := by have := hwf.2.1; omega
  have hmk := run_make_row' (P := Tryd.prog) 51 2 (.int .i64 0) 8 Tryd.underlying51 inf2 rfl .i64 .i64 N (by omega) (by omega)
  have hl := Lib.hid h.len
  have HWF : Hid (WfP N es) := hwf
  clear hwf
  go_enter Tryd.func17, Tryd.ntmps17
  go_wp2_with fail
  go_loopw [6] (fun i wr => ∃ k : Nat, k ≤ m ∧ i = .int .i64 k ∧ wr.rowIs w.heap.size 2 N (fun v => .int .i64 (degTo es k v)) ∧ Below w.heap.size w wr) (fun i _ => m - (intOf i).toNat)
  case atStart => exact ⟨0, Nat.zero_le _, rfl, (World.rowIs_made w _ N _).congr (fun _ _ => rfl), (Below.refl _ _).alloc (Nat.le_refl _) _⟩
  case round =>
    obtain ⟨k, hk, rfl, hrow, hbw⟩ := hrel
    by_cases hlt : k < m
    · have hw4 := HWF.out.2.2.2.2 k (by rw [hl.out]; exact hlt)
      obtain ⟨x, hx⟩ : ∃ x : Nat, ea es k = (x : Int) := ⟨(ea es k).toNat, by omega⟩
      obtain ⟨y, hy⟩ : ∃ y : Nat, eb es k = (y : Int) := ⟨(eb es k).toNat, by omega⟩
      have hxN : x < N := by omega
      have hyN : y < N := by omega
      have hxy : x ≠ y := by omega
      have E := h.upto h.blk hbw
      have e1 := E.ca k hlt
      have e2 := E.cb k hlt
      have d1 := degTo_bound es k x
      have d2 := degTo_bound es k y
      have c1 := hrow.cell hxN
      have f1 := hrow.frozen x
      have f2 := hrow.frozen y
      have hrow1 := hrow.set x (.int .i64 (degTo es k x + 1))
      have c2 := hrow1.cell hyN
      have hrow2 := hrow1.set y (.int .i64 (degTo es k y + 1))
      have hbl := Nat.ne_of_lt h.blk
      have e2' : (wr.setCell ⟨w.heap.size, x, none⟩ (.int .i64 (degTo es k x + 1))).cell? ⟨b, o + k * 2 + 1, none⟩ = some (.int .i64 (eb es k)) := by
        rw [World.cell?_setCell_other _ _ _ _ (fun hh => hbl (congrArg Addr.block hh).symm)]; exact e2
      rw [if_neg (Ne.symm hxy)] at c2
      clear hw4 hl E
      go_wp2_with fail
      go_roundw
      case rel =>
        refine ⟨k + 1, by omega, by go_num, hrow2.congr ?_, (hbw.setCell (Nat.le_refl _) _).setCell (Nat.le_refl _) _⟩
        intro v hv
        simp only [degTo, hx, hy]
        by_cases h1 : v = y
        · subst h1
          rw [if_pos rfl, if_neg (by omega), if_pos rfl]; go_num
        · rw [if_neg h1, if_neg (show ¬ (y : Int) = (v : Int) by omega)]
          by_cases h2 : v = x
          · subst h2
            rw [if_pos rfl, if_pos rfl]; go_num
          · rw [if_neg h2, if_neg (show ¬ (x : Int) = (v : Int) by omega)]; go_num
      case measure => simp [intOf]; omega
    · obtain rfl : k = m := by omega
      go_wp2_with fail
      go_loop [7] (fun i => ∃ v : Nat, v ≤ N ∧ i = .int .i64 v ∧ Hid (∀ u : Nat, u < v → degTo es k u = 3)) (fun i => N - (intOf i).toNat)
      case atStart => exact ⟨0, Nat.zero_le _, rfl, fun u hu => by omega⟩
      case round =>
        obtain ⟨v, hv, rfl, HP⟩ := hrel
        by_cases hvN : v < N
        · have cv := hrow.cell hvN
          cases h3 : (degTo es k v != 3) with
          | true =>
            go_wp2_with fail
            go_ret
            exact ⟨ret_bool (B_false fun hc => by have := hc v (by omega) (by omega); rw [hl.out] at this; simp [this] at h3).symm, hbw⟩
          | false =>
            have HP' : Hid (∀ u : Nat, u < v + 1 → degTo es k u = 3) := fun u hu => by
              by_cases huv : u < v
              · exact HP.out u huv
              · obtain rfl : u = v := by omega
                simpa using h3
            go_wp2_with fail
            go_round
            case rel => exact ⟨v + 1, by omega, by go_num, HP'⟩
            case measure => simp [intOf]; omega
        · go_wp2_with fail
          go_ret
          exact ⟨ret_bool (B_true fun u h0 h1 => by
            obtain ⟨u, rfl⟩ := Int.eq_ofNat_of_zero_le h0
            rw [hl.out]; exact HP.out u (by omega)).symm, hbw⟩
theorem isG_no1 {n : Int} {es : List (Int × Int)} (h : ¬ WfP n es) : B (IsG n es) = false := B_false fun x => h x.1
theorem isG_no2 {n : Int} {es : List (Int × Int)} (h : ¬ CubP n es) : B (IsG n es) = false := B_false fun x => h x.2.1
set_option maxHeartbeats 1000000 in
theorem l01Is_any (n : Int) (b o m c : Nat) (es : List (Int × Int)) (w : World) (h : Eds w b o m es) (hm : m ≤ 1048576) :
    Calls Tryd.prog 10 #[.agg #[.int .i64 n, .slice (some ⟨b, o, none⟩) m c]] w (Ret (.bool (B (IsG n es))) w) := by
  have KC := cell_rg
  have hl := Lib.hid h.len
  have hbl := h.blk
  by_cases hwf : WfP n es
  · have hE : endsC n es = 0 := (endsC_yes hwf).symm
    obtain ⟨N, rfl⟩ : ∃ N : Nat, n = N := ⟨n.toNat, by have := hwf.1; omega⟩
    have HWF := Lib.hid hwf
    clear hwf
    cases hC : B (CubP N es) with
    | false =>
      have hno := isG_no2 (n := N) (B_not.1 hC)
      go_enter Tryd.func10, Tryd.ntmps10
      go_wp2_with fail
      refine (ends_any _ _ _ _ _ es _ (h.alloc _) hm).mono ?_
      rintro e w1 ⟨rfl, hb1⟩
      have hc1 := (bcell hb1).1
      have s1 := bsz hb1 w.heap.size (by simp)
      go_wp2_with fail
      refine (cubic_any _ _ _ _ _ es _ ((h.alloc _).below hb1) hm HWF.out).mono ?_
      rintro e w2 ⟨rfl, hb2⟩
      go_wp2_with fail
      go_ret
      exact ⟨ret_bool hno.symm, ((by go_grown : Below _ _ (w.alloc _)).thenB (by simp) hb1).andB hb2⟩
    | true =>
      go_enter Tryd.func10, Tryd.ntmps10
      go_wp2_with fail
      refine (ends_any _ _ _ _ _ es _ (h.alloc _) hm).mono ?_
      rintro e w1 ⟨rfl, hb1⟩
      have hc1 := (bcell hb1).1
      have s1 := bsz hb1 w.heap.size (by simp)
      go_wp2_with fail
      refine (cubic_any _ _ _ _ _ es _ ((h.alloc _).below hb1) hm HWF.out).mono ?_
      rintro e w2 ⟨rfl, hb2⟩
      have hb := (by go_grown : Below w.heap.size w (w.alloc (Obj.cells #[Value.int IntKind.i64 N, Value.slice (some ⟨b, o, none⟩) m c] 30)))
      have hbw := (hb.thenB (by simp) hb1).andB hb2
      have x0 : w2.cell? ⟨w.heap.size, 0, none⟩ = some (.int .i64 N) := by rw [(bcell hb2).1 _ _ s1, hc1 _ _ (by simp)]; simp
      have x1 : w2.cell? ⟨w.heap.size, 1, none⟩ = some (.slice (some ⟨b, o, none⟩) m c) := by rw [(bcell hb2).1 _ _ s1, hc1 _ _ (by simp)]; simp
      have s2 := bsz hb2 _ s1
      clear hb1 hb2 hc1 s1 hb w1
      go_wp2_with fail
      go_loopw [3] (fun i wr => ∃ k : Nat, k ≤ m ∧ i = .int .i64 k ∧ Hid (∀ j, j < k → ea es j ≤ eb es j ∧ (0 < j → befB (ea es j) (eb es j) (ea es (j - 1)) (eb es (j - 1)) = false)) ∧ Below w2.heap.size w2 wr) (fun i _ => m - (intOf i).toNat)
      case atStart => exact ⟨0, Nat.zero_le _, rfl, fun j hj => by omega, Below.refl _ _⟩
      case round =>
        obtain ⟨k, hk, rfl, HP, hbr⟩ := hrel
        have y0 := (hbr.cell (p := ⟨w.heap.size, 0, none⟩) s2).trans x0
        have y1 := (hbr.cell (p := ⟨w.heap.size, 1, none⟩) s2).trans x1
        have s3 := bsz hbr _ s2
        by_cases hlt : k < m
        · have E := h.below (hbw.andB hbr)
          have e1 := E.ca k hlt
          have e2 := E.cb k hlt
          have eb1 := E.blk
          by_cases hA : eb es k < ea es k
          · have hA' : decide (eb es k < ea es k) = true := by simp [hA]
            go_wp2_with fail
            (refine wp_region_quiet_below (by kernel_rfl) (by kernel_rfl) ?_
             repeat (any_goals (go_big_quiet_step (first | fail)))
             all_goals (refine wpQuiet_nil ?_; intro wq1 hq1; replace hq1 := below_of_rg hq1))
            go_wp2_with fail
            go_ret
            exact ⟨ret_bool (B_false fun x => by have := x.2.2.1 k (by rw [hl.out]; exact hlt); omega).symm, (hbw.andB hbr).andB hq1⟩
          · have hA' : decide (eb es k < ea es k) = false := by simp; omega
            by_cases hk0 : k = 0
            · subst hk0
              simp only [Nat.zero_mul, Nat.add_zero] at e1 e2
              have HP' : Hid (∀ j, j < 0 + 1 → ea es j ≤ eb es j ∧ (0 < j → befB (ea es j) (eb es j) (ea es (j - 1)) (eb es (j - 1)) = false)) := fun j hj => by
                obtain rfl : j = 0 := by omega
                exact ⟨by omega, fun h => by omega⟩
              go_wp2_with fail
              (refine wp_region_quiet_below (by kernel_rfl) (by kernel_rfl) ?_
               repeat (any_goals (go_big_quiet_step (first | fail)))
               all_goals (refine wpQuiet_nil ?_; intro wq1 hq1; replace hq1 := below_of_rg hq1))
              go_wp2_with fail
              go_roundw
              case rel => exact ⟨1, by omega, by go_num, HP', hbr.andB hq1⟩
              case measure => simp [intOf]; omega
            · obtain ⟨k, rfl⟩ : ∃ k', k = k' + 1 := ⟨k - 1, by omega⟩
              have e3 := E.ca k (by omega)
              have e4 := E.cb k (by omega)
              have hw1 : IntKind.i64.wrap (k : Int) = k := IntWalk.i64_in _ (by omega)
              cases hBf : befB (ea es (k + 1)) (eb es (k + 1)) (ea es k) (eb es k) with
              | true =>
                go_wp2_with fail
                (refine wp_region_quiet_below (by kernel_rfl) (by kernel_rfl) ?_
                 repeat (any_goals (go_big_quiet_step (first | (go_at_call 18; exact Ret.rg (before_any _ _ _ _ _)))))
                 all_goals (refine wpQuiet_nil ?_; intro wq1 hq1; replace hq1 := below_of_rg hq1))
                go_wp2_with fail
                go_ret
                exact ⟨ret_bool (B_false fun x => x.2.2.2 k (by rw [hl.out]; exact hlt) (befB_iff.1 hBf)).symm, (hbw.andB hbr).andB hq1⟩
              | false =>
                have HP' : Hid (∀ j, j < (k + 1) + 1 → ea es j ≤ eb es j ∧ (0 < j → befB (ea es j) (eb es j) (ea es (j - 1)) (eb es (j - 1)) = false)) := fun j hj => by
                  by_cases hjk : j < k + 1
                  · exact HP.out j hjk
                  · obtain rfl : j = k + 1 := by omega
                    exact ⟨by omega, fun _ => by simpa using hBf⟩
                go_wp2_with fail
                (refine wp_region_quiet_below (by kernel_rfl) (by kernel_rfl) ?_
                 repeat (any_goals (go_big_quiet_step (first | (go_at_call 18; exact Ret.rg (before_any _ _ _ _ _)))))
                 all_goals (refine wpQuiet_nil ?_; intro wq1 hq1; replace hq1 := below_of_rg hq1))
                go_wp2_with fail
                go_roundw
                case rel => exact ⟨k + 1 + 1, by omega, by go_num, HP', hbr.andB hq1⟩
                case measure => simp [intOf]; omega
        · go_wp2_with fail
          go_ret
          refine ⟨ret_bool (B_true ⟨HWF.out, B_iff.1 hC, fun j hj => (HP.out j (by have := hl.out; omega)).1, fun j hj => ?_⟩).symm, hbw.andB hbr⟩
          have := (HP.out (j + 1) (by have := hl.out; omega)).2 (by omega)
          exact befB_not.1 this
  · have hE : endsC n es = 2 := (endsC_no hwf).symm
    have hno := isG_no1 hwf
    clear hwf
    go_enter Tryd.func10, Tryd.ntmps10
    go_wp2_with fail
    refine (ends_any _ _ _ _ _ es _ (h.alloc _) hm).mono ?_
    rintro e w1 ⟨rfl, hb1⟩
    go_wp2_with fail
    go_ret
    exact ⟨ret_bool hno.symm, (by go_grown : Below _ _ (w.alloc _)).thenB (by simp) hb1⟩
-- left out in this seat
end Go.Proofs.YtnoneppmeaeicaaDoor
namespace Go.Proofs.YtnoneppmeaeicaaDoor
open Go.RowKit Go.Sort
noncomputable def szE (m : Nat) (l : Int) : Int := if l - m < 0 then -1 else l - m
theorem szEdgeS_any (A : Option Addr) (m c : Nat) (l : Int) (w : World) (hm : m ≤ 9223372036854775807) (hl : 0 ≤ l) (hl2 : l ≤ 1048576) : Calls Tryd.prog 9 #[.slice A m c, .int .i64 l] w (Is (.int .i64 (szE m l)) w) := by
  go_enter Tryd.func9, Tryd.ntmps9
  go_wp2
  all_goals (go_ret; exact ⟨ret_int (by simp only [szE]; split <;> omega), rfl⟩)
theorem szGraph_any (n : Int) (A : Option Addr) (m c : Nat) (l : Int) (w : World) (hm : m ≤ 9223372036854775807) (hl : 0 ≤ l) (hl2 : l ≤ 1048576) : Calls Tryd.prog 4 #[.agg #[.int .i64 n, .slice A m c], .int .i64 l] w (Ret (.int .i64 (szE m l)) w) := by
  have hz : szE m l < 0 ∨ 0 ≤ szE m l := by omega
  have hz1 : szE m l < 0 → szE m l = -1 := by simp only [szE]; split <;> omega
  go_enter Tryd.func4, Tryd.ntmps4
  go_wp2_with (go_at_call 9; refine (szEdgeS_any _ _ _ _ _ hm hl hl2).mono ?_; rintro e w' ⟨rfl, rfl⟩)
  · rename_i h
    go_ret
    exact ⟨ret_int (hz1 h).symm, by go_grown⟩
  · go_ret
    exact ⟨rfl, by go_grown⟩
theorem infE : (Tryd.prog.info? 44).map (fun i => (i.zero, i.size, i.bytes)) = some (some (.agg #[.int .i64 0, .int .i64 0]), 2, 16) := by kernel_rfl
theorem toEdgeS_any (A : Option Addr) (m c : Nat) (es : List (Int × Int)) (w : World) (h : SrcE w A m es) (hm : m ≤ 1048576) : Calls Tryd.prog 12 #[.slice A m c] w (RetE es w) := by
  obtain ⟨i0, hi, hz0, hz1, hz2⟩ := info_parts infE
  have hl := Lib.hid h.1
  go_enter Tryd.func12, Tryd.ntmps12
  go_wp2_with (at_make; refine wpList_make_full _ rfl _ _ 28 rfl w.heap.size 44 i0 _ 2 Tryd.underlying28 hi hz0 hz1 _ _ _ _ m rfl rfl rfl rfl ?_ ?_ ?_ ?_)
  · rw [hz2]; omega
  · unfold maxLen; omega
  · omega
  intro w1 hown hgrow
  have hb1 : Below w.heap.size w w1 := (Below.refl _ _).grown hgrow (Nat.le_refl _) (by simp)
  have hown0 : OwnE w.heap.size w1 w.heap.size m m (es.take 0 ++ List.replicate (m - 0) (0, 0)) := ⟨by simp, by rw [List.take_zero, List.nil_append, Nat.sub_zero, ← flatE_zeros]; exact hown⟩
  clear hown hgrow
  go_wp2_with fail
  go_loopw [4] (fun i wr => ∃ k : Nat, k ≤ m ∧ i = .int .i64 k ∧ OwnE w.heap.size wr w.heap.size m m (es.take k ++ List.replicate (m - k) (0, 0)) ∧ Below w.heap.size w wr) (fun i _ => m - (intOf i).toNat)
  case atStart => exact ⟨0, Nat.zero_le _, rfl, hown0, hb1⟩
  case round =>
    obtain ⟨k, hk, rfl, hown, hbw⟩ := hrel
    clear hown0 hb1
    by_cases hlt : k < m
    · obtain ⟨b, o, rfl, E0⟩ := h.2 (by omega)
      have E := E0.upto E0.blk hbw
      have e1 := E.ca k hlt
      have e2 := E.cb k hlt
      have r1 := hown.eds.ca k hlt
      have r2 := hown.eds.cb k hlt
      rw [Nat.zero_add] at r1 r2
      have fz1 := hown.2.frozenAt (k * 2)
      have fz2 := hown.2.frozenAt (k * 2 + 1)
      have gz := hown.ge.2
      have HO := Lib.hid hown
      clear hown E E0
      go_wp2_with fail
      refine (toEdge_any _ _ _).mono ?_
      rintro e w2 ⟨rfl, hb2⟩
      have g1 := (bcell hb2).1 w.heap.size (k * 2) gz
      have g2 := (bcell hb2).1 w.heap.size (k * 2 + 1) gz
      have g3 := (bcell hb2).2 w.heap.size (k * 2) gz
      have g4 := (bcell hb2).2 w.heap.size (k * 2 + 1) gz
      rw [r1] at g1
      rw [r2] at g2
      rw [fz1] at g3
      rw [fz2] at g4
      go_wp2_with fail
      go_roundw
      case rel =>
        have hs := (HO.out.below hb2).store k (ea es k) (eb es k)
        rw [fill_step hl.out hlt] at hs
        exact ⟨k + 1, by omega, by go_num, hs, ((hbw.andB hb2).setCell (Nat.le_refl _) _).setCell (Nat.le_refl _) _⟩
      case measure => simp [intOf]; omega
    · go_wp2_with fail
      go_ret
      obtain rfl : k = m := by omega
      rw [Nat.sub_self, List.replicate_zero, List.append_nil, List.take_of_length_le (by rw [hl.out]; exact Nat.le_refl _)] at hown
      refine ⟨w.heap.size, k, ?_, ?_, hbw⟩
      · rw [hl.out]; rfl
      · rw [hl.out]; exact hown
theorem toGraph_any (n : Int) (A : Option Addr) (m c : Nat) (es : List (Int × Int)) (w : World) (h : SrcE w A m es) (hm : m ≤ 1048576) : Calls Tryd.prog 6 #[.agg #[.int .i64 n, .slice A m c]] w (RetG n es w) := by
  go_enter Tryd.func6, Tryd.ntmps6
  go_wp2_with fail
  refine (toEdgeS_any A m c es _ (h.below (by go_grown)) hm).mono ?_
  rintro e w2 ⟨g, c2, rfl, hown, hb2⟩
  have hc1 := bcell hb2
  have s2 := bsz hb2 (w.heap.size + 1 + 1) (by simp)
  simp only [World.size_alloc] at hown
  have g0 := hown.ge
  have HO := Lib.hid hown
  have hc0 := hc1.1
  have hc2 := hc1.2
  have sz := hb2.size
  simp only [World.size_alloc] at sz
  clear hown hc1
  go_wp2_with fail
  have hb := (by go_grown : Below w.heap.size w (((w.alloc (Obj.cells #[Value.int IntKind.i64 n, Value.slice A m c] 24)).alloc (Obj.cells #[Value.int IntKind.i64 0, Value.slice none 0 0] 30)).alloc (Obj.cells #[Value.int IntKind.i64 n, Value.slice none 0 0] 30)))
  refine bodyPost_ret (v := .agg #[.int .i64 n, .slice (some ⟨g, 0, none⟩) es.length c2]) ?_ rfl ⟨g, c2, rfl, ?_, ?_⟩
  · simp [results, Tryd.results6, go_sem, hc0]
  · exact (((HO.out.setOther (by simp; omega) _).setOther (by simp; omega) _).setOther (by simp; omega) _).mono (by omega)
  · exact (((hb.thenB (by simp; omega) hb2).setCell (by simp; omega) _).setCell (by simp) _).setCell (by simp) _
theorem eqEdgeS_any (b1 o1 m1 c1 b2 o2 m2 c2 : Nat) (es fs : List (Int × Int)) (w : World) (h1 : Eds w b1 o1 m1 es) (h2 : Eds w b2 o2 m2 fs) (hm : m1 ≤ 1048576) (hm2 : m2 ≤ 1048576) :
    Calls Tryd.prog 15 #[.slice (some ⟨b1, o1, none⟩) m1 c1, .slice (some ⟨b2, o2, none⟩) m2 c2] w (Ret (.bool (B (es = fs))) w) := by
  have KC := cell_rg
  have l1 := Lib.hid h1.len
  have l2 := Lib.hid h2.len
  by_cases hmm : m1 = m2
  · subst hmm
    go_enter Tryd.func15, Tryd.ntmps15
    go_wp2_with fail
    go_loopw [5] (fun i wr => ∃ k : Nat, k ≤ m1 ∧ i = .int .i64 k ∧ Hid (∀ j, j < k → ea es j = ea fs j ∧ eb es j = eb fs j) ∧ Below w.heap.size w wr) (fun i _ => m1 - (intOf i).toNat)
    case atStart => exact ⟨0, Nat.zero_le _, rfl, fun j hj => by omega, Below.refl _ _⟩
    case round =>
      obtain ⟨k, hk, rfl, HP, hbw⟩ := hrel
      by_cases hlt : k < m1
      · have E1 := h1.below hbw
        have E2 := h2.below hbw
        have a1 := E1.ca k hlt
        have a2 := E1.cb k hlt
        have a3 := E2.ca k hlt
        have a4 := E2.cb k hlt
        have a5 := E1.blk
        have a6 := E2.blk
        cases hq : eqB (ea es k) (eb es k) (ea fs k) (eb fs k) with
        | true =>
          have HP' : Hid (∀ j, j < k + 1 → ea es j = ea fs j ∧ eb es j = eb fs j) := fun j hj => by
            by_cases hjk : j < k
            · exact HP.out j hjk
            · obtain rfl : j = k := by omega
              exact eqB_iff.1 hq
          go_wp2_with fail
          (refine wp_region_quiet_below (by kernel_rfl) (by kernel_rfl) ?_
           repeat (any_goals (go_big_quiet_step (first | (go_at_call 24; exact Ret.rg (eqEdge_any _ _ _ _ _)))))
           all_goals (refine wpQuiet_nil ?_; intro wq1 hq1; replace hq1 := below_of_rg hq1))
          go_wp2_with fail
          go_roundw
          case rel => exact ⟨k + 1, by omega, by go_num, HP', hbw.andB hq1⟩
          case measure => simp [intOf]; omega
        | false =>
          go_wp2_with fail
          (refine wp_region_quiet_below (by kernel_rfl) (by kernel_rfl) ?_
           repeat (any_goals (go_big_quiet_step (first | (go_at_call 24; exact Ret.rg (eqEdge_any _ _ _ _ _)))))
           all_goals (refine wpQuiet_nil ?_; intro wq1 hq1; replace hq1 := below_of_rg hq1))
          go_wp2_with fail
          go_ret
          exact ⟨ret_bool (B_false fun x => eqB_not.1 hq (by rw [x]; exact ⟨rfl, rfl⟩)).symm, hbw.andB hq1⟩
      · go_wp2_with fail
        go_ret
        exact ⟨ret_bool (B_true (es_ext (by rw [l1.out, l2.out]) fun j hj => HP.out j (by rw [l1.out] at hj; omega))).symm, hbw⟩
  · have hne : ((m1 : Int) != (m2 : Int)) = true := by simp; omega
    go_enter Tryd.func15, Tryd.ntmps15
    go_wp2_with fail
    go_ret
    exact ⟨ret_bool (B_false fun x => hmm (by rw [← l1.out, ← l2.out, x])).symm, Below.refl _ _⟩
theorem eqGraph_any (n1 n2 : Int) (b1 o1 m1 c1 b2 o2 m2 c2 : Nat) (es fs : List (Int × Int)) (w : World) (h1 : Eds w b1 o1 m1 es) (h2 : Eds w b2 o2 m2 fs) (hm : m1 ≤ 1048576) (hm2 : m2 ≤ 1048576) :
    Calls Tryd.prog 8 #[.agg #[.int .i64 n1, .slice (some ⟨b1, o1, none⟩) m1 c1], .agg #[.int .i64 n2, .slice (some ⟨b2, o2, none⟩) m2 c2]] w (Ret (.bool (B (n1 = n2 ∧ es = fs))) w) := by
  cases hn : (n1 != n2) with
  | true =>
    go_enter Tryd.func8, Tryd.ntmps8
    go_wp2_with fail
    go_ret
    exact ⟨ret_bool (B_false fun x => by simp [x.1] at hn).symm, by go_grown⟩
  | false =>
    have hn' : n1 = n2 := by simpa using hn
    have hB : B (n1 = n2 ∧ es = fs) = B (es = fs) := by rw [hn']; simp
    have HB := Lib.hid hB
    clear hB hn'
    cases hq : B (es = fs) with
    | true =>
      go_enter Tryd.func8, Tryd.ntmps8
      go_wp2_with fail
      refine (eqEdgeS_any _ _ _ _ _ _ _ _ es fs _ ((h1.alloc _).alloc _) ((h2.alloc _).alloc _) hm hm2).mono ?_
      rintro e w1 ⟨rfl, hb1⟩
      go_wp2_with fail
      go_ret
      exact ⟨ret_bool (by rw [HB.out, hq]), (by go_grown : Below _ _ ((w.alloc _).alloc _)).thenB (by simp; omega) hb1⟩
    | false =>
      go_enter Tryd.func8, Tryd.ntmps8
      go_wp2_with fail
      refine (eqEdgeS_any _ _ _ _ _ _ _ _ es fs _ ((h1.alloc _).alloc _) ((h2.alloc _).alloc _) hm hm2).mono ?_
      rintro e w1 ⟨rfl, hb1⟩
      go_wp2_with fail
      go_ret
      exact ⟨ret_bool (by rw [HB.out, hq]), (by go_grown : Below _ _ ((w.alloc _).alloc _)).thenB (by simp; omega) hb1⟩
end Go.Proofs.YtnoneppmeaeicaaDoor
