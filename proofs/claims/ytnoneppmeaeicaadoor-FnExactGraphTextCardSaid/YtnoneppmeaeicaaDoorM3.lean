import Derived.Test.YtnoneppmeaeicaaDoorM2
namespace Go.Proofs.YtnoneppmeaeicaaDoor
open Go.RowKit Go.Sort
/-- A slice of whole numbers in memory. -/
structure Ints (w : World) (b o m : Nat) (g : Nat → Int) : Prop where
  blk : b < w.heap.size
  c : ∀ j, j < m → w.cell? ⟨b, o + j, none⟩ = some (.int .i64 (g j))
theorem Ints.below {w w' : World} {b o m : Nat} {g : Nat → Int} (h : Ints w b o m g) (hb : Below w.heap.size w w') : Ints w' b o m g :=
  ⟨Nat.lt_of_lt_of_le h.blk hb.size, fun j hj => (hb.cell (p := ⟨b, o + j, none⟩) h.blk).trans (h.c j hj)⟩
theorem Ints.alloc {w : World} {b o m : Nat} {g : Nat → Int} (h : Ints w b o m g) (x : Obj) : Ints (w.alloc x) b o m g :=
  h.below ((Below.refl _ _).alloc (Nat.le_refl _) _)
theorem Ints.of_row {w : World} {b m : Nat} {t : TypeId} {g : Nat → Int} (h : w.rowIs b t m (fun v => .int .i64 (g v))) : Ints w b 0 m g :=
  ⟨h.lt, fun j hj => by rw [Nat.zero_add]; exact h.cell hj⟩
theorem closI_any (f : FuncId) (caps : Array Value) (bx : Nat) (a : Int) (r : Bool) (w : World) (he : Enters f) (hc : w.cell? ⟨bx, 0, none⟩ = some (.func (.func f) #[] caps))
    (hf : ∀ w', Below w.heap.size w w' → Calls Tryd.prog f (#[.int .i64 a] ++ caps) w' (Ret (.bool r) w')) :
    Calls Tryd.prog 51 #[.int .i64 a, .pointer (some ⟨bx, 0, none⟩)] w (Ret (.bool (!r)) w) := by
  have hbx : bx < w.heap.size := World.block_lt_of_cell? w _ hc
  have hF := Lib.hid hf
  have he1 := he
  unfold Enters at he1
  clear hf he
  go_enter Tryd.func51, Tryd.ntmps51
  go_wp2_with fail
  refine (hF.out _ (by go_grown)).mono ?_
  rintro e w1 ⟨rfl, hb1⟩
  go_wp2_with fail
  go_ret
  exact ⟨rfl, hb1⟩
theorem indexFuncI_any (f : FuncId) (caps : Array Value) (bx : Nat) (r : Nat → Bool) (b o m c : Nat) (g : Nat → Int) (w : World) (h : Ints w b o m g) (hm : m ≤ 1048576) (he : Enters f) (hc : w.cell? ⟨bx, 0, none⟩ = some (.func (.func f) #[] caps))
    (hf : ∀ j, j < m → ∀ w', Below w.heap.size w w' → Calls Tryd.prog f (#[.int .i64 (g j)] ++ caps) w' (Ret (.bool (r j)) w')) :
    Calls Tryd.prog 59 #[.slice (some ⟨b, o, none⟩) m c, .func (.func 51) #[] #[.pointer (some ⟨bx, 0, none⟩)]] w (Ret (.int .i64 (fstI (fun j => !(r j)) m)) w) := by
  have hbx : bx < w.heap.size := World.block_lt_of_cell? w _ hc
  have hF := Lib.hid hf
  have hE := Lib.hid he
  have hC := Lib.hid hc
  clear hf he hc
  go_enter Tryd.func59, Tryd.ntmps59
  go_wp2_with fail
  go_loopw [8] (fun i wr => ∃ k : Nat, k ≤ m ∧ i = .int .i64 k ∧ Hid (∀ j, j < k → (!(r j)) = false) ∧ Below w.heap.size w wr) (fun i _ => m - (intOf i).toNat)
  case atStart => exact ⟨0, Nat.zero_le _, rfl, fun j hj => by omega, Below.refl _ _⟩
  case round =>
    obtain ⟨k, hk, rfl, HP, hbw⟩ := hrel
    by_cases hlt : k < m
    · have E := h.below hbw
      have e1 := E.c k hlt
      cases hq : r k with
      | true =>
        have HP' : Hid (∀ j, j < k + 1 → (!(r j)) = false) := fun j hj => by
          by_cases hjk : j < k
          · exact HP.out j hjk
          · obtain rfl : j = k := by omega
            rw [hq]; rfl
        clear E
        go_wp2_with fail
        refine (closI_any f caps bx _ (r k) _ hE.out ((hbw.cell (p := ⟨bx, 0, none⟩) hbx).trans hC.out) (fun w' hw' => hF.out k hlt w' (hbw.andB hw'))).mono ?_
        rintro e w2 ⟨rfl, hb2⟩
        rw [hq]
        go_wp2_with fail
        go_roundw
        case rel => exact ⟨k + 1, by omega, by go_num, HP', hbw.andB hb2⟩
        case measure => simp [intOf]; omega
      | false =>
        clear E
        go_wp2_with fail
        refine (closI_any f caps bx _ (r k) _ hE.out ((hbw.cell (p := ⟨bx, 0, none⟩) hbx).trans hC.out) (fun w' hw' => hF.out k hlt w' (hbw.andB hw'))).mono ?_
        rintro e w2 ⟨rfl, hb2⟩
        rw [hq]
        go_wp2_with fail
        go_ret
        exact ⟨ret_int (fstI_at hlt (by rw [hq]; rfl) HP.out).symm, hbw.andB hb2⟩
    · go_wp2_with fail
      go_ret
      exact ⟨ret_int (fstI_none fun j hj => HP.out j (by omega)).symm, hbw⟩
theorem areAllI_any (f : FuncId) (caps : Array Value) (r : Nat → Bool) (b o m c : Nat) (g : Nat → Int) (w : World) (h : Ints w b o m g) (hm : m ≤ 1048576) (he : Enters f)
    (hf : ∀ j, j < m → ∀ w', Below w.heap.size w w' → Calls Tryd.prog f (#[.int .i64 (g j)] ++ caps) w' (Ret (.bool (r j)) w')) :
    Calls Tryd.prog 43 #[.slice (some ⟨b, o, none⟩) m c, .func (.func f) #[] caps] w (Ret (.bool (allB m r)) w) := by
  have hF := Lib.hid hf
  have hE := Lib.hid he
  have hx := fstI_cases (fun j => !(r j)) m
  have hQ : ∃ t : Bool, allB m r = !t ∧ decide (0 ≤ fstI (fun j => !(r j)) m) = t := by
    rcases hx with ⟨h1, h2⟩ | ⟨h1, j, h2, h3⟩
    · exact ⟨false, B_true (fun j hj => by simpa using h2 j hj), by rw [h1]; rfl⟩
    · exact ⟨true, B_false (fun hh => by rw [hh j h2] at h3; simp at h3), by simp [h1]⟩
  obtain ⟨t, hQ1, hQ2⟩ := hQ
  have HQ := Lib.hid hQ1
  clear hf he hx hQ1
  go_enter Tryd.func43, Tryd.ntmps43
  go_wp2_with fail
  have hin : Calls Tryd.prog 50 #[.slice (some ⟨b, o, none⟩) m c, .func (.func 51) #[] #[.pointer (some ⟨w.heap.size, 0, none⟩)]] (w.alloc (.cells #[.func (.func f) #[] caps] 71)) (Ret (.bool t) (w.alloc (.cells #[.func (.func f) #[] caps] 71))) := by
    go_enter Tryd.func50, Tryd.ntmps50
    go_wp2_with fail
    refine (indexFuncI_any f caps w.heap.size r b o m c g _ (h.alloc _) hm hE.out (by simp) (fun j hj w' hw' => hF.out j hj w' ((by go_grown : Below _ _ (w.alloc _)).thenB (by simp) hw'))).mono ?_
    rintro e w2 ⟨rfl, hb2⟩
    go_wp2_with fail
    go_ret
    exact ⟨rfl, hb2⟩
  refine hin.mono ?_
  rintro e w2 ⟨rfl, hb2⟩
  go_wp2_with fail
  go_ret
  exact ⟨ret_bool HQ.out.symm, (by go_grown : Below _ _ (w.alloc _)).thenB (by simp) hb2⟩

theorem isCubic1_any (a : Int) (w : World) : Calls Tryd.prog 44 #[.int .i64 a] w (Is (.bool (a == 3)) w) := by
  go_enter Tryd.func44, Tryd.ntmps44
  go_wp2_with fail
  go_ret
  exact ⟨rfl, rfl⟩
theorem wf_B {n : Int} {m : Nat} {es : List (Int × Int)} (hl : es.length = m) (h1 : szB n = true) (h2 : (m : Int) = 3 * n / 2) : allB m (fun j => okE n (ea es j) (eb es j)) = B (WfP n es) := by
  obtain ⟨a, b, c⟩ := szB_iff.1 h1
  have : (∀ j, j < m → okE n (ea es j) (eb es j) = true) ↔ WfP n es := by
    simp only [okE, Bool.and_eq_true, inB_iff, WfP, hl]
    constructor
    · intro h; exact ⟨a, b, c, h2, fun j hj => by have := h j hj; simp at this; exact ⟨this.1.1.1, this.1.1.2, this.1.2.1, this.1.2.2, this.2⟩⟩
    · intro h j hj; have := h.2.2.2.2 j hj; exact ⟨⟨⟨this.1, this.2.1⟩, this.2.2.1, this.2.2.2.1⟩, by simpa using this.2.2.2.2⟩
  exact B_congr this
theorem areEdges_any (n : Int) (b o m c : Nat) (es : List (Int × Int)) (w : World) (h : Eds w b o m es) (hm : m ≤ 1048576) :
    Calls Tryd.prog 26 #[.int .i64 n, .slice (some ⟨b, o, none⟩) m c] w (Ret (.bool (B (WfP n es))) w) := by
  have KC := cell_rg
  cases hA : szB n with
  | false =>
    have hno : B (WfP n es) = false := B_false fun x => by have := szB_iff.2 ⟨x.1, x.2.1, x.2.2.1⟩; rw [hA] at this; simp at this
    have hS := fun W => (hA ▸ isSize_any n W : Calls Tryd.prog 36 #[.int .i64 n] W (Is (.bool false) W))
    have HR := Lib.hid hno
    clear hno
    go_enter Tryd.func26, Tryd.ntmps26
    go_wp2_with fail
    (refine wp_region_quiet_below (by kernel_rfl) (by kernel_rfl) ?_
     repeat (any_goals (go_big_quiet_step (first | (go_at_call 36; exact Is.rg (hS _)))))
     all_goals (refine wpQuiet_nil ?_; intro wq1 hq1; replace hq1 := below_of_rg hq1))
    go_wp2_with fail
    go_ret
    exact ⟨ret_bool HR.out.symm, (by go_grown : Below _ _ (w.alloc _)).thenB (by simp) hq1⟩
  | true =>
    obtain ⟨h1, h2, h3⟩ := szB_iff.1 hA
    have hS := fun W => (hA ▸ isSize_any n W : Calls Tryd.prog 36 #[.int .i64 n] W (Is (.bool true) W))
    have x1 : IntKind.i64.wrap (3 * n) = 3 * n := IntWalk.i64_in _ (by omega)
    have x2 : (3 * n).tdiv 2 = 3 * n / 2 := by rw [Int.tdiv_eq_ediv_of_nonneg (by omega)]
    have x3 : IntKind.i64.wrap (3 * n / 2) = 3 * n / 2 := IntWalk.i64_in _ (by omega)
    clear h3
    cases hB : ((m : Int) == 3 * n / 2) with
    | false =>
      have hno : B (WfP n es) = false := B_false fun x => by have := x.2.2.2.1; rw [h.len] at this; simp [this] at hB
      have HR := Lib.hid hno
      clear hno
      go_enter Tryd.func26, Tryd.ntmps26
      go_wp2_with fail
      (refine wp_region_quiet_below (by kernel_rfl) (by kernel_rfl) ?_
       repeat (any_goals (go_big_quiet_step (first | (go_at_call 36; exact Is.rg (hS _)) | (go_at_call 37; exact Is.rg (lengthE_any _ _ _ _ (by omega))))))
       all_goals (refine wpQuiet_nil ?_; intro wq1 hq1; replace hq1 := below_of_rg hq1))
      go_wp2_with fail
      go_ret
      exact ⟨ret_bool HR.out.symm, (by go_grown : Below _ _ (w.alloc _)).thenB (by simp) hq1⟩
    | true =>
      have HR := Lib.hid (wf_B h.len hA (by simpa using hB))
      have hAA : ∀ d os, Calls Tryd.prog 27 #[.slice (some ⟨b, o, none⟩) m c, .func (.func 38) #[] #[.pointer (some ⟨w.heap.size, 0, none⟩)]] (grow (redrawn (w.alloc (.cells #[.int .i64 n] 2)) d) os) fun e w'' => e = .returned (.bool (allB m (fun j => okE n (ea es j) (eb es j)))) ∧ ∃ p : Regrown, w'' = grow (redrawn (w.alloc (.cells #[.int .i64 n] 2)) p.d) p.os := fun d os =>
        Ret.rg (areAllE_any 38 #[.pointer (some ⟨w.heap.size, 0, none⟩)] (fun j => okE n (ea es j) (eb es j)) b o m c es _ ((h.alloc _).below (below_regrown _ _ _)) hm enE2 (fun j _ w' hw' =>
          areEdges1_any n _ _ _ _ (by omega) h2 (by rw [(bcell hw').1 _ _ (by simp [grow, redrawn]; omega), cell_rg _ _ _ _ _ (by simp)]; simp)))
      go_enter Tryd.func26, Tryd.ntmps26
      go_wp2_with fail
      (refine wp_region_quiet_below (by kernel_rfl) (by kernel_rfl) ?_
       repeat (any_goals (go_big_quiet_step (first | (go_at_call 36; exact Is.rg (hS _)) | (go_at_call 37; exact Is.rg (lengthE_any _ _ _ _ (by omega))) | (go_at_call 27; exact hAA _ _))))
       all_goals (refine wpQuiet_nil ?_; intro wq1 hq1; replace hq1 := below_of_rg hq1))
      go_wp2_with fail
      go_ret
      exact ⟨ret_bool HR.out, (by go_grown : Below _ _ (w.alloc _)).thenB (by simp) hq1⟩
set_option maxHeartbeats 400000 in
theorem isSortedE_any (b o m c : Nat) (es : List (Int × Int)) (w : World) (h : Eds w b o m es) (hm : m ≤ 1048576) :
    Calls Tryd.prog 29 #[.slice (some ⟨b, o, none⟩) m c, .func (.func 30) #[] #[]] w (Ret (.bool (B (SortP es))) w) := by
  have KC := cell_rg
  have hl := Lib.hid h.len
  cases m with
  | zero =>
    go_enter Tryd.func29, Tryd.ntmps29
    go_wp2_with fail
    go_rounds 1
    go_ret
    exact ⟨ret_bool (B_true fun j hj => by rw [hl.out] at hj; omega).symm, Below.refl _ _⟩
  | succ M =>
    go_enter Tryd.func29, Tryd.ntmps29
    go_wp2_with fail
    go_loopw [5] (fun i wr => ∃ k : Nat, k ≤ M ∧ i = .int .i64 k ∧ Hid (∀ j, k < j → j ≤ M → befB (ea es j) (eb es j) (ea es (j - 1)) (eb es (j - 1)) = false) ∧ Below w.heap.size w wr) (fun i _ => (intOf i).toNat)
    case atStart => exact ⟨M, Nat.le_refl _, by go_num, fun j hj => by omega, Below.refl _ _⟩
    case round =>
      obtain ⟨k, hk, rfl, HP, hbw⟩ := hrel
      cases k with
      | zero =>
        go_wp2_with fail
        go_ret
        refine ⟨ret_bool (B_true fun j hj => ?_).symm, hbw⟩
        rw [hl.out] at hj
        exact befB_not.1 (HP.out (j + 1) (by omega) (by omega))
      | succ k =>
        have E := h.below hbw
        have e1 := E.ca k (by omega)
        have e2 := E.cb k (by omega)
        have e3 := E.ca (k + 1) (by omega)
        have e4 := E.cb (k + 1) (by omega)
        have eb1 := E.blk
        have hw1 : IntKind.i64.wrap (k : Int) = k := IntWalk.i64_in _ (by omega)
        clear E
        cases hq : befB (ea es (k + 1)) (eb es (k + 1)) (ea es k) (eb es k) with
        | true =>
          have hc : cmp2 (ea es (k + 1)) (eb es (k + 1)) (ea es k) (eb es k) < 0 := (cmp2_lt _ _ _ _).2 hq
          go_wp2_with fail
          (refine wp_region_quiet_below (by kernel_rfl) (by kernel_rfl) ?_
           repeat (any_goals (go_big_quiet_step (first | (go_at_call 30; exact Ret.rg (compareE_any _ _ _ _ _)))))
           all_goals (refine wpQuiet_nil ?_; intro wq1 hq1; replace hq1 := below_of_rg hq1))
          go_wp2_with fail
          go_ret
          exact ⟨ret_bool (B_false fun x => x k (by rw [hl.out]; omega) (befB_iff.1 hq)).symm, hbw.andB hq1⟩
        | false =>
          have hc : ¬ cmp2 (ea es (k + 1)) (eb es (k + 1)) (ea es k) (eb es k) < 0 := fun x => by rw [(cmp2_lt _ _ _ _).1 x] at hq; simp at hq
          have HP' : Hid (∀ j, k < j → j ≤ M → befB (ea es j) (eb es j) (ea es (j - 1)) (eb es (j - 1)) = false) := fun j hj hj2 => by
            by_cases hjk : k + 1 < j
            · exact HP.out j hjk hj2
            · obtain rfl : j = k + 1 := by omega
              simpa using hq
          go_wp2_with fail
          (refine wp_region_quiet_below (by kernel_rfl) (by kernel_rfl) ?_
           repeat (any_goals (go_big_quiet_step (first | (go_at_call 30; exact Ret.rg (compareE_any _ _ _ _ _)))))
           all_goals (refine wpQuiet_nil ?_; intro wq1 hq1; replace hq1 := below_of_rg hq1))
          go_wp2_with fail
          go_roundw
          case rel => exact ⟨k, by omega, rfl, HP', hbw.andB hq1⟩
          case measure => simp [intOf]
theorem inf3 : (Tryd.prog.info? 3).map (fun i => (i.zero, i.size, i.bytes)) = some (some (.int .i64 0), 1, 8) := by kernel_rfl
set_option maxHeartbeats 400000 in
theorem isCubic_any (N : Nat) (b o m c : Nat) (es : List (Int × Int)) (w : World) (h : Eds w b o m es) (hm : m ≤ 1048576) (hwf : WfP N es) :
    Calls Tryd.prog 31 #[.int .i64 N, .slice (some ⟨b, o, none⟩) m c] w (Ret (.bool (B (CubP N es))) w) := by
  have hN : N ≤ 20 := by have := hwf.2.1; omega
  have hmk := run_make_row' (P := Tryd.prog) 69 3 (.int .i64 0) 8 Tryd.underlying69 inf3 rfl .i64 .i64 N (by omega) (by omega)
  have hl := Lib.hid h.len
  have HWF : Hid (WfP N es) := hwf
  clear hwf
  go_enter Tryd.func31, Tryd.ntmps31
  go_wp2_with fail
  go_loopw [12] (fun i wr => ∃ k : Nat, k ≤ m ∧ i = .int .i64 k ∧ wr.rowIs w.heap.size 3 N (fun v => .int .i64 (degTo es k v)) ∧ Below w.heap.size w wr) (fun i _ => m - (intOf i).toNat)
  case atStart => exact ⟨0, Nat.zero_le _, rfl, (World.rowIs_made w _ N _).congr (fun _ _ => rfl), (Below.refl _ _).alloc (Nat.le_refl _) _⟩
  case round =>
    obtain ⟨k, hk, rfl, hrow0, hbw⟩ := hrel
    by_cases hlt : k < m
    · have hw4 := HWF.out.2.2.2.2 k (by rw [hl.out]; exact hlt)
      obtain ⟨x, hx⟩ : ∃ x : Nat, ea es k = (x : Int) := ⟨(ea es k).toNat, by omega⟩
      obtain ⟨y, hy⟩ : ∃ y : Nat, eb es k = (y : Int) := ⟨(eb es k).toNat, by omega⟩
      have hxN : x < N := by omega
      have hyN : y < N := by omega
      have hxy : x ≠ y := by omega
      have E := h.upto h.blk hbw
      have e1 := E.ca k hlt
      have e2 := E.cb k hlt
      have d1 := degTo_bound es k x
      have d2 := degTo_bound es k y
      have hsz := hrow0.lt
      have c1 := hrow0.cell hxN
      have f1 := hrow0.frozen x
      have f2 := hrow0.frozen y
      have hrow1 := hrow0.set x (.int .i64 (degTo es k x + 1))
      have c2 := hrow1.cell hyN
      have hrow2 := hrow1.set y (.int .i64 (degTo es k y + 1))
      rw [if_neg (Ne.symm hxy)] at c2
      clear hw4 hl E hrow0 hrow1
      go_wp2_with fail
      go_roundw
      case rel =>
        refine ⟨k + 1, by omega, by go_num, (hrow2.congr ?_).alloc _, ((hbw.setCell (Nat.le_refl _) _).setCell (Nat.le_refl _) _).alloc (by simp; omega) _⟩
        intro v hv
        simp only [degTo, hx, hy]
        by_cases h1 : v = y
        · subst h1
          rw [if_pos rfl, if_neg (by omega), if_pos rfl]; go_num
        · rw [if_neg h1, if_neg (show ¬ (y : Int) = (v : Int) by omega)]
          by_cases h2 : v = x
          · subst h2
            rw [if_pos rfl, if_pos rfl]; go_num
          · rw [if_neg h2, if_neg (show ¬ (x : Int) = (v : Int) by omega)]; go_num
      case measure => simp [intOf]; omega
    · obtain rfl : k = m := by omega
      go_wp2_with fail
      refine (areAllI_any 44 #[] (fun j => degTo es k j == 3) _ 0 N N (fun v => degTo es k v) wr (Ints.of_row hrow0) (by omega) enE3 (fun j _ w' _ => Is.ret (isCubic1_any _ _))).mono ?_
      rintro e w2 ⟨rfl, hb2⟩
      go_wp2_with fail
      go_ret
      refine ⟨ret_bool ?_, hbw.andB hb2⟩
      refine B_congr ?_
      have : (∀ j : Nat, j < N → (degTo es k j == 3) = true) ↔ CubP N es := by
        unfold CubP
        rw [hl.out]
        constructor
        · intro hh v h0 h1
          obtain ⟨u, rfl⟩ := Int.eq_ofNat_of_zero_le h0
          simpa using hh u (by omega)
        · intro hh j hj
          simpa using hh j (by omega) (by omega)
      exact this
theorem implIs_any (n : Int) (b o m c : Nat) (es : List (Int × Int)) (w : World) (h : Eds w b o m es) (hm : m ≤ 1048576) :
    Calls Tryd.prog 21 #[.agg #[.int .i64 n, .slice (some ⟨b, o, none⟩) m c]] w (Ret (.bool (B (IsG n es))) w) := by
  cases hA : B (WfP n es) with
  | false =>
    have HR := Lib.hid (isG_no1 (B_not.1 hA))
    go_enter Tryd.func21, Tryd.ntmps21
    go_wp2_with fail
    refine (areEdges_any _ _ _ _ _ es _ (h.alloc _) hm).mono ?_
    rintro e w1 ⟨rfl, hb1⟩
    go_wp2_with fail
    go_ret
    exact ⟨ret_bool HR.out.symm, (by go_grown : Below _ _ (w.alloc _)).thenB (by simp) hb1⟩
  | true =>
    cases hC : allB m (fun j => decide (ea es j < eb es j)) with
    | false =>
      have HR := Lib.hid (B_false (p := IsG n es) fun x => allB_not.1 hC fun j hj => by
        have h1 := x.2.2.1 j (by rw [h.len]; exact hj)
        have h2 := (x.1.2.2.2.2 j (by rw [h.len]; exact hj)).2.2.2.2
        simp; omega)
      go_enter Tryd.func21, Tryd.ntmps21
      go_wp2_with fail
      refine (areEdges_any _ _ _ _ _ es _ (h.alloc _) hm).mono ?_
      rintro e w1 ⟨rfl, hb1⟩
      have hc1 := (bcell hb1).1
      have s1 := bsz hb1 w.heap.size (by simp)
      have hbA := (by go_grown : Below w.heap.size w (w.alloc (.cells #[.int .i64 n, .slice (some ⟨b, o, none⟩) m c] 30))).thenB (by simp) hb1
      go_wp2_with fail
      refine (areAllE_any 28 #[] (fun j => decide (ea es j < eb es j)) _ _ _ _ es _ (h.below hbA) hm enE1 (fun j _ w' _ => isGraph1_any _ _ _)).mono ?_
      rintro e w2 ⟨rfl, hb2⟩
      go_wp2_with fail
      go_ret
      exact ⟨ret_bool HR.out.symm, hbA.andB hb2⟩
    | true =>
      have hN : ∃ N : Nat, n = N := ⟨n.toNat, by have := (B_iff.1 hA).1; omega⟩
      obtain ⟨N, rfl⟩ := hN
      have HC := Lib.hid hC
      have HA := Lib.hid (B_iff.1 hA)
      have hres : B (IsG N es) = (B (SortP es) && B (CubP N es)) := by
        have : IsG N es ↔ SortP es ∧ CubP N es := ⟨fun x => ⟨x.2.2.2, x.2.1⟩, fun x => ⟨HA.out, x.2, fun j hj => by have := allB_iff.1 hC j (by rw [h.len] at hj; exact hj); simp at this; omega, x.1⟩⟩
        rw [B_congr this, B_and]
      have HR := Lib.hid hres
      clear hres
      cases hS : B (SortP es) with
      | false =>
        go_enter Tryd.func21, Tryd.ntmps21
        go_wp2_with fail
        refine (areEdges_any _ _ _ _ _ es _ (h.alloc _) hm).mono ?_
        rintro e w1 ⟨rfl, hb1⟩
        have hc1 := (bcell hb1).1
        have s1 := bsz hb1 w.heap.size (by simp)
        have hbA := (by go_grown : Below w.heap.size w (w.alloc (.cells #[.int .i64 N, .slice (some ⟨b, o, none⟩) m c] 30))).thenB (by simp) hb1
        go_wp2_with fail
        refine (areAllE_any 28 #[] (fun j => decide (ea es j < eb es j)) _ _ _ _ es _ (h.below hbA) hm enE1 (fun j _ w' _ => isGraph1_any _ _ _)).mono ?_
        rintro e w2 ⟨rfl, hb2⟩
        have hc2 := (bcell hb2).1
        go_wp2_with fail
        refine (isSortedE_any _ _ _ _ es _ (h.below (hbA.andB hb2)) hm).mono ?_
        rintro e w3 ⟨rfl, hb3⟩
        go_wp2_with fail
        go_ret
        exact ⟨ret_bool (by rw [HR.out, hS]; rfl), (hbA.andB hb2).andB hb3⟩
      | true =>
        go_enter Tryd.func21, Tryd.ntmps21
        go_wp2_with fail
        refine (areEdges_any _ _ _ _ _ es _ (h.alloc _) hm).mono ?_
        rintro e w1 ⟨rfl, hb1⟩
        have hc1 := (bcell hb1).1
        have s1 := bsz hb1 w.heap.size (by simp)
        have hbA := (by go_grown : Below w.heap.size w (w.alloc (.cells #[.int .i64 N, .slice (some ⟨b, o, none⟩) m c] 30))).thenB (by simp) hb1
        go_wp2_with fail
        refine (areAllE_any 28 #[] (fun j => decide (ea es j < eb es j)) _ _ _ _ es _ (h.below hbA) hm enE1 (fun j _ w' _ => isGraph1_any _ _ _)).mono ?_
        rintro e w2 ⟨rfl, hb2⟩
        have hc2 := (bcell hb2).1
        have s2 := bsz hb2 _ s1
        go_wp2_with fail
        refine (isSortedE_any _ _ _ _ es _ (h.below (hbA.andB hb2)) hm).mono ?_
        rintro e w3 ⟨rfl, hb3⟩
        have hc3 := (bcell hb3).1
        go_wp2_with fail
        refine (isCubic_any N _ _ _ _ es _ (h.below ((hbA.andB hb2).andB hb3)) hm HA.out).mono ?_
        rintro e w4 ⟨rfl, hb4⟩
        go_wp2_with fail
        go_ret
        exact ⟨ret_bool (by rw [HR.out, hS]; rfl), ((hbA.andB hb2).andB hb3).andB hb4⟩
end Go.Proofs.YtnoneppmeaeicaaDoor
namespace Go.Proofs.YtnoneppmeaeicaaDoor
open Go.RowKit Go.Sort
/-- A slice of whole numbers that came in: maybe nil. -/
def SrcI (w : World) (A : Option Addr) (m : Nat) (g : Nat → Int) : Prop := 0 < m → ∃ b o, A = some ⟨b, o, none⟩ ∧ Ints w b o m g
theorem SrcI.below {w w' : World} {A : Option Addr} {m : Nat} {g : Nat → Int} (h : SrcI w A m g) (hb : Below w.heap.size w w') : SrcI w' A m g :=
  fun hm => let ⟨b, o, e, he⟩ := h hm; ⟨b, o, e, he.below hb⟩
/-- The call returns a new slice of whole numbers. -/
def RetI (m : Nat) (f : Nat → Int) (w : World) (e : Ending) (w' : World) : Prop := ∃ g, e = .returned (.slice (some ⟨g, 0, none⟩) m m) ∧ w.heap.size ≤ g ∧ w'.rowIs g 2 m (fun v => .int .i64 (f v)) ∧ Below w.heap.size w w'
theorem Ints.upto {B : Nat} {w w' : World} {b o m : Nat} {g : Nat → Int} (h : Ints w b o m g) (hB : b < B) (hb : Below B w w') : Ints w' b o m g :=
  ⟨Nat.lt_of_lt_of_le h.blk hb.size, fun j hj => (hb.cell (p := ⟨b, o + j, none⟩) hB).trans (h.c j hj)⟩
-- left out in this seat
-- left out in this seat
end Go.Proofs.YtnoneppmeaeicaaDoor
