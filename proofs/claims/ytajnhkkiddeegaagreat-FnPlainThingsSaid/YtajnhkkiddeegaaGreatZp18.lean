import Derived.Test.YtajnhkkiddeegaaGreatZp17
set_option linter.unusedVariables false
set_option linter.unusedSimpArgs false
namespace Go.Proofs.YtajnhkkiddeegaaGreat
open Go.RowKit Go.Sort
def rnE (ls : Nat → Int) (e : Int × Int) : Int × Int := (ls e.1.toNat, ls e.2.toNat)
theorem rn_step (ls : Nat → Int) (es : List (Int × Int)) {j x y : Nat} (h : j < es.length) (hx : ea es j = x) (hy : eb es j = y) : (es.take (j + 1)).map (rnE ls) = (es.take j).map (rnE ls) ++ [(ls x, ls y)] := by
  rw [List.take_succ_eq_append_getElem h, List.map_append, List.map_singleton, e_pair h, hx, hy]; rfl
set_option maxRecDepth 100000 in
set_option maxHeartbeats 2000000 in
theorem l01Order_any (N b2 o2 l c2 : Nat) (ls : Nat → Int) (w : World) (h2 : Ints w b2 o2 l ls) (hl : l ≤ 1048576) (hN : N ≤ 20) :
    Calls Tryz.prog 80 #[.slice (some ⟨b2, o2, none⟩) l c2, .int .i64 N] w (Ret (.bool (B (OrdP ls l N))) w) := by
  have hmk := run_make_row' (P := Tryz.prog) 113 4 (.bool false) 1 Tryz.underlying113 infB rfl .i64 .i64 N (by omega) (by omega)
  have hwn : IntKind.i64.wrap ((N : Int) - 1) = (N : Int) - 1 := IntWalk.i64_in _ (by omega)
  go_enter Tryz.func80, Tryz.ntmps80
  go_wp2_with fail
  have R := World.rowIs_made w (.bool false) N 4
  have hb3 : Below w.heap.size w (w.alloc (.cells (madeCells #[.bool false] N) 4)) := (Below.refl _ _).alloc (Nat.le_refl _) _
  go_loopw [6] (fun i wr => ∃ j : Nat, j ≤ l ∧ i = .int .i64 j ∧ Hid (∀ k, k < j → 0 ≤ ls k ∧ ls k ≤ (N : Int) - 1) ∧ Hid (NP ls j) ∧ wr.rowIs w.heap.size 4 N (fun v => .bool (hasB (setN ls j) v)) ∧ Below w.heap.size w wr) (fun i _ => l - (intOf i).toNat)
  case atStart => exact ⟨0, Nat.zero_le _, rfl, (fun k hk => absurd hk (by omega)), NP.zero _, R.congr (fun v _ => by simp [hasB, setN]), hb3⟩
  case round =>
    clear R hb3
    obtain ⟨j, hj, rfl, HR, HP, hrow, hbr⟩ := hrel
    by_cases hlt : j < l
    · have I := h2.below hbr
      have c1 := I.c j hlt
      have zI := I.blk
      cases hA : inB (ls j) 0 ((N : Int) - 1) with
      | false =>
        have HO : Hid (B (OrdP ls l N) = false) := B_false (fun hp => inB_not.1 hA (hp.2.1 j hlt))
        have HIN : Hid (∀ W, Calls Tryz.prog 116 #[.int .i64 (ls j), .int .i64 0, .int .i64 ((N : Int) - 1)] W (Is (.bool false) W)) := fun W => hA ▸ in_any (ls j) 0 ((N : Int) - 1) W
        clear I hA hrow
        go_wp2_with fail
        refine (HIN.out _).mono ?_
        rintro ee w7 ⟨rfl, rfl⟩
        go_wp2_with fail
        go_ret
        exact ⟨ret_bool HO.out.symm, hbr⟩
      | true =>
        have hin := inB_iff.1 hA
        obtain ⟨u, hx⟩ : ∃ u : Nat, ls j = u := ⟨(ls j).toNat, by omega⟩
        have huN : u < N := by omega
        have e1 := hrow.cell huN
        have f1 := hrow.frozen u
        have zR := hrow.lt
        have HIN : Hid (∀ W, Calls Tryz.prog 116 #[.int .i64 u, .int .i64 0, .int .i64 ((N : Int) - 1)] W (Is (.bool true) W)) := fun W => by rw [← hx]; exact hA ▸ in_any (ls j) 0 ((N : Int) - 1) W
        have HRJ : Hid (∀ k, k < j + 1 → 0 ≤ ls k ∧ ls k ≤ (N : Int) - 1) := fun k hk => by
          by_cases e : k = j
          · subst e; exact hin
          · exact HR.out k (by omega)
        rw [hx] at c1
        cases hh : hasB (setN ls j) (u : Int) with
        | true =>
          have HO : Hid (B (OrdP ls l N) = false) := B_false (fun hp => NP.not (fun a ha => (HRJ.out a (by omega)).1) (by rw [hx]; exact hh) hlt hp.2.2)
          rw [hh] at e1
          clear I hA hin hx hh hrow
          go_wp2_with fail
          refine (HIN.out _).mono ?_
          rintro ee w7 ⟨rfl, rfl⟩
          go_wp2_with fail
          go_ret
          exact ⟨ret_bool HO.out.symm, hbr⟩
        | false =>
          have HPJ : Hid (NP ls (j + 1)) := HP.out.succ (fun a ha => (HRJ.out a (by omega)).1) (by rw [hx]; exact hh)
          have HR2 := Lib.hid ((hrow.set u (.bool true)).congr (g := fun v => .bool (hasB (setN ls (j + 1)) v)) (fun v _ => by
            rw [hasB_succ, hx, Int.toNat_natCast]; split <;> rfl))
          rw [hh] at e1
          clear I hA hin hx hh hrow
          go_wp2_with fail
          refine (HIN.out _).mono ?_
          rintro ee w7 ⟨rfl, rfl⟩
          go_wp2_with fail
          go_roundw
          case rel => exact ⟨j + 1, by omega, by go_num, HRJ, HPJ, HR2.out, hbr.setCell (Nat.le_refl _) _⟩
          case measure => simp [intOf]; omega
    · obtain rfl : j = l := by omega
      by_cases hln : j = N
      · have HO : Hid (B (OrdP ls j N) = true) := B_true ⟨by omega, HR.out, HP.out⟩
        subst hln
        clear hrow
        go_wp2_with fail
        go_ret
        exact ⟨ret_bool (by rw [HO.out]), hbr⟩
      · have HO : Hid (B (OrdP ls j N) = false) := B_false (fun hp => hln (by have := hp.1; omega))
        have hne : ((j : Int) == (N : Int)) = false := by simp; omega
        clear hrow hln
        go_wp2_with fail
        go_ret
        exact ⟨ret_bool (by rw [HO.out]), hbr⟩
set_option maxRecDepth 100000 in
set_option maxHeartbeats 4000000 in
theorem l01Renamed_any (n : Int) (b o m c pb po pl pc : Nat) (es : List (Int × Int)) (ls : Nat → Int) (w : World) (h : Eds w b o m es) (h2 : Ints w pb po pl ls) (hn : WfP n es) (hpl : (pl : Int) = n) :
    Calls Tryz.prog 81 #[.agg #[.int .i64 n, .slice (some ⟨b, o, none⟩) m c], .slice (some ⟨pb, po, none⟩) pl pc] w (RetG n (srtE (es.map (rnE ls))) w) := by
  have hlm := Lib.hid h.len
  have hm0 : 0 < m ∧ m ≤ 30 := by have := hn.2.2.2.1; have := hn.1; have := hn.2.1; have := h.len; omega
  have HF := Lib.hid hn.2.2.2.2
  have HPL : pl ≤ 20 ∧ n ≤ pl := by have := hn.2.1; omega
  clear hn hpl
  obtain ⟨w1, hw1⟩ : ∃ w1, w1 = w.alloc (.cells #[.int .i64 n, .slice (some ⟨b, o, none⟩) m c] 26) := ⟨_, rfl⟩
  have X2 := Box2.made w (.int .i64 n) (.slice (some ⟨b, o, none⟩) m c) 26
  have hb1 : Below w.heap.size w (w.alloc (.cells #[.int .i64 n, .slice (some ⟨b, o, none⟩) m c] 26)) := (Below.refl _ _).alloc (Nat.le_refl _) _
  rw [← hw1] at X2 hb1
  have hs1 : w1.heap.size = w.heap.size + 1 := by rw [hw1]; simp
  obtain ⟨w3, hw3⟩ : ∃ w3, w3 = w1.alloc (.cells #[.int .i64 0, .slice none 0 0] 26) := ⟨_, rfl⟩
  have X4 := Box2F.made w1 (.int .i64 0) (.slice none 0 0) 26
  have ha3 : Below w1.heap.size w1 (w1.alloc (.cells #[.int .i64 0, .slice none 0 0] 26)) := (Below.refl _ _).alloc (Nat.le_refl _) _
  rw [← hw3] at X4 ha3
  have X2 := X2.below ha3
  have hb3 := hb1.andB ha3
  have hs3 : w3.heap.size = w1.heap.size + 1 := by rw [hw3]; simp
  obtain ⟨b2, hB2⟩ : ∃ b2, b2 = w.heap.size := ⟨_, rfl⟩
  obtain ⟨b4, hB4⟩ : ∃ b4, b4 = w1.heap.size := ⟨_, rfl⟩
  rw [← hB2] at X2
  rw [← hB4] at X4
  have HW : Hid (w3 = (w.alloc (.cells #[.int .i64 n, .slice (some ⟨b, o, none⟩) m c] 26)).alloc (.cells #[.int .i64 0, .slice none 0 0] 26) ∧ w.heap.size = b2 ∧ w.heap.size + 1 = b4) := by rw [← hw1]; exact ⟨hw3, hB2.symm, by omega⟩
  have hww : w.heap.size ≤ w3.heap.size ∧ b2 < b4 ∧ b4 < w3.heap.size ∧ w.heap.size ≤ b4 := by omega
  clear hw1 hw3 ha3 hs1 hs3 hb1 hB2 hB4
  go_enter Tryz.func81, Tryz.ntmps81
  go_wp2_with fail
  rw [← HW.out.1, HW.out.2.2, HW.out.2.1]
  have O0 : OwnE w3.heap.size (w3.alloc (.cells #[] 78)) w3.heap.size 0 0 [] := OwnE.empty _ _ _ (Nat.le_refl _) (heap_alloc_new w3 _)
  have ha : Below w3.heap.size w3 (w3.alloc (.cells #[] 78)) := (Below.refl _ _).alloc (Nat.le_refl _) _
  have hsa : w3.heap.size ≤ (w3.alloc (.cells #[] 78)).heap.size := by simp
  have hgs : ∀ k : Nat, w.heap.size + 1 + 1 = k → k = w3.heap.size := fun k hk => by rw [HW.out.1]; simp; omega
  have X2 := X2.below ha
  have X4 := X4.below ha
  have hb6 := hb3.andB ha
  go_loopw [5, 6] (fun lv iv wr => ∃ (j : Nat) (A : Option Addr) (c' : Nat), j ≤ m ∧ iv = .int .i64 j ∧ lv = .slice A j c' ∧ OwnEA w3.heap.size wr A j c' ((es.take j).map (rnE ls)) ∧ Box2 wr b2 (.int .i64 n) (.slice (some ⟨b, o, none⟩) m c) ∧ Box2F wr b4 (.int .i64 0) (.slice none 0 0) ∧ Below w.heap.size w wr ∧ w3.heap.size ≤ wr.heap.size) (fun _ i _ => m - (intOf i).toNat)
  case atStart => exact ⟨0, some ⟨w3.heap.size, 0, none⟩, 0, Nat.zero_le _, rfl, by rw [show b4 + 1 = w3.heap.size from by have := hgs _ rfl; have := HW.out.2.2; omega], by simpa using O0.any, X2, X4, hb6, hsa⟩
  case round =>
    clear O0 X2 X4 hb6 hsa ha hb3
    obtain ⟨j, A, c', hj, rfl, rfl, OX, X2, X4, hbr, hzr⟩ := hrel
    have X2c := X2
    obtain ⟨s2, p2, q2⟩ := X2c
    by_cases hlt : j < m
    · obtain ⟨w4, rfl⟩ : ∃ w4, w4 = wr := ⟨wr, rfl⟩
      have E := h.below hbr
      have I := h2.below hbr
      have d1 := E.ca j hlt
      have d2 := E.cb j hlt
      have zE := E.blk
      have zP := I.blk
      have hfr := HF.out j (by rw [hlm.out]; exact hlt)
      obtain ⟨x, hx⟩ : ∃ x : Nat, ea es j = x := ⟨(ea es j).toNat, by omega⟩
      obtain ⟨y, hy⟩ : ∃ y : Nat, eb es j = y := ⟨(eb es j).toNat, by omega⟩
      have hxp : x < pl := by omega
      have hyp : y < pl := by omega
      have r1 := I.c x hxp
      have r2 := I.c y hyp
      rw [hx] at d1
      rw [hy] at d2
      have HST := Lib.hid (rn_step ls es (j := j) (by rw [hlm.out]; exact hlt) hx hy)
      clear hfr E I hx hy
      go_wp2_with fail
      refine wp_region_then 21 (fun i9 v W => match i9 with
        | 0 => v = .slice A j c'
        | 1 => v = .slice (some ⟨pb, po, none⟩) pl pc
        | 2 => v = .pointer (some ⟨b2, 1, none⟩)
        | 3 => v = .slice (some ⟨b, o, none⟩) m c
        | 4 => v = .int .i64 j
        | 5 => v = .pointer (some ⟨b, o + j * 2, none⟩)
        | 6 => v = .pointer (some ⟨b, o + j * 2, none⟩)
        | 7 => v = .int .i64 x
        | 8 => v = .pointer (some ⟨pb, po + x, none⟩)
        | 9 => v = .int .i64 (ls x)
        | 10 => v = .slice (some ⟨pb, po, none⟩) pl pc
        | 11 => v = .pointer (some ⟨b2, 1, none⟩)
        | 12 => v = .slice (some ⟨b, o, none⟩) m c
        | 13 => v = .int .i64 j
        | 14 => v = .pointer (some ⟨b, o + j * 2, none⟩)
        | 15 => v = .pointer (some ⟨b, o + j * 2 + 1, none⟩)
        | 16 => v = .int .i64 y
        | 17 => v = .pointer (some ⟨pb, po + y, none⟩)
        | 18 => v = .int .i64 (ls y)
        | 19 => v = .agg #[.int .i64 (ls x), .int .i64 (ls y)]
        | _ => NewB w4.heap.size (ls x) (ls y) v W)
        (fun i => match i with
        | _ => none)
        (fun k W W' => Below W.heap.size W W')  (fun W => Below w4.heap.size w4 W) (by kernel_rfl) (by kernel_rfl) ?_ ?_ ?_ ?_ ?_
      · exact (Below.refl _ _).drew
      · intro i k v W W' hne hd hC hf hE
        match i, hf with
        | 0, hf => exact hf
        | 1, hf => exact hf
        | 2, hf => exact hf
        | 3, hf => exact hf
        | 4, hf => exact hf
        | 5, hf => exact hf
        | 6, hf => exact hf
        | 7, hf => exact hf
        | 8, hf => exact hf
        | 9, hf => exact hf
        | 10, hf => exact hf
        | 11, hf => exact hf
        | 12, hf => exact hf
        | 13, hf => exact hf
        | 14, hf => exact hf
        | 15, hf => exact hf
        | 16, hf => exact hf
        | 17, hf => exact hf
        | 18, hf => exact hf
        | 19, hf => exact hf
        | _ + 20, hf => exact NewB.below hf hE
      · intro k W W' hC hE
        exact Below.andB hC hE
      · simp only [List.take_succ_cons, List.take_zero]
        refine ⟨?_, ?_, ?_, ?_, ?_, ?_, ?_, ?_, ?_, ?_, ?_, ?_, ?_, ?_, ?_, ?_, ?_, ?_, ?_, ?_, ?_, trivial⟩
        · intro a W hC hs hd
          have hW : Below w4.heap.size w4 W := hC
          have e5 : a.tmps[5]?.getD undef = .slice A j c' := hs 5 (by kernel_rfl)
          refine growsG_none (E := fun W W' => Below W.heap.size W W') rfl ?_
          clear hs hd
          unfold GrowsE
          go_simp
          exact Below.refl _ _
        · intro a W hC hs hd
          have hW : Below w4.heap.size w4 W := hC
          have e1 : a.tmps[1]?.getD undef = .slice (some ⟨pb, po, none⟩) pl pc := hs 1 (by kernel_rfl)
          refine growsG_none (E := fun W W' => Below W.heap.size W W') rfl ?_
          clear hs hd
          unfold GrowsE
          go_simp
          exact Below.refl _ _
        · intro a W hC hs hd
          have hW : Below w4.heap.size w4 W := hC
          have e2 : a.tmps[2]?.getD undef = .pointer (some ⟨b2, 0, none⟩) := hs 2 (by kernel_rfl)
          refine growsG_none (E := fun W W' => Below W.heap.size W W') rfl ?_
          have k0 := (hW.cell (p := ⟨b2, 1, none⟩) (s2)).trans (q2)
          have k1 := (hW.cell (p := ⟨b, o + j * 2, none⟩) (zE)).trans (d1)
          have k2 := (hW.cell (p := ⟨b, o + j * 2 + 1, none⟩) (zE)).trans (d2)
          have k3 := (hW.cell (p := ⟨pb, po + x, none⟩) (zP)).trans (r1)
          have k4 := (hW.cell (p := ⟨pb, po + y, none⟩) (zP)).trans (r2)
          clear hs hd
          unfold GrowsE
          go_simp
          exact Below.refl _ _
        · intro a W hC hs hd
          have hW : Below w4.heap.size w4 W := hC
          have e17 : (a.tmps[17]?.getD undef) = .pointer (some ⟨b2, 1, none⟩) := hd 2 17 (by kernel_rfl) (by kernel_rfl) (by kernel_rfl)
          refine growsG_none (E := fun W W' => Below W.heap.size W W') rfl ?_
          have k0 := (hW.cell (p := ⟨b2, 1, none⟩) (s2)).trans (q2)
          have k1 := (hW.cell (p := ⟨b, o + j * 2, none⟩) (zE)).trans (d1)
          have k2 := (hW.cell (p := ⟨b, o + j * 2 + 1, none⟩) (zE)).trans (d2)
          have k3 := (hW.cell (p := ⟨pb, po + x, none⟩) (zP)).trans (r1)
          have k4 := (hW.cell (p := ⟨pb, po + y, none⟩) (zP)).trans (r2)
          clear hs hd
          unfold GrowsE
          go_simp
          exact Below.refl _ _
        · intro a W hC hs hd
          have hW : Below w4.heap.size w4 W := hC
          have e6 : a.tmps[6]?.getD undef = .int .i64 j := hs 6 (by kernel_rfl)
          refine growsG_none (E := fun W W' => Below W.heap.size W W') rfl ?_
          clear hs hd
          unfold GrowsE
          go_simp
          exact Below.refl _ _
        · intro a W hC hs hd
          have hW : Below w4.heap.size w4 W := hC
          have e18 : (a.tmps[18]?.getD undef) = .slice (some ⟨b, o, none⟩) m c := hd 3 18 (by kernel_rfl) (by kernel_rfl) (by kernel_rfl)
          have e19 : (a.tmps[19]?.getD undef) = .int .i64 j := hd 4 19 (by kernel_rfl) (by kernel_rfl) (by kernel_rfl)
          refine growsG_none (E := fun W W' => Below W.heap.size W W') rfl ?_
          have k0 := (hW.cell (p := ⟨b2, 1, none⟩) (s2)).trans (q2)
          have k1 := (hW.cell (p := ⟨b, o + j * 2, none⟩) (zE)).trans (d1)
          have k2 := (hW.cell (p := ⟨b, o + j * 2 + 1, none⟩) (zE)).trans (d2)
          have k3 := (hW.cell (p := ⟨pb, po + x, none⟩) (zP)).trans (r1)
          have k4 := (hW.cell (p := ⟨pb, po + y, none⟩) (zP)).trans (r2)
          clear hs hd
          unfold GrowsE
          go_simp
          exact Below.refl _ _
        · intro a W hC hs hd
          have hW : Below w4.heap.size w4 W := hC
          have e20 : (a.tmps[20]?.getD undef) = .pointer (some ⟨b, o + j * 2, none⟩) := hd 5 20 (by kernel_rfl) (by kernel_rfl) (by kernel_rfl)
          refine growsG_none (E := fun W W' => Below W.heap.size W W') rfl ?_
          have k0 := (hW.cell (p := ⟨b2, 1, none⟩) (s2)).trans (q2)
          have k1 := (hW.cell (p := ⟨b, o + j * 2, none⟩) (zE)).trans (d1)
          have k2 := (hW.cell (p := ⟨b, o + j * 2 + 1, none⟩) (zE)).trans (d2)
          have k3 := (hW.cell (p := ⟨pb, po + x, none⟩) (zP)).trans (r1)
          have k4 := (hW.cell (p := ⟨pb, po + y, none⟩) (zP)).trans (r2)
          clear hs hd
          unfold GrowsE
          go_simp
          exact Below.refl _ _
        · intro a W hC hs hd
          have hW : Below w4.heap.size w4 W := hC
          have e21 : (a.tmps[21]?.getD undef) = .pointer (some ⟨b, o + j * 2, none⟩) := hd 6 21 (by kernel_rfl) (by kernel_rfl) (by kernel_rfl)
          refine growsG_none (E := fun W W' => Below W.heap.size W W') rfl ?_
          have k0 := (hW.cell (p := ⟨b2, 1, none⟩) (s2)).trans (q2)
          have k1 := (hW.cell (p := ⟨b, o + j * 2, none⟩) (zE)).trans (d1)
          have k2 := (hW.cell (p := ⟨b, o + j * 2 + 1, none⟩) (zE)).trans (d2)
          have k3 := (hW.cell (p := ⟨pb, po + x, none⟩) (zP)).trans (r1)
          have k4 := (hW.cell (p := ⟨pb, po + y, none⟩) (zP)).trans (r2)
          clear hs hd
          unfold GrowsE
          go_simp
          exact Below.refl _ _
        · intro a W hC hs hd
          have hW : Below w4.heap.size w4 W := hC
          have e16 : (a.tmps[16]?.getD undef) = .slice (some ⟨pb, po, none⟩) pl pc := hd 1 16 (by kernel_rfl) (by kernel_rfl) (by kernel_rfl)
          have e22 : (a.tmps[22]?.getD undef) = .int .i64 x := hd 7 22 (by kernel_rfl) (by kernel_rfl) (by kernel_rfl)
          refine growsG_none (E := fun W W' => Below W.heap.size W W') rfl ?_
          have k0 := (hW.cell (p := ⟨b2, 1, none⟩) (s2)).trans (q2)
          have k1 := (hW.cell (p := ⟨b, o + j * 2, none⟩) (zE)).trans (d1)
          have k2 := (hW.cell (p := ⟨b, o + j * 2 + 1, none⟩) (zE)).trans (d2)
          have k3 := (hW.cell (p := ⟨pb, po + x, none⟩) (zP)).trans (r1)
          have k4 := (hW.cell (p := ⟨pb, po + y, none⟩) (zP)).trans (r2)
          clear hs hd
          unfold GrowsE
          go_simp
          exact Below.refl _ _
        · intro a W hC hs hd
          have hW : Below w4.heap.size w4 W := hC
          have e23 : (a.tmps[23]?.getD undef) = .pointer (some ⟨pb, po + x, none⟩) := hd 8 23 (by kernel_rfl) (by kernel_rfl) (by kernel_rfl)
          refine growsG_none (E := fun W W' => Below W.heap.size W W') rfl ?_
          have k0 := (hW.cell (p := ⟨b2, 1, none⟩) (s2)).trans (q2)
          have k1 := (hW.cell (p := ⟨b, o + j * 2, none⟩) (zE)).trans (d1)
          have k2 := (hW.cell (p := ⟨b, o + j * 2 + 1, none⟩) (zE)).trans (d2)
          have k3 := (hW.cell (p := ⟨pb, po + x, none⟩) (zP)).trans (r1)
          have k4 := (hW.cell (p := ⟨pb, po + y, none⟩) (zP)).trans (r2)
          clear hs hd
          unfold GrowsE
          go_simp
          exact Below.refl _ _
        · intro a W hC hs hd
          have hW : Below w4.heap.size w4 W := hC
          have e1 : a.tmps[1]?.getD undef = .slice (some ⟨pb, po, none⟩) pl pc := hs 1 (by kernel_rfl)
          refine growsG_none (E := fun W W' => Below W.heap.size W W') rfl ?_
          clear hs hd
          unfold GrowsE
          go_simp
          exact Below.refl _ _
        · intro a W hC hs hd
          have hW : Below w4.heap.size w4 W := hC
          have e2 : a.tmps[2]?.getD undef = .pointer (some ⟨b2, 0, none⟩) := hs 2 (by kernel_rfl)
          refine growsG_none (E := fun W W' => Below W.heap.size W W') rfl ?_
          have k0 := (hW.cell (p := ⟨b2, 1, none⟩) (s2)).trans (q2)
          have k1 := (hW.cell (p := ⟨b, o + j * 2, none⟩) (zE)).trans (d1)
          have k2 := (hW.cell (p := ⟨b, o + j * 2 + 1, none⟩) (zE)).trans (d2)
          have k3 := (hW.cell (p := ⟨pb, po + x, none⟩) (zP)).trans (r1)
          have k4 := (hW.cell (p := ⟨pb, po + y, none⟩) (zP)).trans (r2)
          clear hs hd
          unfold GrowsE
          go_simp
          exact Below.refl _ _
        · intro a W hC hs hd
          have hW : Below w4.heap.size w4 W := hC
          have e26 : (a.tmps[26]?.getD undef) = .pointer (some ⟨b2, 1, none⟩) := hd 11 26 (by kernel_rfl) (by kernel_rfl) (by kernel_rfl)
          refine growsG_none (E := fun W W' => Below W.heap.size W W') rfl ?_
          have k0 := (hW.cell (p := ⟨b2, 1, none⟩) (s2)).trans (q2)
          have k1 := (hW.cell (p := ⟨b, o + j * 2, none⟩) (zE)).trans (d1)
          have k2 := (hW.cell (p := ⟨b, o + j * 2 + 1, none⟩) (zE)).trans (d2)
          have k3 := (hW.cell (p := ⟨pb, po + x, none⟩) (zP)).trans (r1)
          have k4 := (hW.cell (p := ⟨pb, po + y, none⟩) (zP)).trans (r2)
          clear hs hd
          unfold GrowsE
          go_simp
          exact Below.refl _ _
        · intro a W hC hs hd
          have hW : Below w4.heap.size w4 W := hC
          have e6 : a.tmps[6]?.getD undef = .int .i64 j := hs 6 (by kernel_rfl)
          refine growsG_none (E := fun W W' => Below W.heap.size W W') rfl ?_
          clear hs hd
          unfold GrowsE
          go_simp
          exact Below.refl _ _
        · intro a W hC hs hd
          have hW : Below w4.heap.size w4 W := hC
          have e27 : (a.tmps[27]?.getD undef) = .slice (some ⟨b, o, none⟩) m c := hd 12 27 (by kernel_rfl) (by kernel_rfl) (by kernel_rfl)
          have e28 : (a.tmps[28]?.getD undef) = .int .i64 j := hd 13 28 (by kernel_rfl) (by kernel_rfl) (by kernel_rfl)
          refine growsG_none (E := fun W W' => Below W.heap.size W W') rfl ?_
          have k0 := (hW.cell (p := ⟨b2, 1, none⟩) (s2)).trans (q2)
          have k1 := (hW.cell (p := ⟨b, o + j * 2, none⟩) (zE)).trans (d1)
          have k2 := (hW.cell (p := ⟨b, o + j * 2 + 1, none⟩) (zE)).trans (d2)
          have k3 := (hW.cell (p := ⟨pb, po + x, none⟩) (zP)).trans (r1)
          have k4 := (hW.cell (p := ⟨pb, po + y, none⟩) (zP)).trans (r2)
          clear hs hd
          unfold GrowsE
          go_simp
          exact Below.refl _ _
        · intro a W hC hs hd
          have hW : Below w4.heap.size w4 W := hC
          have e29 : (a.tmps[29]?.getD undef) = .pointer (some ⟨b, o + j * 2, none⟩) := hd 14 29 (by kernel_rfl) (by kernel_rfl) (by kernel_rfl)
          refine growsG_none (E := fun W W' => Below W.heap.size W W') rfl ?_
          have k0 := (hW.cell (p := ⟨b2, 1, none⟩) (s2)).trans (q2)
          have k1 := (hW.cell (p := ⟨b, o + j * 2, none⟩) (zE)).trans (d1)
          have k2 := (hW.cell (p := ⟨b, o + j * 2 + 1, none⟩) (zE)).trans (d2)
          have k3 := (hW.cell (p := ⟨pb, po + x, none⟩) (zP)).trans (r1)
          have k4 := (hW.cell (p := ⟨pb, po + y, none⟩) (zP)).trans (r2)
          clear hs hd
          unfold GrowsE
          go_simp
          exact Below.refl _ _
        · intro a W hC hs hd
          have hW : Below w4.heap.size w4 W := hC
          have e30 : (a.tmps[30]?.getD undef) = .pointer (some ⟨b, o + j * 2 + 1, none⟩) := hd 15 30 (by kernel_rfl) (by kernel_rfl) (by kernel_rfl)
          refine growsG_none (E := fun W W' => Below W.heap.size W W') rfl ?_
          have k0 := (hW.cell (p := ⟨b2, 1, none⟩) (s2)).trans (q2)
          have k1 := (hW.cell (p := ⟨b, o + j * 2, none⟩) (zE)).trans (d1)
          have k2 := (hW.cell (p := ⟨b, o + j * 2 + 1, none⟩) (zE)).trans (d2)
          have k3 := (hW.cell (p := ⟨pb, po + x, none⟩) (zP)).trans (r1)
          have k4 := (hW.cell (p := ⟨pb, po + y, none⟩) (zP)).trans (r2)
          clear hs hd
          unfold GrowsE
          go_simp
          exact Below.refl _ _
        · intro a W hC hs hd
          have hW : Below w4.heap.size w4 W := hC
          have e25 : (a.tmps[25]?.getD undef) = .slice (some ⟨pb, po, none⟩) pl pc := hd 10 25 (by kernel_rfl) (by kernel_rfl) (by kernel_rfl)
          have e31 : (a.tmps[31]?.getD undef) = .int .i64 y := hd 16 31 (by kernel_rfl) (by kernel_rfl) (by kernel_rfl)
          refine growsG_none (E := fun W W' => Below W.heap.size W W') rfl ?_
          have k0 := (hW.cell (p := ⟨b2, 1, none⟩) (s2)).trans (q2)
          have k1 := (hW.cell (p := ⟨b, o + j * 2, none⟩) (zE)).trans (d1)
          have k2 := (hW.cell (p := ⟨b, o + j * 2 + 1, none⟩) (zE)).trans (d2)
          have k3 := (hW.cell (p := ⟨pb, po + x, none⟩) (zP)).trans (r1)
          have k4 := (hW.cell (p := ⟨pb, po + y, none⟩) (zP)).trans (r2)
          clear hs hd
          unfold GrowsE
          go_simp
          exact Below.refl _ _
        · intro a W hC hs hd
          have hW : Below w4.heap.size w4 W := hC
          have e32 : (a.tmps[32]?.getD undef) = .pointer (some ⟨pb, po + y, none⟩) := hd 17 32 (by kernel_rfl) (by kernel_rfl) (by kernel_rfl)
          refine growsG_none (E := fun W W' => Below W.heap.size W W') rfl ?_
          have k0 := (hW.cell (p := ⟨b2, 1, none⟩) (s2)).trans (q2)
          have k1 := (hW.cell (p := ⟨b, o + j * 2, none⟩) (zE)).trans (d1)
          have k2 := (hW.cell (p := ⟨b, o + j * 2 + 1, none⟩) (zE)).trans (d2)
          have k3 := (hW.cell (p := ⟨pb, po + x, none⟩) (zP)).trans (r1)
          have k4 := (hW.cell (p := ⟨pb, po + y, none⟩) (zP)).trans (r2)
          clear hs hd
          unfold GrowsE
          go_simp
          exact Below.refl _ _
        · intro a W hC hs hd
          have hW : Below w4.heap.size w4 W := hC
          have e24 : (a.tmps[24]?.getD undef) = .int .i64 (ls x) := hd 9 24 (by kernel_rfl) (by kernel_rfl) (by kernel_rfl)
          have e33 : (a.tmps[33]?.getD undef) = .int .i64 (ls y) := hd 18 33 (by kernel_rfl) (by kernel_rfl) (by kernel_rfl)
          refine growsG_none (E := fun W W' => Below W.heap.size W W') rfl ?_
          clear hs hd
          unfold GrowsE
          go_simp
          exact Below.refl _ _
        · intro a W hC hs hd
          have hW : Below w4.heap.size w4 W := hC
          have e34 : (a.tmps[34]?.getD undef) = .agg #[.int .i64 (ls x), .int .i64 (ls y)] := hd 19 34 (by kernel_rfl) (by kernel_rfl) (by kernel_rfl)
          refine growsG_none (E := fun W W' => Below W.heap.size W W') rfl ?_
          clear hs hd
          unfold GrowsE
          go_simp
          exact ⟨(Below.refl _ _).alloc (Nat.le_refl _) _, _, rfl, hW.size, heap_alloc_new _ _⟩
      intro vs W hW hf
      have f15 : (vs 15) = .slice A j c' := hf 0 15 (by decide) (by kernel_rfl) (fun _ hk => by cases hk)
      have f16 : (vs 16) = .slice (some ⟨pb, po, none⟩) pl pc := hf 1 16 (by decide) (by kernel_rfl) (fun _ hk => by cases hk)
      have f17 : (vs 17) = .pointer (some ⟨b2, 1, none⟩) := hf 2 17 (by decide) (by kernel_rfl) (fun _ hk => by cases hk)
      have f18 : (vs 18) = .slice (some ⟨b, o, none⟩) m c := hf 3 18 (by decide) (by kernel_rfl) (fun _ hk => by cases hk)
      have f19 : (vs 19) = .int .i64 j := hf 4 19 (by decide) (by kernel_rfl) (fun _ hk => by cases hk)
      have f20 : (vs 20) = .pointer (some ⟨b, o + j * 2, none⟩) := hf 5 20 (by decide) (by kernel_rfl) (fun _ hk => by cases hk)
      have f21 : (vs 21) = .pointer (some ⟨b, o + j * 2, none⟩) := hf 6 21 (by decide) (by kernel_rfl) (fun _ hk => by cases hk)
      have f22 : (vs 22) = .int .i64 x := hf 7 22 (by decide) (by kernel_rfl) (fun _ hk => by cases hk)
      have f23 : (vs 23) = .pointer (some ⟨pb, po + x, none⟩) := hf 8 23 (by decide) (by kernel_rfl) (fun _ hk => by cases hk)
      have f24 : (vs 24) = .int .i64 (ls x) := hf 9 24 (by decide) (by kernel_rfl) (fun _ hk => by cases hk)
      have f25 : (vs 25) = .slice (some ⟨pb, po, none⟩) pl pc := hf 10 25 (by decide) (by kernel_rfl) (fun _ hk => by cases hk)
      have f26 : (vs 26) = .pointer (some ⟨b2, 1, none⟩) := hf 11 26 (by decide) (by kernel_rfl) (fun _ hk => by cases hk)
      have f27 : (vs 27) = .slice (some ⟨b, o, none⟩) m c := hf 12 27 (by decide) (by kernel_rfl) (fun _ hk => by cases hk)
      have f28 : (vs 28) = .int .i64 j := hf 13 28 (by decide) (by kernel_rfl) (fun _ hk => by cases hk)
      have f29 : (vs 29) = .pointer (some ⟨b, o + j * 2, none⟩) := hf 14 29 (by decide) (by kernel_rfl) (fun _ hk => by cases hk)
      have f30 : (vs 30) = .pointer (some ⟨b, o + j * 2 + 1, none⟩) := hf 15 30 (by decide) (by kernel_rfl) (fun _ hk => by cases hk)
      have f31 : (vs 31) = .int .i64 y := hf 16 31 (by decide) (by kernel_rfl) (fun _ hk => by cases hk)
      have f32 : (vs 32) = .pointer (some ⟨pb, po + y, none⟩) := hf 17 32 (by decide) (by kernel_rfl) (fun _ hk => by cases hk)
      have f33 : (vs 33) = .int .i64 (ls y) := hf 18 33 (by decide) (by kernel_rfl) (fun _ hk => by cases hk)
      have f34 : (vs 34) = .agg #[.int .i64 (ls x), .int .i64 (ls y)] := hf 19 34 (by decide) (by kernel_rfl) (fun _ hk => by cases hk)
      have f35 : NewB w4.heap.size (ls x) (ls y) (vs 35) W := hf 20 35 (by decide) (by kernel_rfl) (fun _ hk => by cases hk)
      obtain ⟨H35, f35, hg35, h35⟩ := f35
      simp only [dsts, List.take_succ_cons, List.take_zero, List.drop_succ_cons, List.drop_zero, List.filterMap_cons, List.filterMap_nil, List.foldl_cons, List.foldl_nil, Act.put, List.setIfInBounds_toArray, List.set_cons_succ, List.set_cons_zero, f15, f16, f17, f18, f19, f20, f21, f22, f23, f24, f25, f26, f27, f28, f29, f30, f31, f32, f33, f34, f35]
      clear hf
      have OW := OX.below hW
      have hbW := hbr.andB hW
      have hzW := hW.size
      have X2 := X2.below hW
      have X4 := X4.below hW
      clear s2 p2 q2 d1 d2 zE zP r1 r2 OX hbr hW
      go_wp2_with (first
        | (at_builtin; refine wp_appEA2 rfl rfl rfl rfl h35 OW (by omega) (by omega) ?_; intro A6 c6 w6 OX6 hg6 hat6))
      have hR : ∀ g', blkOf A = some g' → w3.heap.size ≤ g' := fun g' hg' => (OW.blk g' hg').1
      have X2 := X2.kept hg6 (fun e => by have := hR b2 e.symm; omega)
      have X4 := X4.kept hg6 (fun e => by have := hR b4 e.symm; omega)
      have hb7 := hbW.grown hg6 (by omega) (fun y hy => by have := hR y hy; omega)
      have hz7 := hg6.size
      go_roundw
      case rel => exact ⟨j + 1, A6, c6, by omega, by go_num, rfl, by rw [HST.out]; exact OX6, X2, X4, hb7, by omega⟩
      case measure => simp [intOf]; omega
    · obtain rfl : j = m := by omega
      obtain ⟨g, rfl, OG⟩ : ∃ g, A = some ⟨g, 0, none⟩ ∧ OwnE w3.heap.size wr g j c' ((es.take j).map (rnE ls)) := by
        rcases OX.cases with ⟨_, h0, _⟩ | h0
        · omega
        · exact h0
      have HBL : Hid ((es.take j).map (rnE ls) = es.map (rnE ls)) := by show _ = _; rw [List.take_of_length_le (by rw [hlm.out]; exact Nat.le_refl _)]
      have HMD := Lib.hid (l01Made_any n g 0 j c' _ wr OG.eds (by omega))
      clear OX OG
      go_wp2_with fail
      refine HMD.out.mono ?_
      rw [HBL.out]
      rintro e w5 ⟨g6, c2, rfl, O, hb5⟩
      have PW := X4.below hb5
      have hBW := hbr.andB hb5
      have hgO := O.ge
      have hOb : w.heap.size ≤ wr.heap.size := hbr.size
      clear s2 p2 q2 X2 HBL
      have O8 := (O.setOther (a := ⟨b4, 0, none⟩) (by simp; omega) (.int .i64 n)).setOther (a := ⟨b4, 1, none⟩) (by simp; omega) (.slice (some ⟨g6, 0, none⟩) (srtE (es.map (rnE ls))).length c2)
      have P8 := PW.set2 (.int .i64 n) (.slice (some ⟨g6, 0, none⟩) (srtE (es.map (rnE ls))).length c2)
      have hB8 := (hBW.setCell (p := ⟨b4, 0, none⟩) hww.2.2.2 (.int .i64 n)).setCell (p := ⟨b4, 1, none⟩) hww.2.2.2 (.slice (some ⟨g6, 0, none⟩) (srtE (es.map (rnE ls))).length c2)
      have PWx := PW
      obtain ⟨⟨sW, pW, qW⟩, fW, gW⟩ := PWx
      clear O
      go_wp2_with fail
      generalize hw9 : (World.setCell (World.setCell _ ⟨b4, 0, none⟩ (.int .i64 n)) ⟨b4, 1, none⟩ (.slice (some ⟨g6, 0, none⟩) (srtE (es.map (rnE ls))).length c2)) = w9 at O8 P8 hB8 ⊢
      clear hw9 pW qW
      obtain ⟨⟨k0, k1, k2⟩, _, _⟩ := P8
      refine bodyPost_ret (v := .agg #[.int .i64 n, .slice (some ⟨g6, 0, none⟩) (srtE (es.map (rnE ls))).length c2]) ?_ rfl ⟨g6, c2, rfl, O8.mono hOb, hB8⟩
      simp [results, Tryz.results81, go_sem, k1, k2]
set_option maxRecDepth 100000 in
set_option maxHeartbeats 4000000 in
theorem renumbered_any (n : Int) (b o m c pb po pl pc : Nat) (es : List (Int × Int)) (ls : Nat → Int) (w : World) (h : Eds w b o m es) (h2 : Ints w pb po pl ls) (hn : WfP n es) (hpl : (pl : Int) = n) :
    Calls Tryz.prog 79 #[.agg #[.int .i64 n, .slice (some ⟨b, o, none⟩) m c], .slice (some ⟨pb, po, none⟩) pl pc] w (RetG n (srtE (es.map (rnE ls))) w) := by
  have hlm := Lib.hid h.len
  have hm0 : 0 < m ∧ m ≤ 30 := by have := hn.2.2.2.1; have := hn.1; have := hn.2.1; have := h.len; omega
  have HF := Lib.hid hn.2.2.2.2
  have HPL : pl ≤ 20 ∧ n ≤ pl := by have := hn.2.1; omega
  clear hn hpl
  obtain ⟨w1, hw1⟩ : ∃ w1, w1 = w.alloc (.cells #[.int .i64 n, .slice (some ⟨b, o, none⟩) m c] 26) := ⟨_, rfl⟩
  have X2 := Box2.made w (.int .i64 n) (.slice (some ⟨b, o, none⟩) m c) 26
  have hb1 : Below w.heap.size w (w.alloc (.cells #[.int .i64 n, .slice (some ⟨b, o, none⟩) m c] 26)) := (Below.refl _ _).alloc (Nat.le_refl _) _
  rw [← hw1] at X2 hb1
  have hs1 : w1.heap.size = w.heap.size + 1 := by rw [hw1]; simp
  obtain ⟨w3, hw3⟩ : ∃ w3, w3 = w1.alloc (.cells #[.int .i64 0, .slice none 0 0] 26) := ⟨_, rfl⟩
  have X4 := Box2F.made w1 (.int .i64 0) (.slice none 0 0) 26
  have ha3 : Below w1.heap.size w1 (w1.alloc (.cells #[.int .i64 0, .slice none 0 0] 26)) := (Below.refl _ _).alloc (Nat.le_refl _) _
  rw [← hw3] at X4 ha3
  have X2 := X2.below ha3
  have hb3 := hb1.andB ha3
  have hs3 : w3.heap.size = w1.heap.size + 1 := by rw [hw3]; simp
  obtain ⟨b2, hB2⟩ : ∃ b2, b2 = w.heap.size := ⟨_, rfl⟩
  obtain ⟨b4, hB4⟩ : ∃ b4, b4 = w1.heap.size := ⟨_, rfl⟩
  rw [← hB2] at X2
  rw [← hB4] at X4
  have HW : Hid (w3 = (w.alloc (.cells #[.int .i64 n, .slice (some ⟨b, o, none⟩) m c] 26)).alloc (.cells #[.int .i64 0, .slice none 0 0] 26) ∧ w.heap.size = b2 ∧ w.heap.size + 1 = b4) := by rw [← hw1]; exact ⟨hw3, hB2.symm, by omega⟩
  have hww : w.heap.size ≤ w3.heap.size ∧ b2 < b4 ∧ b4 < w3.heap.size ∧ w.heap.size ≤ b4 := by omega
  clear hw1 hw3 ha3 hs1 hs3 hb1 hB2 hB4
  go_enter Tryz.func79, Tryz.ntmps79
  have X2c := X2
  obtain ⟨s2, p2, q2⟩ := X2c
  go_wp2_with fail
  rw [← HW.out.1, HW.out.2.2, HW.out.2.1]
  clear s2 p2 q2
  go_loopw [5, 11] (fun lv iv wr => ∃ (j : Nat) (A : Option Addr) (c' : Nat), j ≤ m ∧ iv = .int .i64 j ∧ lv = .slice A j c' ∧ OwnEA w3.heap.size wr A j c' ((es.take j).map (rnE ls)) ∧ Box2 wr b2 (.int .i64 n) (.slice (some ⟨b, o, none⟩) m c) ∧ Box2F wr b4 (.int .i64 0) (.slice none 0 0) ∧ Below w.heap.size w wr ∧ w3.heap.size ≤ wr.heap.size) (fun _ i _ => m - (intOf i).toNat)
  case atStart => exact ⟨0, none, 0, Nat.zero_le _, rfl, rfl, by simpa using OwnEA.nil w3.heap.size w3, X2, X4, hb3, Nat.le_refl _⟩
  case round =>
    clear X2 X4 hb3
    obtain ⟨j, A, c', hj, rfl, rfl, OX, X2, X4, hbr, hzr⟩ := hrel
    by_cases hlt : j < m
    · obtain ⟨w9, rfl⟩ : ∃ w9, w9 = wr := ⟨wr, rfl⟩
      have E := h.below hbr
      have d1 := E.ca j hlt
      have d2 := E.cb j hlt
      have zE := E.blk
      have hfr := HF.out j (by rw [hlm.out]; exact hlt)
      obtain ⟨x, hx⟩ : ∃ x : Nat, ea es j = x := ⟨(ea es j).toNat, by omega⟩
      obtain ⟨y, hy⟩ : ∃ y : Nat, eb es j = y := ⟨(eb es j).toNat, by omega⟩
      have hxp : x < pl := by omega
      have hyp : y < pl := by omega
      rw [hx] at d1
      rw [hy] at d2
      have HST := Lib.hid (rn_step ls es (j := j) (by rw [hlm.out]; exact hlt) hx hy)
      clear hfr E hx hy
      go_wp2_with fail
      have X7 := Box2.made w9 (.int .i64 x) (.int .i64 y) 78
      have ha : Below w9.heap.size w9 (w9.alloc (.cells #[.int .i64 x, .int .i64 y] 78)) := (Below.refl _ _).alloc (Nat.le_refl _) _
      generalize (w9.alloc (.cells #[.int .i64 x, .int .i64 y] 78)) = w4 at X7 ha ⊢
      obtain ⟨b7, hB7⟩ : ∃ b7, b7 = w9.heap.size := ⟨_, rfl⟩
      rw [← hB7] at X7 ⊢
      have OX := OX.below ha
      have X2 := X2.below ha
      have X4 := X4.below ha
      have hbr := hbr.andB ha
      have hzr : w3.heap.size ≤ w4.heap.size := by have := ha.size; omega
      have I := h2.below hbr
      have zP := I.blk
      have r1 := I.c x hxp
      have r2 := I.c y hyp
      obtain ⟨s7, p7, q7⟩ := X7
      clear ha I d1 d2 zE hB7
      refine wp_region_then 13 (fun i9 v W => match i9 with
        | 0 => v = .slice A j c'
        | 1 => v = .slice (some ⟨pb, po, none⟩) pl pc
        | 2 => v = .pointer (some ⟨b7, 0, none⟩)
        | 3 => v = .int .i64 x
        | 4 => v = .pointer (some ⟨pb, po + x, none⟩)
        | 5 => v = .int .i64 (ls x)
        | 6 => v = .slice (some ⟨pb, po, none⟩) pl pc
        | 7 => v = .pointer (some ⟨b7, 1, none⟩)
        | 8 => v = .int .i64 y
        | 9 => v = .pointer (some ⟨pb, po + y, none⟩)
        | 10 => v = .int .i64 (ls y)
        | 11 => v = .agg #[.int .i64 (ls x), .int .i64 (ls y)]
        | _ => NewB w4.heap.size (ls x) (ls y) v W)
        (fun i => match i with
        | _ => none)
        (fun k W W' => Below W.heap.size W W')  (fun W => Below w4.heap.size w4 W) (by kernel_rfl) (by kernel_rfl) ?_ ?_ ?_ ?_ ?_
      · exact (Below.refl _ _).drew
      · intro i k v W W' hne hd hC hf hE
        match i, hf with
        | 0, hf => exact hf
        | 1, hf => exact hf
        | 2, hf => exact hf
        | 3, hf => exact hf
        | 4, hf => exact hf
        | 5, hf => exact hf
        | 6, hf => exact hf
        | 7, hf => exact hf
        | 8, hf => exact hf
        | 9, hf => exact hf
        | 10, hf => exact hf
        | 11, hf => exact hf
        | _ + 12, hf => exact NewB.below hf hE
      · intro k W W' hC hE
        exact Below.andB hC hE
      · simp only [List.take_succ_cons, List.take_zero]
        refine ⟨?_, ?_, ?_, ?_, ?_, ?_, ?_, ?_, ?_, ?_, ?_, ?_, ?_, trivial⟩
        · intro a W hC hs hd
          have hW : Below w4.heap.size w4 W := hC
          have e5 : a.tmps[5]?.getD undef = .slice A j c' := hs 5 (by kernel_rfl)
          refine growsG_none (E := fun W W' => Below W.heap.size W W') rfl ?_
          clear hs hd
          unfold GrowsE
          go_simp
          exact Below.refl _ _
        · intro a W hC hs hd
          have hW : Below w4.heap.size w4 W := hC
          have e1 : a.tmps[1]?.getD undef = .slice (some ⟨pb, po, none⟩) pl pc := hs 1 (by kernel_rfl)
          refine growsG_none (E := fun W W' => Below W.heap.size W W') rfl ?_
          clear hs hd
          unfold GrowsE
          go_simp
          exact Below.refl _ _
        · intro a W hC hs hd
          have hW : Below w4.heap.size w4 W := hC
          have e7 : a.tmps[7]?.getD undef = .pointer (some ⟨b7, 0, none⟩) := hs 7 (by kernel_rfl)
          refine growsG_none (E := fun W W' => Below W.heap.size W W') rfl ?_
          have k0 := (hW.cell (p := ⟨b7, 0, none⟩) (s7)).trans (p7)
          have k1 := (hW.cell (p := ⟨b7, 1, none⟩) (s7)).trans (q7)
          have k2 := (hW.cell (p := ⟨pb, po + x, none⟩) (zP)).trans (r1)
          have k3 := (hW.cell (p := ⟨pb, po + y, none⟩) (zP)).trans (r2)
          clear hs hd
          unfold GrowsE
          go_simp
          exact Below.refl _ _
        · intro a W hC hs hd
          have hW : Below w4.heap.size w4 W := hC
          have e17 : (a.tmps[17]?.getD undef) = .pointer (some ⟨b7, 0, none⟩) := hd 2 17 (by kernel_rfl) (by kernel_rfl) (by kernel_rfl)
          refine growsG_none (E := fun W W' => Below W.heap.size W W') rfl ?_
          have k0 := (hW.cell (p := ⟨b7, 0, none⟩) (s7)).trans (p7)
          have k1 := (hW.cell (p := ⟨b7, 1, none⟩) (s7)).trans (q7)
          have k2 := (hW.cell (p := ⟨pb, po + x, none⟩) (zP)).trans (r1)
          have k3 := (hW.cell (p := ⟨pb, po + y, none⟩) (zP)).trans (r2)
          clear hs hd
          unfold GrowsE
          go_simp
          exact Below.refl _ _
        · intro a W hC hs hd
          have hW : Below w4.heap.size w4 W := hC
          have e16 : (a.tmps[16]?.getD undef) = .slice (some ⟨pb, po, none⟩) pl pc := hd 1 16 (by kernel_rfl) (by kernel_rfl) (by kernel_rfl)
          have e18 : (a.tmps[18]?.getD undef) = .int .i64 x := hd 3 18 (by kernel_rfl) (by kernel_rfl) (by kernel_rfl)
          refine growsG_none (E := fun W W' => Below W.heap.size W W') rfl ?_
          have k0 := (hW.cell (p := ⟨b7, 0, none⟩) (s7)).trans (p7)
          have k1 := (hW.cell (p := ⟨b7, 1, none⟩) (s7)).trans (q7)
          have k2 := (hW.cell (p := ⟨pb, po + x, none⟩) (zP)).trans (r1)
          have k3 := (hW.cell (p := ⟨pb, po + y, none⟩) (zP)).trans (r2)
          clear hs hd
          unfold GrowsE
          go_simp
          exact Below.refl _ _
        · intro a W hC hs hd
          have hW : Below w4.heap.size w4 W := hC
          have e19 : (a.tmps[19]?.getD undef) = .pointer (some ⟨pb, po + x, none⟩) := hd 4 19 (by kernel_rfl) (by kernel_rfl) (by kernel_rfl)
          refine growsG_none (E := fun W W' => Below W.heap.size W W') rfl ?_
          have k0 := (hW.cell (p := ⟨b7, 0, none⟩) (s7)).trans (p7)
          have k1 := (hW.cell (p := ⟨b7, 1, none⟩) (s7)).trans (q7)
          have k2 := (hW.cell (p := ⟨pb, po + x, none⟩) (zP)).trans (r1)
          have k3 := (hW.cell (p := ⟨pb, po + y, none⟩) (zP)).trans (r2)
          clear hs hd
          unfold GrowsE
          go_simp
          exact Below.refl _ _
        · intro a W hC hs hd
          have hW : Below w4.heap.size w4 W := hC
          have e1 : a.tmps[1]?.getD undef = .slice (some ⟨pb, po, none⟩) pl pc := hs 1 (by kernel_rfl)
          refine growsG_none (E := fun W W' => Below W.heap.size W W') rfl ?_
          clear hs hd
          unfold GrowsE
          go_simp
          exact Below.refl _ _
        · intro a W hC hs hd
          have hW : Below w4.heap.size w4 W := hC
          have e7 : a.tmps[7]?.getD undef = .pointer (some ⟨b7, 0, none⟩) := hs 7 (by kernel_rfl)
          refine growsG_none (E := fun W W' => Below W.heap.size W W') rfl ?_
          have k0 := (hW.cell (p := ⟨b7, 0, none⟩) (s7)).trans (p7)
          have k1 := (hW.cell (p := ⟨b7, 1, none⟩) (s7)).trans (q7)
          have k2 := (hW.cell (p := ⟨pb, po + x, none⟩) (zP)).trans (r1)
          have k3 := (hW.cell (p := ⟨pb, po + y, none⟩) (zP)).trans (r2)
          clear hs hd
          unfold GrowsE
          go_simp
          exact Below.refl _ _
        · intro a W hC hs hd
          have hW : Below w4.heap.size w4 W := hC
          have e22 : (a.tmps[22]?.getD undef) = .pointer (some ⟨b7, 1, none⟩) := hd 7 22 (by kernel_rfl) (by kernel_rfl) (by kernel_rfl)
          refine growsG_none (E := fun W W' => Below W.heap.size W W') rfl ?_
          have k0 := (hW.cell (p := ⟨b7, 0, none⟩) (s7)).trans (p7)
          have k1 := (hW.cell (p := ⟨b7, 1, none⟩) (s7)).trans (q7)
          have k2 := (hW.cell (p := ⟨pb, po + x, none⟩) (zP)).trans (r1)
          have k3 := (hW.cell (p := ⟨pb, po + y, none⟩) (zP)).trans (r2)
          clear hs hd
          unfold GrowsE
          go_simp
          exact Below.refl _ _
        · intro a W hC hs hd
          have hW : Below w4.heap.size w4 W := hC
          have e21 : (a.tmps[21]?.getD undef) = .slice (some ⟨pb, po, none⟩) pl pc := hd 6 21 (by kernel_rfl) (by kernel_rfl) (by kernel_rfl)
          have e23 : (a.tmps[23]?.getD undef) = .int .i64 y := hd 8 23 (by kernel_rfl) (by kernel_rfl) (by kernel_rfl)
          refine growsG_none (E := fun W W' => Below W.heap.size W W') rfl ?_
          have k0 := (hW.cell (p := ⟨b7, 0, none⟩) (s7)).trans (p7)
          have k1 := (hW.cell (p := ⟨b7, 1, none⟩) (s7)).trans (q7)
          have k2 := (hW.cell (p := ⟨pb, po + x, none⟩) (zP)).trans (r1)
          have k3 := (hW.cell (p := ⟨pb, po + y, none⟩) (zP)).trans (r2)
          clear hs hd
          unfold GrowsE
          go_simp
          exact Below.refl _ _
        · intro a W hC hs hd
          have hW : Below w4.heap.size w4 W := hC
          have e24 : (a.tmps[24]?.getD undef) = .pointer (some ⟨pb, po + y, none⟩) := hd 9 24 (by kernel_rfl) (by kernel_rfl) (by kernel_rfl)
          refine growsG_none (E := fun W W' => Below W.heap.size W W') rfl ?_
          have k0 := (hW.cell (p := ⟨b7, 0, none⟩) (s7)).trans (p7)
          have k1 := (hW.cell (p := ⟨b7, 1, none⟩) (s7)).trans (q7)
          have k2 := (hW.cell (p := ⟨pb, po + x, none⟩) (zP)).trans (r1)
          have k3 := (hW.cell (p := ⟨pb, po + y, none⟩) (zP)).trans (r2)
          clear hs hd
          unfold GrowsE
          go_simp
          exact Below.refl _ _
        · intro a W hC hs hd
          have hW : Below w4.heap.size w4 W := hC
          have e20 : (a.tmps[20]?.getD undef) = .int .i64 (ls x) := hd 5 20 (by kernel_rfl) (by kernel_rfl) (by kernel_rfl)
          have e25 : (a.tmps[25]?.getD undef) = .int .i64 (ls y) := hd 10 25 (by kernel_rfl) (by kernel_rfl) (by kernel_rfl)
          refine growsG_none (E := fun W W' => Below W.heap.size W W') rfl ?_
          clear hs hd
          unfold GrowsE
          go_simp
          exact Below.refl _ _
        · intro a W hC hs hd
          have hW : Below w4.heap.size w4 W := hC
          have e26 : (a.tmps[26]?.getD undef) = .agg #[.int .i64 (ls x), .int .i64 (ls y)] := hd 11 26 (by kernel_rfl) (by kernel_rfl) (by kernel_rfl)
          refine growsG_none (E := fun W W' => Below W.heap.size W W') rfl ?_
          clear hs hd
          unfold GrowsE
          go_simp
          exact ⟨(Below.refl _ _).alloc (Nat.le_refl _) _, _, rfl, hW.size, heap_alloc_new _ _⟩
      intro vs W hW hf
      have f15 : (vs 15) = .slice A j c' := hf 0 15 (by decide) (by kernel_rfl) (fun _ hk => by cases hk)
      have f16 : (vs 16) = .slice (some ⟨pb, po, none⟩) pl pc := hf 1 16 (by decide) (by kernel_rfl) (fun _ hk => by cases hk)
      have f17 : (vs 17) = .pointer (some ⟨b7, 0, none⟩) := hf 2 17 (by decide) (by kernel_rfl) (fun _ hk => by cases hk)
      have f18 : (vs 18) = .int .i64 x := hf 3 18 (by decide) (by kernel_rfl) (fun _ hk => by cases hk)
      have f19 : (vs 19) = .pointer (some ⟨pb, po + x, none⟩) := hf 4 19 (by decide) (by kernel_rfl) (fun _ hk => by cases hk)
      have f20 : (vs 20) = .int .i64 (ls x) := hf 5 20 (by decide) (by kernel_rfl) (fun _ hk => by cases hk)
      have f21 : (vs 21) = .slice (some ⟨pb, po, none⟩) pl pc := hf 6 21 (by decide) (by kernel_rfl) (fun _ hk => by cases hk)
      have f22 : (vs 22) = .pointer (some ⟨b7, 1, none⟩) := hf 7 22 (by decide) (by kernel_rfl) (fun _ hk => by cases hk)
      have f23 : (vs 23) = .int .i64 y := hf 8 23 (by decide) (by kernel_rfl) (fun _ hk => by cases hk)
      have f24 : (vs 24) = .pointer (some ⟨pb, po + y, none⟩) := hf 9 24 (by decide) (by kernel_rfl) (fun _ hk => by cases hk)
      have f25 : (vs 25) = .int .i64 (ls y) := hf 10 25 (by decide) (by kernel_rfl) (fun _ hk => by cases hk)
      have f26 : (vs 26) = .agg #[.int .i64 (ls x), .int .i64 (ls y)] := hf 11 26 (by decide) (by kernel_rfl) (fun _ hk => by cases hk)
      have f27 : NewB w4.heap.size (ls x) (ls y) (vs 27) W := hf 12 27 (by decide) (by kernel_rfl) (fun _ hk => by cases hk)
      obtain ⟨H27, f27, hg27, h27⟩ := f27
      simp only [dsts, List.take_succ_cons, List.take_zero, List.drop_succ_cons, List.drop_zero, List.filterMap_cons, List.filterMap_nil, List.foldl_cons, List.foldl_nil, Act.put, List.setIfInBounds_toArray, List.set_cons_succ, List.set_cons_zero, f15, f16, f17, f18, f19, f20, f21, f22, f23, f24, f25, f26, f27]
      clear hf
      have OW := OX.below hW
      have hbW := hbr.andB hW
      have hzW := hW.size
      have X2 := X2.below hW
      have X4 := X4.below hW
      clear zP r1 r2 OX hbr hW s7 p7 q7
      go_wp2_with (first
        | (at_builtin; refine wp_appEA2 rfl rfl rfl rfl h27 OW (by omega) (by omega) ?_; intro A6 c6 w6 OX6 hg6 hat6))
      have hR : ∀ g', blkOf A = some g' → w3.heap.size ≤ g' := fun g' hg' => (OW.blk g' hg').1
      have X2 := X2.kept hg6 (fun e => by have := hR b2 e.symm; omega)
      have X4 := X4.kept hg6 (fun e => by have := hR b4 e.symm; omega)
      have hb7 := hbW.grown hg6 (by omega) (fun y hy => by have := hR y hy; omega)
      have hz7 := hg6.size
      go_roundw
      case rel => exact ⟨j + 1, A6, c6, by omega, by go_num, rfl, by rw [HST.out]; exact OX6, X2, X4, hb7, by omega⟩
      case measure => simp [intOf]; omega
    · obtain rfl : j = m := by omega
      obtain ⟨g, rfl, OG⟩ : ∃ g, A = some ⟨g, 0, none⟩ ∧ OwnE w3.heap.size wr g j c' ((es.take j).map (rnE ls)) := by
        rcases OX.cases with ⟨_, h0, _⟩ | h0
        · omega
        · exact h0
      have HBL : Hid ((es.take j).map (rnE ls) = es.map (rnE ls)) := by show _ = _; rw [List.take_of_length_le (by rw [hlm.out]; exact Nat.le_refl _)]
      have HMD := Lib.hid (graphOf_any n g 0 j c' _ wr OG.eds (by omega) hm0.1)
      have X2c := X2
      obtain ⟨s2, p2, q2⟩ := X2c
      clear OX OG
      go_wp2_with fail
      refine HMD.out.mono ?_
      rw [HBL.out]
      rintro e w5 ⟨g6, c2, rfl, O, hb5⟩
      have PW := X4.below hb5
      have hBW := hbr.andB hb5
      have hgO := O.ge
      have hOb : w.heap.size ≤ wr.heap.size := hbr.size
      clear s2 p2 q2 X2 HBL
      have O8 := (O.setOther (a := ⟨b4, 0, none⟩) (by simp; omega) (.int .i64 n)).setOther (a := ⟨b4, 1, none⟩) (by simp; omega) (.slice (some ⟨g6, 0, none⟩) (srtE (es.map (rnE ls))).length c2)
      have P8 := PW.set2 (.int .i64 n) (.slice (some ⟨g6, 0, none⟩) (srtE (es.map (rnE ls))).length c2)
      have hB8 := (hBW.setCell (p := ⟨b4, 0, none⟩) hww.2.2.2 (.int .i64 n)).setCell (p := ⟨b4, 1, none⟩) hww.2.2.2 (.slice (some ⟨g6, 0, none⟩) (srtE (es.map (rnE ls))).length c2)
      have PWx := PW
      obtain ⟨⟨sW, pW, qW⟩, fW, gW⟩ := PWx
      clear O
      go_wp2_with fail
      generalize hw9 : (World.setCell (World.setCell _ ⟨b4, 0, none⟩ (.int .i64 n)) ⟨b4, 1, none⟩ (.slice (some ⟨g6, 0, none⟩) (srtE (es.map (rnE ls))).length c2)) = w9 at O8 P8 hB8 ⊢
      clear hw9 pW qW
      obtain ⟨⟨k0, k1, k2⟩, _, _⟩ := P8
      refine bodyPost_ret (v := .agg #[.int .i64 n, .slice (some ⟨g6, 0, none⟩) (srtE (es.map (rnE ls))).length c2]) ?_ rfl ⟨g6, c2, rfl, O8.mono hOb, hB8⟩
      simp [results, Tryz.results79, go_sem, k1, k2]
end Go.Proofs.YtajnhkkiddeegaaGreat
