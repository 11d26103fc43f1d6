import Derived.Test.YtjaffbpgochemaaSt
namespace Go.Proofs.Ytjaffbpgochemaa
open Go.RowKit Go.Sort
/-! ### Edges that leave a set -/
def lvTo (es : List (Int × Int)) (f : Int → Bool) : Nat → List Int
  | 0 => []
  | k + 1 => lvTo es f k ++ (if f (ea es k) = f (eb es k) then [] else [(k : Int)])
theorem lvTo_len (es : List (Int × Int)) (f : Int → Bool) (k : Nat) : (lvTo es f k).length ≤ k := by
  induction k with
  | zero => simp [lvTo]
  | succ k ih => simp only [lvTo, List.length_append]; split <;> simp <;> omega
theorem lvTo_yes {es : List (Int × Int)} {f : Int → Bool} {k : Nat} (h : ¬ f (ea es k) = f (eb es k)) : lvTo es f (k + 1) = lvTo es f k ++ [(k : Int)] := by simp [lvTo, h]
theorem lvTo_no {es : List (Int × Int)} {f : Int → Bool} {k : Nat} (h : f (ea es k) = f (eb es k)) : lvTo es f (k + 1) = lvTo es f k := by simp [lvTo, h]
def lvL (es : List (Int × Int)) (ls : Nat → Int) (l : Nat) : List Int := lvTo es (hasB (setN ls l)) es.length
theorem hasB_succ (ls : Nat → Int) (k v : Nat) : hasB (setN ls (k + 1)) (v : Int) = if v = (ls k).toNat then true else hasB (setN ls k) (v : Int) := by
  simp only [hasB, setN, Nat.testBit_or, Nat.testBit_two_pow, Int.toNat_natCast]
  by_cases h : v = (ls k).toNat
  · simp [h]
  · rw [if_neg h, decide_eq_false (fun e => h e.symm), Bool.or_false]
set_option maxRecDepth 100000 in
set_option maxHeartbeats 800000 in
theorem leaving_any (n : Int) (b o m c s : Nat) (es : List (Int × Int)) (w : World) (h : Eds w b o m es) (hm : m ≤ 1048576) (hn : WfP n es) (hs : s < 18446744073709551616) :
    Calls Try.prog 93 #[.agg #[.int .i64 n, .slice (some ⟨b, o, none⟩) m c], .int .u64 s] w (RetL (lvTo es (hasB s) es.length) w) := by
  have KC := cell_rg
  have hl := Lib.hid h.len
  have HW := Lib.hid hn
  have hn20 := hn.2.1
  clear hn
  go_enter Try.func93, Try.ntmps93
  go_wp2_with fail
  go_loopw [5, 11] (fun v1 i wr => ∃ j : Nat, j ≤ m ∧ i = .int .i64 j ∧ (∃ A c', v1 = .slice A (lvTo es (hasB s) j).length c' ∧ OwnL w.heap.size wr A (lvTo es (hasB s) j).length c' (lvTo es (hasB s) j)) ∧ Below w.heap.size w wr) (fun _ i _ => m - (intOf i).toNat)
  case atStart => exact ⟨0, Nat.zero_le _, rfl, ⟨_, _, rfl, OwnL.nil _ _⟩, (Below.refl _ _).alloc (Nat.le_refl _) _⟩
  case round =>
    obtain ⟨j, hj, rfl, ⟨A, c', rfl, hown⟩, hbr⟩ := hrel
    have hE := h.below hbr
    have hsz := hbr.size
    have hle := lvTo_len es (hasB s) j
    by_cases hlt : j < m
    · have c1 := hE.ca j hlt
      have c2 := hE.cb j hlt
      have hx := Lib.hid (HW.out.2.2.2.2 j (by rw [hl.out]; exact hlt))
      clear hE
      go_wp2_with fail
      have X := Box2.made wr (.int .i64 (ea es j)) (.int .i64 (eb es j)) 59
      have hb3 : Below wr.heap.size wr (wr.alloc (.cells #[.int .i64 (ea es j), .int .i64 (eb es j)] 59)) := (Below.refl _ _).alloc (Nat.le_refl _) _
      obtain ⟨w5, hw5⟩ : ∃ w5, w5 = wr.alloc (.cells #[.int .i64 (ea es j), .int .i64 (eb es j)] 59) := ⟨_, rfl⟩
      rw [← hw5] at X hb3 ⊢
      clear hw5 c1 c2
      obtain ⟨s1, p1, q1'⟩ := X
      by_cases hf : hasB s (ea es j) = hasB s (eb es j)
      · have e := lvTo_no hf
        (refine wp_region_quiet_below (by kernel_rfl) (by kernel_rfl) ?_
         repeat (any_goals (go_big_quiet_step (first | (go_at_call 111; exact Is.rg (has_any s _ _ hs (by have := hx.out; omega) (by have := hx.out; omega))))))
         all_goals (refine wpQuiet_nil ?_; intro wq1 hq1; replace hq1 := below_of_rg hq1))
        have hb4 := hb3.andB hq1
        go_wp2_with fail
        go_roundw
        case rel => exact ⟨j + 1, by omega, by go_num, ⟨A, c', by rw [e], by rw [e]; exact hown.below hb4⟩, hbr.andB hb4⟩
        case measure => simp [intOf]; omega
      · have e := lvTo_yes hf
        have e2 : (lvTo es (hasB s) (j + 1)).length = (lvTo es (hasB s) j).length + 1 := by rw [e]; simp
        have hf' : (!hasB s (ea es j) == hasB s (eb es j)) = true := by revert hf; cases hasB s (ea es j) <;> cases hasB s (eb es j) <;> simp
        (refine wp_region_quiet_below (by kernel_rfl) (by kernel_rfl) ?_
         repeat (any_goals (go_big_quiet_step (first | (go_at_call 111; exact Is.rg (has_any s _ _ hs (by have := hx.out; omega) (by have := hx.out; omega))))))
         all_goals (refine wpQuiet_nil ?_; intro wq1 hq1; replace hq1 := below_of_rg hq1))
        have hb4 := hb3.andB hq1
        go_wp2_with (first
          | (at_builtin; refine wp_app1 rfl rfl rfl rfl (hown.below hb4) (by have := hb4.size; omega) (by omega) ?_; intro A' c'' w4 hown' hbel' hgr'))
        go_roundw
        case rel => exact ⟨j + 1, by omega, by go_num, ⟨A', c'', by rw [e2], by rw [e2, e]; exact hown'⟩, hbel' _ _ (hbr.andB hb4) (Nat.le_refl _)⟩
        case measure => simp [intOf]; omega
    · obtain rfl : j = m := by omega
      have e : lvTo es (hasB s) es.length = lvTo es (hasB s) j := by rw [hl.out]
      go_wp2_with fail
      go_ret
      exact ⟨A, c', by rw [e]; rfl, by rw [e]; exact hown, hbr⟩
theorem infB : (Try.prog.info? 4).map (fun i => (i.zero, i.size, i.bytes)) = some (some (.bool false), 1, 1) := by kernel_rfl
set_option maxHeartbeats 1600000 in
theorem l03Leaving_any (n : Int) (b o m c b2 o2 l c2 : Nat) (es : List (Int × Int)) (ls : Nat → Int) (w : World) (h : Eds w b o m es) (hm : m ≤ 1048576) (hn : WfP n es) (h2 : Ints w b2 o2 l ls) (hl2 : l ≤ 1048576) (hls : SetP ls l (n - 1)) :
    Calls Try.prog 91 #[.agg #[.int .i64 n, .slice (some ⟨b, o, none⟩) m c], .slice (some ⟨b2, o2, none⟩) l c2] w (RetL (lvL es ls l) w) := by
  have KC := cell_rg
  have hl := Lib.hid h.len
  have HW := Lib.hid hn
  have HLS := Lib.hid hls
  have hn2 := hn.1
  have hn20 := hn.2.1
  obtain ⟨N, rfl⟩ : ∃ N : Nat, n = N := ⟨n.toNat, by omega⟩
  have hmk := run_make_row' (P := Try.prog) 102 4 (.bool false) 1 Try.underlying102 infB rfl .i64 .i64 N (by omega) (by omega)
  clear hn hls
  go_enter Try.func91, Try.ntmps91
  go_wp2_with fail
  obtain ⟨w1, hw1⟩ : ∃ w1, w1 = w.alloc (Obj.cells #[Value.int IntKind.i64 N, Value.slice (some ⟨b, o, none⟩) m c] 30) := ⟨_, rfl⟩
  have X := Box2.made w (.int .i64 N) (.slice (some ⟨b, o, none⟩) m c) 30
  have hs1 : w1.heap.size = w.heap.size + 1 := by rw [hw1]; simp [go_sem]
  have hb1 : Below w.heap.size w w1 := by rw [hw1]; exact (Below.refl _ _).alloc (Nat.le_refl _) _
  rw [← hw1] at X ⊢
  have R := World.rowIs_made w1 (.bool false) N 4
  obtain ⟨w2, hw2⟩ : ∃ w2, w2 = w1.alloc (.cells (madeCells #[.bool false] N) 4) := ⟨_, rfl⟩
  have hs2 : w2.heap.size = w.heap.size + 2 := by rw [hw2]; simp [go_sem]; omega
  have hb2 : Below w1.heap.size w1 w2 := by rw [hw2]; exact (Below.refl _ _).alloc (Nat.le_refl _) _
  rw [← hw2] at R ⊢
  have O : OwnL (w.heap.size + 2) (w2.alloc (.cells #[] 2)) (some ⟨w.heap.size + 2, 0, none⟩) 0 0 [] := OwnL.empty _ _ _ (Nat.le_refl _) (by show (w2.heap.push _)[w.heap.size + 2]? = _; rw [← hs2]; simp)
  have hb3 : Below w2.heap.size w2 (w2.alloc (.cells #[] 2)) := (Below.refl _ _).alloc (Nat.le_refl _) _
  obtain ⟨w3, hw3⟩ : ∃ w3, w3 = w2.alloc (.cells #[] 2) := ⟨_, rfl⟩
  have hs3 : w3.heap.size = w.heap.size + 3 := by rw [hw3]; simp [go_sem]; omega
  rw [← hw3] at O hb3 ⊢
  have R := R.of_block (hb3.block _ R.lt)
  have X := (X.below hb2).below hb3
  have hB := (hb1.andB hb2).andB hb3
  have hI := h2.below hB
  have hE := h.below hB
  rw [hs1] at R
  clear hw1 hw2 hw3 hb1 hb2 hb3 hs1 hs2
  have hbw : b < w.heap.size := h.blk
  have hbw2 : b2 < w.heap.size := h2.blk
  rw [show w.heap.size + 1 + 1 = w.heap.size + 2 from rfl]
  go_loopw [7] (fun i wr => ∃ j : Nat, j ≤ l ∧ i = .int .i64 j ∧ wr.rowIs (w.heap.size + 1) 4 N (fun v => .bool (hasB (setN ls j) v)) ∧ OwnL (w.heap.size + 2) wr (some ⟨w.heap.size + 2, 0, none⟩) 0 0 [] ∧ Below (w.heap.size + 1) w3 wr) (fun i _ => l - (intOf i).toNat)
  case atStart => exact ⟨0, Nat.zero_le _, rfl, R.congr (fun v _ => by simp [hasB, setN]), O, Below.refl _ _⟩
  case round =>
    obtain ⟨j, hj, rfl, hrow, ho, hbr⟩ := hrel
    by_cases hlt : j < l
    · have c1 := (hI.upto (B := w.heap.size + 1) (by omega) hbr).c j hlt
      have hx := Lib.hid (HLS.out j hlt)
      obtain ⟨u, hu⟩ : ∃ u : Nat, ls j = u := ⟨(ls j).toNat, by have := hx.out; omega⟩
      have huN : u < N := by have := hx.out; omega
      rw [hu] at c1
      have e1 := hrow.cell huN
      have f1 := hrow.frozen u
      have HR : Hid ((wr.setCell ⟨w.heap.size + 1, u, none⟩ (.bool true)).rowIs (w.heap.size + 1) 4 N (fun v => .bool (hasB (setN ls (j + 1)) v))) := (hrow.set u (.bool true)).congr (fun v _ => by
        rw [hasB_succ, hu, Int.toNat_natCast]; split <;> rfl)
      have HO : Hid (OwnL (w.heap.size + 2) (wr.setCell ⟨w.heap.size + 1, u, none⟩ (.bool true)) (some ⟨w.heap.size + 2, 0, none⟩) 0 0 []) := by
        obtain ⟨_, a, bb⟩ := ho
        rcases bb with ⟨bb, _⟩ | ⟨g, cap, cur, e, hg, hh, r⟩
        · cases bb
        · refine ⟨rfl, rfl, .inr ⟨g, cap, cur, e, hg, ?_, r⟩⟩
          rw [Below.heap_setCell _ _ _ _ (by show g ≠ w.heap.size + 1; omega)]
          exact hh
      clear ho hrow
      go_wp2_with fail
      go_roundw
      case rel => exact ⟨j + 1, by omega, by go_num, HR.out, HO.out, hbr.setCell (Nat.le_refl _) _⟩
      case measure => simp [intOf]; omega
    · obtain rfl : j = l := by omega
      have hsz := hbr.size
      have E4 := hE.upto (B := w.heap.size + 1) (by omega) hbr
      have X4 : Box2 wr w.heap.size _ _ := ⟨by omega, (hbr.cell (p := ⟨w.heap.size, 0, none⟩) (Nat.lt_succ_self _)).trans X.c0, (hbr.cell (p := ⟨w.heap.size, 1, none⟩) (Nat.lt_succ_self _)).trans X.c1⟩
      have B4 := hB.trans (hbr.mono (by omega))
      clear hbr X hE hI O R hB
      go_wp2_with fail
      obtain ⟨w4, rfl⟩ : ∃ w4, w4 = wr := ⟨wr, rfl⟩
      go_loopw [6, 8] (fun v1 i wv => ∃ k : Nat, k ≤ m ∧ i = .int .i64 k ∧ (∃ A c', v1 = .slice A (lvTo es (hasB (setN ls j)) k).length c' ∧ OwnL (w.heap.size + 2) wv A (lvTo es (hasB (setN ls j)) k).length c' (lvTo es (hasB (setN ls j)) k)) ∧ Below (w.heap.size + 2) w4 wv) (fun _ i _ => m - (intOf i).toNat)
      case atStart => exact ⟨0, Nat.zero_le _, rfl, ⟨_, _, rfl, ho⟩, Below.refl _ _⟩
      case round =>
        obtain ⟨k, hk, rfl, ⟨A, c', rfl, hown⟩, hbv⟩ := hrel
        have hE := E4.upto (B := w.heap.size + 2) (by omega) hbv
        have hsv := hbv.size
        have p1 := (hbv.cell (p := ⟨w.heap.size, 0, none⟩) (by show w.heap.size < _; omega)).trans X4.c0
        have p2 := (hbv.cell (p := ⟨w.heap.size, 1, none⟩) (by show w.heap.size < _; omega)).trans X4.c1
        have s1 : w.heap.size < wr.heap.size := by omega
        have s2 : w.heap.size + 1 < wr.heap.size := by omega
        have hle := lvTo_len es (hasB (setN ls j)) k
        by_cases hlt : k < m
        · have c1 := hE.ca k hlt
          have c2 := hE.cb k hlt
          have s3 := hE.blk
          have hx := HW.out.2.2.2.2 k (by rw [hl.out]; exact hlt)
          obtain ⟨x, hxa⟩ : ∃ x : Nat, ea es k = x := ⟨(ea es k).toNat, by omega⟩
          obtain ⟨y, hya⟩ : ∃ y : Nat, eb es k = y := ⟨(eb es k).toNat, by omega⟩
          have hxN : x < N := by omega
          have hyN : y < N := by omega
          have hrow' := hrow.of_block (hbv.block _ (by omega : w.heap.size + 1 < w.heap.size + 2))
          have r1 := hrow'.cell hxN
          have r2 := hrow'.cell hyN
          rw [hxa] at c1
          rw [hya] at c2
          clear hx hrow' hE
          by_cases hf : hasB (setN ls j) (x : Int) = hasB (setN ls j) (y : Int)
          · have e : lvTo es (hasB (setN ls j)) (k + 1) = lvTo es (hasB (setN ls j)) k := lvTo_no (by rw [hxa, hya]; exact hf)
            go_wp2_with fail
            (refine wp_region_quiet_below (by kernel_rfl) (by kernel_rfl) ?_
             repeat (any_goals (go_big_quiet_step (first | fail)))
             all_goals (refine wpQuiet_nil ?_; intro wq1 hq1; replace hq1 := below_of_rg hq1))
            go_wp2_with fail
            go_roundw
            case rel => exact ⟨k + 1, by omega, by go_num, ⟨A, c', by rw [e], by rw [e]; exact hown.below hq1⟩, hbv.thenB (by omega) hq1⟩
            case measure => simp [intOf]; omega
          · have e : lvTo es (hasB (setN ls j)) (k + 1) = lvTo es (hasB (setN ls j)) k ++ [(k : Int)] := lvTo_yes (by rw [hxa, hya]; exact hf)
            have e2 : (lvTo es (hasB (setN ls j)) (k + 1)).length = (lvTo es (hasB (setN ls j)) k).length + 1 := by rw [e]; simp
            have hf' : (!hasB (setN ls j) (x : Int) == hasB (setN ls j) (y : Int)) = true := by revert hf; cases hasB (setN ls j) (x : Int) <;> cases hasB (setN ls j) (y : Int) <;> simp
            go_wp2_with fail
            (refine wp_region_quiet_below (by kernel_rfl) (by kernel_rfl) ?_
             repeat (any_goals (go_big_quiet_step (first | fail)))
             all_goals (refine wpQuiet_nil ?_; intro wq1 hq1; replace hq1 := below_of_rg hq1))
            go_wp2_with (first
              | (at_builtin; refine wp_app1 rfl rfl rfl rfl (hown.below hq1) (by have := hq1.size; omega) (by omega) ?_; intro A' c'' w9 hown' hbel' hgr'))
            go_roundw
            case rel => exact ⟨k + 1, by omega, by go_num, ⟨A', c'', by rw [e2], by rw [e2, e]; exact hown'⟩, hbel' _ _ (hbv.thenB (by omega) hq1) (Nat.le_refl _)⟩
            case measure => simp [intOf]; omega
        · obtain rfl : k = m := by omega
          have e : lvL es ls j = lvTo es (hasB (setN ls j)) k := by simp only [lvL]; rw [hl.out]
          go_wp2_with fail
          go_ret
          exact ⟨A, c', by rw [e]; rfl, by rw [e]; exact hown.mono (by omega), B4.trans (hbv.mono (by omega))⟩
end Go.Proofs.Ytjaffbpgochemaa
