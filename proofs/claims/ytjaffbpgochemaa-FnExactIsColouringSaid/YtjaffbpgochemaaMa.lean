import Derived.Test.YtjaffbpgochemaaPg
import Derived.Test.YtjaffbpgochemaaSt
import Derived.Test.YtjaffbpgochemaaLv
namespace Go.Proofs.Ytjaffbpgochemaa
open Go.RowKit Go.Sort
/-! ### Matchings -/
def MatP (n : Int) (es : List (Int × Int)) (ls : Nat → Int) (l : Nat) : Prop := SetP ls l ((es.length : Int) - 1) ∧ NP (endQ es ls) (2 * l) ∧ 2 * (l : Int) = n
noncomputable def matB (n : Int) (es : List (Int × Int)) (ls : Nat → Int) (l : Nat) : Bool := B (MatP n es ls l)
theorem endQ_in {n : Int} {es : List (Int × Int)} {ls : Nat → Int} {l : Nat} (hn : WfP n es) (hs : SetP ls l ((es.length : Int) - 1)) (a : Nat) (ha : a < 2 * l) : 0 ≤ endQ es ls a ∧ endQ es ls a ≤ n - 1 := by
  have h1 := (hs (a / 2) (by omega)).1
  have h2 := hn.2.2.2.2 (ls (a / 2)).toNat (by omega)
  unfold endQ
  split <;> omega
theorem endQ_cell {w : World} {b o m : Nat} {es : List (Int × Int)} {ls : Nat → Int} {j k x : Nat} (h : Eds w b o m es) (hx : ls j = x) (hm : x < m) (hk : k < 2) : w.cell? ⟨b, o + x * 2 + k, none⟩ = some (.int .i64 (endQ es ls (2 * j + k))) := by
  rcases (show k = 0 ∨ k = 1 by omega) with rfl | rfl
  · rw [Nat.add_zero, Nat.add_zero, endQ_0, hx, Int.toNat_natCast]; exact h.ca x hm
  · rw [endQ_1, hx, Int.toNat_natCast]; exact h.cb x hm
set_option maxRecDepth 100000 in
set_option maxHeartbeats 2000000 in
theorem l04Is_any (n : Int) (b o m c b2 o2 l c2 : Nat) (es : List (Int × Int)) (ls : Nat → Int) (w : World) (h : Eds w b o m es) (hm : m ≤ 1048576) (hn : WfP n es) (h2 : Ints w b2 o2 l ls) (hl2 : l ≤ 1048576) :
    Calls Try.prog 61 #[.agg #[.int .i64 n, .slice (some ⟨b, o, none⟩) m c], .slice (some ⟨b2, o2, none⟩) l c2] w (Ret (.bool (matB n es ls l)) w) := by
  have KC := cell_rg
  have hl := Lib.hid h.len
  have HW := Lib.hid hn
  have hn2 := hn.1
  have hn20 := hn.2.1
  obtain ⟨N, rfl⟩ : ∃ N : Nat, n = N := ⟨n.toNat, by omega⟩
  have hmk := run_make_row' (P := Try.prog) 102 4 (.bool false) 1 Try.underlying102 infB rfl .i64 .i64 N (by omega) (by omega)
  have hu : IntKind.i64.wrap ((m : Int) - 1) = (m : Int) - 1 := IntWalk.i64_in _ (by omega)
  have hbw : b < w.heap.size := h.blk
  have hbw2 : b2 < w.heap.size := h2.blk
  clear hn
  go_enter Try.func61, Try.ntmps61
  go_wp2_with fail
  obtain ⟨w1, hw1⟩ : ∃ w1, w1 = w.alloc (Obj.cells #[Value.int IntKind.i64 N, Value.slice (some ⟨b, o, none⟩) m c] 30) := ⟨_, rfl⟩
  have X := Box2.made w (.int .i64 N) (.slice (some ⟨b, o, none⟩) m c) 30
  have hs1 : w1.heap.size = w.heap.size + 1 := by rw [hw1]; simp [go_sem]
  have hb1 : Below w.heap.size w w1 := by rw [hw1]; exact (Below.refl _ _).alloc (Nat.le_refl _) _
  rw [← hw1] at X ⊢
  have R := World.rowIs_made w1 (.bool false) N 4
  obtain ⟨w2, hw2⟩ : ∃ w2, w2 = w1.alloc (.cells (madeCells #[.bool false] N) 4) := ⟨_, rfl⟩
  have hs2 : w2.heap.size = w.heap.size + 2 := by rw [hw2]; simp [go_sem]; omega
  have hb2 : Below w1.heap.size w1 w2 := by rw [hw2]; exact (Below.refl _ _).alloc (Nat.le_refl _) _
  rw [← hw2] at R ⊢
  have X := X.below hb2
  have hB := hb1.andB hb2
  have hI := h2.below hB
  have hE := h.below hB
  rw [hs1] at R
  clear hw1 hw2 hb1 hb2 hs1
  go_loopw [6] (fun i wv => ∃ j : Nat, j ≤ l ∧ i = .int .i64 j ∧ Hid (SetP ls j ((m : Int) - 1)) ∧ Hid (NP (endQ es ls) (2 * j)) ∧ wv.rowIs (w.heap.size + 1) 4 N (fun v => .bool (hasB (setN (endQ es ls) (2 * j)) v)) ∧ Below (w.heap.size + 1) w2 wv) (fun i _ => l - (intOf i).toNat)
  case atStart => exact ⟨0, Nat.zero_le _, rfl, fun j hj => absurd hj (by omega), NP.zero _, R.congr (fun v _ => by simp [hasB, setN]), Below.refl _ _⟩
  case round =>
    obtain ⟨j, hj, rfl, HP, HN, hrow, hbr⟩ := hrel
    have hsz := hbr.size
    have I := hI.upto (B := w.heap.size + 1) (by omega) hbr
    have E := hE.upto (B := w.heap.size + 1) (by omega) hbr
    have p1 := (hbr.cell (p := ⟨w.heap.size, 0, none⟩) (by show w.heap.size < _; omega)).trans X.c0
    have p2 := (hbr.cell (p := ⟨w.heap.size, 1, none⟩) (by show w.heap.size < _; omega)).trans X.c1
    have s1 : w.heap.size < wr.heap.size := by omega
    have hB' := hB.trans (hbr.mono (by omega))
    by_cases hlt : j < l
    · have c1 := I.c j hlt
      have s3 := I.blk
      clear I
      cases hA : inB (ls j) 0 ((m : Int) - 1) with
      | false =>
        have HV : Hid (matB N es ls l = false) := B_false fun x => inB_not.1 hA (by have := (x.1 j hlt).1; rw [hl.out] at this; exact this)
        clear E hrow
        go_wp2_with fail
        (refine wp_region_quiet_below (by kernel_rfl) (by kernel_rfl) ?_
         repeat (any_goals (go_big_quiet_step (first | (go_at_call 54; exact Is.rg (in_any _ _ _ _)))))
         all_goals (refine wpQuiet_nil ?_; intro wq1 hq1; replace hq1 := below_of_rg hq1))
        go_wp2_with fail
        go_ret
        exact ⟨ret_bool HV.out.symm, hB'.andB hq1⟩
      | true =>
        have HQ : ∀ a, a < 2 * (j + 1) → SetP ls (j + 1) ((m : Int) - 1) → 0 ≤ endQ es ls a ∧ endQ es ls a ≤ (N : Int) - 1 := fun a ha hs => endQ_in (l := j + 1) HW.out (by rw [hl.out]; exact hs) a ha
        have HQ' := Lib.hid HQ
        have hx := inB_iff.1 hA
        obtain ⟨x, hxx⟩ : ∃ x : Nat, ls j = x := ⟨(ls j).toNat, by omega⟩
        have hxm : x < m := by omega
        have HX := Lib.hid hxx
        clear hxx
        have HP' : (0 < j → ls (j - 1) < ls j) → Hid (SetP ls (j + 1) ((m : Int) - 1)) := fun h => HP.out.succ hA h
        clear E HQ
        rcases (show j = 0 ∨ (0 < j ∧ ls j ≤ ls (j - 1)) ∨ (0 < j ∧ ls (j - 1) < ls j) by omega) with h0 | ⟨h0, hle⟩ | ⟨h0, hle⟩
        rotate_left
        · have c2 := (hI.upto (B := w.heap.size + 1) (by omega) hbr).c (j - 1) (by omega)
          have hw : IntKind.i64.wrap ((j : Int) - 1) = ((j - 1 : Nat) : Int) := by rw [IntWalk.i64_in _ (by omega)]; omega
          have HV : Hid (matB N es ls l = false) := B_false fun x => by have := (x.1 j hlt).2 h0; omega
          clear hrow HP' hx
          go_wp2_with fail
          (refine wp_region_quiet_below (by kernel_rfl) (by kernel_rfl) ?_
           repeat (any_goals (go_big_quiet_step (first | (go_at_call 54; exact Is.rg (in_any _ _ _ _)))))
           all_goals (refine wpQuiet_nil ?_; intro wq1 hq1; replace hq1 := below_of_rg hq1))
          go_wp2_with fail
          go_ret
          exact ⟨ret_bool HV.out.symm, hB'.andB hq1⟩
        · have HP' := HP' (fun _ => hle)
          have c2 := (hI.upto (B := w.heap.size + 1) (by omega) hbr).c (j - 1) (by omega)
          have hw : IntKind.i64.wrap ((j : Int) - 1) = ((j - 1 : Nat) : Int) := by rw [IntWalk.i64_in _ (by omega)]; omega
          have hle' : ¬ ls j ≤ ls (j - 1) := by omega
          clear hx hle
          go_wp2_with fail
          (refine wp_region_quiet_below (by kernel_rfl) (by kernel_rfl) ?_
           repeat (any_goals (go_big_quiet_step (first | (go_at_call 54; exact Is.rg (in_any _ _ _ _)))))
           all_goals (refine wpQuiet_nil ?_; intro wq1 hq1; replace hq1 := below_of_rg hq1))
          go_wp2_with fail
          clear c2 hw hle' h0
          have hbq := hbr.thenB (by omega) hq1
          have hrq := hrow.of_block (hq1.block _ hrow.lt)
          clear hbr hrow hq1 p1 p2 s1 c1 s3 hsz hB'
          go_loopw [7] (fun kv wv => ∃ k : Nat, k ≤ 2 ∧ kv = .int .i64 k ∧ Hid (NP (endQ es ls) (2 * j + k)) ∧ wv.rowIs (w.heap.size + 1) 4 N (fun v => .bool (hasB (setN (endQ es ls) (2 * j + k)) v)) ∧ Below (w.heap.size + 1) w2 wv) (fun k _ => 2 - (intOf k).toNat)
          case atStart => exact ⟨0, by omega, rfl, HN, hrq, hbq⟩
          case round =>
            obtain ⟨k, hk, rfl, HNk, hrow, hbr⟩ := hrel
            have hsz := hbr.size
            have hB' := hB.trans (hbr.mono (by omega))
            by_cases hk2 : k < 2
            · have I := hI.upto (B := w.heap.size + 1) (by omega) hbr
              have E := hE.upto (B := w.heap.size + 1) (by omega) hbr
              have p1 := (hbr.cell (p := ⟨w.heap.size, 0, none⟩) (by show w.heap.size < _; omega)).trans X.c0
              have p2 := (hbr.cell (p := ⟨w.heap.size, 1, none⟩) (by show w.heap.size < _; omega)).trans X.c1
              have s1 : w.heap.size < wr.heap.size := by omega
              have s2 : w.heap.size + 1 < wr.heap.size := by omega
              have s3 := I.blk
              have s4 := E.blk
              have c1 := I.c j hlt
              rw [HX.out] at c1
              have ce := endQ_cell E HX.out hxm hk2
              have hqi := HQ'.out (2 * j + k) (by omega) HP'.out
              obtain ⟨y, hy⟩ : ∃ y : Nat, endQ es ls (2 * j + k) = y := ⟨(endQ es ls (2 * j + k)).toNat, by omega⟩
              have hyN : y < N := by omega
              have HQ0 := Lib.hid (show ∀ a, a ≤ 2 * j + k → 0 ≤ endQ es ls a from fun a ha => (HQ'.out a (by omega) HP'.out).1)
              rw [hy] at ce
              have r1 := hrow.cell hyN
              clear I E hqi
              cases hh : hasB (setN (endQ es ls) (2 * j + k)) (y : Int) with
              | true =>
                have HV : Hid (matB N es ls l = false) := B_false fun x => NP.not (l := 2 * l) HQ0.out (by rw [hy]; exact hh) (by omega) x.2.1
                rw [hh] at r1
                clear hrow
                go_wp2_with fail
                (refine wp_region_quiet_below (by kernel_rfl) (by kernel_rfl) ?_
                 repeat (any_goals (go_big_quiet_step (first | fail)))
                 all_goals (refine wpQuiet_nil ?_; intro wq2 hq2; replace hq2 := below_of_rg hq2))
                have r2 := (hq2.cell (p := ⟨w.heap.size + 1, y, none⟩) s2).trans r1
                go_wp2_with fail
                go_ret
                exact ⟨ret_bool HV.out.symm, hB'.andB hq2⟩
              | false =>
                have HN' := Lib.hid (NP.succ (k := 2 * j + k) HNk.out HQ0.out (by rw [hy]; exact hh))
                rw [hh] at r1
                go_wp2_with fail
                (refine wp_region_quiet_below (by kernel_rfl) (by kernel_rfl) ?_
                 repeat (any_goals (go_big_quiet_step (first | fail)))
                 all_goals (refine wpQuiet_nil ?_; intro wq2 hq2; replace hq2 := below_of_rg hq2))
                have r2 := (hq2.cell (p := ⟨w.heap.size + 1, y, none⟩) s2).trans r1
                have hrow2 := hrow.of_block (hq2.block _ hrow.lt)
                have f1 := hrow2.frozen y
                have HR : Hid ((wq2.setCell ⟨w.heap.size + 1, y, none⟩ (.bool true)).rowIs (w.heap.size + 1) 4 N (fun v => .bool (hasB (setN (endQ es ls) (2 * j + (k + 1))) v))) := (hrow2.set y (.bool true)).congr (fun v _ => by
                  rw [← Nat.add_assoc, hasB_succ, hy, Int.toNat_natCast]; split <;> rfl)
                clear hrow hrow2 r1
                go_wp2_with fail
                go_roundw
                case rel => exact ⟨k + 1, by omega, by go_num, HN', HR.out, (hbr.thenB (by omega) hq2).setCell (Nat.le_refl _) _⟩
                case measure => simp [intOf]; omega
            · obtain rfl : k = 2 := by omega
              go_wp2_with fail
              go_roundw
              case rel => exact ⟨j + 1, by omega, by go_num, HP', HNk, hrow, hbr⟩
              case measure => simp [intOf]; omega
        · have HP' := HP' (by omega)
          have hz : ¬ 0 < j := by omega
          clear hx h0
          go_wp2_with fail
          (refine wp_region_quiet_below (by kernel_rfl) (by kernel_rfl) ?_
           repeat (any_goals (go_big_quiet_step (first | (go_at_call 54; exact Is.rg (in_any _ _ _ _)))))
           all_goals (refine wpQuiet_nil ?_; intro wq1 hq1; replace hq1 := below_of_rg hq1))
          go_wp2_with fail
          clear hz
          have hbq := hbr.thenB (by omega) hq1
          have hrq := hrow.of_block (hq1.block _ hrow.lt)
          clear hbr hrow hq1 p1 p2 s1 c1 s3 hsz hB'
          go_loopw [7] (fun kv wv => ∃ k : Nat, k ≤ 2 ∧ kv = .int .i64 k ∧ Hid (NP (endQ es ls) (2 * j + k)) ∧ wv.rowIs (w.heap.size + 1) 4 N (fun v => .bool (hasB (setN (endQ es ls) (2 * j + k)) v)) ∧ Below (w.heap.size + 1) w2 wv) (fun k _ => 2 - (intOf k).toNat)
          case atStart => exact ⟨0, by omega, rfl, HN, hrq, hbq⟩
          case round =>
            obtain ⟨k, hk, rfl, HNk, hrow, hbr⟩ := hrel
            have hsz := hbr.size
            have hB' := hB.trans (hbr.mono (by omega))
            by_cases hk2 : k < 2
            · have I := hI.upto (B := w.heap.size + 1) (by omega) hbr
              have E := hE.upto (B := w.heap.size + 1) (by omega) hbr
              have p1 := (hbr.cell (p := ⟨w.heap.size, 0, none⟩) (by show w.heap.size < _; omega)).trans X.c0
              have p2 := (hbr.cell (p := ⟨w.heap.size, 1, none⟩) (by show w.heap.size < _; omega)).trans X.c1
              have s1 : w.heap.size < wr.heap.size := by omega
              have s2 : w.heap.size + 1 < wr.heap.size := by omega
              have s3 := I.blk
              have s4 := E.blk
              have c1 := I.c j hlt
              rw [HX.out] at c1
              have ce := endQ_cell E HX.out hxm hk2
              have hqi := HQ'.out (2 * j + k) (by omega) HP'.out
              obtain ⟨y, hy⟩ : ∃ y : Nat, endQ es ls (2 * j + k) = y := ⟨(endQ es ls (2 * j + k)).toNat, by omega⟩
              have hyN : y < N := by omega
              have HQ0 := Lib.hid (show ∀ a, a ≤ 2 * j + k → 0 ≤ endQ es ls a from fun a ha => (HQ'.out a (by omega) HP'.out).1)
              rw [hy] at ce
              have r1 := hrow.cell hyN
              clear I E hqi
              cases hh : hasB (setN (endQ es ls) (2 * j + k)) (y : Int) with
              | true =>
                have HV : Hid (matB N es ls l = false) := B_false fun x => NP.not (l := 2 * l) HQ0.out (by rw [hy]; exact hh) (by omega) x.2.1
                rw [hh] at r1
                clear hrow
                go_wp2_with fail
                (refine wp_region_quiet_below (by kernel_rfl) (by kernel_rfl) ?_
                 repeat (any_goals (go_big_quiet_step (first | fail)))
                 all_goals (refine wpQuiet_nil ?_; intro wq2 hq2; replace hq2 := below_of_rg hq2))
                have r2 := (hq2.cell (p := ⟨w.heap.size + 1, y, none⟩) s2).trans r1
                go_wp2_with fail
                go_ret
                exact ⟨ret_bool HV.out.symm, hB'.andB hq2⟩
              | false =>
                have HN' := Lib.hid (NP.succ (k := 2 * j + k) HNk.out HQ0.out (by rw [hy]; exact hh))
                rw [hh] at r1
                go_wp2_with fail
                (refine wp_region_quiet_below (by kernel_rfl) (by kernel_rfl) ?_
                 repeat (any_goals (go_big_quiet_step (first | fail)))
                 all_goals (refine wpQuiet_nil ?_; intro wq2 hq2; replace hq2 := below_of_rg hq2))
                have r2 := (hq2.cell (p := ⟨w.heap.size + 1, y, none⟩) s2).trans r1
                have hrow2 := hrow.of_block (hq2.block _ hrow.lt)
                have f1 := hrow2.frozen y
                have HR : Hid ((wq2.setCell ⟨w.heap.size + 1, y, none⟩ (.bool true)).rowIs (w.heap.size + 1) 4 N (fun v => .bool (hasB (setN (endQ es ls) (2 * j + (k + 1))) v))) := (hrow2.set y (.bool true)).congr (fun v _ => by
                  rw [← Nat.add_assoc, hasB_succ, hy, Int.toNat_natCast]; split <;> rfl)
                clear hrow hrow2 r1
                go_wp2_with fail
                go_roundw
                case rel => exact ⟨k + 1, by omega, by go_num, HN', HR.out, (hbr.thenB (by omega) hq2).setCell (Nat.le_refl _) _⟩
                case measure => simp [intOf]; omega
            · obtain rfl : k = 2 := by omega
              go_wp2_with fail
              go_roundw
              case rel => exact ⟨j + 1, by omega, by go_num, HP', HNk, hrow, hbr⟩
              case measure => simp [intOf]; omega
    · obtain rfl : j = l := by omega
      have hw : IntKind.i64.wrap (2 * (j : Int)) = 2 * (j : Int) := IntWalk.i64_in _ (by omega)
      have HV : Hid (matB N es ls j = (2 * (j : Int) == (N : Int))) := by
        show B _ = _
        rw [Bool.eq_iff_iff, B_iff, beq_iff_eq]
        exact ⟨fun x => x.2.2, fun e => ⟨by rw [hl.out]; exact HP.out, HN.out, e⟩⟩
      go_wp2_with fail
      go_ret
      exact ⟨ret_bool (by rw [HV.out]), hB'⟩
end Go.Proofs.Ytjaffbpgochemaa
