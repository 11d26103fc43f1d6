import Derived.Test.YtjdhibcijjnopaaCp
import Derived.StillTailTactics
namespace Go.Proofs.Ytjdhibcijjnopaa
open Go.RowKit Go.Sort
theorem enC1 : Enters 89 := fun args w => by kernel_rfl
theorem infS : (Try.prog.info? 66).map (fun i => (i.zero, i.size, i.bytes)) = some (some (.int .u64 0), 1, 8) := by kernel_rfl
theorem isColour_any (a : Int) (w : World) : Calls Try.prog 89 #[.int .i64 a] w (Is (.bool (inB a 0 2)) w) := by
  go_enter Try.func89, Try.ntmps89
  go_wp2_with (go_at_call 99; refine (within_any _ _ _ _).mono ?_; rintro e w' ⟨rfl, rfl⟩)
  go_ret
  exact ⟨rfl, rfl⟩
theorem seenS_succ (es : List (Int × Int)) (cs : Nat → Int) (i k : Nat) (hk : k < 2) (v : Int) : seenS es cs (2 * i + k + 1) v = if vE es (2 * i + k) = v then seenS es cs (2 * i + k) v ||| 2 ^ (cs i).toNat else seenS es cs (2 * i + k) v := by
  simp only [seenS, show (2 * i + k) / 2 = i by omega]
set_option maxRecDepth 100000 in
set_option maxHeartbeats 2000000 in
theorem isColouring_any (n : Int) (b o m c b2 o2 l c2 : Nat) (es : List (Int × Int)) (cs : Nat → Int) (w : World) (h : Eds w b o m es) (hm : m ≤ 1048576) (hG : IsG n es) (h2 : Ints w b2 o2 l cs) (hl2 : l ≤ 1048576) :
    Calls Try.prog 50 #[.agg #[.int .i64 n, .slice (some ⟨b, o, none⟩) m c], .slice (some ⟨b2, o2, none⟩) l c2] w (Ret (.bool (colB es cs l)) w) := by
  have KC := cell_rg
  have hl := Lib.hid h.len
  have HW := Lib.hid hG.wf
  have hn2 := hG.wf.1
  have hn20 := hG.wf.2.1
  have hbb := (by go_grown : Below w.heap.size w (w.alloc (.cells #[.int .i64 n, .slice (some ⟨b, o, none⟩) m c] 31)))
  have hbx := Box2.made w (.int .i64 n) (.slice (some ⟨b, o, none⟩) m c) 31
  have HIM := Lib.hid (implIs_any n b o m c es _ (h.alloc (.cells #[.int .i64 n, .slice (some ⟨b, o, none⟩) m c] 31)) hm)
  rw [B_true hG] at HIM
  clear hG
  by_cases hlm : l = m
  rotate_left
  · have HV : Hid (colB es cs l = false) := B_false fun x => hlm (by rw [x.1, hl.out])
    have hne : ((l : Int) != m) = true := by simp; omega
    go_enter Try.func50, Try.ntmps50
    go_wp2_with fail
    refine HIM.out.mono ?_
    rintro e w1 ⟨rfl, hb1⟩
    obtain ⟨s1, p1, q1⟩ := hbx.below hb1
    go_wp2_with fail
    go_ret
    exact ⟨ret_bool HV.out.symm, hbb.thenB (by simp) hb1⟩
  subst hlm
  obtain ⟨r, hr⟩ : ∃ r, r = allB l (fun j => inB (cs j) 0 2) := ⟨_, rfl⟩
  have hAR := fun W (I : Ints W b2 o2 l cs) => hr ▸ areAllL_any 89 #[] (fun j => inB (cs j) 0 2) b2 o2 l c2 cs W I hm enC1 (fun j _ w' _ => Is.ret (isColour_any (cs j) w'))
  have HAR := Lib.hid hAR
  clear hAR
  cases r with
  | false =>
    have HV : Hid (colB es cs l = false) := B_false fun x => allB_not.1 hr.symm fun j hj => inB_iff.2 (x.2.1 j (by rw [hl.out]; exact hj))
    clear hr
    go_enter Try.func50, Try.ntmps50
    go_wp2_with fail
    refine HIM.out.mono ?_
    rintro e w1 ⟨rfl, hb1⟩
    obtain ⟨s1, p1, q1⟩ := hbx.below hb1
    have hB1 := hbb.thenB (by simp) hb1
    clear hb1 hbx hbb
    go_wp2_with fail
    refine (HAR.out _ (h2.below hB1)).mono ?_
    rintro e w2 ⟨rfl, hb2⟩
    go_wp2_with fail
    go_ret
    exact ⟨ret_bool HV.out.symm, hB1.andB hb2⟩
  | true =>
    have HC := Lib.hid (show ∀ e, e < l → 0 ≤ cs e ∧ cs e ≤ 2 from fun e he => inB_iff.1 (allB_iff.1 hr.symm e he))
    clear hr
    obtain ⟨N, rfl⟩ : ∃ N : Nat, n = N := ⟨n.toNat, by omega⟩
    have hmk := run_make_row' (P := Try.prog) 97 66 (.int .u64 0) 8 Try.underlying97 infS rfl .i64 .i64 N (by omega) (by omega)
    go_enter Try.func50, Try.ntmps50
    go_wp2_with fail
    refine HIM.out.mono ?_
    rintro e w1 ⟨rfl, hb1⟩
    obtain ⟨s1, p1, q1⟩ := hbx.below hb1
    have hB1 := hbb.thenB (by simp) hb1
    clear hb1 hbx hbb
    go_wp2_with fail
    refine (HAR.out _ (h2.below hB1)).mono ?_
    rintro e w2 ⟨rfl, hb2⟩
    obtain ⟨s1, p1, q1⟩ := Box2.below ⟨s1, p1, q1⟩ hb2
    have hB2 := hB1.andB hb2
    clear hb2 hB1 HIM HAR
    go_wp2_with fail
    have R := World.rowIs_made w2 (.int .u64 0) N 66
    have hb3 : Below w2.heap.size w2 (w2.alloc (.cells (madeCells #[.int .u64 0] N) 66)) := (Below.refl _ _).alloc (Nat.le_refl _) _
    obtain ⟨w3, hw3⟩ : ∃ w3, w3 = w2.alloc (.cells (madeCells #[.int .u64 0] N) 66) := ⟨_, rfl⟩
    rw [← hw3] at R hb3 ⊢
    clear hw3
    have E2 := h.below hB2
    have I2 := h2.below hB2
    have hbE := E2.blk
    have hbI := I2.blk
    go_loopw [32] (fun iv wv => ∃ i : Nat, i ≤ l ∧ iv = .int .i64 i ∧ Hid (∀ t, t < 2 * i → ¬ ConfP es cs t) ∧ wv.rowIs w2.heap.size 66 N (fun v => .int .u64 (seenS es cs (2 * i) v)) ∧ Below w2.heap.size w2 wv) (fun i _ => l - (intOf i).toNat)
    case atStart => exact ⟨0, by omega, rfl, fun t ht => absurd ht (by omega), R.congr (fun v _ => by simp [seenS]), hb3⟩
    case round =>
      obtain ⟨i, hi, rfl, HF, hrow, hbr⟩ := hrel
      have hsz := hbr.size
      by_cases hlt : i < l
      · have E := E2.upto hbE hbr
        have d1 := E.ca i hlt
        have d2 := E.cb i hlt
        have hbx : Below w2.heap.size w2 (wr.alloc (.cells #[.int .i64 (ea es i), .int .i64 (eb es i)] 63)) := hbr.alloc hsz _
        have hrx := hrow.alloc (.cells #[.int .i64 (ea es i), .int .i64 (eb es i)] 63)
        clear E hbr hrow
        go_wp2_with fail
        obtain ⟨w5, hw5⟩ : ∃ w5, w5 = wr.alloc (.cells #[.int .i64 (ea es i), .int .i64 (eb es i)] 63) := ⟨_, rfl⟩
        rw [← hw5] at hbx hrx ⊢
        clear hw5 d1 d2 hsz
        go_loopw [38] (fun kv wv => ∃ k : Nat, k ≤ 2 ∧ kv = .int .i64 k ∧ Hid (∀ t, t < 2 * i + k → ¬ ConfP es cs t) ∧ wv.rowIs w2.heap.size 66 N (fun v => .int .u64 (seenS es cs (2 * i + k) v)) ∧ Below w2.heap.size w2 wv) (fun k _ => 2 - (intOf k).toNat)
        case atStart => exact ⟨0, by omega, rfl, HF, hrx, hbx⟩
        case round =>
          obtain ⟨k, hk, rfl, HFk, hrow, hbr⟩ := hrel
          have hsz := hbr.size
          by_cases hk2 : k < 2
          · have I := I2.upto hbI hbr
            have c1 := I.c i hlt
            have s3 := I.blk
            have hv := vE_in HW.out (2 * i + k) (by rw [hl.out]; omega)
            obtain ⟨y, hy⟩ : ∃ y : Nat, vE es (2 * i + k) = y := ⟨(vE es (2 * i + k)).toNat, by omega⟩
            have hyN : y < N := by omega
            have hidx : ∀ W, (Instr.index 63 (.agg #[.int .i64 (ea es i), .int .i64 (eb es i)]) (.int .i64 k)).run Try.prog W = .ok (.int .i64 y) W := fun W => by
              rw [← hy]
              rcases (show k = 0 ∨ k = 1 by omega) with rfl | rfl
              · rw [Nat.add_zero, vE_0]; kernel_rfl
              · rw [vE_1]; kernel_rfl
            have hci := HC.out i hlt
            obtain ⟨q, hq⟩ : ∃ q : Nat, cs i = q := ⟨(cs i).toNat, by omega⟩
            have hq2 : q ≤ 2 := by omega
            have hss := seenS_succ es cs i k hk2
            have HLT := Lib.hid (show seenS es cs (2 * i + k) y < 18446744073709551616 from seenS_lt _ _ fun s hs => by have := HC.out (s / 2) (by omega); omega)
            have hcf := conf_iff (es := es) (cs := cs) (t := 2 * i + k) (fun s hs => (HC.out (s / 2) (by omega)).1)
            rw [show (2 * i + k) / 2 = i by omega, hq, hy] at hcf
            rw [hq] at c1 hss
            rw [hy, Int.toNat_natCast] at hss
            have r1 := hrow.cell hyN
            have s4 := hrow.lt
            have HSS := Lib.hid hss
            have HCF := Lib.hid hcf
            clear I hv hci hss hcf hq
            cases hh : hasB (seenS es cs (2 * i + k) y) (q : Int) with
            | true =>
              have HV : Hid (colB es cs l = false) := B_false fun x => x.2.2 (2 * i + k) (by rw [hl.out]; omega) (HCF.out.1 hh)
              have hHA : ∀ W, Calls Try.prog 76 #[.int .u64 (seenS es cs (2 * i + k) y), .int .i64 q] W (Is (.bool true) W) := fun W => hh ▸ has_any _ q W HLT.out (by omega) (by omega)
              have HHA := Lib.hid hHA
              clear hHA hrow
              go_wp2_with fail
              (refine wp_region_quiet_below (by kernel_rfl) (by kernel_rfl) ?_
               repeat (any_goals (go_big_quiet_step (first | (go_at_call 76; exact Is.rg (HHA.out _)))))
               all_goals (refine wpQuiet_nil ?_; intro wq2 hq2; replace hq2 := below_of_rg hq2))
              go_wp2_with fail
              go_ret
              exact ⟨ret_bool HV.out.symm, (hB2.andB hbr).andB hq2⟩
            | false =>
              have HF' : Hid (∀ t, t < 2 * i + (k + 1) → ¬ ConfP es cs t) := fun t ht => by
                by_cases e : t = 2 * i + k
                · subst e; exact fun hc => by have := HCF.out.2 hc; rw [hh] at this; cases this
                · exact HFk.out t (by omega)
              have hHA : ∀ W, Calls Try.prog 76 #[.int .u64 (seenS es cs (2 * i + k) y), .int .i64 q] W (Is (.bool false) W) := fun W => hh ▸ has_any _ q W HLT.out (by omega) (by omega)
              have HHA := Lib.hid hHA
              clear hHA hh
              go_wp2_with fail
              (refine wp_region_quiet_below (by kernel_rfl) (by kernel_rfl) ?_
               repeat (any_goals (go_big_quiet_step (first | (go_at_call 76; exact Is.rg (HHA.out _)))))
               all_goals (refine wpQuiet_nil ?_; intro wq2 hq2; replace hq2 := below_of_rg hq2))
              have hrow2 := hrow.of_block (hq2.block _ hrow.lt)
              have r2 := hrow2.cell hyN
              have f2 := hrow2.frozen y
              have c2' := (hq2.cell (p := ⟨b2, o2 + i, none⟩) s3).trans c1
              have hbq := hbr.thenB hsz hq2
              have s5 : b2 < wq2.heap.size := Nat.lt_of_lt_of_le s3 hq2.size
              have s6 : w2.heap.size < wq2.heap.size := Nat.lt_of_lt_of_le s4 hq2.size
              have hX := wrap_pow (x := q) (by omega)
              have hX2 := pow64 (x := q) (by omega)
              have hss := HSS.out
              obtain ⟨pc, hpc⟩ : ∃ pc : Nat, pc = 2 ^ q := ⟨_, rfl⟩
              rw [← hpc] at hX hX2 hss
              have hor := u64_or_nat _ pc HLT.out hX2
              have HR : Hid (((wq2.setCell ⟨w2.heap.size, y, none⟩ (.int .u64 ((seenS es cs (2 * i + k) y ||| pc : Nat) : Int)))).rowIs w2.heap.size 66 N (fun v => .int .u64 (seenS es cs (2 * i + (k + 1)) v))) := (hrow2.set y _).congr (fun v _ => by
                rw [← Nat.add_assoc, hss]
                by_cases e : v = y
                · subst e; rw [if_pos rfl, if_pos rfl]
                · rw [if_neg e, if_neg (show ¬ (y : Int) = (v : Int) by omega)])
              clear hrow hrow2 r1 c1 hss hpc HSS HCF hX2
              go_wp2_with fail
              go_still_tail 11, (by kernel_rfl)
              change wpList _ _ _ _ _ wq2.drew
              go_wp2_with fail
              go_roundw
              case rel => exact ⟨k + 1, by omega, by go_num, HF', HR.out.drew, (hbq.setCell (Nat.le_refl _) _).drew⟩
              case measure => simp [intOf]; omega
          · obtain rfl : k = 2 := by omega
            go_wp2_with fail
            go_roundw
            case rel => exact ⟨i + 1, by omega, by go_num, HFk, hrow, hbr⟩
            case measure => simp [intOf]; omega
      · obtain rfl : i = l := by omega
        have HV : Hid (colB es cs i = true) := B_true ⟨hl.out.symm, fun e he => HC.out e (by rw [hl.out] at he; exact he), fun t ht => HF.out t (by rw [hl.out] at ht; exact ht)⟩
        go_wp2_with fail
        go_ret
        exact ⟨ret_bool HV.out.symm, hB2.andB hbr⟩
end Go.Proofs.Ytjdhibcijjnopaa
