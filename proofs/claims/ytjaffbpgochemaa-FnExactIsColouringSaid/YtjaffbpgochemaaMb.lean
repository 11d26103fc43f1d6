import Derived.Test.YtjaffbpgochemaaMa
import Derived.Test.YtjaffbpgochemaaAl
namespace Go.Proofs.Ytjaffbpgochemaa
open Go.RowKit Go.Sort
theorem pow64 {x : Nat} (h : x ≤ 63) : (2 : Nat) ^ x < 18446744073709551616 := Nat.lt_of_lt_of_le (Nat.pow_lt_pow_of_lt (a := 2) (by decide) (by omega : x < 64)) (by decide)
theorem wrap_pow {x : Nat} (h : x ≤ 63) : IntKind.u64.wrap (2 ^ x) = ((2 ^ x : Nat) : Int) := by
  have hp := pow64 h
  rw [show ((2 : Int) ^ x) = ((2 ^ x : Nat) : Int) by simp, IntKind.wrap_u64]
  generalize (2 : Nat) ^ x = y at hp
  omega
set_option maxRecDepth 100000 in
set_option maxHeartbeats 2000000 in
theorem isMatching_any (n : Int) (b o m c b2 o2 l c2 : Nat) (es : List (Int × Int)) (ls : Nat → Int) (w : World) (h : Eds w b o m es) (hm : m ≤ 1048576) (hG : IsG n es) (h2 : Ints w b2 o2 l ls) (hl2 : l ≤ 1048576) :
    Calls Try.prog 62 #[.agg #[.int .i64 n, .slice (some ⟨b, o, none⟩) m c], .slice (some ⟨b2, o2, none⟩) l c2] w (Ret (.bool (matB n es ls l)) w) := by
  have KC := cell_rg
  have hl := Lib.hid h.len
  have HW := Lib.hid hG.wf
  have hn2 := hG.wf.1
  have hn20 := hG.wf.2.1
  have hev : n % 2 = 0 := (hG.wf).2.2.1
  have hbb := (by go_grown : Below w.heap.size w (w.alloc (.cells #[.int .i64 n, .slice (some ⟨b, o, none⟩) m c] 30)))
  have hbx := Box2.made w (.int .i64 n) (.slice (some ⟨b, o, none⟩) m c) 30
  have hu : IntKind.i64.wrap ((m : Int) - 1) = (m : Int) - 1 := IntWalk.i64_in _ (by omega)
  have hIM : ∀ d os, Calls Try.prog 17 #[.agg #[.int .i64 n, .slice (some ⟨b, o, none⟩) m c]] (grow (redrawn (w.alloc (.cells #[.int .i64 n, .slice (some ⟨b, o, none⟩) m c] 30)) d) os) fun e w'' => e = .returned (.bool true) ∧ ∃ p : Regrown, w'' = grow (redrawn (w.alloc (.cells #[.int .i64 n, .slice (some ⟨b, o, none⟩) m c] 30)) p.d) p.os := fun d os =>
    Ret.rg (B_true hG ▸ implIs_any n _ _ _ _ es _ ((h.alloc _).below (below_regrown _ _ _)) hm)
  have hIS : ∀ d os, Calls Try.prog 92 #[.slice (some ⟨b2, o2, none⟩) l c2, .int .i64 m] (grow (redrawn (w.alloc (.cells #[.int .i64 n, .slice (some ⟨b, o, none⟩) m c] 30)) d) os) fun e w'' => e = .returned (.bool (setB ls l ((m : Int) - 1))) ∧ ∃ p : Regrown, w'' = grow (redrawn (w.alloc (.cells #[.int .i64 n, .slice (some ⟨b, o, none⟩) m c] 30)) p.d) p.os := fun d os =>
    Is.rg (isSet_any b2 o2 l c2 ls m _ _ ((h2.below hbb).below (below_regrown _ _ _)) hl2 hu)
  have HIM := Lib.hid hIM
  have HIS := Lib.hid hIS
  clear hIM hIS hu
  cases hS : setB ls l ((m : Int) - 1) with
  | false =>
    have HV : Hid (matB n es ls l = false) := B_false fun x => B_not.1 hS (by rw [← hl.out]; exact x.1)
    rw [hS] at HIS
    clear hG
    go_enter Try.func62, Try.ntmps62
    go_wp2_with fail
    (refine wp_region_quiet_below (by kernel_rfl) (by kernel_rfl) ?_
     repeat (any_goals (go_big_quiet_step (first | (go_at_call 17; exact HIM.out _ _) | (go_at_call 92; exact HIS.out _ _) | (go_at_call 75; exact Is.rg (lengthE_any _ _ _ _ (by omega))))))
     all_goals (refine wpQuiet_nil ?_; intro wq1 hq1; replace hq1 := below_of_rg hq1))
    go_wp2_with fail
    go_ret
    exact ⟨ret_bool HV.out.symm, hbb.thenB (by simp) hq1⟩
  | true =>
    have HP := Lib.hid (B_iff.1 hS)
    rw [hS] at HIS
    clear hG
    go_enter Try.func62, Try.ntmps62
    go_wp2_with fail
    (refine wp_region_quiet_below (by kernel_rfl) (by kernel_rfl) ?_
     repeat (any_goals (go_big_quiet_step (first | (go_at_call 17; exact HIM.out _ _) | (go_at_call 92; exact HIS.out _ _) | (go_at_call 75; exact Is.rg (lengthE_any _ _ _ _ (by omega))) | (go_at_call 108; exact Is.rg (lengthL_any _ _ _ _)))))
     all_goals (refine wpQuiet_nil ?_; intro wq1 hq1; replace hq1 := below_of_rg hq1))
    have hB1 := hbb.thenB (by simp) hq1
    obtain ⟨s1, p1, q1'⟩ := hbx.below hq1
    have E1 := h.below hB1
    have I1 := h2.below hB1
    clear hq1 hbx hbb HIM HIS
    by_cases hq : (l : Int) = n / 2
    rotate_left
    · have hq' : ((l : Int) != n / 2) = true := by simpa using hq
      have HV : Hid (matB n es ls l = false) := B_false fun x => hq (by have := x.2.2; omega)
      go_wp2_with fail
      go_ret
      exact ⟨ret_bool HV.out.symm, hB1⟩
    have hq' : ((l : Int) != n / 2) = false := by simpa using hq
    have HQ := Lib.hid (show ∀ a, a < 2 * l → 0 ≤ endQ es ls a ∧ endQ es ls a ≤ n - 1 from fun a ha => endQ_in HW.out (by rw [hl.out]; exact HP.out) a ha)
    have hs2 : w.heap.size < wq1.heap.size := s1
    clear hS
    go_wp2_with fail
    go_loopw [5, 29] (fun sv i wv => ∃ j : Nat, j ≤ l ∧ i = .int .i64 j ∧ sv = .int .u64 (setN (endQ es ls) (2 * j)) ∧ Below wq1.heap.size wq1 wv) (fun _ i _ => l - (intOf i).toNat)
    case atStart => exact ⟨0, Nat.zero_le _, rfl, by rfl, Below.refl _ _⟩
    case round =>
      obtain ⟨j, hj, rfl, rfl, hbr⟩ := hrel
      have E := E1.below hbr
      have I := I1.below hbr
      have hsz := hbr.size
      have k1 := (hbr.cell (p := ⟨w.heap.size, 0, none⟩) s1).trans p1
      have k2 := (hbr.cell (p := ⟨w.heap.size, 1, none⟩) s1).trans q1'
      have hs3 : w.heap.size < wr.heap.size := by omega
      by_cases hlt : j < l
      · have c1 := I.c j hlt
        have hx := (HP.out j hlt).1
        obtain ⟨e, he⟩ : ∃ e : Nat, ls j = e := ⟨(ls j).toNat, by omega⟩
        have hem : e < m := by omega
        rw [he] at c1
        have d1 := E.ca e hem
        have d2 := E.cb e hem
        have hw1 := HQ.out (2 * j) (by omega)
        have hw2 := HQ.out (2 * j + 1) (by omega)
        have hsn : setN (endQ es ls) (2 * (j + 1)) = setN (endQ es ls) (2 * j) ||| (2 ^ (ea es e).toNat ||| 2 ^ (eb es e).toNat) := by
          rw [show 2 * (j + 1) = 2 * j + 1 + 1 from by omega]
          simp only [setN, endQ_0, endQ_1, he, Int.toNat_natCast, Nat.or_assoc]
        rw [endQ_0, he, Int.toNat_natCast] at hw1
        rw [endQ_1, he, Int.toNat_natCast] at hw2
        obtain ⟨x, hxe⟩ : ∃ x : Nat, ea es e = x := ⟨(ea es e).toNat, by omega⟩
        obtain ⟨y, hye⟩ : ∃ y : Nat, eb es e = y := ⟨(eb es e).toNat, by omega⟩
        rw [hxe] at d1 hsn hw1
        rw [hye] at d2 hsn hw2
        simp only [Int.toNat_natCast] at hsn
        have hX := wrap_pow (x := x) (by omega)
        have hY := wrap_pow (x := y) (by omega)
        have hX2 := pow64 (x := x) (by omega)
        have hY2 := pow64 (x := y) (by omega)
        have hZ2 : setN (endQ es ls) (2 * j) < 18446744073709551616 := setN_lt fun a ha => by have := HQ.out a (by omega); omega
        have hpx : ∃ px : Nat, px = 2 ^ x := ⟨_, rfl⟩
        have hpy : ∃ py : Nat, py = 2 ^ y := ⟨_, rfl⟩
        obtain ⟨px, hpx⟩ := hpx
        obtain ⟨py, hpy⟩ := hpy
        rw [← hpx] at hX hX2 hsn
        rw [← hpy] at hY hY2 hsn
        have hor1 := u64_or_nat px py hX2 hY2
        have hz3 : px ||| py < 18446744073709551616 := Nat.or_lt_two_pow (n := 64) (by simpa using hX2) (by simpa using hY2)
        have hpz : ∃ pz : Nat, pz = px ||| py := ⟨_, rfl⟩
        obtain ⟨pz, hpz⟩ := hpz
        rw [← hpz] at hor1 hsn hz3
        have hor2 := u64_or_nat _ pz hZ2 hz3
        rw [← hsn] at hor2
        have s3 := I.blk
        have s4 := E.blk
        clear hpx hpy hpz hsn hX2 hY2 hZ2 hz3 E I hxe hye he hx
        go_wp2_with fail
        (refine wp_region_quiet_below (by kernel_rfl) (by kernel_rfl) ?_
         repeat (any_goals (go_big_quiet_step (first | fail)))
         all_goals (refine wpQuiet_nil ?_; intro wq2 hq2; replace hq2 := below_of_rg hq2))
        go_wp2_with fail
        go_roundw
        case rel => exact ⟨j + 1, by omega, by go_num, rfl, hbr.andB hq2⟩
        case measure => simp [intOf]; omega
      · obtain rfl : j = l := by omega
        obtain ⟨N, rfl⟩ : ∃ N : Nat, n = N := ⟨n.toNat, by omega⟩
        have h2j : 2 * j = N := by omega
        have hp := pow64 (x := N) (by omega)
        have hX := wrap_pow (x := N) (by omega)
        have hpos : 0 < 2 ^ N := Nat.pow_pos (by decide)
        have hone : IntKind.u64.wrap ((2 ^ N : Nat) - 1 : Int) = ((2 ^ N - 1 : Nat) : Int) := by
          generalize (2 : Nat) ^ N = y at hp hpos
          rw [IntKind.wrap_u64]; omega
        have HV : Hid (matB N es ls j = ((setN (endQ es ls) (2 * j) : Int) == ((2 ^ N - 1 : Nat) : Int))) := by
          show B _ = _
          rw [Bool.eq_iff_iff, B_iff, beq_iff_eq, h2j]
          have hf := full_iff (Q := endQ es ls) (n := N) (fun a ha => by have := HQ.out a (by omega); omega)
          constructor
          · intro x; rw [hf.2 (by have := x.2.1; rw [h2j] at this; exact this)]
          · intro x; exact ⟨by rw [hl.out]; exact HP.out, by rw [h2j]; exact hf.1 (by omega), by omega⟩
        have hpx : ∃ px : Nat, px = 2 ^ N := ⟨_, rfl⟩
        obtain ⟨px, hpx⟩ := hpx
        rw [← hpx] at hX hone HV
        clear hpx hp hpos
        go_wp2_with fail
        go_ret
        exact ⟨ret_bool (by rw [HV.out, h2j]), hB1.andB hbr⟩
/-! ### IsMatching -/
noncomputable def imC (n : Int) (es : List (Int × Int)) : Int := if B (IsG n es) then 0 else 1
noncomputable def imR (n : Int) (es : List (Int × Int)) (ls : Nat → Int) (l : Nat) : Bool := B (IsG n es) && matB n es ls l
theorem retBC {a a' : Bool} {k k' : Int} (h : a = a') (h2 : k = k') : Ending.returned (.tuple #[.bool a, .int .i64 k]) = .returned (.tuple #[.bool a', .int .i64 k']) := by rw [h, h2]
set_option maxHeartbeats 400000 in
theorem spIsMatching_any (n : Int) (b o m c b2 o2 l c2 : Nat) (es : List (Int × Int)) (ls : Nat → Int) (w : World) (h : Eds w b o m es) (hm : m ≤ 1048576) (h2 : Ints w b2 o2 l ls) (hl2 : l ≤ 1048576) :
    Calls Try.prog 21 #[.agg #[.int .i64 n, .slice (some ⟨b, o, none⟩) m c], .slice (some ⟨b2, o2, none⟩) l c2] w (Ret (.tuple #[.bool (imR n es ls l), .int .i64 (imC n es)]) w) := by
  have hbox := Box2.made w (.int .i64 n) (.slice (some ⟨b, o, none⟩) m c) 30
  have hbb := (by go_grown : Below w.heap.size w (w.alloc (.cells #[.int .i64 n, .slice (some ⟨b, o, none⟩) m c] 30)))
  have HSP := Lib.hid (l01Is_any n b o m c es _ (h.alloc (.cells #[.int .i64 n, .slice (some ⟨b, o, none⟩) m c] 30)) hm)
  by_cases hG : IsG n es
  · have HC : Hid (imC n es = 0) := by simp [Hid, imC, B_true hG]
    have HR : Hid (imR n es ls l = matB n es ls l) := by simp [Hid, imR, B_true hG]
    have HG := Lib.hid hG
    rw [B_true hG] at HSP
    clear hG
    go_enter Try.func21, Try.ntmps21
    go_wp2_with fail
    refine HSP.out.mono ?_
    rintro e w1 ⟨rfl, hb1⟩
    have hB1 := hbb.thenB (by simp) hb1
    obtain ⟨s1, p1, q1⟩ := hbox.below hb1
    clear hb1 hbb hbox
    go_wp2_with fail
    refine (l04Is_any n b o m c b2 o2 l c2 es ls _ (h.below hB1) hm HG.out.wf (h2.below hB1) hl2).mono ?_
    rintro e w2 ⟨rfl, hb2⟩
    go_wp2_with fail
    go_ret2
    exact ⟨retBC HR.out.symm HC.out.symm, hB1.andB hb2⟩
  · have HC : Hid (imC n es = 1) := by simp [Hid, imC, B_false hG]
    have HR : Hid (imR n es ls l = false) := by simp [Hid, imR, B_false hG]
    rw [B_false hG] at HSP
    clear hG hbox
    go_enter Try.func21, Try.ntmps21
    go_wp2_with fail
    refine HSP.out.mono ?_
    rintro e w1 ⟨rfl, hb1⟩
    have hB1 := hbb.thenB (by simp) hb1
    clear hb1 hbb
    go_wp2_with fail
    go_ret2
    exact ⟨retBC HR.out.symm HC.out.symm, hB1⟩
set_option maxHeartbeats 400000 in
theorem imIsMatching_any (n : Int) (b o m c b2 o2 l c2 : Nat) (es : List (Int × Int)) (ls : Nat → Int) (w : World) (h : Eds w b o m es) (hm : m ≤ 1048576) (h2 : Ints w b2 o2 l ls) (hl2 : l ≤ 1048576) :
    Calls Try.prog 23 #[.agg #[.int .i64 n, .slice (some ⟨b, o, none⟩) m c], .slice (some ⟨b2, o2, none⟩) l c2] w (Ret (.tuple #[.bool (imR n es ls l), .int .i64 (imC n es)]) w) := by
  have hbox := Box2.made w (.int .i64 n) (.slice (some ⟨b, o, none⟩) m c) 30
  have hbb := (by go_grown : Below w.heap.size w (w.alloc (.cells #[.int .i64 n, .slice (some ⟨b, o, none⟩) m c] 30)))
  have HGC := Lib.hid (graphCode_any n b o m c es true _ (h.alloc (.cells #[.int .i64 n, .slice (some ⟨b, o, none⟩) m c] 30)) hm)
  by_cases hG : IsG n es
  · have HC : Hid (imC n es = 0) := by simp [Hid, imC, B_true hG]
    have HR : Hid (imR n es ls l = matB n es ls l) := by simp [Hid, imR, B_true hG]
    have HG := Lib.hid hG
    rw [show gcC n es true = 0 by simp [gcC, B_true hG]] at HGC
    clear hG
    go_enter Try.func23, Try.ntmps23
    go_wp2_with fail
    refine HGC.out.mono ?_
    rintro e w1 ⟨rfl, hb1⟩
    have hB1 := hbb.thenB (by simp) hb1
    obtain ⟨s1, p1, q1⟩ := hbox.below hb1
    clear hb1 hbb hbox
    go_wp2_with fail
    refine (isMatching_any n b o m c b2 o2 l c2 es ls _ (h.below hB1) hm HG.out (h2.below hB1) hl2).mono ?_
    rintro e w2 ⟨rfl, hb2⟩
    go_wp2_with fail
    go_ret2
    exact ⟨retBC HR.out.symm HC.out.symm, hB1.andB hb2⟩
  · have HC : Hid (imC n es = 1) := by simp [Hid, imC, B_false hG]
    have HR : Hid (imR n es ls l = false) := by simp [Hid, imR, B_false hG]
    rw [show gcC n es true = 1 by simp [gcC, B_false hG]] at HGC
    clear hG hbox
    go_enter Try.func23, Try.ntmps23
    go_wp2_with fail
    refine HGC.out.mono ?_
    rintro e w1 ⟨rfl, hb1⟩
    have hB1 := hbb.thenB (by simp) hb1
    clear hb1 hbb
    go_wp2_with fail
    go_ret2
    exact ⟨retBC HR.out.symm HC.out.symm, hB1⟩
end Go.Proofs.Ytjaffbpgochemaa
