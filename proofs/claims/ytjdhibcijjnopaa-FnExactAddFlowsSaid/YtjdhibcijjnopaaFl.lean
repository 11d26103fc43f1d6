import Derived.Test.YtjdhibcijjnopaaGi
import Derived.Test.YtjdhibcijjnopaaSp2
import Derived.Test.YtjdhibcijjnopaaAl
import Derived.StillTailTactics
namespace Go.Proofs.Ytjdhibcijjnopaa
open Go.RowKit Go.Sort
/-! ### Flows -/
def netTo (es : List (Int × Int)) (g : Nat → Int) : Nat → Int → Int
  | 0, _ => 0
  | k + 1, v => netTo es g k v + (if eb es k = v then g k else 0) - (if ea es k = v then g k else 0)
theorem netTo_bound (es : List (Int × Int)) (g : Nat → Int) (k : Nat) (v : Int) (h : ∀ j, j < k → -1000 ≤ g j ∧ g j ≤ 1000) : -2000 * (k : Int) ≤ netTo es g k v ∧ netTo es g k v ≤ 2000 * k := by
  induction k with
  | zero => simp [netTo]
  | succ k ih =>
    have h1 := ih (fun j hj => h j (by omega))
    have h2 := h k (by omega)
    simp only [netTo]
    split <;> split <;> omega
/-- The code of a list of values. -/
noncomputable def liC (n : Int) (es : List (Int × Int)) (md : Int) (len : Nat) (g : Nat → Int) (lo hi : Int) : Int :=
  if B (IsG n es) then (if inB md 2 6 && decide (len = es.length) && allB len (fun j => inB (g j) lo hi) then 0 else 2) else 1
noncomputable def cdC (n : Int) (es : List (Int × Int)) (md : Int) : Int := if B (IsG n es) then (if inB md 2 6 then 0 else 2) else 1
theorem l05Code_any (n : Int) (b o m c : Nat) (es : List (Int × Int)) (md : Int) (w : World) (h : Eds w b o m es) (hm : m ≤ 1048576) :
    Calls Try.prog 97 #[.agg #[.int .i64 n, .slice (some ⟨b, o, none⟩) m c], .int .i64 md] w (Ret (.int .i64 (cdC n es md)) w) := by
  have hbb := (by go_grown : Below w.heap.size w (w.alloc (.cells #[.int .i64 n, .slice (some ⟨b, o, none⟩) m c] 31)))
  cases hG : B (IsG n es) with
  | false =>
    have HV : Hid (cdC n es md = 1) := by simp [Hid, cdC, hG]
    go_enter Try.func97, Try.ntmps97
    go_wp2_with fail
    refine (l01Is_any _ _ _ _ _ es _ (h.alloc _) hm).mono ?_
    rintro e w1 ⟨rfl, hb1⟩
    go_wp2_with fail
    go_ret
    exact ⟨ret_int HV.out.symm, hbb.thenB (by simp) hb1⟩
  | true =>
    cases hA : inB md 2 6 with
    | false =>
      have HV : Hid (cdC n es md = 2) := by simp [Hid, cdC, hG, hA]
      go_enter Try.func97, Try.ntmps97
      go_wp2_with fail
      refine (l01Is_any _ _ _ _ _ es _ (h.alloc _) hm).mono ?_
      rintro e w1 ⟨rfl, hb1⟩
      go_wp2_with (go_at_call 70; refine (in_any _ _ _ _).mono ?_; rintro e w' ⟨rfl, rfl⟩)
      go_ret
      exact ⟨ret_int HV.out.symm, hbb.thenB (by simp) hb1⟩
    | true =>
      have HV : Hid (cdC n es md = 0) := by simp [Hid, cdC, hG, hA]
      go_enter Try.func97, Try.ntmps97
      go_wp2_with fail
      refine (l01Is_any _ _ _ _ _ es _ (h.alloc _) hm).mono ?_
      rintro e w1 ⟨rfl, hb1⟩
      go_wp2_with (go_at_call 70; refine (in_any _ _ _ _).mono ?_; rintro e w' ⟨rfl, rfl⟩)
      go_ret
      exact ⟨ret_int HV.out.symm, hbb.thenB (by simp) hb1⟩
theorem l05List_any (n : Int) (b o m c : Nat) (es : List (Int × Int)) (md : Int) (b2 o2 len c2 : Nat) (g : Nat → Int) (lo hi : Int) (w : World) (h : Eds w b o m es) (hm : m ≤ 1048576) (h2 : Ints w b2 o2 len g) (hlen : len ≤ 1048576) :
    Calls Try.prog 59 #[.agg #[.int .i64 n, .slice (some ⟨b, o, none⟩) m c], .int .i64 md, .slice (some ⟨b2, o2, none⟩) len c2, .int .i64 lo, .int .i64 hi] w (Ret (.int .i64 (liC n es md len g lo hi)) w) := by
  have hbb := (by go_grown : Below w.heap.size w (w.alloc (.cells #[.int .i64 n, .slice (some ⟨b, o, none⟩) m c] 31)))
  have hbx := Box2.made w (.int .i64 n) (.slice (some ⟨b, o, none⟩) m c) 31
  have hl := Lib.hid h.len
  cases hG : B (IsG n es) with
  | false =>
    have HV : Hid (liC n es md len g lo hi = 1) := by simp [Hid, liC, hG]
    have HC : Hid (cdC n es md = 1) := by simp [Hid, cdC, hG]
    go_enter Try.func59, Try.ntmps59
    go_wp2_with fail
    refine (l05Code_any _ _ _ _ _ es _ _ (h.alloc _) hm).mono ?_
    rintro e w1 ⟨rfl, hb1⟩
    rw [HC.out]
    go_wp2_with fail
    go_ret
    exact ⟨ret_int HV.out.symm, hbb.thenB (by simp) hb1⟩
  | true =>
    cases hA : inB md 2 6 with
    | false =>
      have HV : Hid (liC n es md len g lo hi = 2) := by simp [Hid, liC, hG, hA]
      have HC : Hid (cdC n es md = 2) := by simp [Hid, cdC, hG, hA]
      go_enter Try.func59, Try.ntmps59
      go_wp2_with fail
      refine (l05Code_any _ _ _ _ _ es _ _ (h.alloc _) hm).mono ?_
      rintro e w1 ⟨rfl, hb1⟩
      rw [HC.out]
      go_wp2_with fail
      go_ret
      exact ⟨ret_int HV.out.symm, hbb.thenB (by simp) hb1⟩
    | true =>
      have HC : Hid (cdC n es md = 0) := by simp [Hid, cdC, hG, hA]
      by_cases hml : len = m
      · subst hml
        have HV : Hid (∀ t, allB len (fun j => inB (g j) lo hi) = t → liC n es md len g lo hi = if t then 0 else 2) := fun t ht => by simp [liC, hG, hA, ht, hl.out]
        go_enter Try.func59, Try.ntmps59
        go_wp2_with fail
        refine (l05Code_any _ _ _ _ _ es _ _ (h.alloc _) hm).mono ?_
        rintro e w1 ⟨rfl, hb1⟩
        obtain ⟨s1, p1, q1⟩ := hbx.below hb1
        have hB1 := hbb.thenB (by simp) hb1
        have I := h2.below hB1
        have HI := Lib.hid I
        rw [HC.out]
        clear hb1 hbx hbb I
        go_wp2_with fail
        go_loop [12] (fun i => ∃ k : Nat, k ≤ len ∧ i = .int .i64 k ∧ Hid (∀ j, j < k → inB (g j) lo hi = true)) (fun i => len - (intOf i).toNat)
        case atStart => exact ⟨0, Nat.zero_le _, rfl, fun j hj => absurd hj (by omega)⟩
        case round =>
          obtain ⟨k, hk, rfl, HP⟩ := hrel
          by_cases hlt : k < len
          · have e1 := HI.out.c k hlt
            cases hq : inB (g k) lo hi with
            | true =>
              have HP' : Hid (∀ j, j < k + 1 → inB (g j) lo hi = true) := fun j hj => by
                by_cases hjk : j < k
                · exact HP.out j hjk
                · obtain rfl : j = k := by omega
                  exact hq
              go_wp2_with (go_at_call 70; refine (in_any _ _ _ _).mono ?_; rintro e w' ⟨rfl, rfl⟩)
              go_round
              case rel => exact ⟨k + 1, by omega, by go_num, HP'⟩
              case measure => simp [intOf]; omega
            | false =>
              go_wp2_with (go_at_call 70; refine (in_any _ _ _ _).mono ?_; rintro e w' ⟨rfl, rfl⟩)
              go_ret
              exact ⟨ret_int (HV.out false (by cases hx : allB len (fun j => inB (g j) lo hi) with
                | false => rfl
                | true => have := allB_iff.1 hx k hlt; simp [hq] at this)).symm, hB1⟩
          · go_wp2_with fail
            go_ret
            exact ⟨ret_int (HV.out true (allB_iff.2 fun j hj => HP.out j (by omega))).symm, hB1⟩
      · have HV : Hid (liC n es md len g lo hi = 2) := by simp [Hid, liC, hl.out, hml, hG]
        have hne : ((len : Int) != (m : Int)) = true := by simp; omega
        go_enter Try.func59, Try.ntmps59
        go_wp2_with fail
        refine (l05Code_any _ _ _ _ _ es _ _ (h.alloc _) hm).mono ?_
        rintro e w1 ⟨rfl, hb1⟩
        obtain ⟨s1, p1, q1⟩ := hbx.below hb1
        have hB1 := hbb.thenB (by simp) hb1
        rw [HC.out]
        clear hb1 hbx hbb
        go_wp2_with fail
        go_ret
        exact ⟨ret_int HV.out.symm, hB1⟩
set_option maxRecDepth 100000 in
set_option maxHeartbeats 1000000 in
theorem l05Net_any (N : Nat) (b o m c : Nat) (es : List (Int × Int)) (b2 o2 c2 : Nat) (g : Nat → Int) (w : World) (h : Eds w b o m es) (hm : m ≤ 1048576) (h2 : Ints w b2 o2 m g) (hwf : WfP N es) (hg : ∀ j, j < m → -1000 ≤ g j ∧ g j ≤ 1000) :
    Calls Try.prog 98 #[.agg #[.int .i64 N, .slice (some ⟨b, o, none⟩) m c], .slice (some ⟨b2, o2, none⟩) m c2] w (RetI N (fun v => netTo es g m v) w) := by
  have hN : N ≤ 20 := by have := hwf.2.1; omega
  have hmk := run_make_row' (P := Try.prog) 25 2 (.int .i64 0) 8 Try.underlying25 inf2 rfl .i64 .i64 N (by omega) (by omega)
  have hl := Lib.hid h.len
  have HWF : Hid (WfP N es) := hwf
  have HG := Lib.hid hg
  clear hwf hg
  go_enter Try.func98, Try.ntmps98
  go_wp2_with fail
  go_loopw [6] (fun i wr => ∃ k : Nat, k ≤ m ∧ i = .int .i64 k ∧ wr.rowIs (w.heap.size + 1) 2 N (fun v => .int .i64 (netTo es g k v)) ∧ Below (w.heap.size + 1) (w.alloc (.cells #[.int .i64 N, .slice (some ⟨b, o, none⟩) m c] 31)) wr) (fun i _ => m - (intOf i).toNat)
  case atStart => exact ⟨0, Nat.zero_le _, rfl, by simpa using (World.rowIs_made (w.alloc (.cells #[.int .i64 N, .slice (some ⟨b, o, none⟩) m c] 31)) (.int .i64 0) N 2).congr (g := fun v => .int .i64 (netTo es g 0 v)) (fun _ _ => rfl), by simpa using (Below.refl _ (w.alloc (.cells #[.int .i64 N, .slice (some ⟨b, o, none⟩) m c] 31))).alloc (Nat.le_refl _) _⟩
  case round =>
    obtain ⟨k, hk, rfl, hrow, hbw⟩ := hrel
    by_cases hlt : k < m
    · have hw4 := HWF.out.2.2.2.2 k (by rw [hl.out]; exact hlt)
      obtain ⟨x, hx⟩ : ∃ x : Nat, ea es k = (x : Int) := ⟨(ea es k).toNat, by omega⟩
      obtain ⟨y, hy⟩ : ∃ y : Nat, eb es k = (y : Int) := ⟨(eb es k).toNat, by omega⟩
      have hxN : x < N := by omega
      have hyN : y < N := by omega
      have hxy : x ≠ y := by omega
      have E := (h.alloc (.cells #[.int .i64 N, .slice (some ⟨b, o, none⟩) m c] 31)).upto (B := w.heap.size + 1) (Nat.lt_succ_of_lt h.blk) hbw
      have I := (h2.alloc (.cells #[.int .i64 N, .slice (some ⟨b, o, none⟩) m c] 31)).upto (B := w.heap.size + 1) (Nat.lt_succ_of_lt h2.blk) hbw
      have e1 := E.ca k hlt
      have e2 := E.cb k hlt
      have e3 := I.c k hlt
      obtain ⟨s1, y0, y1⟩ := (Box2.made w (.int .i64 N) (.slice (some ⟨b, o, none⟩) m c) 31).below (by simpa using hbw)
      have gb := HG.out k hlt
      have d1 := netTo_bound es g k x (fun j hj => HG.out j (by omega))
      have d2 := netTo_bound es g k y (fun j hj => HG.out j (by omega))
      have c1 := hrow.cell hyN
      have f1 := hrow.frozen y
      have f2 := hrow.frozen x
      have z1 : IntKind.i64.wrap (netTo es g k y + g k) = netTo es g k y + g k := IntWalk.i64_in _ (by omega)
      have z2 : IntKind.i64.wrap (netTo es g k x - g k) = netTo es g k x - g k := IntWalk.i64_in _ (by omega)
      clear hw4 hl E I HWF HG
      go_wp2_with fail
      have hrow1 := hrow.set y (.int .i64 (netTo es g k y + g k))
      have cc2 := hrow1.cell hxN
      rw [if_neg hxy] at cc2
      have hrow2 := hrow1.set x (.int .i64 (netTo es g k x - g k))
      have sw := World.cell?_setCell_other wr ⟨w.heap.size + 1, y, none⟩
      have b1 := h.blk
      have b2' := h2.blk
      have c3 : (wr.setCell ⟨w.heap.size + 1, y, none⟩ (.int .i64 (netTo es g k y + g k))).cell? ⟨b, o + k * 2, none⟩ = some (.int .i64 (ea es k)) := by
        rw [sw _ _ (fun hh => by have := congrArg Addr.block hh; simp at this; omega)]; exact e1
      have c4 : (wr.setCell ⟨w.heap.size + 1, y, none⟩ (.int .i64 (netTo es g k y + g k))).cell? ⟨b2, o2 + k, none⟩ = some (.int .i64 (g k)) := by
        rw [sw _ _ (fun hh => by have := congrArg Addr.block hh; simp at this; omega)]; exact e3
      have c5 : (wr.setCell ⟨w.heap.size + 1, y, none⟩ (.int .i64 (netTo es g k y + g k))).cell? ⟨w.heap.size, 1, none⟩ = some (.slice (some ⟨b, o, none⟩) m c) := by
        rw [sw _ _ (fun hh => by have := congrArg Addr.block hh; simp at this)]; exact y1
      have HR := Lib.hid hrow2
      clear hrow hrow1 hrow2 sw
      go_still_tail 22, (by kernel_rfl)
      change wpList _ _ _ _ _ wr.drew
      go_wp2_with fail
      obtain ⟨w9, hw9⟩ : ∃ w9, w9 = (wr.setCell ⟨w.heap.size + 1, y, none⟩ (.int .i64 (netTo es g k y + g k))).drew := ⟨_, rfl⟩
      rw [← hw9]
      have c3' : w9.cell? ⟨b, o + k * 2, none⟩ = some (.int .i64 (ea es k)) := by rw [hw9]; exact c3
      have c4' : w9.cell? ⟨b2, o2 + k, none⟩ = some (.int .i64 (g k)) := by rw [hw9]; exact c4
      have c5' : w9.cell? ⟨w.heap.size, 1, none⟩ = some (.slice (some ⟨b, o, none⟩) m c) := by rw [hw9]; exact c5
      have cc2' : w9.cell? ⟨w.heap.size + 1, x, none⟩ = some (.int .i64 (netTo es g k x)) := by rw [hw9]; exact cc2
      have f2' : w9.frozen? ⟨w.heap.size + 1, x, none⟩ = false := by rw [hw9]; simpa using f2
      have HW9 := Lib.hid hw9
      clear hw9 c3 c4 c5 cc2 f2 e1 e2 e3 y0 y1 c1 f1
      go_still_tail 22, (by kernel_rfl)
      change wpList _ _ _ _ _ w9.drew
      go_wp2_with fail
      go_roundw
      case rel =>
        rw [HW9.out]
        refine ⟨k + 1, by omega, by go_num, HR.out.congr (fun v hv => ?_), ?_⟩
        · simp only [netTo, hx, hy]
          by_cases h1 : v = x
          · subst h1
            rw [if_pos rfl, if_neg (by omega), if_pos rfl]; go_num
          · rw [if_neg h1, if_neg (show ¬ (x : Int) = (v : Int) by omega)]
            by_cases h2 : v = y
            · subst h2
              rw [if_pos rfl, if_pos rfl]; go_num
            · rw [if_neg h2, if_neg (show ¬ (y : Int) = (v : Int) by omega)]; go_num
        · exact (hbw.setCell (Nat.le_refl _) _).drew.setCell (Nat.le_refl _) _ |>.drew
      case measure => simp [intOf]; omega
    · obtain rfl : k = m := by omega
      obtain ⟨s1, y0, y1⟩ := (Box2.made w (.int .i64 N) (.slice (some ⟨b, o, none⟩) k c) 31).below (by simpa using hbw)
      go_wp2_with fail
      go_ret
      exact ⟨w.heap.size + 1, rfl, by omega, hrow, (by go_grown : Below w.heap.size w (w.alloc _)).trans (hbw.mono (by omega))⟩
/-- The test at a vertex. -/
def flB (es : List (Int × Int)) (g : Nat → Int) (m : Nat) (md : Int) (v : Nat) : Bool := (netTo es g m v).tmod md == 0
theorem l05Flow_any (N : Nat) (b o m c : Nat) (es : List (Int × Int)) (md : Int) (b2 o2 c2 : Nat) (g : Nat → Int) (w : World) (h : Eds w b o m es) (hm : m ≤ 1048576) (h2 : Ints w b2 o2 m g) (hwf : WfP N es) (hg : ∀ j, j < m → -1000 ≤ g j ∧ g j ≤ 1000) (hd1 : 2 ≤ md) (hd2 : md ≤ 6) :
    Calls Try.prog 60 #[.agg #[.int .i64 N, .slice (some ⟨b, o, none⟩) m c], .int .i64 md, .slice (some ⟨b2, o2, none⟩) m c2] w (Ret (.bool (allB N (flB es g m md))) w) := by
  have hbb := (by go_grown : Below w.heap.size w (w.alloc (.cells #[.int .i64 N, .slice (some ⟨b, o, none⟩) m c] 31)))
  have hN : N ≤ 20 := by have := hwf.2.1; omega
  have HWF := Lib.hid hwf
  have HG := Lib.hid hg
  clear hwf hg
  go_enter Try.func60, Try.ntmps60
  go_wp2_with fail
  refine (l05Net_any N _ _ _ _ es _ _ _ g _ (h.alloc _) hm (h2.alloc _) HWF.out HG.out).mono ?_
  rintro e w1 ⟨q, rfl, hq, hrow, hb1⟩
  have hB1 := hbb.thenB (by simp) hb1
  go_wp2_with fail
  go_loop [8] (fun i => ∃ k : Nat, k ≤ N ∧ i = .int .i64 k ∧ Hid (∀ j, j < k → flB es g m md j = true)) (fun i => N - (intOf i).toNat)
  case atStart => exact ⟨0, Nat.zero_le _, rfl, fun j hj => absurd hj (by omega)⟩
  case round =>
    obtain ⟨k, hk, rfl, HP⟩ := hrel
    by_cases hlt : k < N
    · have e1 := hrow.cell hlt
      cases hf : flB es g m md k with
      | true =>
        have HP' : Hid (∀ j, j < k + 1 → flB es g m md j = true) := fun j hj => by
          by_cases hjk : j < k
          · exact HP.out j hjk
          · obtain rfl : j = k := by omega
            exact hf
        have hf' : ((netTo es g m k).tmod md != 0) = false := by simpa [flB] using hf
        go_wp2_with fail
        go_round
        case rel => exact ⟨k + 1, by omega, by go_num, HP'⟩
        case measure => simp [intOf]; omega
      | false =>
        have hf' : ((netTo es g m k).tmod md != 0) = true := by simpa [flB] using hf
        go_wp2_with fail
        go_ret
        exact ⟨ret_bool (by cases hx : allB N (flB es g m md) with
          | false => rfl
          | true => have := allB_iff.1 hx k hlt; rw [hf] at this; cases this), hB1⟩
    · go_wp2_with fail
      go_ret
      exact ⟨ret_bool (allB_iff.2 fun j hj => HP.out j (by omega)).symm, hB1⟩
/-! ### The program's side -/
set_option maxRecDepth 100000 in
set_option maxHeartbeats 1000000 in
theorem excess_any (N : Nat) (b o m c : Nat) (es : List (Int × Int)) (b2 o2 c2 : Nat) (g : Nat → Int) (w : World) (h : Eds w b o m es) (hm : m ≤ 1048576) (h2 : Ints w b2 o2 m g) (hwf : WfP N es) (hg : ∀ j, j < m → -1000 ≤ g j ∧ g j ≤ 1000) :
    Calls Try.prog 101 #[.agg #[.int .i64 N, .slice (some ⟨b, o, none⟩) m c], .slice (some ⟨b2, o2, none⟩) m c2] w (RetI N (fun v => netTo es g m v) w) := by
  have hN : N ≤ 20 := by have := hwf.2.1; omega
  have hmk := run_make_row' (P := Try.prog) 25 2 (.int .i64 0) 8 Try.underlying25 inf2 rfl .i64 .i64 N (by omega) (by omega)
  have hl := Lib.hid h.len
  have HWF : Hid (WfP N es) := hwf
  have HG := Lib.hid hg
  clear hwf hg
  go_enter Try.func101, Try.ntmps101
  go_wp2_with fail
  go_loopw [14] (fun i wr => ∃ k : Nat, k ≤ m ∧ i = .int .i64 k ∧ wr.rowIs (w.heap.size + 1) 2 N (fun v => .int .i64 (netTo es g k v)) ∧ Below (w.heap.size + 1) (w.alloc (.cells #[.int .i64 N, .slice (some ⟨b, o, none⟩) m c] 31)) wr) (fun i _ => m - (intOf i).toNat)
  case atStart => exact ⟨0, Nat.zero_le _, rfl, by simpa using (World.rowIs_made (w.alloc (.cells #[.int .i64 N, .slice (some ⟨b, o, none⟩) m c] 31)) (.int .i64 0) N 2).congr (g := fun v => .int .i64 (netTo es g 0 v)) (fun _ _ => rfl), by simpa using (Below.refl _ (w.alloc (.cells #[.int .i64 N, .slice (some ⟨b, o, none⟩) m c] 31))).alloc (Nat.le_refl _) _⟩
  case round =>
    obtain ⟨k, hk, rfl, hrow, hbw⟩ := hrel
    by_cases hlt : k < m
    · have hw4 := HWF.out.2.2.2.2 k (by rw [hl.out]; exact hlt)
      obtain ⟨x, hx⟩ : ∃ x : Nat, ea es k = (x : Int) := ⟨(ea es k).toNat, by omega⟩
      obtain ⟨y, hy⟩ : ∃ y : Nat, eb es k = (y : Int) := ⟨(eb es k).toNat, by omega⟩
      have hxN : x < N := by omega
      have hyN : y < N := by omega
      have hxy : x ≠ y := by omega
      have E := (h.alloc (.cells #[.int .i64 N, .slice (some ⟨b, o, none⟩) m c] 31)).upto (B := w.heap.size + 1) (Nat.lt_succ_of_lt h.blk) hbw
      have I := (h2.alloc (.cells #[.int .i64 N, .slice (some ⟨b, o, none⟩) m c] 31)).upto (B := w.heap.size + 1) (Nat.lt_succ_of_lt h2.blk) hbw
      have e1 := E.ca k hlt
      have e2 := E.cb k hlt
      have e3 := I.c k hlt
      have gb := HG.out k hlt
      have d1 := netTo_bound es g k x (fun j hj => HG.out j (by omega))
      have d2 := netTo_bound es g k y (fun j hj => HG.out j (by omega))
      have z1 : IntKind.i64.wrap (netTo es g k y + g k) = netTo es g k y + g k := IntWalk.i64_in _ (by omega)
      have z2 : IntKind.i64.wrap (netTo es g k x - g k) = netTo es g k x - g k := IntWalk.i64_in _ (by omega)
      have HROW := Lib.hid hrow
      have hsz := hrow.lt
      have b1 := h.blk
      have b2' := h2.blk
      clear hw4 hl E I HWF HG hrow
      go_wp2_with fail
      obtain ⟨w8, hw8⟩ : ∃ w8, w8 = wr.alloc (.cells #[.int .i64 x, .int .i64 y] 63) := ⟨_, rfl⟩
      rw [← hw8]
      have hrow8 : w8.rowIs (w.heap.size + 1) 2 N (fun v => .int .i64 (netTo es g k v)) := by rw [hw8]; exact HROW.out.alloc _
      have X8 : Box2 w8 wr.heap.size (.int .i64 x) (.int .i64 y) := by rw [hw8]; exact Box2.made _ _ _ _
      have e3' : w8.cell? ⟨b2, o2 + k, none⟩ = some (.int .i64 (g k)) := by rw [hw8, World.cell?_alloc_lt _ _ _ (World.block_lt_of_cell? _ _ e3)]; exact e3
      have hb8 : Below (w.heap.size + 1) (w.alloc (.cells #[.int .i64 N, .slice (some ⟨b, o, none⟩) m c] 31)) w8 := by rw [hw8]; exact hbw.alloc (by omega) _
      obtain ⟨s1, p1, q1⟩ := X8
      have c1 := hrow8.cell hxN
      have f1 := hrow8.frozen x
      have hrow9 := hrow8.set x (.int .i64 (netTo es g k x - g k))
      have HROW9 := Lib.hid hrow9
      have f2 := hrow9.frozen y
      have c2' := hrow9.cell hyN
      rw [if_neg (Ne.symm hxy)] at c2'
      have sw := World.cell?_setCell_other w8 ⟨w.heap.size + 1, x, none⟩
      have q2 : (w8.setCell ⟨w.heap.size + 1, x, none⟩ (.int .i64 (netTo es g k x - g k))).cell? ⟨wr.heap.size, 1, none⟩ = some (.int .i64 y) := by
        rw [sw _ _ (fun hh => by have := congrArg Addr.block hh; simp at this; omega)]; exact q1
      have e4 : (w8.setCell ⟨w.heap.size + 1, x, none⟩ (.int .i64 (netTo es g k x - g k))).cell? ⟨b2, o2 + k, none⟩ = some (.int .i64 (g k)) := by
        rw [sw _ _ (fun hh => by have := congrArg Addr.block hh; simp at this; omega)]; exact e3'
      have HW8 := Lib.hid hw8
      clear hw8 e1 e2 e3 HROW hrow8 hrow9 sw
      go_still_tail 11, (by kernel_rfl)
      change wpList _ _ _ _ _ w8.drew
      go_wp2_with fail
      obtain ⟨w9, hw9⟩ : ∃ w9, w9 = (w8.setCell ⟨w.heap.size + 1, x, none⟩ (.int .i64 (netTo es g k x - g k))).drew := ⟨_, rfl⟩
      rw [← hw9]
      have q2' : w9.cell? ⟨wr.heap.size, 1, none⟩ = some (.int .i64 y) := by rw [hw9]; exact q2
      have e4' : w9.cell? ⟨b2, o2 + k, none⟩ = some (.int .i64 (g k)) := by rw [hw9]; exact e4
      have c2'' : w9.cell? ⟨w.heap.size + 1, y, none⟩ = some (.int .i64 (netTo es g k y)) := by rw [hw9]; exact c2'
      have f2' : w9.frozen? ⟨w.heap.size + 1, y, none⟩ = false := by rw [hw9]; simpa using f2
      have hrow10 : (w9.setCell ⟨w.heap.size + 1, y, none⟩ (.int .i64 (netTo es g k y + g k))).rowIs (w.heap.size + 1) 2 N (fun v => .int .i64 (netTo es g (k + 1) v)) := by
        have r9 := HROW9.out.drew
        rw [← hw9] at r9
        refine (r9.set y (.int .i64 (netTo es g k y + g k))).congr (fun v hv => ?_)
        simp only [netTo, hx, hy]
        by_cases h1 : v = y
        · subst h1
          rw [if_pos rfl, if_pos rfl, if_neg (by omega)]; go_num
        · rw [if_neg h1, if_neg (show ¬ (y : Int) = (v : Int) by omega)]
          by_cases h2 : v = x
          · subst h2
            rw [if_pos rfl, if_pos rfl]; go_num
          · rw [if_neg h2, if_neg (show ¬ (x : Int) = (v : Int) by omega)]; go_num
      have hb9 : Below (w.heap.size + 1) (w.alloc (.cells #[.int .i64 N, .slice (some ⟨b, o, none⟩) m c] 31)) w9 := by rw [hw9]; exact (hb8.setCell (Nat.le_refl _) _).drew
      have H10 := Lib.hid hrow10
      clear hw9 q2 e4 c2' f2 hrow10 p1 q1 c1 f1 e3' hb8
      go_still_tail 11, (by kernel_rfl)
      change wpList _ _ _ _ _ w9.drew
      go_wp2_with fail
      go_roundw
      case rel => exact ⟨k + 1, by omega, by go_num, H10.out.drew, (hb9.setCell (Nat.le_refl _) _).drew⟩
      case measure => simp [intOf]; omega
    · obtain rfl : k = m := by omega
      go_wp2_with fail
      go_ret
      exact ⟨w.heap.size + 1, rfl, by omega, hrow, (by go_grown : Below w.heap.size w (w.alloc _)).trans (hbw.mono (by omega))⟩
end Go.Proofs.Ytjdhibcijjnopaa
