import Derived.Test.YtjdhibcijjnopaaFw
import Derived.Test.YtjdhibcijjnopaaDi
namespace Go.Proofs.Ytjdhibcijjnopaa
open Go.RowKit Go.Sort
/-! ### GirthOf -/
def gF (n : Int) (es : List (Int × Int)) (k : Nat) : Int := farF es (skI k) n (ea es k) (eb es k)
def gTo (n : Int) (es : List (Int × Int)) : Nat → Int
  | 0 => n + 1
  | k + 1 => if 0 < gF n es k then min (gTo n es k) (gF n es k + 1) else gTo n es k
theorem gTo_bd {n : Int} {es : List (Int × Int)} (hn : WfP n es) (k : Nat) (hk : k ≤ es.length) : 0 ≤ gTo n es k ∧ gTo n es k ≤ 21 := by
  have h20 := hn.2.1
  have h2 := hn.1
  induction k with
  | zero => simp only [gTo]; omega
  | succ k ih =>
    have := ih (by omega)
    simp only [gTo]
    split <;> omega
noncomputable def giV (n : Int) (es : List (Int × Int)) : Int := if B (IsG n es) then gTo n es es.length else 0
set_option maxRecDepth 100000 in
set_option maxHeartbeats 1600000 in
theorem l01Girth_any (n : Int) (b o m c : Nat) (es : List (Int × Int)) (w : World) (h : Eds w b o m es) (hm : m ≤ 1048576) (hn : WfP n es) :
    Calls Try.prog 53 #[.agg #[.int .i64 n, .slice (some ⟨b, o, none⟩) m c]] w (Ret (.int .i64 (gTo n es m)) w) := by
  have hl := Lib.hid h.len
  have HW := Lib.hid hn
  have hn2 := hn.1
  have hn20 := hn.2.1
  obtain ⟨N, rfl⟩ : ∃ N : Nat, n = N := ⟨n.toNat, by omega⟩
  clear hn
  go_enter Try.func53, Try.ntmps53
  go_wp2_with fail
  have hbb := (by go_grown : Below w.heap.size w (w.alloc (.cells #[.int .i64 N, .slice (some ⟨b, o, none⟩) m c] 31)))
  have hbx := Box2.made w (.int .i64 N) (.slice (some ⟨b, o, none⟩) m c) 31
  obtain ⟨w1, hw1⟩ : ∃ w1, w1 = w.alloc (Obj.cells #[Value.int IntKind.i64 N, Value.slice (some ⟨b, o, none⟩) m c] 31) := ⟨_, rfl⟩
  rw [← hw1] at hbb hbx ⊢
  clear hw1
  go_loopw [3, 4] (fun gv kv wr => ∃ k : Nat, k ≤ m ∧ kv = .int .i64 k ∧ gv = .int .i64 (gTo N es k) ∧ Below w1.heap.size w1 wr) (fun _ k _ => m - (intOf k).toNat)
  case atStart => exact ⟨0, Nat.zero_le _, rfl, rfl, Below.refl _ _⟩
  case round =>
    obtain ⟨k, hk, rfl, rfl, hb1⟩ := hrel
    have hbr := hbb.andB hb1
    obtain ⟨z1, p1, q1⟩ := hbx.below hb1
    have hgb := gTo_bd HW.out k (by rw [hl.out]; exact hk)
    by_cases hlt : k < m
    · have r := HW.out.2.2.2.2 k (by rw [hl.out]; exact hlt)
      obtain ⟨x, hx⟩ : ∃ x : Nat, ea es k = x := ⟨(ea es k).toNat, by omega⟩
      obtain ⟨y, hy⟩ : ∃ y : Nat, eb es k = y := ⟨(eb es k).toNat, by omega⟩
      have hyN : y < N := by omega
      have E := h.below hbr
      have d1 := E.ca k hlt
      have d2 := E.cb k hlt
      have zb := E.blk
      rw [hx] at d1
      rw [hy] at d2
      have HFA := Lib.hid (fun W hE => Int.toNat_natCast N ▸ l01Far_any N b o m c es x k W hE hm HW.out (by omega) (by omega))
      have hfb := farF_bd (sk := skI k) HW.out (a := x) (by omega) (by omega) y
      have HST : Hid (gTo N es (k + 1) = if 0 < farF es (skI k) N x y then min (gTo N es k) (farF es (skI k) N x y + 1) else gTo N es k) := by
        show (if 0 < gF _ _ _ then _ else _) = _; unfold gF; rw [hx, hy]
      obtain ⟨gk, hgk⟩ : ∃ gk, gTo N es k = gk := ⟨_, rfl⟩
      rw [hgk] at HST hgb ⊢
      clear r hx hy hgk
      go_wp2_with fail
      refine wp_region_facts (fun i v W => match i with
        | 0 => v = .agg #[.int .i64 N, .slice (some ⟨b, o, none⟩) m c]
        | 1 => v = .pointer (some ⟨w.heap.size, 1, none⟩)
        | 2 => v = .slice (some ⟨b, o, none⟩) m c
        | 3 => v = .int .i64 k
        | 4 => v = .pointer (some ⟨b, o + k * 2, none⟩)
        | 5 => v = .pointer (some ⟨b, o + k * 2, none⟩)
        | 6 => v = .int .i64 x
        | 7 => v = .int .i64 k
        | 8 => NewI wr.heap.size (N) (fun v => farF es (skI k) N x v) v W
        | 9 => v = .pointer (some ⟨w.heap.size, 1, none⟩)
        | 10 => v = .slice (some ⟨b, o, none⟩) m c
        | 11 => v = .int .i64 k
        | 12 => v = .pointer (some ⟨b, o + k * 2, none⟩)
        | 13 => v = .pointer (some ⟨b, o + k * 2 + 1, none⟩)
        | 14 => v = .int .i64 y
        | 15 => PtrV (.int .i64 (farF es (skI k) N x y)) v W
        | 16 => v = .int .i64 (farF es (skI k) N x y)
        | _ => v = .int .i64 (farF es (skI k) N x y)) (by kernel_rfl) (by kernel_rfl) ?_ ?_ ?_
      · intro i v W W' hf hb
        match i, hf with
        | 0, hf => exact hf
        | 1, hf => exact hf
        | 2, hf => exact hf
        | 3, hf => exact hf
        | 4, hf => exact hf
        | 5, hf => exact hf
        | 6, hf => exact hf
        | 7, hf => exact hf
        | 8, hf => exact NewI.below hf hb
        | 9, hf => exact hf
        | 10, hf => exact hf
        | 11, hf => exact hf
        | 12, hf => exact hf
        | 13, hf => exact hf
        | 14, hf => exact hf
        | 15, hf => exact PtrV.below hf hb
        | 16, hf => exact hf
        | (i + 17), hf => exact hf
      · refine ⟨?_, ?_, ?_, ?_, ?_, ?_, ?_, ?_, ?_, ?_, ?_, ?_, ?_, ?_, ?_, ?_, ?_, ?_, trivial⟩
        · intro a W hW hs hd
          have e1 : a.tmps[1]?.getD undef = .pointer (some ⟨w.heap.size, 0, none⟩) := hs 1 (by kernel_rfl)
          have k0 := (hW.cell (p := ⟨w.heap.size, 0, none⟩) (z1)).trans (p1)
          have k1 := (hW.cell (p := ⟨w.heap.size, 1, none⟩) (z1)).trans (q1)
          have k2 := (hW.cell (p := ⟨b, o + k * 2, none⟩) (zb)).trans (d1)
          have k3 := (hW.cell (p := ⟨b, o + k * 2 + 1, none⟩) (zb)).trans (d2)
          clear hs hd
          unfold Grows
          go_simp
          exact Below.refl _ _
        · intro a W hW hs hd
          have e1 : a.tmps[1]?.getD undef = .pointer (some ⟨w.heap.size, 0, none⟩) := hs 1 (by kernel_rfl)
          have k0 := (hW.cell (p := ⟨w.heap.size, 0, none⟩) (z1)).trans (p1)
          have k1 := (hW.cell (p := ⟨w.heap.size, 1, none⟩) (z1)).trans (q1)
          have k2 := (hW.cell (p := ⟨b, o + k * 2, none⟩) (zb)).trans (d1)
          have k3 := (hW.cell (p := ⟨b, o + k * 2 + 1, none⟩) (zb)).trans (d2)
          clear hs hd
          unfold Grows
          go_simp
          exact Below.refl _ _
        · intro a W hW hs hd
          have e17 : (a.tmps[17]?.getD undef) = .pointer (some ⟨w.heap.size, 1, none⟩) := hd 1 17 (by kernel_rfl) (by kernel_rfl)
          have k0 := (hW.cell (p := ⟨w.heap.size, 0, none⟩) (z1)).trans (p1)
          have k1 := (hW.cell (p := ⟨w.heap.size, 1, none⟩) (z1)).trans (q1)
          have k2 := (hW.cell (p := ⟨b, o + k * 2, none⟩) (zb)).trans (d1)
          have k3 := (hW.cell (p := ⟨b, o + k * 2 + 1, none⟩) (zb)).trans (d2)
          clear hs hd
          unfold Grows
          go_simp
          exact Below.refl _ _
        · intro a W hW hs hd
          have e4 : a.tmps[4]?.getD undef = .int .i64 k := hs 4 (by kernel_rfl)
          clear hs hd
          unfold Grows
          go_simp
          exact Below.refl _ _
        · intro a W hW hs hd
          have e18 : (a.tmps[18]?.getD undef) = .slice (some ⟨b, o, none⟩) m c := hd 2 18 (by kernel_rfl) (by kernel_rfl)
          have e19 : (a.tmps[19]?.getD undef) = .int .i64 k := hd 3 19 (by kernel_rfl) (by kernel_rfl)
          have k0 := (hW.cell (p := ⟨w.heap.size, 0, none⟩) (z1)).trans (p1)
          have k1 := (hW.cell (p := ⟨w.heap.size, 1, none⟩) (z1)).trans (q1)
          have k2 := (hW.cell (p := ⟨b, o + k * 2, none⟩) (zb)).trans (d1)
          have k3 := (hW.cell (p := ⟨b, o + k * 2 + 1, none⟩) (zb)).trans (d2)
          clear hs hd
          unfold Grows
          go_simp
          exact Below.refl _ _
        · intro a W hW hs hd
          have e20 : (a.tmps[20]?.getD undef) = .pointer (some ⟨b, o + k * 2, none⟩) := hd 4 20 (by kernel_rfl) (by kernel_rfl)
          have k0 := (hW.cell (p := ⟨w.heap.size, 0, none⟩) (z1)).trans (p1)
          have k1 := (hW.cell (p := ⟨w.heap.size, 1, none⟩) (z1)).trans (q1)
          have k2 := (hW.cell (p := ⟨b, o + k * 2, none⟩) (zb)).trans (d1)
          have k3 := (hW.cell (p := ⟨b, o + k * 2 + 1, none⟩) (zb)).trans (d2)
          clear hs hd
          unfold Grows
          go_simp
          exact Below.refl _ _
        · intro a W hW hs hd
          have e21 : (a.tmps[21]?.getD undef) = .pointer (some ⟨b, o + k * 2, none⟩) := hd 5 21 (by kernel_rfl) (by kernel_rfl)
          have k0 := (hW.cell (p := ⟨w.heap.size, 0, none⟩) (z1)).trans (p1)
          have k1 := (hW.cell (p := ⟨w.heap.size, 1, none⟩) (z1)).trans (q1)
          have k2 := (hW.cell (p := ⟨b, o + k * 2, none⟩) (zb)).trans (d1)
          have k3 := (hW.cell (p := ⟨b, o + k * 2 + 1, none⟩) (zb)).trans (d2)
          clear hs hd
          unfold Grows
          go_simp
          exact Below.refl _ _
        · intro a W hW hs hd
          have e4 : a.tmps[4]?.getD undef = .int .i64 k := hs 4 (by kernel_rfl)
          clear hs hd
          unfold Grows
          go_simp
          exact Below.refl _ _
        · intro a W hW hs hd
          have e16 : (a.tmps[16]?.getD undef) = .agg #[.int .i64 N, .slice (some ⟨b, o, none⟩) m c] := hd 0 16 (by kernel_rfl) (by kernel_rfl)
          have e22 : (a.tmps[22]?.getD undef) = .int .i64 x := hd 6 22 (by kernel_rfl) (by kernel_rfl)
          have e23 : (a.tmps[23]?.getD undef) = .int .i64 k := hd 7 23 (by kernel_rfl) (by kernel_rfl)
          clear hs hd
          unfold Grows
          go_simp
          refine ⟨Below.refl _ _, (HFA.out W (E.below hW)).mono ?_⟩
          rintro e w6 ⟨g6, rfl, hg6, R6, hb6⟩
          exact ⟨_, rfl, hb6, g6, rfl, Nat.le_trans (hW.size) hg6, R6⟩
        · intro a W hW hs hd
          have e1 : a.tmps[1]?.getD undef = .pointer (some ⟨w.heap.size, 0, none⟩) := hs 1 (by kernel_rfl)
          have k0 := (hW.cell (p := ⟨w.heap.size, 0, none⟩) (z1)).trans (p1)
          have k1 := (hW.cell (p := ⟨w.heap.size, 1, none⟩) (z1)).trans (q1)
          have k2 := (hW.cell (p := ⟨b, o + k * 2, none⟩) (zb)).trans (d1)
          have k3 := (hW.cell (p := ⟨b, o + k * 2 + 1, none⟩) (zb)).trans (d2)
          clear hs hd
          unfold Grows
          go_simp
          exact Below.refl _ _
        · intro a W hW hs hd
          have e25 : (a.tmps[25]?.getD undef) = .pointer (some ⟨w.heap.size, 1, none⟩) := hd 9 25 (by kernel_rfl) (by kernel_rfl)
          have k0 := (hW.cell (p := ⟨w.heap.size, 0, none⟩) (z1)).trans (p1)
          have k1 := (hW.cell (p := ⟨w.heap.size, 1, none⟩) (z1)).trans (q1)
          have k2 := (hW.cell (p := ⟨b, o + k * 2, none⟩) (zb)).trans (d1)
          have k3 := (hW.cell (p := ⟨b, o + k * 2 + 1, none⟩) (zb)).trans (d2)
          clear hs hd
          unfold Grows
          go_simp
          exact Below.refl _ _
        · intro a W hW hs hd
          have e4 : a.tmps[4]?.getD undef = .int .i64 k := hs 4 (by kernel_rfl)
          clear hs hd
          unfold Grows
          go_simp
          exact Below.refl _ _
        · intro a W hW hs hd
          have e26 : (a.tmps[26]?.getD undef) = .slice (some ⟨b, o, none⟩) m c := hd 10 26 (by kernel_rfl) (by kernel_rfl)
          have e27 : (a.tmps[27]?.getD undef) = .int .i64 k := hd 11 27 (by kernel_rfl) (by kernel_rfl)
          have k0 := (hW.cell (p := ⟨w.heap.size, 0, none⟩) (z1)).trans (p1)
          have k1 := (hW.cell (p := ⟨w.heap.size, 1, none⟩) (z1)).trans (q1)
          have k2 := (hW.cell (p := ⟨b, o + k * 2, none⟩) (zb)).trans (d1)
          have k3 := (hW.cell (p := ⟨b, o + k * 2 + 1, none⟩) (zb)).trans (d2)
          clear hs hd
          unfold Grows
          go_simp
          exact Below.refl _ _
        · intro a W hW hs hd
          have e28 : (a.tmps[28]?.getD undef) = .pointer (some ⟨b, o + k * 2, none⟩) := hd 12 28 (by kernel_rfl) (by kernel_rfl)
          have k0 := (hW.cell (p := ⟨w.heap.size, 0, none⟩) (z1)).trans (p1)
          have k1 := (hW.cell (p := ⟨w.heap.size, 1, none⟩) (z1)).trans (q1)
          have k2 := (hW.cell (p := ⟨b, o + k * 2, none⟩) (zb)).trans (d1)
          have k3 := (hW.cell (p := ⟨b, o + k * 2 + 1, none⟩) (zb)).trans (d2)
          clear hs hd
          unfold Grows
          go_simp
          exact Below.refl _ _
        · intro a W hW hs hd
          have e29 : (a.tmps[29]?.getD undef) = .pointer (some ⟨b, o + k * 2 + 1, none⟩) := hd 13 29 (by kernel_rfl) (by kernel_rfl)
          have k0 := (hW.cell (p := ⟨w.heap.size, 0, none⟩) (z1)).trans (p1)
          have k1 := (hW.cell (p := ⟨w.heap.size, 1, none⟩) (z1)).trans (q1)
          have k2 := (hW.cell (p := ⟨b, o + k * 2, none⟩) (zb)).trans (d1)
          have k3 := (hW.cell (p := ⟨b, o + k * 2 + 1, none⟩) (zb)).trans (d2)
          clear hs hd
          unfold Grows
          go_simp
          exact Below.refl _ _
        · intro a W hW hs hd
          have e24 : NewI wr.heap.size (N) (fun v => farF es (skI k) N x v) (a.tmps[24]?.getD undef) W := hd 8 24 (by kernel_rfl) (by kernel_rfl)
          obtain ⟨g24, e24, hg24, R24⟩ := e24
          have e30 : (a.tmps[30]?.getD undef) = .int .i64 y := hd 14 30 (by kernel_rfl) (by kernel_rfl)
          have k0 := (hW.cell (p := ⟨w.heap.size, 0, none⟩) (z1)).trans (p1)
          have k1 := (hW.cell (p := ⟨w.heap.size, 1, none⟩) (z1)).trans (q1)
          have k2 := (hW.cell (p := ⟨b, o + k * 2, none⟩) (zb)).trans (d1)
          have k3 := (hW.cell (p := ⟨b, o + k * 2 + 1, none⟩) (zb)).trans (d2)
          have hj24 := R24.lt
          clear hs hd
          unfold Grows
          go_simp
          exact ⟨Below.refl _ _, _, R24.lt, rfl, R24.cell (hyN)⟩
        · intro a W hW hs hd
          have e31 : PtrV (.int .i64 (farF es (skI k) N x y)) (a.tmps[31]?.getD undef) W := hd 15 31 (by kernel_rfl) (by kernel_rfl)
          obtain ⟨p31, hp31, e31, hc31⟩ := e31
          have k0 := (hW.cell (p := ⟨w.heap.size, 0, none⟩) (z1)).trans (p1)
          have k1 := (hW.cell (p := ⟨w.heap.size, 1, none⟩) (z1)).trans (q1)
          have k2 := (hW.cell (p := ⟨b, o + k * 2, none⟩) (zb)).trans (d1)
          have k3 := (hW.cell (p := ⟨b, o + k * 2 + 1, none⟩) (zb)).trans (d2)
          clear hs hd
          unfold Grows
          go_simp
          exact Below.refl _ _
        · intro a W hW hs hd
          have e32 : (a.tmps[32]?.getD undef) = .int .i64 (farF es (skI k) N x y) := hd 16 32 (by kernel_rfl) (by kernel_rfl)
          clear hs hd
          unfold Grows
          go_simp
          exact Below.refl _ _
      intro vs W hW hf
      have f5 : vs 5 = .int .i64 (farF es (skI k) N x y) := hf 17 5 (by kernel_rfl)
      simp only [dsts, List.filterMap_cons, List.filterMap_nil, List.foldl_cons, List.foldl_nil, Act.put, List.setIfInBounds_toArray, List.set_cons_succ, List.set_cons_zero, f5]
      clear hf
      have hb2 := hb1.andB hW
      obtain ⟨f, hf⟩ : ∃ f, farF es (skI k) N x y = f := ⟨_, rfl⟩
      rw [hf] at hfb HST ⊢
      clear hf d1 d2 p1 q1 z1 zb E f5
      by_cases h0 : 0 < f
      · have HST := Lib.hid (HST.out.trans (if_pos h0))
        by_cases h1 : f + 1 < gk
        all_goals
          go_wp2_with fail
          go_roundw
          case rel => exact ⟨k + 1, by omega, by go_num, by rw [HST.out]; congr 1; omega, hb2⟩
          case measure => simp [intOf]; omega
      · have HST := Lib.hid (HST.out.trans (if_neg h0))
        go_wp2_with fail
        go_roundw
        case rel => exact ⟨k + 1, by omega, by go_num, by rw [HST.out], hb2⟩
        case measure => simp [intOf]; omega
    · obtain rfl : k = m := by omega
      go_wp2_with fail
      go_ret
      exact ⟨rfl, hbr⟩
set_option maxHeartbeats 400000 in
theorem spGirthOf_any (n : Int) (b o m c : Nat) (es : List (Int × Int)) (w : World) (h : Eds w b o m es) (hm : m ≤ 1048576) :
    Calls Try.prog 21 #[.agg #[.int .i64 n, .slice (some ⟨b, o, none⟩) m c]] w (Ret (.tuple #[.int .i64 (giV n es), .int .i64 (imC n es)]) w) := by
  have hbox := Box2.made w (.int .i64 n) (.slice (some ⟨b, o, none⟩) m c) 31
  have hbb := (by go_grown : Below w.heap.size w (w.alloc (.cells #[.int .i64 n, .slice (some ⟨b, o, none⟩) m c] 31)))
  have HSP := Lib.hid (l01Is_any n b o m c es _ (h.alloc (.cells #[.int .i64 n, .slice (some ⟨b, o, none⟩) m c] 31)) hm)
  by_cases hG : IsG n es
  · have HC : Hid (imC n es = 0) := by simp [Hid, imC, B_true hG]
    have HR : Hid (giV n es = gTo n es m) := by simp [Hid, giV, B_true hG, h.len]
    have HG := Lib.hid hG
    rw [B_true hG] at HSP
    clear hG
    go_enter Try.func21, Try.ntmps21
    go_wp2_with fail
    refine HSP.out.mono ?_
    rintro e w1 ⟨rfl, hb1⟩
    have hB1 := hbb.thenB (by simp) hb1
    obtain ⟨s1, p1, q1⟩ := hbox.below hb1
    clear hb1 hbb hbox
    go_wp2_with fail
    refine (l01Girth_any n b o m c es _ (h.below hB1) hm HG.out.wf).mono ?_
    rintro e w2 ⟨rfl, hb2⟩
    go_wp2_with fail
    go_ret2
    exact ⟨ret2 HR.out.symm HC.out.symm, hB1.andB hb2⟩
  · have HC : Hid (imC n es = 1) := by simp [Hid, imC, B_false hG]
    have HR : Hid (giV n es = 0) := by simp [Hid, giV, B_false hG]
    rw [B_false hG] at HSP
    clear hG hbox
    go_enter Try.func21, Try.ntmps21
    go_wp2_with fail
    refine HSP.out.mono ?_
    rintro e w1 ⟨rfl, hb1⟩
    have hB1 := hbb.thenB (by simp) hb1
    clear hb1 hbb
    go_wp2_with fail
    go_ret2
    exact ⟨ret2 HR.out.symm HC.out.symm, hB1⟩
set_option maxRecDepth 100000 in
set_option maxHeartbeats 1600000 in
theorem imGirthOf_any (n : Int) (b o m c : Nat) (es : List (Int × Int)) (w : World) (h : Eds w b o m es) (hm : m ≤ 1048576) :
    Calls Try.prog 22 #[.agg #[.int .i64 n, .slice (some ⟨b, o, none⟩) m c]] w (Ret (.tuple #[.int .i64 (giV n es), .int .i64 (imC n es)]) w) := by
  have hbox := Box2.made w (.int .i64 n) (.slice (some ⟨b, o, none⟩) m c) 31
  have hbb := (by go_grown : Below w.heap.size w (w.alloc (.cells #[.int .i64 n, .slice (some ⟨b, o, none⟩) m c] 31)))
  have HGC := Lib.hid (graphCode_any n b o m c es true _ (h.alloc (.cells #[.int .i64 n, .slice (some ⟨b, o, none⟩) m c] 31)) hm)
  by_cases hG : IsG n es
  rotate_left
  · have HC : Hid (imC n es = 1) := by simp [Hid, imC, B_false hG]
    have HR : Hid (giV n es = 0) := by simp [Hid, giV, B_false hG]
    rw [show gcC n es true = 1 by simp [gcC, B_false hG]] at HGC
    clear hG hbox
    go_enter Try.func22, Try.ntmps22
    go_wp2_with fail
    refine HGC.out.mono ?_
    rintro e w1 ⟨rfl, hb1⟩
    have hB1 := hbb.thenB (by simp) hb1
    clear hb1 hbb
    go_wp2_with fail
    go_ret2
    exact ⟨ret2 HR.out.symm HC.out.symm, hB1⟩
  have HC : Hid (imC n es = 0) := by simp [Hid, imC, B_true hG]
  have HR : Hid (giV n es = gTo n es m) := by simp [Hid, giV, B_true hG, h.len]
  have HW := Lib.hid hG.wf
  rw [show gcC n es true = 0 by simp [gcC, B_true hG]] at HGC
  have hl := Lib.hid h.len
  have hn2 := hG.wf.1
  have hn20 := hG.wf.2.1
  have hm30 : m ≤ 30 := by have := hG.wf.2.2.2.1; have := h.len; omega
  obtain ⟨N, rfl⟩ : ∃ N : Nat, n = N := ⟨n.toNat, by omega⟩
  clear hG
  go_enter Try.func22, Try.ntmps22
  go_wp2_with fail
  refine HGC.out.mono ?_
  rintro e w1 ⟨rfl, hb1⟩
  have hB1 := hbb.thenB (by simp) hb1
  have hbx := hbox.below hb1
  obtain ⟨s1, p1, q1⟩ := hbox.below hb1
  clear hb1 hbb hbox
  go_wp2_with fail
  go_loopw [5, 20] (fun gv kv wr => ∃ k : Nat, k ≤ m ∧ kv = .int .i64 k ∧ gv = .int .i64 (gTo N es k) ∧ Below w1.heap.size w1 wr) (fun _ k _ => m - (intOf k).toNat)
  case atStart => exact ⟨0, Nat.zero_le _, rfl, rfl, Below.refl _ _⟩
  case round =>
    clear s1 p1 q1
    obtain ⟨w4, rfl⟩ : ∃ w4, w4 = wr := ⟨wr, rfl⟩
    obtain ⟨k, hk, rfl, rfl, hb1⟩ := hrel
    have hbr := hB1.andB hb1
    have hgb := gTo_bd HW.out k (by rw [hl.out]; exact hk)
    by_cases hlt : k < m
    · have r := HW.out.2.2.2.2 k (by rw [hl.out]; exact hlt)
      obtain ⟨x, hx⟩ : ∃ x : Nat, ea es k = x := ⟨(ea es k).toNat, by omega⟩
      obtain ⟨y, hy⟩ : ∃ y : Nat, eb es k = y := ⟨(eb es k).toNat, by omega⟩
      have hyN : y < N := by omega
      have E := h.below hbr
      have c1 := E.ca k hlt
      have c2 := E.cb k hlt
      rw [hx] at c1
      rw [hy] at c2
      have HFA := Lib.hid (fun W hE => skS_one k ▸ Int.toNat_natCast N ▸ distances_any N b o m c (2 ^ k) es x W hE hm HW.out (by omega) (by omega) (pow64 (by omega)))
      have hX := wrap_pow (x := k) (by omega)
      obtain ⟨pc, hpc⟩ : ∃ pc : Nat, pc = 2 ^ k := ⟨_, rfl⟩
      rw [← hpc] at HFA hX
      have hfb := farF_bd (sk := skI k) HW.out (a := x) (by omega) (by omega) y
      have hfp := farF_pos (sk := skI k) HW.out (a := x) (v := y) (by omega) (by omega) (by omega)
      have HST : Hid (gTo N es (k + 1) = if 0 ≤ farF es (skI k) N x y then min (gTo N es k) (farF es (skI k) N x y + 1) else gTo N es k) := by
        show (if 0 < gF _ _ _ then _ else _) = _; unfold gF; rw [hx, hy]
        by_cases h0 : 0 < farF es (skI k) N x y
        · rw [if_pos h0, if_pos (by omega)]
        · rw [if_neg h0, if_neg (by omega)]
      obtain ⟨gk, hgk⟩ : ∃ gk, gTo N es k = gk := ⟨_, rfl⟩
      rw [hgk] at HST hgb ⊢
      have X4 := (hbx.below hb1).below ((Below.refl _ _).alloc (Nat.le_refl _) (.cells #[.int .i64 x, .int .i64 y] 63))
      have Y4 := Box2.made w4 (.int .i64 x) (.int .i64 y) 63
      have hb4 := hb1.andB ((Below.refl w4.heap.size w4).alloc (Nat.le_refl _) (.cells #[.int .i64 x, .int .i64 y] 63))
      have E := E.alloc (.cells #[.int .i64 x, .int .i64 y] 63)
      clear r hx hy hgk hpc hfp
      go_wp2_with fail
      obtain ⟨w5, hw5⟩ : ∃ w5, w5 = w4.alloc (.cells #[.int .i64 x, .int .i64 y] 63) := ⟨_, rfl⟩
      rw [← hw5] at X4 Y4 hb4 E ⊢
      obtain ⟨z1, p1, q1⟩ := X4
      obtain ⟨z2, d1, d2⟩ := Y4
      clear hw5 c1 c2
      refine wp_region_facts (fun i v W => match i with
        | 0 => v = .agg #[.int .i64 N, .slice (some ⟨b, o, none⟩) m c]
        | 1 => v = .pointer (some ⟨w4.heap.size, 0, none⟩)
        | 2 => v = .int .i64 x
        | 3 => v = .int .i64 k
        | 4 => v = .int .u64 pc
        | 5 => NewI w5.heap.size (N) (fun v => farF es (skI k) N x v) v W
        | 6 => v = .pointer (some ⟨w4.heap.size, 1, none⟩)
        | 7 => v = .int .i64 y
        | 8 => PtrV (.int .i64 (farF es (skI k) N x y)) v W
        | 9 => v = .int .i64 (farF es (skI k) N x y)
        | _ => v = .int .i64 (farF es (skI k) N x y)) (by kernel_rfl) (by kernel_rfl) ?_ ?_ ?_
      · intro i v W W' hf hb
        match i, hf with
        | 0, hf => exact hf
        | 1, hf => exact hf
        | 2, hf => exact hf
        | 3, hf => exact hf
        | 4, hf => exact hf
        | 5, hf => exact NewI.below hf hb
        | 6, hf => exact hf
        | 7, hf => exact hf
        | 8, hf => exact PtrV.below hf hb
        | 9, hf => exact hf
        | (i + 10), hf => exact hf
      · refine ⟨?_, ?_, ?_, ?_, ?_, ?_, ?_, ?_, ?_, ?_, ?_, trivial⟩
        · intro a W hW hs hd
          have e1 : a.tmps[1]?.getD undef = .pointer (some ⟨w.heap.size, 0, none⟩) := hs 1 (by kernel_rfl)
          have k0 := (hW.cell (p := ⟨w.heap.size, 0, none⟩) (z1)).trans (p1)
          have k1 := (hW.cell (p := ⟨w.heap.size, 1, none⟩) (z1)).trans (q1)
          have k2 := (hW.cell (p := ⟨w4.heap.size, 0, none⟩) (z2)).trans (d1)
          have k3 := (hW.cell (p := ⟨w4.heap.size, 1, none⟩) (z2)).trans (d2)
          clear hs hd
          unfold Grows
          go_simp
          exact Below.refl _ _
        · intro a W hW hs hd
          have e7 : a.tmps[7]?.getD undef = .pointer (some ⟨w4.heap.size, 0, none⟩) := hs 7 (by kernel_rfl)
          have k0 := (hW.cell (p := ⟨w.heap.size, 0, none⟩) (z1)).trans (p1)
          have k1 := (hW.cell (p := ⟨w.heap.size, 1, none⟩) (z1)).trans (q1)
          have k2 := (hW.cell (p := ⟨w4.heap.size, 0, none⟩) (z2)).trans (d1)
          have k3 := (hW.cell (p := ⟨w4.heap.size, 1, none⟩) (z2)).trans (d2)
          clear hs hd
          unfold Grows
          go_simp
          exact Below.refl _ _
        · intro a W hW hs hd
          have e26 : (a.tmps[26]?.getD undef) = .pointer (some ⟨w4.heap.size, 0, none⟩) := hd 1 26 (by kernel_rfl) (by kernel_rfl)
          have k0 := (hW.cell (p := ⟨w.heap.size, 0, none⟩) (z1)).trans (p1)
          have k1 := (hW.cell (p := ⟨w.heap.size, 1, none⟩) (z1)).trans (q1)
          have k2 := (hW.cell (p := ⟨w4.heap.size, 0, none⟩) (z2)).trans (d1)
          have k3 := (hW.cell (p := ⟨w4.heap.size, 1, none⟩) (z2)).trans (d2)
          clear hs hd
          unfold Grows
          go_simp
          exact Below.refl _ _
        · intro a W hW hs hd
          have e6 : a.tmps[6]?.getD undef = .int .i64 k := hs 6 (by kernel_rfl)
          clear hs hd
          unfold Grows
          go_simp
          exact Below.refl _ _
        · intro a W hW hs hd
          have e28 : (a.tmps[28]?.getD undef) = .int .i64 k := hd 3 28 (by kernel_rfl) (by kernel_rfl)
          clear hs hd
          unfold Grows
          go_simp
          exact Below.refl _ _
        · intro a W hW hs hd
          have e25 : (a.tmps[25]?.getD undef) = .agg #[.int .i64 N, .slice (some ⟨b, o, none⟩) m c] := hd 0 25 (by kernel_rfl) (by kernel_rfl)
          have e27 : (a.tmps[27]?.getD undef) = .int .i64 x := hd 2 27 (by kernel_rfl) (by kernel_rfl)
          have e29 : (a.tmps[29]?.getD undef) = .int .u64 pc := hd 4 29 (by kernel_rfl) (by kernel_rfl)
          clear hs hd
          unfold Grows
          go_simp
          refine ⟨Below.refl _ _, (HFA.out W (E.below hW)).mono ?_⟩
          rintro e w6 ⟨g6, rfl, hg6, R6, hb6⟩
          exact ⟨_, rfl, hb6, g6, rfl, Nat.le_trans (hW.size) hg6, R6⟩
        · intro a W hW hs hd
          have e7 : a.tmps[7]?.getD undef = .pointer (some ⟨w4.heap.size, 0, none⟩) := hs 7 (by kernel_rfl)
          have k0 := (hW.cell (p := ⟨w.heap.size, 0, none⟩) (z1)).trans (p1)
          have k1 := (hW.cell (p := ⟨w.heap.size, 1, none⟩) (z1)).trans (q1)
          have k2 := (hW.cell (p := ⟨w4.heap.size, 0, none⟩) (z2)).trans (d1)
          have k3 := (hW.cell (p := ⟨w4.heap.size, 1, none⟩) (z2)).trans (d2)
          clear hs hd
          unfold Grows
          go_simp
          exact Below.refl _ _
        · intro a W hW hs hd
          have e31 : (a.tmps[31]?.getD undef) = .pointer (some ⟨w4.heap.size, 1, none⟩) := hd 6 31 (by kernel_rfl) (by kernel_rfl)
          have k0 := (hW.cell (p := ⟨w.heap.size, 0, none⟩) (z1)).trans (p1)
          have k1 := (hW.cell (p := ⟨w.heap.size, 1, none⟩) (z1)).trans (q1)
          have k2 := (hW.cell (p := ⟨w4.heap.size, 0, none⟩) (z2)).trans (d1)
          have k3 := (hW.cell (p := ⟨w4.heap.size, 1, none⟩) (z2)).trans (d2)
          clear hs hd
          unfold Grows
          go_simp
          exact Below.refl _ _
        · intro a W hW hs hd
          have e30 : NewI w5.heap.size (N) (fun v => farF es (skI k) N x v) (a.tmps[30]?.getD undef) W := hd 5 30 (by kernel_rfl) (by kernel_rfl)
          obtain ⟨g30, e30, hg30, R30⟩ := e30
          have e32 : (a.tmps[32]?.getD undef) = .int .i64 y := hd 7 32 (by kernel_rfl) (by kernel_rfl)
          have k0 := (hW.cell (p := ⟨w.heap.size, 0, none⟩) (z1)).trans (p1)
          have k1 := (hW.cell (p := ⟨w.heap.size, 1, none⟩) (z1)).trans (q1)
          have k2 := (hW.cell (p := ⟨w4.heap.size, 0, none⟩) (z2)).trans (d1)
          have k3 := (hW.cell (p := ⟨w4.heap.size, 1, none⟩) (z2)).trans (d2)
          have hj30 := R30.lt
          clear hs hd
          unfold Grows
          go_simp
          exact ⟨Below.refl _ _, _, R30.lt, rfl, R30.cell (hyN)⟩
        · intro a W hW hs hd
          have e33 : PtrV (.int .i64 (farF es (skI k) N x y)) (a.tmps[33]?.getD undef) W := hd 8 33 (by kernel_rfl) (by kernel_rfl)
          obtain ⟨p33, hp33, e33, hc33⟩ := e33
          have k0 := (hW.cell (p := ⟨w.heap.size, 0, none⟩) (z1)).trans (p1)
          have k1 := (hW.cell (p := ⟨w.heap.size, 1, none⟩) (z1)).trans (q1)
          have k2 := (hW.cell (p := ⟨w4.heap.size, 0, none⟩) (z2)).trans (d1)
          have k3 := (hW.cell (p := ⟨w4.heap.size, 1, none⟩) (z2)).trans (d2)
          clear hs hd
          unfold Grows
          go_simp
          exact Below.refl _ _
        · intro a W hW hs hd
          have e34 : (a.tmps[34]?.getD undef) = .int .i64 (farF es (skI k) N x y) := hd 9 34 (by kernel_rfl) (by kernel_rfl)
          clear hs hd
          unfold Grows
          go_simp
          exact Below.refl _ _
      intro vs W hW hf
      have f8 : vs 8 = .int .i64 (farF es (skI k) N x y) := hf 10 8 (by kernel_rfl)
      simp only [dsts, List.filterMap_cons, List.filterMap_nil, List.foldl_cons, List.foldl_nil, Act.put, List.setIfInBounds_toArray, List.set_cons_succ, List.set_cons_zero, f8]
      clear hf
      have hb2 := hb4.andB hW
      obtain ⟨f, hf⟩ : ∃ f, farF es (skI k) N x y = f := ⟨_, rfl⟩
      rw [hf] at hfb HST ⊢
      clear hf d1 d2 p1 q1 z1 z2 E f8 hX
      by_cases h0 : 0 ≤ f
      · have HST := Lib.hid (HST.out.trans (if_pos h0))
        by_cases h1 : f + 1 < gk
        all_goals
          go_wp2_with fail
          go_roundw
          case rel => exact ⟨k + 1, by omega, by go_num, by rw [HST.out]; congr 1; omega, hb2⟩
          case measure => simp [intOf]; omega
      · have HST := Lib.hid (HST.out.trans (if_neg h0))
        go_wp2_with fail
        go_roundw
        case rel => exact ⟨k + 1, by omega, by go_num, by rw [HST.out], hb2⟩
        case measure => simp [intOf]; omega
    · obtain rfl : k = m := by omega
      go_wp2_with fail
      go_ret2
      exact ⟨ret2 HR.out.symm HC.out.symm, hbr⟩
end Go.Proofs.Ytjdhibcijjnopaa
