import Derived.Test.YtajnhkkiddeegaaGreatZp24
set_option linter.unusedVariables false
set_option linter.unusedSimpArgs false
namespace Go.Proofs.YtajnhkkiddeegaaGreat
open Go.RowKit Go.Sort
def gF (n : Int) (es : List (Int × Int)) (k : Nat) : Int := farF es (skI k) n (ea es k) (eb es k)
def gTo (n : Int) (es : List (Int × Int)) : Nat → Int
  | 0 => n + 1
  | k + 1 => if 0 < gF n es k then min (gTo n es k) (gF n es k + 1) else gTo n es k
theorem gTo_bd {n : Int} {es : List (Int × Int)} (hn : WfP n es) (k : Nat) (hk : k ≤ es.length) : 0 ≤ gTo n es k ∧ gTo n es k ≤ 21 := by
  have h20 := hn.2.1
  have h2 := hn.1
  induction k with
  | zero => simp only [gTo]; omega
  | succ k ih =>
    have := ih (by omega)
    simp only [gTo]
    split <;> omega
noncomputable def giV (n : Int) (es : List (Int × Int)) : Int := if B (IsG n es) then gTo n es es.length else 0
set_option maxRecDepth 100000 in
set_option maxHeartbeats 1600000 in
theorem l01Girth_any (n : Int) (b o m c : Nat) (es : List (Int × Int)) (w : World) (h : Eds w b o m es) (hm : m ≤ 1048576) (hn : WfP n es) :
    Calls Tryz.prog 97 #[.agg #[.int .i64 n, .slice (some ⟨b, o, none⟩) m c]] w (Ret (.int .i64 (gTo n es m)) w) := by
  have hl := Lib.hid h.len
  have HW := Lib.hid hn
  have hn2 := hn.1
  have hn20 := hn.2.1
  obtain ⟨N, rfl⟩ : ∃ N : Nat, n = N := ⟨n.toNat, by omega⟩
  clear hn
  go_enter Tryz.func97, Tryz.ntmps97
  go_wp2_with fail
  have hbb := (by go_grown : Below w.heap.size w (w.alloc (.cells #[.int .i64 N, .slice (some ⟨b, o, none⟩) m c] 26)))
  have hbx := Box2.made w (.int .i64 N) (.slice (some ⟨b, o, none⟩) m c) 26
  obtain ⟨w1, hw1⟩ : ∃ w1, w1 = w.alloc (Obj.cells #[Value.int IntKind.i64 N, Value.slice (some ⟨b, o, none⟩) m c] 26) := ⟨_, rfl⟩
  rw [← hw1] at hbb hbx ⊢
  clear hw1
  go_loopw [3, 4] (fun gv kv wr => ∃ k : Nat, k ≤ m ∧ kv = .int .i64 k ∧ gv = .int .i64 (gTo N es k) ∧ Below w1.heap.size w1 wr) (fun _ k _ => m - (intOf k).toNat)
  case atStart => exact ⟨0, Nat.zero_le _, rfl, rfl, Below.refl _ _⟩
  case round =>
    obtain ⟨k, hk, rfl, rfl, hb1⟩ := hrel
    have hbr := hbb.andB hb1
    obtain ⟨z1, p1, q1⟩ := hbx.below hb1
    have hgb := gTo_bd HW.out k (by rw [hl.out]; exact hk)
    by_cases hlt : k < m
    · have r := HW.out.2.2.2.2 k (by rw [hl.out]; exact hlt)
      obtain ⟨x, hx⟩ : ∃ x : Nat, ea es k = x := ⟨(ea es k).toNat, by omega⟩
      obtain ⟨y, hy⟩ : ∃ y : Nat, eb es k = y := ⟨(eb es k).toNat, by omega⟩
      have hyN : y < N := by omega
      have E := h.below hbr
      have d1 := E.ca k hlt
      have d2 := E.cb k hlt
      have zb := E.blk
      rw [hx] at d1
      rw [hy] at d2
      have HFA := Lib.hid (fun W hE => Int.toNat_natCast N ▸ l01Far_any N b o m c es x k W hE hm HW.out (by omega) (by omega))
      have hfb := farF_bd (sk := skI k) HW.out (a := x) (by omega) (by omega) y
      have HST : Hid (gTo N es (k + 1) = if 0 < farF es (skI k) N x y then min (gTo N es k) (farF es (skI k) N x y + 1) else gTo N es k) := by
        show (if 0 < gF _ _ _ then _ else _) = _; unfold gF; rw [hx, hy]
      obtain ⟨gk, hgk⟩ : ∃ gk, gTo N es k = gk := ⟨_, rfl⟩
      rw [hgk] at HST hgb ⊢
      clear r hx hy hgk
      go_wp2_with fail
      refine wp_region_facts (fun i v W => match i with
        | 0 => v = .agg #[.int .i64 N, .slice (some ⟨b, o, none⟩) m c]
        | 1 => v = .pointer (some ⟨w.heap.size, 1, none⟩)
        | 2 => v = .slice (some ⟨b, o, none⟩) m c
        | 3 => v = .int .i64 k
        | 4 => v = .pointer (some ⟨b, o + k * 2, none⟩)
        | 5 => v = .pointer (some ⟨b, o + k * 2, none⟩)
        | 6 => v = .int .i64 x
        | 7 => v = .int .i64 k
        | 8 => NewI wr.heap.size (N) (fun v => farF es (skI k) N x v) v W
        | 9 => v = .pointer (some ⟨w.heap.size, 1, none⟩)
        | 10 => v = .slice (some ⟨b, o, none⟩) m c
        | 11 => v = .int .i64 k
        | 12 => v = .pointer (some ⟨b, o + k * 2, none⟩)
        | 13 => v = .pointer (some ⟨b, o + k * 2 + 1, none⟩)
        | 14 => v = .int .i64 y
        | 15 => PtrV (.int .i64 (farF es (skI k) N x y)) v W
        | 16 => v = .int .i64 (farF es (skI k) N x y)
        | _ => v = .int .i64 (farF es (skI k) N x y)) (by kernel_rfl) (by kernel_rfl) ?_ ?_ ?_
      · intro i v W W' hf hb
        match i, hf with
        | 0, hf => exact hf
        | 1, hf => exact hf
        | 2, hf => exact hf
        | 3, hf => exact hf
        | 4, hf => exact hf
        | 5, hf => exact hf
        | 6, hf => exact hf
        | 7, hf => exact hf
        | 8, hf => exact NewI.below hf hb
        | 9, hf => exact hf
        | 10, hf => exact hf
        | 11, hf => exact hf
        | 12, hf => exact hf
        | 13, hf => exact hf
        | 14, hf => exact hf
        | 15, hf => exact PtrV.below hf hb
        | 16, hf => exact hf
        | (i + 17), hf => exact hf
      · refine ⟨?_, ?_, ?_, ?_, ?_, ?_, ?_, ?_, ?_, ?_, ?_, ?_, ?_, ?_, ?_, ?_, ?_, ?_, trivial⟩
        · intro a W hW hs hd
          have e1 : a.tmps[1]?.getD undef = .pointer (some ⟨w.heap.size, 0, none⟩) := hs 1 (by kernel_rfl)
          have k0 := (hW.cell (p := ⟨w.heap.size, 0, none⟩) (z1)).trans (p1)
          have k1 := (hW.cell (p := ⟨w.heap.size, 1, none⟩) (z1)).trans (q1)
          have k2 := (hW.cell (p := ⟨b, o + k * 2, none⟩) (zb)).trans (d1)
          have k3 := (hW.cell (p := ⟨b, o + k * 2 + 1, none⟩) (zb)).trans (d2)
          clear hs hd
          unfold Grows
          go_simp
          exact Below.refl _ _
        · intro a W hW hs hd
          have e1 : a.tmps[1]?.getD undef = .pointer (some ⟨w.heap.size, 0, none⟩) := hs 1 (by kernel_rfl)
          have k0 := (hW.cell (p := ⟨w.heap.size, 0, none⟩) (z1)).trans (p1)
          have k1 := (hW.cell (p := ⟨w.heap.size, 1, none⟩) (z1)).trans (q1)
          have k2 := (hW.cell (p := ⟨b, o + k * 2, none⟩) (zb)).trans (d1)
          have k3 := (hW.cell (p := ⟨b, o + k * 2 + 1, none⟩) (zb)).trans (d2)
          clear hs hd
          unfold Grows
          go_simp
          exact Below.refl _ _
        · intro a W hW hs hd
          have e17 : (a.tmps[17]?.getD undef) = .pointer (some ⟨w.heap.size, 1, none⟩) := hd 1 17 (by kernel_rfl) (by kernel_rfl)
          have k0 := (hW.cell (p := ⟨w.heap.size, 0, none⟩) (z1)).trans (p1)
          have k1 := (hW.cell (p := ⟨w.heap.size, 1, none⟩) (z1)).trans (q1)
          have k2 := (hW.cell (p := ⟨b, o + k * 2, none⟩) (zb)).trans (d1)
          have k3 := (hW.cell (p := ⟨b, o + k * 2 + 1, none⟩) (zb)).trans (d2)
          clear hs hd
          unfold Grows
          go_simp
          exact Below.refl _ _
        · intro a W hW hs hd
          have e4 : a.tmps[4]?.getD undef = .int .i64 k := hs 4 (by kernel_rfl)
          clear hs hd
          unfold Grows
          go_simp
          exact Below.refl _ _
        · intro a W hW hs hd
          have e18 : (a.tmps[18]?.getD undef) = .slice (some ⟨b, o, none⟩) m c := hd 2 18 (by kernel_rfl) (by kernel_rfl)
          have e19 : (a.tmps[19]?.getD undef) = .int .i64 k := hd 3 19 (by kernel_rfl) (by kernel_rfl)
          have k0 := (hW.cell (p := ⟨w.heap.size, 0, none⟩) (z1)).trans (p1)
          have k1 := (hW.cell (p := ⟨w.heap.size, 1, none⟩) (z1)).trans (q1)
          have k2 := (hW.cell (p := ⟨b, o + k * 2, none⟩) (zb)).trans (d1)
          have k3 := (hW.cell (p := ⟨b, o + k * 2 + 1, none⟩) (zb)).trans (d2)
          clear hs hd
          unfold Grows
          go_simp
          exact Below.refl _ _
        · intro a W hW hs hd
          have e20 : (a.tmps[20]?.getD undef) = .pointer (some ⟨b, o + k * 2, none⟩) := hd 4 20 (by kernel_rfl) (by kernel_rfl)
          have k0 := (hW.cell (p := ⟨w.heap.size, 0, none⟩) (z1)).trans (p1)
          have k1 := (hW.cell (p := ⟨w.heap.size, 1, none⟩) (z1)).trans (q1)
          have k2 := (hW.cell (p := ⟨b, o + k * 2, none⟩) (zb)).trans (d1)
          have k3 := (hW.cell (p := ⟨b, o + k * 2 + 1, none⟩) (zb)).trans (d2)
          clear hs hd
          unfold Grows
          go_simp
          exact Below.refl _ _
        · intro a W hW hs hd
          have e21 : (a.tmps[21]?.getD undef) = .pointer (some ⟨b, o + k * 2, none⟩) := hd 5 21 (by kernel_rfl) (by kernel_rfl)
          have k0 := (hW.cell (p := ⟨w.heap.size, 0, none⟩) (z1)).trans (p1)
          have k1 := (hW.cell (p := ⟨w.heap.size, 1, none⟩) (z1)).trans (q1)
          have k2 := (hW.cell (p := ⟨b, o + k * 2, none⟩) (zb)).trans (d1)
          have k3 := (hW.cell (p := ⟨b, o + k * 2 + 1, none⟩) (zb)).trans (d2)
          clear hs hd
          unfold Grows
          go_simp
          exact Below.refl _ _
        · intro a W hW hs hd
          have e4 : a.tmps[4]?.getD undef = .int .i64 k := hs 4 (by kernel_rfl)
          clear hs hd
          unfold Grows
          go_simp
          exact Below.refl _ _
        · intro a W hW hs hd
          have e16 : (a.tmps[16]?.getD undef) = .agg #[.int .i64 N, .slice (some ⟨b, o, none⟩) m c] := hd 0 16 (by kernel_rfl) (by kernel_rfl)
          have e22 : (a.tmps[22]?.getD undef) = .int .i64 x := hd 6 22 (by kernel_rfl) (by kernel_rfl)
          have e23 : (a.tmps[23]?.getD undef) = .int .i64 k := hd 7 23 (by kernel_rfl) (by kernel_rfl)
          clear hs hd
          unfold Grows
          go_simp
          refine ⟨Below.refl _ _, (HFA.out W (E.below hW)).mono ?_⟩
          rintro e w6 ⟨g6, rfl, hg6, R6, hb6⟩
          exact ⟨_, rfl, hb6, g6, rfl, Nat.le_trans (hW.size) hg6, R6⟩
        · intro a W hW hs hd
          have e1 : a.tmps[1]?.getD undef = .pointer (some ⟨w.heap.size, 0, none⟩) := hs 1 (by kernel_rfl)
          have k0 := (hW.cell (p := ⟨w.heap.size, 0, none⟩) (z1)).trans (p1)
          have k1 := (hW.cell (p := ⟨w.heap.size, 1, none⟩) (z1)).trans (q1)
          have k2 := (hW.cell (p := ⟨b, o + k * 2, none⟩) (zb)).trans (d1)
          have k3 := (hW.cell (p := ⟨b, o + k * 2 + 1, none⟩) (zb)).trans (d2)
          clear hs hd
          unfold Grows
          go_simp
          exact Below.refl _ _
        · intro a W hW hs hd
          have e25 : (a.tmps[25]?.getD undef) = .pointer (some ⟨w.heap.size, 1, none⟩) := hd 9 25 (by kernel_rfl) (by kernel_rfl)
          have k0 := (hW.cell (p := ⟨w.heap.size, 0, none⟩) (z1)).trans (p1)
          have k1 := (hW.cell (p := ⟨w.heap.size, 1, none⟩) (z1)).trans (q1)
          have k2 := (hW.cell (p := ⟨b, o + k * 2, none⟩) (zb)).trans (d1)
          have k3 := (hW.cell (p := ⟨b, o + k * 2 + 1, none⟩) (zb)).trans (d2)
          clear hs hd
          unfold Grows
          go_simp
          exact Below.refl _ _
        · intro a W hW hs hd
          have e4 : a.tmps[4]?.getD undef = .int .i64 k := hs 4 (by kernel_rfl)
          clear hs hd
          unfold Grows
          go_simp
          exact Below.refl _ _
        · intro a W hW hs hd
          have e26 : (a.tmps[26]?.getD undef) = .slice (some ⟨b, o, none⟩) m c := hd 10 26 (by kernel_rfl) (by kernel_rfl)
          have e27 : (a.tmps[27]?.getD undef) = .int .i64 k := hd 11 27 (by kernel_rfl) (by kernel_rfl)
          have k0 := (hW.cell (p := ⟨w.heap.size, 0, none⟩) (z1)).trans (p1)
          have k1 := (hW.cell (p := ⟨w.heap.size, 1, none⟩) (z1)).trans (q1)
          have k2 := (hW.cell (p := ⟨b, o + k * 2, none⟩) (zb)).trans (d1)
          have k3 := (hW.cell (p := ⟨b, o + k * 2 + 1, none⟩) (zb)).trans (d2)
          clear hs hd
          unfold Grows
          go_simp
          exact Below.refl _ _
        · intro a W hW hs hd
          have e28 : (a.tmps[28]?.getD undef) = .pointer (some ⟨b, o + k * 2, none⟩) := hd 12 28 (by kernel_rfl) (by kernel_rfl)
          have k0 := (hW.cell (p := ⟨w.heap.size, 0, none⟩) (z1)).trans (p1)
          have k1 := (hW.cell (p := ⟨w.heap.size, 1, none⟩) (z1)).trans (q1)
          have k2 := (hW.cell (p := ⟨b, o + k * 2, none⟩) (zb)).trans (d1)
          have k3 := (hW.cell (p := ⟨b, o + k * 2 + 1, none⟩) (zb)).trans (d2)
          clear hs hd
          unfold Grows
          go_simp
          exact Below.refl _ _
        · intro a W hW hs hd
          have e29 : (a.tmps[29]?.getD undef) = .pointer (some ⟨b, o + k * 2 + 1, none⟩) := hd 13 29 (by kernel_rfl) (by kernel_rfl)
          have k0 := (hW.cell (p := ⟨w.heap.size, 0, none⟩) (z1)).trans (p1)
          have k1 := (hW.cell (p := ⟨w.heap.size, 1, none⟩) (z1)).trans (q1)
          have k2 := (hW.cell (p := ⟨b, o + k * 2, none⟩) (zb)).trans (d1)
          have k3 := (hW.cell (p := ⟨b, o + k * 2 + 1, none⟩) (zb)).trans (d2)
          clear hs hd
          unfold Grows
          go_simp
          exact Below.refl _ _
        · intro a W hW hs hd
          have e24 : NewI wr.heap.size (N) (fun v => farF es (skI k) N x v) (a.tmps[24]?.getD undef) W := hd 8 24 (by kernel_rfl) (by kernel_rfl)
          obtain ⟨g24, e24, hg24, R24⟩ := e24
          have e30 : (a.tmps[30]?.getD undef) = .int .i64 y := hd 14 30 (by kernel_rfl) (by kernel_rfl)
          have k0 := (hW.cell (p := ⟨w.heap.size, 0, none⟩) (z1)).trans (p1)
          have k1 := (hW.cell (p := ⟨w.heap.size, 1, none⟩) (z1)).trans (q1)
          have k2 := (hW.cell (p := ⟨b, o + k * 2, none⟩) (zb)).trans (d1)
          have k3 := (hW.cell (p := ⟨b, o + k * 2 + 1, none⟩) (zb)).trans (d2)
          have hj24 := R24.lt
          clear hs hd
          unfold Grows
          go_simp
          exact ⟨Below.refl _ _, _, R24.lt, rfl, R24.cell (hyN)⟩
        · intro a W hW hs hd
          have e31 : PtrV (.int .i64 (farF es (skI k) N x y)) (a.tmps[31]?.getD undef) W := hd 15 31 (by kernel_rfl) (by kernel_rfl)
          obtain ⟨p31, hp31, e31, hc31⟩ := e31
          have k0 := (hW.cell (p := ⟨w.heap.size, 0, none⟩) (z1)).trans (p1)
          have k1 := (hW.cell (p := ⟨w.heap.size, 1, none⟩) (z1)).trans (q1)
          have k2 := (hW.cell (p := ⟨b, o + k * 2, none⟩) (zb)).trans (d1)
          have k3 := (hW.cell (p := ⟨b, o + k * 2 + 1, none⟩) (zb)).trans (d2)
          clear hs hd
          unfold Grows
          go_simp
          exact Below.refl _ _
        · intro a W hW hs hd
          have e32 : (a.tmps[32]?.getD undef) = .int .i64 (farF es (skI k) N x y) := hd 16 32 (by kernel_rfl) (by kernel_rfl)
          clear hs hd
          unfold Grows
          go_simp
          exact Below.refl _ _
      intro vs W hW hf
      have f5 : vs 5 = .int .i64 (farF es (skI k) N x y) := hf 17 5 (by kernel_rfl)
      simp only [dsts, List.filterMap_cons, List.filterMap_nil, List.foldl_cons, List.foldl_nil, Act.put, List.setIfInBounds_toArray, List.set_cons_succ, List.set_cons_zero, f5]
      clear hf
      have hb2 := hb1.andB hW
      obtain ⟨f, hf⟩ : ∃ f, farF es (skI k) N x y = f := ⟨_, rfl⟩
      rw [hf] at hfb HST ⊢
      clear hf d1 d2 p1 q1 z1 zb E f5
      by_cases h0 : 0 < f
      · have HST := Lib.hid (HST.out.trans (if_pos h0))
        by_cases h1 : f + 1 < gk
        all_goals
          go_wp2_with fail
          go_roundw
          case rel => exact ⟨k + 1, by omega, by go_num, by rw [HST.out]; congr 1; omega, hb2⟩
          case measure => simp [intOf]; omega
      · have HST := Lib.hid (HST.out.trans (if_neg h0))
        go_wp2_with fail
        go_roundw
        case rel => exact ⟨k + 1, by omega, by go_num, by rw [HST.out], hb2⟩
        case measure => simp [intOf]; omega
    · obtain rfl : k = m := by omega
      go_wp2_with fail
      go_ret
      exact ⟨rfl, hbr⟩
set_option maxHeartbeats 400000 in
theorem spGirthOf_any (n : Int) (b o m c : Nat) (es : List (Int × Int)) (w : World) (h : Eds w b o m es) (hm : m ≤ 1048576) :
    Calls Tryz.prog 44 #[.agg #[.int .i64 n, .slice (some ⟨b, o, none⟩) m c]] w (Ret (.tuple #[.int .i64 (giV n es), .int .i64 (imC n es)]) w) := by
  have hbox := Box2.made w (.int .i64 n) (.slice (some ⟨b, o, none⟩) m c) 26
  have hbb := (by go_grown : Below w.heap.size w (w.alloc (.cells #[.int .i64 n, .slice (some ⟨b, o, none⟩) m c] 26)))
  have HSP := Lib.hid (l01Is_any n b o m c es _ (h.alloc (.cells #[.int .i64 n, .slice (some ⟨b, o, none⟩) m c] 26)) hm)
  by_cases hG : IsG n es
  · have HC : Hid (imC n es = 0) := by simp [Hid, imC, B_true hG]
    have HR : Hid (giV n es = gTo n es m) := by simp [Hid, giV, B_true hG, h.len]
    have HG := Lib.hid hG
    rw [B_true hG] at HSP
    clear hG
    go_enter Tryz.func44, Tryz.ntmps44
    go_wp2_with fail
    refine HSP.out.mono ?_
    rintro e w1 ⟨rfl, hb1⟩
    have hB1 := hbb.thenB (by simp) hb1
    obtain ⟨s1, p1, q1⟩ := hbox.below hb1
    clear hb1 hbb hbox
    go_wp2_with fail
    refine (l01Girth_any n b o m c es _ (h.below hB1) hm HG.out.wf).mono ?_
    rintro e w2 ⟨rfl, hb2⟩
    go_wp2_with fail
    go_ret2
    exact ⟨ret2 HR.out.symm HC.out.symm, hB1.andB hb2⟩
  · have HC : Hid (imC n es = 1) := by simp [Hid, imC, B_false hG]
    have HR : Hid (giV n es = 0) := by simp [Hid, giV, B_false hG]
    rw [B_false hG] at HSP
    clear hG hbox
    go_enter Tryz.func44, Tryz.ntmps44
    go_wp2_with fail
    refine HSP.out.mono ?_
    rintro e w1 ⟨rfl, hb1⟩
    have hB1 := hbb.thenB (by simp) hb1
    clear hb1 hbb
    go_wp2_with fail
    go_ret2
    exact ⟨ret2 HR.out.symm HC.out.symm, hB1⟩
set_option maxRecDepth 100000 in
set_option maxHeartbeats 1600000 in
theorem imGirthOf_any (n : Int) (b o m c : Nat) (es : List (Int × Int)) (w : World) (h : Eds w b o m es) (hm : m ≤ 1048576) :
    Calls Tryz.prog 30 #[.agg #[.int .i64 n, .slice (some ⟨b, o, none⟩) m c]] w (Ret (.tuple #[.int .i64 (giV n es), .int .i64 (imC n es)]) w) := by
  have hbox := Box2.made w (.int .i64 n) (.slice (some ⟨b, o, none⟩) m c) 26
  have hbb := (by go_grown : Below w.heap.size w (w.alloc (.cells #[.int .i64 n, .slice (some ⟨b, o, none⟩) m c] 26)))
  have HGC := Lib.hid (graphCode_any n b o m c es true _ (h.alloc (.cells #[.int .i64 n, .slice (some ⟨b, o, none⟩) m c] 26)) hm)
  by_cases hG : IsG n es
  rotate_left
  · have HC : Hid (imC n es = 1) := by simp [Hid, imC, B_false hG]
    have HR : Hid (giV n es = 0) := by simp [Hid, giV, B_false hG]
    rw [show gcC n es true = 1 by simp [gcC, B_false hG]] at HGC
    clear hG hbox
    go_enter Tryz.func30, Tryz.ntmps30
    go_wp2_with fail
    refine HGC.out.mono ?_
    rintro e w1 ⟨rfl, hb1⟩
    have hB1 := hbb.thenB (by simp) hb1
    clear hb1 hbb
    go_wp2_with fail
    go_ret2
    exact ⟨ret2 HR.out.symm HC.out.symm, hB1⟩
  have HC : Hid (imC n es = 0) := by simp [Hid, imC, B_true hG]
  have HR : Hid (giV n es = gTo n es m) := by simp [Hid, giV, B_true hG, h.len]
  have HW := Lib.hid hG.wf
  rw [show gcC n es true = 0 by simp [gcC, B_true hG]] at HGC
  have hl := Lib.hid h.len
  have hn2 := hG.wf.1
  have hn20 := hG.wf.2.1
  have hm30 : m ≤ 30 := by have := hG.wf.2.2.2.1; have := h.len; omega
  obtain ⟨N, rfl⟩ : ∃ N : Nat, n = N := ⟨n.toNat, by omega⟩
  clear hG
  go_enter Tryz.func30, Tryz.ntmps30
  go_wp2_with fail
  refine HGC.out.mono ?_
  rintro e w1 ⟨rfl, hb1⟩
  have hB1 := hbb.thenB (by simp) hb1
  have hbx := hbox.below hb1
  obtain ⟨s1, p1, q1⟩ := hbox.below hb1
  clear hb1 hbb hbox
  go_wp2_with fail
  go_loopw [5, 20] (fun gv kv wr => ∃ k : Nat, k ≤ m ∧ kv = .int .i64 k ∧ gv = .int .i64 (gTo N es k) ∧ Below w1.heap.size w1 wr) (fun _ k _ => m - (intOf k).toNat)
  case atStart => exact ⟨0, Nat.zero_le _, rfl, rfl, Below.refl _ _⟩
  case round =>
    clear s1 p1 q1
    obtain ⟨w4, rfl⟩ : ∃ w4, w4 = wr := ⟨wr, rfl⟩
    obtain ⟨k, hk, rfl, rfl, hb1⟩ := hrel
    have hbr := hB1.andB hb1
    have hgb := gTo_bd HW.out k (by rw [hl.out]; exact hk)
    by_cases hlt : k < m
    · have r := HW.out.2.2.2.2 k (by rw [hl.out]; exact hlt)
      obtain ⟨x, hx⟩ : ∃ x : Nat, ea es k = x := ⟨(ea es k).toNat, by omega⟩
      obtain ⟨y, hy⟩ : ∃ y : Nat, eb es k = y := ⟨(eb es k).toNat, by omega⟩
      have hyN : y < N := by omega
      have E := h.below hbr
      have c1 := E.ca k hlt
      have c2 := E.cb k hlt
      rw [hx] at c1
      rw [hy] at c2
      have HFA := Lib.hid (fun W hE => skS_one k ▸ Int.toNat_natCast N ▸ distances_any N b o m c (2 ^ k) es x W hE hm HW.out (by omega) (by omega) (pow64 (by omega)))
      have hX := wrap_pow (x := k) (by omega)
      obtain ⟨pc, hpc⟩ : ∃ pc : Nat, pc = 2 ^ k := ⟨_, rfl⟩
      rw [← hpc] at HFA hX
      have hfb := farF_bd (sk := skI k) HW.out (a := x) (by omega) (by omega) y
      have hfp := farF_pos (sk := skI k) HW.out (a := x) (v := y) (by omega) (by omega) (by omega)
      have HST : Hid (gTo N es (k + 1) = if 0 ≤ farF es (skI k) N x y then min (gTo N es k) (farF es (skI k) N x y + 1) else gTo N es k) := by
        show (if 0 < gF _ _ _ then _ else _) = _; unfold gF; rw [hx, hy]
        by_cases h0 : 0 < farF es (skI k) N x y
        · rw [if_pos h0, if_pos (by omega)]
        · rw [if_neg h0, if_neg (by omega)]
      obtain ⟨gk, hgk⟩ : ∃ gk, gTo N es k = gk := ⟨_, rfl⟩
      rw [hgk] at HST hgb ⊢
      have X4 := (hbx.below hb1).below ((Below.refl _ _).alloc (Nat.le_refl _) (.cells #[.int .i64 x, .int .i64 y] 78))
      have Y4 := Box2.made w4 (.int .i64 x) (.int .i64 y) 78
      have hb4 := hb1.andB ((Below.refl w4.heap.size w4).alloc (Nat.le_refl _) (.cells #[.int .i64 x, .int .i64 y] 78))
      have E := E.alloc (.cells #[.int .i64 x, .int .i64 y] 78)
      clear r hx hy hgk hpc hfp
      go_wp2_with fail
      obtain ⟨w5, hw5⟩ : ∃ w5, w5 = w4.alloc (.cells #[.int .i64 x, .int .i64 y] 78) := ⟨_, rfl⟩
      rw [← hw5] at X4 Y4 hb4 E ⊢
      obtain ⟨z1, p1, q1⟩ := X4
      obtain ⟨z2, d1, d2⟩ := Y4
      clear hw5 c1 c2
      refine wp_region_facts (fun i v W => match i with
        | 0 => v = .agg #[.int .i64 N, .slice (some ⟨b, o, none⟩) m c]
        | 1 => v = .pointer (some ⟨w4.heap.size, 0, none⟩)
        | 2 => v = .int .i64 x
        | 3 => v = .int .i64 k
        | 4 => v = .int .u64 pc
        | 5 => NewI w5.heap.size (N) (fun v => farF es (skI k) N x v) v W
        | 6 => v = .pointer (some ⟨w4.heap.size, 1, none⟩)
        | 7 => v = .int .i64 y
        | 8 => PtrV (.int .i64 (farF es (skI k) N x y)) v W
        | 9 => v = .int .i64 (farF es (skI k) N x y)
        | _ => v = .int .i64 (farF es (skI k) N x y)) (by kernel_rfl) (by kernel_rfl) ?_ ?_ ?_
      · intro i v W W' hf hb
        match i, hf with
        | 0, hf => exact hf
        | 1, hf => exact hf
        | 2, hf => exact hf
        | 3, hf => exact hf
        | 4, hf => exact hf
        | 5, hf => exact NewI.below hf hb
        | 6, hf => exact hf
        | 7, hf => exact hf
        | 8, hf => exact PtrV.below hf hb
        | 9, hf => exact hf
        | (i + 10), hf => exact hf
      · refine ⟨?_, ?_, ?_, ?_, ?_, ?_, ?_, ?_, ?_, ?_, ?_, trivial⟩
        · intro a W hW hs hd
          have e1 : a.tmps[1]?.getD undef = .pointer (some ⟨w.heap.size, 0, none⟩) := hs 1 (by kernel_rfl)
          have k0 := (hW.cell (p := ⟨w.heap.size, 0, none⟩) (z1)).trans (p1)
          have k1 := (hW.cell (p := ⟨w.heap.size, 1, none⟩) (z1)).trans (q1)
          have k2 := (hW.cell (p := ⟨w4.heap.size, 0, none⟩) (z2)).trans (d1)
          have k3 := (hW.cell (p := ⟨w4.heap.size, 1, none⟩) (z2)).trans (d2)
          clear hs hd
          unfold Grows
          go_simp
          exact Below.refl _ _
        · intro a W hW hs hd
          have e7 : a.tmps[7]?.getD undef = .pointer (some ⟨w4.heap.size, 0, none⟩) := hs 7 (by kernel_rfl)
          have k0 := (hW.cell (p := ⟨w.heap.size, 0, none⟩) (z1)).trans (p1)
          have k1 := (hW.cell (p := ⟨w.heap.size, 1, none⟩) (z1)).trans (q1)
          have k2 := (hW.cell (p := ⟨w4.heap.size, 0, none⟩) (z2)).trans (d1)
          have k3 := (hW.cell (p := ⟨w4.heap.size, 1, none⟩) (z2)).trans (d2)
          clear hs hd
          unfold Grows
          go_simp
          exact Below.refl _ _
        · intro a W hW hs hd
          have e26 : (a.tmps[26]?.getD undef) = .pointer (some ⟨w4.heap.size, 0, none⟩) := hd 1 26 (by kernel_rfl) (by kernel_rfl)
          have k0 := (hW.cell (p := ⟨w.heap.size, 0, none⟩) (z1)).trans (p1)
          have k1 := (hW.cell (p := ⟨w.heap.size, 1, none⟩) (z1)).trans (q1)
          have k2 := (hW.cell (p := ⟨w4.heap.size, 0, none⟩) (z2)).trans (d1)
          have k3 := (hW.cell (p := ⟨w4.heap.size, 1, none⟩) (z2)).trans (d2)
          clear hs hd
          unfold Grows
          go_simp
          exact Below.refl _ _
        · intro a W hW hs hd
          have e6 : a.tmps[6]?.getD undef = .int .i64 k := hs 6 (by kernel_rfl)
          clear hs hd
          unfold Grows
          go_simp
          exact Below.refl _ _
        · intro a W hW hs hd
          have e28 : (a.tmps[28]?.getD undef) = .int .i64 k := hd 3 28 (by kernel_rfl) (by kernel_rfl)
          clear hs hd
          unfold Grows
          go_simp
          exact Below.refl _ _
        · intro a W hW hs hd
          have e25 : (a.tmps[25]?.getD undef) = .agg #[.int .i64 N, .slice (some ⟨b, o, none⟩) m c] := hd 0 25 (by kernel_rfl) (by kernel_rfl)
          have e27 : (a.tmps[27]?.getD undef) = .int .i64 x := hd 2 27 (by kernel_rfl) (by kernel_rfl)
          have e29 : (a.tmps[29]?.getD undef) = .int .u64 pc := hd 4 29 (by kernel_rfl) (by kernel_rfl)
          clear hs hd
          unfold Grows
          go_simp
          refine ⟨Below.refl _ _, (HFA.out W (E.below hW)).mono ?_⟩
          rintro e w6 ⟨g6, rfl, hg6, R6, hb6⟩
          exact ⟨_, rfl, hb6, g6, rfl, Nat.le_trans (hW.size) hg6, R6⟩
        · intro a W hW hs hd
          have e7 : a.tmps[7]?.getD undef = .pointer (some ⟨w4.heap.size, 0, none⟩) := hs 7 (by kernel_rfl)
          have k0 := (hW.cell (p := ⟨w.heap.size, 0, none⟩) (z1)).trans (p1)
          have k1 := (hW.cell (p := ⟨w.heap.size, 1, none⟩) (z1)).trans (q1)
          have k2 := (hW.cell (p := ⟨w4.heap.size, 0, none⟩) (z2)).trans (d1)
          have k3 := (hW.cell (p := ⟨w4.heap.size, 1, none⟩) (z2)).trans (d2)
          clear hs hd
          unfold Grows
          go_simp
          exact Below.refl _ _
        · intro a W hW hs hd
          have e31 : (a.tmps[31]?.getD undef) = .pointer (some ⟨w4.heap.size, 1, none⟩) := hd 6 31 (by kernel_rfl) (by kernel_rfl)
          have k0 := (hW.cell (p := ⟨w.heap.size, 0, none⟩) (z1)).trans (p1)
          have k1 := (hW.cell (p := ⟨w.heap.size, 1, none⟩) (z1)).trans (q1)
          have k2 := (hW.cell (p := ⟨w4.heap.size, 0, none⟩) (z2)).trans (d1)
          have k3 := (hW.cell (p := ⟨w4.heap.size, 1, none⟩) (z2)).trans (d2)
          clear hs hd
          unfold Grows
          go_simp
          exact Below.refl _ _
        · intro a W hW hs hd
          have e30 : NewI w5.heap.size (N) (fun v => farF es (skI k) N x v) (a.tmps[30]?.getD undef) W := hd 5 30 (by kernel_rfl) (by kernel_rfl)
          obtain ⟨g30, e30, hg30, R30⟩ := e30
          have e32 : (a.tmps[32]?.getD undef) = .int .i64 y := hd 7 32 (by kernel_rfl) (by kernel_rfl)
          have k0 := (hW.cell (p := ⟨w.heap.size, 0, none⟩) (z1)).trans (p1)
          have k1 := (hW.cell (p := ⟨w.heap.size, 1, none⟩) (z1)).trans (q1)
          have k2 := (hW.cell (p := ⟨w4.heap.size, 0, none⟩) (z2)).trans (d1)
          have k3 := (hW.cell (p := ⟨w4.heap.size, 1, none⟩) (z2)).trans (d2)
          have hj30 := R30.lt
          clear hs hd
          unfold Grows
          go_simp
          exact ⟨Below.refl _ _, _, R30.lt, rfl, R30.cell (hyN)⟩
        · intro a W hW hs hd
          have e33 : PtrV (.int .i64 (farF es (skI k) N x y)) (a.tmps[33]?.getD undef) W := hd 8 33 (by kernel_rfl) (by kernel_rfl)
          obtain ⟨p33, hp33, e33, hc33⟩ := e33
          have k0 := (hW.cell (p := ⟨w.heap.size, 0, none⟩) (z1)).trans (p1)
          have k1 := (hW.cell (p := ⟨w.heap.size, 1, none⟩) (z1)).trans (q1)
          have k2 := (hW.cell (p := ⟨w4.heap.size, 0, none⟩) (z2)).trans (d1)
          have k3 := (hW.cell (p := ⟨w4.heap.size, 1, none⟩) (z2)).trans (d2)
          clear hs hd
          unfold Grows
          go_simp
          exact Below.refl _ _
        · intro a W hW hs hd
          have e34 : (a.tmps[34]?.getD undef) = .int .i64 (farF es (skI k) N x y) := hd 9 34 (by kernel_rfl) (by kernel_rfl)
          clear hs hd
          unfold Grows
          go_simp
          exact Below.refl _ _
      intro vs W hW hf
      have f8 : vs 8 = .int .i64 (farF es (skI k) N x y) := hf 10 8 (by kernel_rfl)
      simp only [dsts, List.filterMap_cons, List.filterMap_nil, List.foldl_cons, List.foldl_nil, Act.put, List.setIfInBounds_toArray, List.set_cons_succ, List.set_cons_zero, f8]
      clear hf
      have hb2 := hb4.andB hW
      obtain ⟨f, hf⟩ : ∃ f, farF es (skI k) N x y = f := ⟨_, rfl⟩
      rw [hf] at hfb HST ⊢
      clear hf d1 d2 p1 q1 z1 z2 E f8 hX
      by_cases h0 : 0 ≤ f
      · have HST := Lib.hid (HST.out.trans (if_pos h0))
        by_cases h1 : f + 1 < gk
        all_goals
          go_wp2_with fail
          go_roundw
          case rel => exact ⟨k + 1, by omega, by go_num, by rw [HST.out]; congr 1; omega, hb2⟩
          case measure => simp [intOf]; omega
      · have HST := Lib.hid (HST.out.trans (if_neg h0))
        go_wp2_with fail
        go_roundw
        case rel => exact ⟨k + 1, by omega, by go_num, by rw [HST.out], hb2⟩
        case measure => simp [intOf]; omega
    · obtain rfl : k = m := by omega
      go_wp2_with fail
      go_ret2
      exact ⟨ret2 HR.out.symm HC.out.symm, hbr⟩
end Go.Proofs.YtajnhkkiddeegaaGreat
namespace Go.Proofs.YtajnhkkiddeegaaGreat
open Go.RowKit Go.Sort
theorem rchK_front {es : List (Int × Int)} {sk : Nat → Bool} {u x : Int} (h : AdjE es sk u x) : ∀ {k : Nat} {v : Int}, RchK es sk k x v → RchK es sk (k + 1) u v := by
  intro k
  induction k with
  | zero => intro v hv; obtain rfl : x = v := hv; exact ⟨u, rfl, h⟩
  | succ k ih => intro v hv; obtain ⟨y, hy, ha⟩ := hv; exact ⟨y, ih hy, ha⟩
theorem rchK_symm {es : List (Int × Int)} {sk : Nat → Bool} : ∀ {k : Nat} {u v : Int}, RchK es sk k u v → RchK es sk k v u := by
  intro k
  induction k with
  | zero => intro u v hv; exact Eq.symm hv
  | succ k ih => intro u v hv; obtain ⟨y, hy, ha⟩ := hv; exact rchK_front ha.symm (ih hy)
theorem bStep_far {es : List (Int × Int)} {sk : Nat → Bool} {u : Int} {s : BS} {e : Nat} {v : Int} (hv : 0 ≤ s.far v) : (bStep es sk u s e).far v = s.far v := by
  by_cases hc : sk e = false ∧ s.far (oth es e u) < 0
  · rw [bStep_yes hc.1 hc.2]
    exact upI_other _ _ _ _ (fun h => by rw [h] at hv; omega)
  · rw [bStep_no hc]
theorem bVis_far {es : List (Int × Int)} {sk : Nat → Bool} {u : Int} {L : List Int} {s : BS} {v : Int} (hv : 0 ≤ s.far v) : ∀ k, (bVis es sk u L s k).far v = s.far v := by
  intro k
  induction k with
  | zero => rfl
  | succ k ih => rw [bVis, bStep_far (by rw [ih]; exact hv), ih]
structure WInv (es : List (Int × Int)) (sk : Nat → Bool) (a u : Int) (s : BS) : Prop where
  way : ∀ v, 0 ≤ s.far v → RchK es sk (s.far v).toNat a v
  srt : s.q.Pairwise (fun x y => s.far x ≤ s.far y)
  win : ∀ v, v ∈ s.q → s.far v ≤ s.far u + 1
theorem WInv.step {n a : Int} {es : List (Int × Int)} {sk : Nat → Bool} {u : Int} {s : BS} (h : WInv es sk a u s) (hI : BInv n a s) (hu : u ∈ s.q) {f : Nat} (hf : f < es.length) (hv : ea es f = u ∨ eb es f = u) : WInv es sk a u (bStep es sk u s f) := by
  by_cases hc : sk f = false ∧ s.far (oth es f u) < 0
  · have hua := (hI.mem u).2 hu
    have hne : u ≠ oth es f u := fun e => by rw [← e] at hc; omega
    have hold : ∀ v, v ∈ s.q → upI s.far (oth es f u) (s.far u + 1) v = s.far v := fun v hm => upI_other _ _ _ _ (fun e => by
      have := (hI.mem v).2 hm
      rw [e] at this; omega)
    rw [bStep_yes hc.1 hc.2]
    refine ⟨fun v hv0 => ?_, ?_, fun v hm => ?_⟩
    · simp only at hv0 ⊢
      by_cases e : v = oth es f u
      · subst e
        rw [upI_same, show (s.far u + 1).toNat = (s.far u).toNat + 1 by omega]
        exact ⟨u, h.way u hua, adj_oth hf hc.1 hv⟩
      · rw [upI_other _ _ _ _ e] at hv0 ⊢
        exact h.way v hv0
    · simp only
      rw [List.pairwise_append]
      refine ⟨h.srt.imp_of_mem fun {x y} hx hy hxy => by rw [hold x hx, hold y hy]; exact hxy, by simp, fun x hx y hy => ?_⟩
      rw [List.mem_singleton.1 hy, upI_same, hold x hx]
      exact h.win x hx
    · simp only at hm ⊢
      rw [upI_other _ _ _ u hne]
      rcases List.mem_append.1 hm with hm | hm
      · rw [hold v hm]; exact h.win v hm
      · rw [List.mem_singleton.1 hm, upI_same]; exact Int.le_refl _
  · rw [bStep_no hc]; exact h
theorem WInv.vis {n a : Int} {es : List (Int × Int)} {sk : Nat → Bool} {u : Int} {s : BS} (h : WInv es sk a u s) (hI : BInv n a s) (hn : WfP n es) (hu : u ∈ s.q) : ∀ k, k ≤ (atL es u).length → WInv es sk a u (bVis es sk u (atL es u) s k) := by
  intro k
  induction k with
  | zero => intro _; exact h
  | succ k ih =>
    intro hk
    obtain ⟨f, hf, e, hv⟩ := atL_at (es := es) (u := u) (k := k) (by omega)
    obtain ⟨ys, hq⟩ := bVis_q (es := es) (sk := sk) (u := u) (L := atL es u) (s := s) k
    simp only [bVis]
    rw [e, Int.toNat_natCast]
    exact (ih (by omega)).step (hI.vis hn hu k (by omega)) (by rw [hq]; exact List.mem_append_left _ hu) hf hv
theorem bfs_stage {n a : Int} {es : List (Int × Int)} {sk : Nat → Bool} (hn : WfP n es) (h0 : 0 ≤ a) (h1 : a ≤ n - 1) : ∀ i, (∀ v, 0 ≤ (bfs es sk a i).far v → RchK es sk ((bfs es sk a i).far v).toNat a v) ∧ (bfs es sk a i).q.Pairwise (fun x y => (bfs es sk a i).far x ≤ (bfs es sk a i).far y) ∧ (i < (bfs es sk a i).q.length → ∀ v, v ∈ (bfs es sk a i).q → (bfs es sk a i).far v ≤ (bfs es sk a i).far (ia (bfs es sk a i).q i) + 1) ∧
    (∀ j, j < i → j < (bfs es sk a i).q.length → ∀ v, AdjE es sk (ia (bfs es sk a i).q j) v → (bfs es sk a i).far v ≤ (bfs es sk a i).far (ia (bfs es sk a i).q j) + 1) := by
  intro i
  induction i with
  | zero =>
    refine ⟨fun v hv => ?_, by simp [bfs], fun _ v hv => ?_, fun j hj => by omega⟩
    · simp only [bfs] at hv ⊢
      by_cases e : v = a
      · subst e; simp; rfl
      · rw [if_neg e] at hv; omega
    · simp only [bfs, List.mem_singleton] at hv
      subst hv
      simp only [bfs, ia]
      simp
  | succ i ih =>
    obtain ⟨hway, hsrt, hwin, hC⟩ := ih
    by_cases hi : i < (bfs es sk a i).q.length
    · have hI := BInv.bfs (sk := sk) hn h0 h1 i
      have hI2 := BInv.bfs (sk := sk) hn h0 h1 (i + 1)
      have W : WInv es sk a (ia (bfs es sk a i).q i) (bfs es sk a i) := ⟨hway, hsrt, hwin hi⟩
      have W2 := W.vis hI hn (iaMem hi) _ (Nat.le_refl _)
      have e2 : bfs es sk a (i + 1) = bVis es sk (ia (bfs es sk a i).q i) (atL es (ia (bfs es sk a i).q i)) (bfs es sk a i) (atL es (ia (bfs es sk a i).q i)).length := bfs_succ hi
      rw [← e2] at W2
      obtain ⟨ys, hq⟩ := bfs_pre (es := es) (sk := sk) (a := a) i
      have hpre : ∀ j, j < (bfs es sk a i).q.length → ia (bfs es sk a (i + 1)).q j = ia (bfs es sk a i).q j := fun j hj => by rw [hq, ia_app hj]
      have hlen : (bfs es sk a i).q.length ≤ (bfs es sk a (i + 1)).q.length := by rw [hq, List.length_append]; omega
      have hfar : ∀ v, v ∈ (bfs es sk a i).q → (bfs es sk a (i + 1)).far v = (bfs es sk a i).far v := fun v hv => by rw [e2]; exact bVis_far ((hI.mem v).2 hv) _
      refine ⟨W2.way, W2.srt, fun hi1 v hv => ?_, fun j hj hjl v hv => ?_⟩
      · have h2 := W2.win v hv
        have h3 := List.pairwise_iff_getElem.1 W2.srt i (i + 1) (by omega) hi1 (by omega)
        have e3 : ia (bfs es sk a i).q i = (bfs es sk a (i + 1)).q[i]'(by omega) := by rw [← hpre i hi]; simp [ia, show i < (bfs es sk a (i + 1)).q.length by omega]
        have e4 : ia (bfs es sk a (i + 1)).q (i + 1) = (bfs es sk a (i + 1)).q[i + 1]'hi1 := by simp [ia, hi1]
        rw [e4]
        rw [e3] at h2
        omega
      · have hvq := bfs_closed hn h0 h1 (i + 1) j hj hjl v hv
        by_cases hji : j = i
        · subst hji
          rw [hpre j hi]
          exact W2.win v hvq
        · have hjl' : j < (bfs es sk a i).q.length := by omega
          rw [hpre j hjl'] at hv ⊢
          have hv2 := bfs_closed hn h0 h1 i j (by omega) hjl' v hv
          rw [hfar v hv2, hfar _ (iaMem hjl')]
          exact hC j (by omega) hjl' v hv
    · rw [bfs_done hi (i + 1) (by omega)]
      exact ⟨hway, hsrt, fun h => by omega, fun j hj hjl => hC j (by omega) hjl⟩
theorem farF_lip {n a : Int} {es : List (Int × Int)} {sk : Nat → Bool} (hn : WfP n es) (h0 : 0 ≤ a) (h1 : a ≤ n - 1) {u v : Int} (hu : 0 ≤ farF es sk n a u) (hv : AdjE es sk u v) : farF es sk n a v ≤ farF es sk n a u + 1 := by
  have hI := BInv.bfs (sk := sk) hn h0 h1 n.toNat
  have hm := (hI.mem u).1 hu
  obtain ⟨j, hj, e⟩ := memIa hm
  have hl := hI.len
  have := (bfs_stage (sk := sk) hn h0 h1 n.toNat).2.2.2 j (by omega) hj v (by rw [e]; exact hv)
  rw [e] at this
  exact this
theorem farF_le {n a : Int} {es : List (Int × Int)} {sk : Nat → Bool} (hn : WfP n es) (h0 : 0 ≤ a) (h1 : a ≤ n - 1) : ∀ {k : Nat} {v : Int}, RchK es sk k a v → farF es sk n a v ≤ k := by
  intro k
  induction k with
  | zero =>
    intro v hv
    obtain rfl : a = v := hv
    have := (farF_inv (sk := sk) hn h0 h1).a0
    unfold farF
    omega
  | succ k ih =>
    intro v hv
    obtain ⟨x, hx, ha⟩ := hv
    have h2 := ih hx
    have h3 := (farF_iff (sk := sk) hn h0 h1 x).2 ⟨k, hx⟩
    have h4 := farF_lip hn h0 h1 h3 ha
    omega
theorem farF_way {n a : Int} {es : List (Int × Int)} {sk : Nat → Bool} (hn : WfP n es) (h0 : 0 ≤ a) (h1 : a ≤ n - 1) {v : Int} (hv : 0 ≤ farF es sk n a v) : RchK es sk (farF es sk n a v).toNat a v :=
  (bfs_stage (sk := sk) hn h0 h1 n.toNat).1 v hv
theorem far_eq {n n' a a' b b' : Int} {es fs : List (Int × Int)} {sk sk' : Nat → Bool} (hn : WfP n es) (h0 : 0 ≤ a) (h1 : a ≤ n - 1) (hn' : WfP n' fs) (h0' : 0 ≤ a') (h1' : a' ≤ n' - 1)
    (h : ∀ k, RchK es sk k a b ↔ RchK fs sk' k a' b') : farF es sk n a b = farF fs sk' n' a' b' := by
  have d1 := farF_iff (sk := sk) hn h0 h1 b
  have d2 := farF_iff (sk := sk') hn' h0' h1' b'
  have hR : Rch es sk a b ↔ Rch fs sk' a' b' := ⟨fun ⟨k, hk⟩ => ⟨k, (h k).1 hk⟩, fun ⟨k, hk⟩ => ⟨k, (h k).2 hk⟩⟩
  by_cases hr : 0 ≤ farF es sk n a b
  · have hr' := d2.2 (hR.1 (d1.1 hr))
    have e1 := farF_le hn h0 h1 ((h _).2 (farF_way hn' h0' h1' hr'))
    have e2 := farF_le hn' h0' h1' ((h _).1 (farF_way hn h0 h1 hr))
    omega
  · have hr' : ¬ 0 ≤ farF fs sk' n' a' b' := fun hx => hr (d1.2 (hR.2 (d2.1 hx)))
    have b1 := (farF_bd (sk := sk) hn h0 h1 b).1
    have b2 := (farF_bd (sk := sk') hn' h0' h1' b').1
    omega
theorem far_symm {n a b : Int} {es : List (Int × Int)} {sk : Nat → Bool} (hn : WfP n es) (h0 : 0 ≤ a) (h1 : a ≤ n - 1) (h2 : 0 ≤ b) (h3 : b ≤ n - 1) : farF es sk n a b = farF es sk n b a :=
  far_eq hn h0 h1 hn h2 h3 fun _ => ⟨rchK_symm, rchK_symm⟩
theorem di_symm {n x y : Int} {es : List (Int × Int)} (h : diC n es x y = 0) : diC n es y x = 0 ∧ diV n es y x = diV n es x y := by
  rcases di_cases n es x y with ⟨_, h1, _⟩ | ⟨_, _, h1, _⟩ | ⟨_, _, _, _, h1, _⟩ | ⟨hG, hx, hy, hf, _, hv, _⟩
  · omega
  · omega
  · omega
  · have hs := far_symm (sk := noSk) hG.wf hx.1 hx.2 hy.1 hy.2
    rcases di_cases n es y x with ⟨hG', _⟩ | ⟨_, hn, _⟩ | ⟨_, _, _, hf', _⟩ | ⟨_, _, _, _, h1, h2, _⟩
    · exact absurd hG hG'
    · exact absurd ⟨hy, hx⟩ hn
    · omega
    · exact ⟨h1, by omega⟩
structure EMap (es fs : List (Int × Int)) (sk sk' : Nat → Bool) (f : Int → Int) (n : Int) : Prop where
  fwd : ∀ i, i < es.length → sk i = false → ∃ j, j < fs.length ∧ sk' j = false ∧ ((ea fs j = f (ea es i) ∧ eb fs j = f (eb es i)) ∨ (ea fs j = f (eb es i) ∧ eb fs j = f (ea es i)))
  bwd : ∀ j, j < fs.length → sk' j = false → (∃ u, 0 ≤ u ∧ u ≤ n - 1 ∧ (ea fs j = f u ∨ eb fs j = f u)) → ∃ i, i < es.length ∧ sk i = false ∧ ((ea fs j = f (ea es i) ∧ eb fs j = f (eb es i)) ∨ (ea fs j = f (eb es i) ∧ eb fs j = f (ea es i)))
  inj : ∀ u v, 0 ≤ u → u ≤ n - 1 → 0 ≤ v → v ≤ n - 1 → f u = f v → u = v
theorem EMap.adj {es fs : List (Int × Int)} {sk sk' : Nat → Bool} {f : Int → Int} {n : Int} (M : EMap es fs sk sk' f n) {u v : Int} (h : AdjE es sk u v) : AdjE fs sk' (f u) (f v) := by
  obtain ⟨i, hi, hs, hh⟩ := h
  obtain ⟨j, hj, hs', hj2⟩ := M.fwd i hi hs
  refine ⟨j, hj, hs', ?_⟩
  rcases hh with ⟨h1, h2⟩ | ⟨h1, h2⟩ <;> subst h1 <;> subst h2 <;> rcases hj2 with h3 | h3
  · exact .inl h3
  · exact .inr ⟨h3.2, h3.1⟩
  · exact .inr ⟨h3.2, h3.1⟩
  · exact .inl h3
theorem EMap.rchK {es fs : List (Int × Int)} {sk sk' : Nat → Bool} {f : Int → Int} {n : Int} (M : EMap es fs sk sk' f n) : ∀ {k : Nat} {u v : Int}, RchK es sk k u v → RchK fs sk' k (f u) (f v) := by
  intro k
  induction k with
  | zero => intro u v h; exact congrArg f h
  | succ k ih => intro u v h; obtain ⟨x, hx, ha⟩ := h; exact ⟨f x, ih hx, M.adj ha⟩
theorem EMap.back {es fs : List (Int × Int)} {sk sk' : Nat → Bool} {f : Int → Int} {n : Int} (M : EMap es fs sk sk' f n) (hn : WfP n es) {u : Int} (hu : 0 ≤ u ∧ u ≤ n - 1) : ∀ {k : Nat} {y : Int}, RchK fs sk' k (f u) y → ∃ v, (0 ≤ v ∧ v ≤ n - 1) ∧ y = f v ∧ RchK es sk k u v := by
  intro k
  induction k with
  | zero => intro y h; exact ⟨u, hu, Eq.symm h, rfl⟩
  | succ k ih =>
    intro y h
    obtain ⟨x, hx, j, hj, hs, hh⟩ := h
    obtain ⟨v, hv, rfl, hk⟩ := ih hx
    obtain ⟨i, hi, hs', h2⟩ := M.bwd j hj hs ⟨v, hv.1, hv.2, hh.elim (fun h => .inl h.1) (fun h => .inr h.1)⟩
    have hw := hn.2.2.2.2 i hi
    have key : ∀ p q : Int, 0 ≤ p → p ≤ n - 1 → f p = f v → y = f q → (0 ≤ q ∧ q ≤ n - 1) → AdjE es sk p q → ∃ v, (0 ≤ v ∧ v ≤ n - 1) ∧ y = f v ∧ RchK es sk (k + 1) u v := fun p q h0 h1 hp hy hq ha => by
      obtain rfl := M.inj p v h0 h1 hv.1 hv.2 hp
      exact ⟨q, hq, hy, p, hk, ha⟩
    rcases hh with ⟨a1, a2⟩ | ⟨a1, a2⟩ <;> rcases h2 with ⟨b1, b2⟩ | ⟨b1, b2⟩
    · exact key _ _ hw.1 hw.2.1 (b1.symm.trans a1) (a2.symm.trans b2) ⟨hw.2.2.1, hw.2.2.2.1⟩ ⟨i, hi, hs', .inl ⟨rfl, rfl⟩⟩
    · exact key _ _ hw.2.2.1 hw.2.2.2.1 (b1.symm.trans a1) (a2.symm.trans b2) ⟨hw.1, hw.2.1⟩ ⟨i, hi, hs', .inr ⟨rfl, rfl⟩⟩
    · exact key _ _ hw.2.2.1 hw.2.2.2.1 (b2.symm.trans a1) (a2.symm.trans b1) ⟨hw.1, hw.2.1⟩ ⟨i, hi, hs', .inr ⟨rfl, rfl⟩⟩
    · exact key _ _ hw.1 hw.2.1 (b2.symm.trans a1) (a2.symm.trans b1) ⟨hw.2.2.1, hw.2.2.2.1⟩ ⟨i, hi, hs', .inl ⟨rfl, rfl⟩⟩
theorem EMap.iff {es fs : List (Int × Int)} {sk sk' : Nat → Bool} {f : Int → Int} {n : Int} (M : EMap es fs sk sk' f n) (hn : WfP n es) {u v : Int} (hu : 0 ≤ u ∧ u ≤ n - 1) (hv : 0 ≤ v ∧ v ≤ n - 1) (k : Nat) : RchK es sk k u v ↔ RchK fs sk' k (f u) (f v) := by
  refine ⟨M.rchK, fun h => ?_⟩
  obtain ⟨w, hw, e, hk⟩ := M.back hn hu h
  obtain rfl := M.inj v w hv.1 hv.2 hw.1 hw.2 e
  exact hk
theorem EMap.rch {es fs : List (Int × Int)} {sk sk' : Nat → Bool} {f : Int → Int} {n : Int} (M : EMap es fs sk sk' f n) (hn : WfP n es) {u v : Int} (hu : 0 ≤ u ∧ u ≤ n - 1) (hv : 0 ≤ v ∧ v ≤ n - 1) : Rch es sk u v ↔ Rch fs sk' (f u) (f v) :=
  ⟨fun ⟨k, hk⟩ => ⟨k, M.rchK hk⟩, fun ⟨k, hk⟩ => ⟨k, (M.iff hn hu hv k).2 hk⟩⟩
theorem EMap.far {es fs : List (Int × Int)} {sk sk' : Nat → Bool} {f : Int → Int} {n n' : Int} (M : EMap es fs sk sk' f n) (hn : WfP n es) (hn' : WfP n' fs) {u v : Int} (hu : 0 ≤ u ∧ u ≤ n - 1) (hv : 0 ≤ v ∧ v ≤ n - 1) (hf : 0 ≤ f u ∧ f u ≤ n' - 1) : farF es sk n u v = farF fs sk' n' (f u) (f v) :=
  far_eq hn hu.1 hu.2 hn' hf.1 hf.2 fun k => M.iff hn hu hv k
/-- A shifted graph has the leaders, shifted. -/
theorem EMap.lead {es fs : List (Int × Int)} {sk sk' : Nat → Bool} {c n : Int} (M : EMap es fs sk sk' (fun v => v + c) n) (hn : WfP n es) (hc : 0 ≤ c) {v : Int} (hv : 0 ≤ v ∧ v ≤ n - 1) : leadF fs sk' (v + c) = leadF es sk v + c := by
  obtain ⟨h1, h2⟩ := leadF_spec (es := es) (sk := sk) hv.1
  obtain ⟨h3, h4⟩ := leadF_spec (es := fs) (sk := sk') (v := v + c) (by omega)
  have h5 := leadF_nonneg es sk v
  have h6 := leadF_nonneg fs sk' (v + c)
  have h7 := leadF_le (es := es) (sk := sk) hv.1
  obtain ⟨k, hk⟩ := h3
  obtain ⟨w, hw, e, hk2⟩ := M.back hn hv hk
  have h8 := h2 w.toNat (by rw [Int.toNat_of_nonneg hw.1]; exact ⟨k, hk2⟩)
  have h9 := (M.rch hn hv (v := leadF es sk v) ⟨h5, by omega⟩).1 h1
  have h10 := h4 (leadF es sk v + c).toNat (by rw [Int.toNat_of_nonneg (by omega)]; exact h9)
  omega
end Go.Proofs.YtajnhkkiddeegaaGreat
