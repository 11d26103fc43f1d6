import Derived.Test.YtppfplhbfgjjhaaDoorMt
import Derived.Test.YtppfplhbfgjjhaaDoorM13
import Derived.Shelf.Spec.TrailingZeros
namespace Go.Proofs.YtppfplhbfgjjhaaDoor
open Go.RowKit Go.Sort Go.Shelf
/-! ### The program's matchings -/
set_option maxHeartbeats 1000000 in
theorem tz64_core (x k idx : Nat) (w : World) (hx0 : ((x : Int) == 0) = false)
    (key : IntKind.u64.wrap (bits BinOp.and IntKind.u64 (x : Int) (IntKind.u64.wrap (-(x : Int))) * 285870213051353865) / 288230376151711744 = (idx : Int))
    (hi : idx < 64) (hk : k < 64) (hcell : w.cell? ⟨0, idx, none⟩ = some (.int .u8 k)) :
    Calls Tryd.prog 44 #[.int .u64 x] w (Is (.int .i64 k) w) := by
  go_enter Tryd.func44, Tryd.ntmps44
  go_wp2_with (simp only [key])
  go_ret
  exact ⟨rfl, rfl⟩
theorem tz64_any (x : Nat) (w : World) (hx : x < 18446744073709551616) (hx0 : x ≠ 0) (hT : TabAt 0 Lib.deBruijn64tab w) :
    Calls Tryd.prog 44 #[.int .u64 x] w (Is (.int .i64 (Lib.ctz 64 x)) w) := by
  obtain ⟨hlow, hk⟩ := Lib.lowest_bit 64 x hx0 hx
  obtain ⟨hi, htab⟩ := Lib.deBruijn64_at _ hk
  have hcell := hT _ hi
  rw [htab] at hcell
  exact tz64_core x _ _ w (by simp; omega) (tz64_key x _ hx hx0 hlow) hi hk hcell
theorem TabAt.keptM {bm : Nat} {w w' : World} (hT : TabAt 0 Lib.deBruijn64tab w) (h0 : 0 < w.heap.size) (h : Kept (fun k => k = bm) w w') (hb : bm ≠ 0) : TabAt 0 Lib.deBruijn64tab w' := fun j hj => (h.cell h0 (fun e => hb e.symm) j).trans (hT j hj)
/-- What the search reads. -/
structure MS (bg bd bf bw bm b o n m c wt : Nat) (es : List (Int × Int)) (w : World) : Prop where
  E : Eds w b o m es
  X : Box2 w bg (.int .i64 n) (.slice (some ⟨b, o, none⟩) m c)
  cd : w.cell? ⟨bd, 0, none⟩ = some (.func (.func 32) #[] #[.pointer (some ⟨bw, 0, none⟩), .pointer (some ⟨bm, 0, none⟩)])
  cf : w.cell? ⟨bf, 0, none⟩ = some (.func (.func 43) #[] #[.pointer (some ⟨bg, 0, none⟩), .pointer (some ⟨bd, 0, none⟩), .pointer (some ⟨bf, 0, none⟩)])
  cw : w.cell? ⟨bw, 0, none⟩ = some (.int .u64 wt)
  tab : TabAt 0 Lib.deBruijn64tab w
  ne : b ≠ bm ∧ bg ≠ bm ∧ bd ≠ bm ∧ bf ≠ bm ∧ bw ≠ bm ∧ 0 ≠ bm
  fz : w.frozen? ⟨bm, 0, none⟩ = false
  lt : bm < w.heap.size ∧ 0 < w.heap.size
theorem frozen_setCell' (w : World) (a : Addr) (v : Value) (b : Addr) : (w.setCell a v).frozen? b = w.frozen? b := by simp
theorem MS.kept {bg bd bf bw bm b o n m c wt : Nat} {es : List (Int × Int)} {w w' : World} (h : MS bg bd bf bw bm b o n m c wt es w) (k : Kept (fun k => k = bm) w w') (hf : w'.frozen? ⟨bm, 0, none⟩ = false) : MS bg bd bf bw bm b o n m c wt es w' :=
  have l := fun (b : Nat) v (h : w.cell? ⟨b, 0, none⟩ = some v) => World.block_lt_of_cell? w ⟨b, 0, none⟩ h
  ⟨k.eds h.E h.ne.1, ⟨k.lt h.X.lt, (k.cell h.X.lt h.ne.2.1 0).trans h.X.c0, (k.cell h.X.lt h.ne.2.1 1).trans h.X.c1⟩, (k.cell (l _ _ h.cd) h.ne.2.2.1 0).trans h.cd, (k.cell (l _ _ h.cf) h.ne.2.2.2.1 0).trans h.cf, (k.cell (l _ _ h.cw) h.ne.2.2.2.2.1 0).trans h.cw,
    TabAt.keptM h.tab h.lt.2 k (fun e => h.ne.2.2.2.2.2 e.symm), h.ne, hf, ⟨k.lt h.lt.1, k.lt h.lt.2⟩⟩
theorem MS.below {bg bd bf bw bm b o n m c wt : Nat} {es : List (Int × Int)} {w w' : World} (h : MS bg bd bf bw bm b o n m c wt es w) (k : Below w.heap.size w w') : MS bg bd bf bw bm b o n m c wt es w' :=
  h.kept (Kept.of k) ((k.frozen (p := ⟨bm, 0, none⟩) h.lt.1).trans h.fz)
set_option maxHeartbeats 1000000 in
theorem countWith1_any {bg bd bf bw bm b o n m c wt : Nat} {es : List (Int × Int)} {w : World} (h : MS bg bd bf bw bm b o n m c wt es w) (ch cnt : Nat) (hwt : wt < 18446744073709551616) (hch : ch < 18446744073709551616) (hcn : cnt < 1099511627776) (hc : w.cell? ⟨bm, 0, none⟩ = some (.int .i64 cnt)) :
    Calls Tryd.prog 32 #[.int .u64 ch, .pointer (some ⟨bw, 0, none⟩), .pointer (some ⟨bm, 0, none⟩)] w (fun e w' => e = .returned (.bool false) ∧ w'.cell? ⟨bm, 0, none⟩ = some (.int .i64 ((cnt + cM wt ch [[]] : Nat) : Int)) ∧ MS bg bd bf bw bm b o n m c wt es w' ∧ Kept (fun k => k = bm) w w') := by
  have c1 := h.cw
  have z1 := World.block_lt_of_cell? w ⟨bw, 0, none⟩ h.cw
  have z2 := h.lt.1
  have f2 := h.fz
  have hand := u64_and_nat ch wt hch hwt
  obtain ⟨x, hx⟩ : ∃ x, x = ch &&& wt := ⟨_, rfl⟩
  rw [← hx] at hand
  have hwr : IntKind.i64.wrap ((cnt : Int) + 1) = (cnt : Int) + 1 := IntWalk.i64_in _ (by omega)
  have HL := Lib.hid (cM_leaf wt ch)
  have HX := Lib.hid hx
  have HM := Lib.hid h
  clear hx h
  by_cases he : x = wt
  · have hq : ((x : Int) == wt) = true := by simp [he]
    have HC : Hid (cM wt ch [[]] = 1) := by show _ = _; rw [HL.out, ← HX.out, if_pos he]
    clear he
    go_enter Tryd.func32, Tryd.ntmps32
    go_wp2_with fail
    go_ret
    rw [HC.out]
    have hk : Kept (fun k => k = bm) w (w.setCell ⟨bm, 0, none⟩ (.int .i64 ((cnt : Int) + 1))) := Kept.setCell (S := fun k => k = bm) (Kept.refl _ _) (a := ⟨bm, 0, none⟩) rfl _
    refine ⟨rfl, ?_, HM.out.kept hk (by simpa using f2), hk⟩
    rw [World.cell?_setCell_same _ _ _ hc]; simp
  · have hq : ((x : Int) == wt) = false := by simp; omega
    have HC : Hid (cM wt ch [[]] = 0) := by show _ = _; rw [HL.out, ← HX.out, if_neg he]
    clear he
    go_enter Tryd.func32, Tryd.ntmps32
    go_wp2_with fail
    go_ret
    rw [HC.out]
    exact ⟨rfl, hc, HM.out, Kept.refl _ _⟩
theorem wrap_powD {x : Nat} (h : x < 64) : IntKind.u64.wrap ((2 : Int) ^ x) = ((2 ^ x : Nat) : Int) := by
  have hp : (2 : Nat) ^ x < 18446744073709551616 := Nat.lt_of_lt_of_le (Nat.pow_lt_pow_of_lt (a := 2) (by decide) (by omega : x < 64)) (by decide)
  rw [show ((2 : Int) ^ x) = ((2 ^ x : Nat) : Int) by simp, IntKind.wrap_u64]
  generalize (2 : Nat) ^ x = y at hp
  omega
theorem or_lt2 {s x n : Nat} (hs : s < 2 ^ n) (hx : x < n) : s ||| 2 ^ x < 2 ^ n := Nat.or_lt_two_pow hs (Nat.pow_lt_pow_of_lt (by decide) hx)
theorem lt_64 {s n : Nat} (hs : s < 2 ^ n) (hn : n ≤ 32) : s < 18446744073709551616 := Nat.lt_of_lt_of_le hs (Nat.le_trans (Nat.pow_le_pow_right (by decide) hn) (by decide : 2 ^ 32 ≤ 18446744073709551616))
theorem xor_max {s : Nat} (h : s < 18446744073709551616) : bits BinOp.xor IntKind.u64 IntKind.u64.max (s : Int) = ((18446744073709551615 - s : Nat) : Int) := by
  rw [show IntKind.u64.max = ((2 ^ 64 - 1 : Nat) : Int) by decide, u64_xor_nat _ _ (by decide) h]
  congr 1
  apply Nat.eq_of_testBit_eq
  intro j
  have h2 := Nat.testBit_two_pow_sub_succ (x := s) (n := 64) h j
  rw [show (18446744073709551615 - s) = 2 ^ 64 - (s + 1) by omega, h2, Nat.testBit_xor, Nat.testBit_two_pow_sub_one]
  by_cases hj : j < 64
  · simp [hj]
  · rw [Nat.testBit_lt_two_pow (Nat.lt_of_lt_of_le h (Nat.pow_le_pow_right (n := 2) (by decide) (by omega : 64 ≤ j)))]; simp [hj]
theorem mtT_no {R : Nat → List (List Int)} {es : List (Int × Int)} {v s : Nat} {L : List Int} {i : Nat} (h : s.testBit (othN es (ia L i) v).toNat = true) : mtT R es v s L (i + 1) = mtT R es v s L i := by simp [mtT, h]
theorem mtT_yes {R : Nat → List (List Int)} {es : List (Int × Int)} {v s u d : Nat} {L : List Int} {i : Nat} (hd : ia L i = d) (hu : othN es d v = u) (h : s.testBit u = false) : mtT R es v s L (i + 1) = mtT R es v s L i ++ (R (s ||| 2 ^ v ||| 2 ^ u)).map ((d : Int) :: ·) := by simp [mtT, hd, hu, h]
set_option maxRecDepth 100000 in
set_option maxHeartbeats 2000000 in
theorem mgrow_any {bg bd bf bw bm b o n m c wt : Nat} {es : List (Int × Int)} (hm : m ≤ 1048576) (hG : IsG n es) (hwt : wt < 18446744073709551616) :
    ∀ (k s ch cnt : Nat) (w : World), uns s n ≤ 2 * k → s < 2 ^ n → ch < 2 ^ 30 → cnt + 3 ^ k ≤ 1099511627776 → MS bg bd bf bw bm b o n m c wt es w → w.cell? ⟨bm, 0, none⟩ = some (.int .i64 cnt) →
      Calls Tryd.prog 43 #[.int .u64 ch, .int .u64 s, .pointer (some ⟨bg, 0, none⟩), .pointer (some ⟨bd, 0, none⟩), .pointer (some ⟨bf, 0, none⟩)] w (fun e w' => e = .returned (.bool false) ∧ w'.cell? ⟨bm, 0, none⟩ = some (.int .i64 ((cnt + cM wt ch (mts es n k s) : Nat) : Int)) ∧ MS bg bd bf bw bm b o n m c wt es w' ∧ Kept (fun k => k = bm) w w') := by
  have hn2 := hG.wf.1
  have hn20 := hG.wf.2.1
  have HG := Lib.hid hG
  have he1 : Enters 32 := fun args w => by kernel_rfl
  have he2 : Enters 43 := fun args w => by kernel_rfl
  unfold Enters at he1 he2
  have hpn : (2 : Nat) ^ n ≤ 1048576 := Nat.pow_le_pow_right (n := 2) (by decide) (by omega : n ≤ 20)
  have hpn1 : 1 ≤ (2 : Nat) ^ n := Nat.one_le_two_pow
  have hwp := wrap_powD (x := n) (by omega)
  obtain ⟨pn, hpnE⟩ : ∃ pn, pn = (2 : Nat) ^ n := ⟨_, rfl⟩
  rw [← hpnE] at hpn hpn1 hwp
  have hw1 : IntKind.u64.wrap ((pn : Int) - 1) = ((pn - 1 : Nat) : Int) := by rw [IntKind.wrap_u64]; omega
  have HPN := Lib.hid hpnE
  obtain ⟨p1, hp1⟩ : ∃ p1, p1 = pn - 1 := ⟨_, rfl⟩
  rw [← hp1] at hw1
  have HP1 := Lib.hid hp1
  clear hpnE hp1 hG
  intro k
  induction k with
  | zero =>
    intro s ch cnt w hu hs hch hcn hM hc
    have hse : s = 2 ^ n - 1 := uns_zero hs (by omega)
    have HL : Hid (cM wt ch (mts es n 0 s) = cM wt ch [[]]) := rfl
    have hq : ((s : Int) == p1) = true := by simp; rw [hse, HP1.out, HPN.out]
    have HCW := Lib.hid (countWith1_any hM ch cnt hwt (lt_64 hch (by omega)) (by omega) hc)
    obtain ⟨xl, x0, x1⟩ := hM.X
    have cd := hM.cd
    have zd := World.block_lt_of_cell? w ⟨bd, 0, none⟩ cd
    rw [HL.out]
    clear hse
    go_enter Tryd.func43, Tryd.ntmps43
    go_wp2_with fail
    refine HCW.out.mono ?_
    rintro e w1 ⟨rfl, hc1, hM1, hk1⟩
    go_wp2_with fail
    go_ret
    exact ⟨rfl, hc1, hM1, hk1⟩
  | succ k ih =>
    intro s ch cnt w hu hs hch hcn hM hc
    have IH := Lib.hid ih
    clear ih
    by_cases hse : s = 2 ^ n - 1
    · have HL : Hid (cM wt ch (mts es n (k + 1) s) = cM wt ch [[]]) := by show _ = _; rw [hse, mts_leaf]
      have hq : ((s : Int) == p1) = true := by simp; rw [hse, HP1.out, HPN.out]
      have HCW := Lib.hid (countWith1_any hM ch cnt hwt (lt_64 hch (by omega)) (by have := Nat.one_le_pow (k + 1) 3 (by decide); omega) hc)
      obtain ⟨xl, x0, x1⟩ := hM.X
      have cd := hM.cd
      have zd := World.block_lt_of_cell? w ⟨bd, 0, none⟩ cd
      rw [HL.out]
      clear hse
      go_enter Tryd.func43, Tryd.ntmps43
      go_wp2_with fail
      refine HCW.out.mono ?_
      rintro e w1 ⟨rfl, hc1, hM1, hk1⟩
      go_wp2_with fail
      go_ret
      exact ⟨rfl, hc1, hM1, hk1⟩
    have hq : ((s : Int) == p1) = false := by
      have h1 : s ≠ p1 := by rw [HP1.out, HPN.out]; exact hse
      simp; omega
    have hsb := lt_64 hs (by omega)
    have hx := xor_max hsb
    have hctz := ctz_lz (by omega : n ≤ 64) hs hse
    have hvl := lz_lt hs hse
    have hvb := (lz_spec s n).2.2 hvl
    have HMT := Lib.hid (mts_step (es := es) (k := k) hse)
    obtain ⟨vx, hvx⟩ : ∃ vx, vx = lz s n := ⟨_, rfl⟩
    rw [← hvx] at hctz hvl hvb HMT
    obtain ⟨y, hy⟩ : ∃ y, y = 18446744073709551615 - s := ⟨_, rfl⟩
    rw [← hy] at hx hctz
    have HTZ : Hid (∀ W, TabAt 0 Lib.deBruijn64tab W → Calls Tryd.prog 44 #[.int .u64 y] W (Is (.int .i64 vx) W)) := fun W hT => by
      have := tz64_any y W (by omega) (by
        intro h0
        have hle : s < 2 ^ 32 := Nat.lt_of_lt_of_le hs (Nat.pow_le_pow_right (by decide) (by omega))
        rw [hy] at h0
        omega) hT
      rw [hctz] at this; exact this
    have hL3 : (atL es vx).length = 3 := atL_3 HG.out (by omega) (by omega)
    have HAT := Lib.hid (at_any n b o m c es vx w hM.E hm)
    have HLA := Lib.hid (fun i (hi : i < (atL es vx).length) => atL_at hi)
    obtain ⟨L0, hL0⟩ : ∃ L0, L0 = atL es (vx : Int) := ⟨_, rfl⟩
    rw [← hL0] at HAT hL3 HLA HMT
    have HL3 := Lib.hid hL3
    have HTT := Lib.hid hM.tab
    obtain ⟨xl, x0, x1⟩ := hM.X
    clear hvx hy hctz hL0 hL3 hse
    go_enter Tryd.func43, Tryd.ntmps43
    go_wp2_with fail
    refine (HTZ.out _ HTT.out).mono ?_
    rintro e w1 ⟨rfl, rfl⟩
    go_wp2_with fail
    refine HAT.out.mono ?_
    rintro e w2 ⟨A3, c3, rfl, O3, hb3⟩
    rw [HL3.out] at O3 ⊢
    have c33 : ((3 : Nat) : Int) = 3 := rfl
    have M2 := hM.below hb3
    have hc2 := (hb3.cell (p := ⟨bm, 0, none⟩) hM.lt.1).trans hc
    have hA3 : Hid (∀ g, blkOf A3 = some g → w.heap.size ≤ g) := fun g hg => (O3.blk g hg).1
    have hblt := hM.lt.1
    go_wp2_with fail
    obtain ⟨g3, o3, rfl, I3⟩ := O3.src (by omega)
    have hg3 : g3 ≠ bm := fun e => by have := hA3.out g3 rfl; omega
    clear O3 x0 x1 xl hc hx
    go_loopw [28] (fun iv wv => ∃ i : Nat, i ≤ 3 ∧ iv = .int .i64 i ∧ wv.cell? ⟨bm, 0, none⟩ = some (.int .i64 ((cnt + cM wt ch (mtT (mts es n k) es vx s L0 i) : Nat) : Int)) ∧ MS bg bd bf bw bm b o n m c wt es wv ∧ Kept (fun k => k = bm) w2 wv) (fun i _ => 3 - (intOf i).toNat)
    case atStart => exact ⟨0, by omega, rfl, hc2, M2, Kept.refl _ _⟩
    case round =>
      obtain ⟨i, hi, rfl, hcw, MW, hK⟩ := hrel
      clear hc2 M2
      obtain ⟨w5, rfl⟩ : ∃ w5, w5 = wr := ⟨wr, rfl⟩
      by_cases hi3 : i < 3
      · have I5 := hK.ints I3 hg3
        have i3 := I5.c i hi3
        have zi := I5.blk
        obtain ⟨d, hdm, hdi, hdv⟩ := HLA.out i (by rw [HL3.out]; exact hi3)
        rw [hdi] at i3
        have hrg := oth_in HG.out.wf hdm hdv
        obtain ⟨u, hu1⟩ : ∃ u : Nat, oth es d vx = u := ⟨(oth es d vx).toNat, by omega⟩
        have hou : othN es (d : Int) vx = u := by rw [← hu1]; unfold othN oth; simp
        have hun : u < n := by omega
        have huv : u ≠ vx := by omega
        have hdl : d < m := by have := MW.E.len; omega
        have d1 := MW.E.ca d hdl
        have d2 := MW.E.cb d hdl
        have zb := MW.E.blk
        have hw := HG.out.wf.2.2.2.2 d hdm
        obtain ⟨xa, hxa⟩ : ∃ xa, xa = ea es d := ⟨_, rfl⟩
        obtain ⟨xb, hxb⟩ : ∃ xb, xb = eb es d := ⟨_, rfl⟩
        have hos : xa + xb - (vx : Int) = (u : Int) := by rw [hxa, hxb, ← hu1]; rfl
        rw [← hxa] at d1
        rw [← hxb] at d2
        have hOT := other_any xa xb vx (h1 := by omega) (h2 := by omega) (h3 := by omega) (h4 := by omega) (h5 := by omega) (h6 := by omega)
        rw [hos] at hOT
        have HOT := Lib.hid hOT
        have hha := has_any s (u : Int) (hs := hsb) (h0 := by omega) (h1 := by omega)
        have hbx : hasB s (u : Int) = s.testBit u := by unfold hasB; rw [Int.toNat_natCast]
        have HDI := Lib.hid hdi
        have HOU := Lib.hid hou
        have HM := Lib.hid MW
        have hm30 : d < 30 := by have := HG.out.wf.2.2.2.1; omega
        obtain ⟨xl, x0, x1⟩ := MW.X
        clear hdi hdv hrg hu1 hou hw hos hOT hxa hxb hdm
        go_wp2_with fail
        refine (HOT.out _).mono ?_
        rintro e w6 ⟨rfl, hb6⟩
        have M6 := HM.out.below hb6
        have hc6 := (hb6.cell (p := ⟨bm, 0, none⟩) HM.out.lt.1).trans hcw
        have hK6 := hK.thenB hb6
        have I6 := I5.below hb6
        obtain ⟨C, hC⟩ : ∃ C, C = cnt + cM wt ch (mtT (mts es n k) es vx s L0 i) := ⟨_, rfl⟩
        rw [← hC] at hc6
        have HC := Lib.hid hC
        have hle := mtT_len (es := es) (v := vx) (s := s) (L := L0) (mts_len es n k) i
        have hle2 := cM_len wt ch (mtT (mts es n k) es vx s L0 i)
        have hcb : C + 3 ^ k ≤ 1099511627776 := by
          rw [Nat.pow_succ] at hcn
          have : i * 3 ^ k ≤ 2 * 3 ^ k := Nat.mul_le_mul_right _ (by omega)
          omega
        obtain ⟨w5, rfl⟩ : ∃ w5, w5 = w6 := ⟨w6, rfl⟩
        clear hcw hK I5 i3 zi d1 d2 zb xl x0 x1 hle hle2 hC hb6
        obtain ⟨pd, hpdE⟩ : ∃ pd, pd = (2 : Nat) ^ d := ⟨_, rfl⟩
        obtain ⟨pv, hpvE⟩ : ∃ pv, pv = (2 : Nat) ^ vx := ⟨_, rfl⟩
        obtain ⟨pu, hpuE⟩ : ∃ pu, pu = (2 : Nat) ^ u := ⟨_, rfl⟩
        have hpd := wrap_powD (x := d) (by omega)
        have hpv := wrap_powD (x := vx) (by omega)
        have hpu := wrap_powD (x := u) (by omega)
        rw [← hpdE] at hpd
        rw [← hpvE] at hpv
        rw [← hpuE] at hpu
        have hcdl := or_lt2 hch hm30
        have hsvl := or_lt2 hs hvl
        have hsul := or_lt2 hsvl hun
        have hl30 : ∀ x, x < 30 → (2 : Nat) ^ x < 18446744073709551616 := fun x hx => lt_64 (n := 30) (Nat.pow_lt_pow_of_lt (by decide) hx) (by decide)
        have ocd := u64_or_nat ch pd (lt_64 hch (by omega)) (by rw [hpdE]; exact hl30 d hm30)
        have osv := u64_or_nat s pv hsb (by rw [hpvE]; exact hl30 vx (by omega))
        have osu := u64_or_nat (s ||| pv) pu (by rw [hpvE]; exact lt_64 hsvl (by omega)) (by rw [hpuE]; exact hl30 u (by omega))
        rw [← hpdE] at hcdl
        rw [← hpvE, ← hpuE] at hsul
        have HSU : Hid (s.testBit u = false → uns (s ||| pv ||| pu) n + 2 = uns s n) := fun hf => by rw [hpvE, hpuE]; exact uns_step hvl hun huv hvb hf
        have HTN : Hid (s.testBit u = true → mtT (mts es n k) es vx s L0 (i + 1) = mtT (mts es n k) es vx s L0 i) := fun hf => mtT_no (by rw [HDI.out, HOU.out]; simpa using hf)
        have HTY : Hid (s.testBit u = false → cnt + cM wt ch (mtT (mts es n k) es vx s L0 (i + 1)) = C + cM wt (ch ||| pd) (mts es n k (s ||| pv ||| pu))) := fun hf => by
          rw [mtT_yes HDI.out HOU.out hf, cM_app, cM_map, HC.out, hpdE, hpvE, hpuE]
          simp [Nat.add_assoc]
        obtain ⟨cd, hcd⟩ : ∃ cd, cd = ch ||| pd := ⟨_, rfl⟩
        obtain ⟨sv, hsv⟩ : ∃ sv, sv = s ||| pv := ⟨_, rfl⟩
        rw [← hsv] at osv osu hsul HSU HTY
        obtain ⟨su, hsu⟩ : ∃ su, su = sv ||| pu := ⟨_, rfl⟩
        rw [← hcd] at ocd hcdl HTY
        rw [← hsu] at osu hsul HSU HTY
        have cf := M6.cf
        have zf := World.block_lt_of_cell? w5 ⟨bf, 0, none⟩ cf
        clear hpdE hpvE hpuE hsvl hcd hsv hsu hl30 HM
        cases hb : s.testBit u with
        | true =>
          rw [hbx, hb] at hha
          have HHA : Hid (∀ W, Calls Tryd.prog 47 #[.int .u64 s, .int .i64 u] W (Ret (.bool true) W)) := fun W => (hha W).mono (fun e w' h => ⟨h.1, by rw [← h.2]; exact Below.refl _ _⟩)
          have HE := Lib.hid (HTN.out hb)
          clear hha hb hbx HSU HTN HTY
          go_wp2_with fail
          refine wp_region_then 17 (fun i9 v W => match i9 with
            | 0 => v = .int .u64 s
            | 1 => v = .int .i64 (u : Int)
            | 2 => v = .bool true
            | 3 => v = .bool false
            | 4 => v = .bool false
            | 5 => v = undef
            | 6 => v = undef
            | 7 => v = undef
            | 8 => v = undef
            | 9 => v = undef
            | 10 => v = undef
            | 11 => v = undef
            | 12 => v = undef
            | 13 => v = undef
            | 14 => v = undef
            | 15 => v = undef
            | _ => v = undef)
            (fun i => match i with
            | _ => none)
            (fun k W W' => Below W.heap.size W W')  (fun W => Below w5.heap.size w5 W) (by kernel_rfl) (by kernel_rfl) ?_ ?_ ?_ ?_ ?_
          · exact (Below.refl _ _).drew
          · intro i k v W W' hne hd hC hf hE
            match i, hf with
            | 0, hf => exact hf
            | 1, hf => exact hf
            | 2, hf => exact hf
            | 3, hf => exact hf
            | 4, hf => exact hf
            | 5, hf => exact hf
            | 6, hf => exact hf
            | 7, hf => exact hf
            | 8, hf => exact hf
            | 9, hf => exact hf
            | 10, hf => exact hf
            | 11, hf => exact hf
            | 12, hf => exact hf
            | 13, hf => exact hf
            | 14, hf => exact hf
            | 15, hf => exact hf
            | _ + 16, hf => exact hf
          · intro k W W' hC hE
            exact Below.andB hC hE
          · simp only [List.take_succ_cons, List.take_zero]
            refine ⟨?_, ?_, ?_, ?_, ?_, ?_, ?_, ?_, ?_, ?_, ?_, ?_, ?_, ?_, ?_, ?_, ?_, trivial⟩
            · intro a W hC hs hd
              have hW : Below w5.heap.size w5 W := hC
              have e1 : a.tmps[1]?.getD undef = .int .u64 s := hs 1 (by kernel_rfl)
              refine growsG_none (E := fun W W' => Below W.heap.size W W') rfl ?_
              clear hs hd
              unfold GrowsE
              go_simp
              exact Below.refl _ _
            · intro a W hC hs hd
              have hW : Below w5.heap.size w5 W := hC
              have e11 : a.tmps[11]?.getD undef = .int .i64 (u : Int) := hs 11 (by kernel_rfl)
              refine growsG_none (E := fun W W' => Below W.heap.size W W') rfl ?_
              clear hs hd
              unfold GrowsE
              go_simp
              exact Below.refl _ _
            · intro a W hC hs hd
              have hW : Below w5.heap.size w5 W := hC
              have e39 : (a.tmps[39]?.getD undef) = .int .u64 s := hd 0 39 (by kernel_rfl) (by kernel_rfl) (by kernel_rfl)
              have e40 : (a.tmps[40]?.getD undef) = .int .i64 (u : Int) := hd 1 40 (by kernel_rfl) (by kernel_rfl) (by kernel_rfl)
              refine growsG_none (E := fun W W' => Below W.heap.size W W') rfl ?_
              clear hs hd
              unfold GrowsE
              go_simp
              refine ⟨Below.refl _ _, (HHA.out W).mono ?_⟩
              rintro e w6 ⟨rfl, hb6⟩
              exact ⟨_, rfl, hb6, rfl⟩
            · intro a W hC hs hd
              have hW : Below w5.heap.size w5 W := hC
              have e41 : (a.tmps[41]?.getD undef) = .bool true := hd 2 41 (by kernel_rfl) (by kernel_rfl) (by kernel_rfl)
              refine growsG_none (E := fun W W' => Below W.heap.size W W') rfl ?_
              clear hs hd
              unfold GrowsE
              go_simp
              exact Below.refl _ _
            · intro a W hC hs hd
              have hW : Below w5.heap.size w5 W := hC
              have e42 : (a.tmps[42]?.getD undef) = .bool false := hd 3 42 (by kernel_rfl) (by kernel_rfl) (by kernel_rfl)
              refine growsG_none (E := fun W W' => Below W.heap.size W W') rfl ?_
              clear hs hd
              unfold GrowsE
              go_simp
              exact Below.refl _ _
            · intro a W hC hs hd
              have hW : Below w5.heap.size w5 W := hC
              have y43 : (a.tmps[43]?.getD undef) = .bool false := hd 4 43 (by kernel_rfl) (by kernel_rfl) (by kernel_rfl)
              exact growsG_no (E := fun W W' => Below W.heap.size W W') (b := false) rfl (by kernel_rfl) y43 (by decide) (Below.refl _ _) rfl
            · intro a W hC hs hd
              have hW : Below w5.heap.size w5 W := hC
              have y43 : (a.tmps[43]?.getD undef) = .bool false := hd 4 43 (by kernel_rfl) (by kernel_rfl) (by kernel_rfl)
              exact growsG_no (E := fun W W' => Below W.heap.size W W') (b := false) rfl (by kernel_rfl) y43 (by decide) (Below.refl _ _) rfl
            · intro a W hC hs hd
              have hW : Below w5.heap.size w5 W := hC
              have y43 : (a.tmps[43]?.getD undef) = .bool false := hd 4 43 (by kernel_rfl) (by kernel_rfl) (by kernel_rfl)
              exact growsG_no (E := fun W W' => Below W.heap.size W W') (b := false) rfl (by kernel_rfl) y43 (by decide) (Below.refl _ _) rfl
            · intro a W hC hs hd
              have hW : Below w5.heap.size w5 W := hC
              have y43 : (a.tmps[43]?.getD undef) = .bool false := hd 4 43 (by kernel_rfl) (by kernel_rfl) (by kernel_rfl)
              exact growsG_no (E := fun W W' => Below W.heap.size W W') (b := false) rfl (by kernel_rfl) y43 (by decide) (Below.refl _ _) rfl
            · intro a W hC hs hd
              have hW : Below w5.heap.size w5 W := hC
              have y43 : (a.tmps[43]?.getD undef) = .bool false := hd 4 43 (by kernel_rfl) (by kernel_rfl) (by kernel_rfl)
              exact growsG_no (E := fun W W' => Below W.heap.size W W') (b := false) rfl (by kernel_rfl) y43 (by decide) (Below.refl _ _) rfl
            · intro a W hC hs hd
              have hW : Below w5.heap.size w5 W := hC
              have y43 : (a.tmps[43]?.getD undef) = .bool false := hd 4 43 (by kernel_rfl) (by kernel_rfl) (by kernel_rfl)
              exact growsG_no (E := fun W W' => Below W.heap.size W W') (b := false) rfl (by kernel_rfl) y43 (by decide) (Below.refl _ _) rfl
            · intro a W hC hs hd
              have hW : Below w5.heap.size w5 W := hC
              have y43 : (a.tmps[43]?.getD undef) = .bool false := hd 4 43 (by kernel_rfl) (by kernel_rfl) (by kernel_rfl)
              exact growsG_no (E := fun W W' => Below W.heap.size W W') (b := false) rfl (by kernel_rfl) y43 (by decide) (Below.refl _ _) rfl
            · intro a W hC hs hd
              have hW : Below w5.heap.size w5 W := hC
              have y43 : (a.tmps[43]?.getD undef) = .bool false := hd 4 43 (by kernel_rfl) (by kernel_rfl) (by kernel_rfl)
              exact growsG_no (E := fun W W' => Below W.heap.size W W') (b := false) rfl (by kernel_rfl) y43 (by decide) (Below.refl _ _) rfl
            · intro a W hC hs hd
              have hW : Below w5.heap.size w5 W := hC
              have y43 : (a.tmps[43]?.getD undef) = .bool false := hd 4 43 (by kernel_rfl) (by kernel_rfl) (by kernel_rfl)
              exact growsG_no (E := fun W W' => Below W.heap.size W W') (b := false) rfl (by kernel_rfl) y43 (by decide) (Below.refl _ _) rfl
            · intro a W hC hs hd
              have hW : Below w5.heap.size w5 W := hC
              have y43 : (a.tmps[43]?.getD undef) = .bool false := hd 4 43 (by kernel_rfl) (by kernel_rfl) (by kernel_rfl)
              exact growsG_no (E := fun W W' => Below W.heap.size W W') (b := false) rfl (by kernel_rfl) y43 (by decide) (Below.refl _ _) rfl
            · intro a W hC hs hd
              have hW : Below w5.heap.size w5 W := hC
              have y43 : (a.tmps[43]?.getD undef) = .bool false := hd 4 43 (by kernel_rfl) (by kernel_rfl) (by kernel_rfl)
              exact growsG_no (E := fun W W' => Below W.heap.size W W') (b := false) rfl (by kernel_rfl) y43 (by decide) (Below.refl _ _) rfl
            · intro a W hC hs hd
              have hW : Below w5.heap.size w5 W := hC
              have y43 : (a.tmps[43]?.getD undef) = .bool false := hd 4 43 (by kernel_rfl) (by kernel_rfl) (by kernel_rfl)
              exact growsG_no (E := fun W W' => Below W.heap.size W W') (b := false) rfl (by kernel_rfl) y43 (by decide) (Below.refl _ _) rfl
          intro vs W hW hf
          have f39 : (vs 39) = .int .u64 s := hf 0 39 (by decide) (by kernel_rfl) (fun _ hk => by cases hk)
          have f40 : (vs 40) = .int .i64 (u : Int) := hf 1 40 (by decide) (by kernel_rfl) (fun _ hk => by cases hk)
          have f41 : (vs 41) = .bool true := hf 2 41 (by decide) (by kernel_rfl) (fun _ hk => by cases hk)
          have f42 : (vs 42) = .bool false := hf 3 42 (by decide) (by kernel_rfl) (fun _ hk => by cases hk)
          have f43 : (vs 43) = .bool false := hf 4 43 (by decide) (by kernel_rfl) (fun _ hk => by cases hk)
          have f44 : (vs 44) = undef := hf 5 44 (by decide) (by kernel_rfl) (fun _ hk => by cases hk)
          have f45 : (vs 45) = undef := hf 6 45 (by decide) (by kernel_rfl) (fun _ hk => by cases hk)
          have f46 : (vs 46) = undef := hf 7 46 (by decide) (by kernel_rfl) (fun _ hk => by cases hk)
          have f47 : (vs 47) = undef := hf 8 47 (by decide) (by kernel_rfl) (fun _ hk => by cases hk)
          have f48 : (vs 48) = undef := hf 9 48 (by decide) (by kernel_rfl) (fun _ hk => by cases hk)
          have f49 : (vs 49) = undef := hf 10 49 (by decide) (by kernel_rfl) (fun _ hk => by cases hk)
          have f50 : (vs 50) = undef := hf 11 50 (by decide) (by kernel_rfl) (fun _ hk => by cases hk)
          have f51 : (vs 51) = undef := hf 12 51 (by decide) (by kernel_rfl) (fun _ hk => by cases hk)
          have f52 : (vs 52) = undef := hf 13 52 (by decide) (by kernel_rfl) (fun _ hk => by cases hk)
          have f53 : (vs 53) = undef := hf 14 53 (by decide) (by kernel_rfl) (fun _ hk => by cases hk)
          have f54 : (vs 54) = undef := hf 15 54 (by decide) (by kernel_rfl) (fun _ hk => by cases hk)
          have f55 : (vs 55) = undef := hf 16 55 (by decide) (by kernel_rfl) (fun _ hk => by cases hk)
          simp only [dsts, List.take_succ_cons, List.take_zero, List.drop_succ_cons, List.drop_zero, List.filterMap_cons, List.filterMap_nil, List.foldl_cons, List.foldl_nil, Act.put, List.setIfInBounds_toArray, List.set_cons_succ, List.set_cons_zero, f39, f40, f41, f42, f43, f44, f45, f46, f47, f48, f49, f50, f51, f52, f53, f54, f55]
          clear hf
          have hW : Below w5.heap.size w5 W := hW
          have M7 := M6.below hW
          have hc7 := (hW.cell (p := ⟨bm, 0, none⟩) M6.lt.1).trans hc6
          have hK7 := hK6.thenB hW
          clear cf zf
          go_wp2_with fail
          go_roundw
          case rel => exact ⟨i + 1, by omega, by go_num, by rw [HE.out, ← HC.out]; exact hc7, M7, hK7⟩
          case measure => simp [intOf]; omega
        | false =>
          rw [hbx, hb] at hha
          have HHA : Hid (∀ W, Calls Tryd.prog 47 #[.int .u64 s, .int .i64 u] W (Ret (.bool false) W)) := fun W => (hha W).mono (fun e w' h => ⟨h.1, by rw [← h.2]; exact Below.refl _ _⟩)
          have hus := HSU.out hb
          have HE := Lib.hid (HTY.out hb)
          clear hha hb hbx HSU HTN HTY
          go_wp2_with fail
          refine wp_region_then 17 (fun i9 v W => match i9 with
            | 0 => v = .int .u64 s
            | 1 => v = .int .i64 (u : Int)
            | 2 => v = .bool false
            | 3 => v = .bool true
            | 4 => v = .bool true
            | 5 => v = .func (.func 43) #[] #[.pointer (some ⟨bg, 0, none⟩), .pointer (some ⟨bd, 0, none⟩), .pointer (some ⟨bf, 0, none⟩)]
            | 6 => v = .int .u64 ch
            | 7 => v = .int .i64 (d : Int)
            | 8 => v = .int .u64 pd
            | 9 => v = .int .u64 cd
            | 10 => v = .int .u64 s
            | 11 => v = .int .i64 (vx : Int)
            | 12 => v = .int .u64 pv
            | 13 => v = .int .u64 sv
            | 14 => v = .int .i64 (u : Int)
            | 15 => v = .int .u64 pu
            | _ => v = .int .u64 su)
            (fun i => match i with
            | _ => none)
            (fun k W W' => Below W.heap.size W W')  (fun W => Below w5.heap.size w5 W) (by kernel_rfl) (by kernel_rfl) ?_ ?_ ?_ ?_ ?_
          · exact (Below.refl _ _).drew
          · intro i k v W W' hne hd hC hf hE
            match i, hf with
            | 0, hf => exact hf
            | 1, hf => exact hf
            | 2, hf => exact hf
            | 3, hf => exact hf
            | 4, hf => exact hf
            | 5, hf => exact hf
            | 6, hf => exact hf
            | 7, hf => exact hf
            | 8, hf => exact hf
            | 9, hf => exact hf
            | 10, hf => exact hf
            | 11, hf => exact hf
            | 12, hf => exact hf
            | 13, hf => exact hf
            | 14, hf => exact hf
            | 15, hf => exact hf
            | _ + 16, hf => exact hf
          · intro k W W' hC hE
            exact Below.andB hC hE
          · simp only [List.take_succ_cons, List.take_zero]
            refine ⟨?_, ?_, ?_, ?_, ?_, ?_, ?_, ?_, ?_, ?_, ?_, ?_, ?_, ?_, ?_, ?_, ?_, trivial⟩
            · intro a W hC hs hd
              have hW : Below w5.heap.size w5 W := hC
              have e1 : a.tmps[1]?.getD undef = .int .u64 s := hs 1 (by kernel_rfl)
              refine growsG_none (E := fun W W' => Below W.heap.size W W') rfl ?_
              clear hs hd
              unfold GrowsE
              go_simp
              exact Below.refl _ _
            · intro a W hC hs hd
              have hW : Below w5.heap.size w5 W := hC
              have e11 : a.tmps[11]?.getD undef = .int .i64 (u : Int) := hs 11 (by kernel_rfl)
              refine growsG_none (E := fun W W' => Below W.heap.size W W') rfl ?_
              clear hs hd
              unfold GrowsE
              go_simp
              exact Below.refl _ _
            · intro a W hC hs hd
              have hW : Below w5.heap.size w5 W := hC
              have e39 : (a.tmps[39]?.getD undef) = .int .u64 s := hd 0 39 (by kernel_rfl) (by kernel_rfl) (by kernel_rfl)
              have e40 : (a.tmps[40]?.getD undef) = .int .i64 (u : Int) := hd 1 40 (by kernel_rfl) (by kernel_rfl) (by kernel_rfl)
              refine growsG_none (E := fun W W' => Below W.heap.size W W') rfl ?_
              clear hs hd
              unfold GrowsE
              go_simp
              refine ⟨Below.refl _ _, (HHA.out W).mono ?_⟩
              rintro e w6 ⟨rfl, hb6⟩
              exact ⟨_, rfl, hb6, rfl⟩
            · intro a W hC hs hd
              have hW : Below w5.heap.size w5 W := hC
              have e41 : (a.tmps[41]?.getD undef) = .bool false := hd 2 41 (by kernel_rfl) (by kernel_rfl) (by kernel_rfl)
              refine growsG_none (E := fun W W' => Below W.heap.size W W') rfl ?_
              clear hs hd
              unfold GrowsE
              go_simp
              exact Below.refl _ _
            · intro a W hC hs hd
              have hW : Below w5.heap.size w5 W := hC
              have e42 : (a.tmps[42]?.getD undef) = .bool true := hd 3 42 (by kernel_rfl) (by kernel_rfl) (by kernel_rfl)
              refine growsG_none (E := fun W W' => Below W.heap.size W W') rfl ?_
              clear hs hd
              unfold GrowsE
              go_simp
              exact Below.refl _ _
            · intro a W hC hs hd
              have hW : Below w5.heap.size w5 W := hC
              have y43 : (a.tmps[43]?.getD undef) = .bool true := hd 4 43 (by kernel_rfl) (by kernel_rfl) (by kernel_rfl)
              have e4 : a.tmps[4]?.getD undef = .pointer (some ⟨bf, 0, none⟩) := hs 4 (by kernel_rfl)
              refine growsG_yes (E := fun W W' => Below W.heap.size W W') rfl (by kernel_rfl) y43 ?_
              have k0 := (hW.cell (p := ⟨bf, 0, none⟩) (zf)).trans (cf)
              clear hs hd
              unfold GrowsE
              go_simp
              exact Below.refl _ _
            · intro a W hC hs hd
              have hW : Below w5.heap.size w5 W := hC
              have y43 : (a.tmps[43]?.getD undef) = .bool true := hd 4 43 (by kernel_rfl) (by kernel_rfl) (by kernel_rfl)
              have e0 : a.tmps[0]?.getD undef = .int .u64 ch := hs 0 (by kernel_rfl)
              refine growsG_yes (E := fun W W' => Below W.heap.size W W') rfl (by kernel_rfl) y43 ?_
              clear hs hd
              unfold GrowsE
              go_simp
              exact Below.refl _ _
            · intro a W hC hs hd
              have hW : Below w5.heap.size w5 W := hC
              have y43 : (a.tmps[43]?.getD undef) = .bool true := hd 4 43 (by kernel_rfl) (by kernel_rfl) (by kernel_rfl)
              have e10 : a.tmps[10]?.getD undef = .int .i64 (d : Int) := hs 10 (by kernel_rfl)
              refine growsG_yes (E := fun W W' => Below W.heap.size W W') rfl (by kernel_rfl) y43 ?_
              clear hs hd
              unfold GrowsE
              go_simp
              exact Below.refl _ _
            · intro a W hC hs hd
              have hW : Below w5.heap.size w5 W := hC
              have y43 : (a.tmps[43]?.getD undef) = .bool true := hd 4 43 (by kernel_rfl) (by kernel_rfl) (by kernel_rfl)
              have e46 : (a.tmps[46]?.getD undef) = .int .i64 (d : Int) := hd 7 46 (by kernel_rfl) (by kernel_rfl) (by kernel_rfl)
              refine growsG_yes (E := fun W W' => Below W.heap.size W W') rfl (by kernel_rfl) y43 ?_
              clear hs hd
              unfold GrowsE
              go_simp
              exact Below.refl _ _
            · intro a W hC hs hd
              have hW : Below w5.heap.size w5 W := hC
              have y43 : (a.tmps[43]?.getD undef) = .bool true := hd 4 43 (by kernel_rfl) (by kernel_rfl) (by kernel_rfl)
              have e45 : (a.tmps[45]?.getD undef) = .int .u64 ch := hd 6 45 (by kernel_rfl) (by kernel_rfl) (by kernel_rfl)
              have e47 : (a.tmps[47]?.getD undef) = .int .u64 pd := hd 8 47 (by kernel_rfl) (by kernel_rfl) (by kernel_rfl)
              refine growsG_yes (E := fun W W' => Below W.heap.size W W') rfl (by kernel_rfl) y43 ?_
              clear hs hd
              unfold GrowsE
              go_simp
              exact Below.refl _ _
            · intro a W hC hs hd
              have hW : Below w5.heap.size w5 W := hC
              have y43 : (a.tmps[43]?.getD undef) = .bool true := hd 4 43 (by kernel_rfl) (by kernel_rfl) (by kernel_rfl)
              have e1 : a.tmps[1]?.getD undef = .int .u64 s := hs 1 (by kernel_rfl)
              refine growsG_yes (E := fun W W' => Below W.heap.size W W') rfl (by kernel_rfl) y43 ?_
              clear hs hd
              unfold GrowsE
              go_simp
              exact Below.refl _ _
            · intro a W hC hs hd
              have hW : Below w5.heap.size w5 W := hC
              have y43 : (a.tmps[43]?.getD undef) = .bool true := hd 4 43 (by kernel_rfl) (by kernel_rfl) (by kernel_rfl)
              have e8 : a.tmps[8]?.getD undef = .int .i64 (vx : Int) := hs 8 (by kernel_rfl)
              refine growsG_yes (E := fun W W' => Below W.heap.size W W') rfl (by kernel_rfl) y43 ?_
              clear hs hd
              unfold GrowsE
              go_simp
              exact Below.refl _ _
            · intro a W hC hs hd
              have hW : Below w5.heap.size w5 W := hC
              have y43 : (a.tmps[43]?.getD undef) = .bool true := hd 4 43 (by kernel_rfl) (by kernel_rfl) (by kernel_rfl)
              have e50 : (a.tmps[50]?.getD undef) = .int .i64 (vx : Int) := hd 11 50 (by kernel_rfl) (by kernel_rfl) (by kernel_rfl)
              refine growsG_yes (E := fun W W' => Below W.heap.size W W') rfl (by kernel_rfl) y43 ?_
              clear hs hd
              unfold GrowsE
              go_simp
              exact Below.refl _ _
            · intro a W hC hs hd
              have hW : Below w5.heap.size w5 W := hC
              have y43 : (a.tmps[43]?.getD undef) = .bool true := hd 4 43 (by kernel_rfl) (by kernel_rfl) (by kernel_rfl)
              have e49 : (a.tmps[49]?.getD undef) = .int .u64 s := hd 10 49 (by kernel_rfl) (by kernel_rfl) (by kernel_rfl)
              have e51 : (a.tmps[51]?.getD undef) = .int .u64 pv := hd 12 51 (by kernel_rfl) (by kernel_rfl) (by kernel_rfl)
              refine growsG_yes (E := fun W W' => Below W.heap.size W W') rfl (by kernel_rfl) y43 ?_
              clear hs hd
              unfold GrowsE
              go_simp
              exact Below.refl _ _
            · intro a W hC hs hd
              have hW : Below w5.heap.size w5 W := hC
              have y43 : (a.tmps[43]?.getD undef) = .bool true := hd 4 43 (by kernel_rfl) (by kernel_rfl) (by kernel_rfl)
              have e11 : a.tmps[11]?.getD undef = .int .i64 (u : Int) := hs 11 (by kernel_rfl)
              refine growsG_yes (E := fun W W' => Below W.heap.size W W') rfl (by kernel_rfl) y43 ?_
              clear hs hd
              unfold GrowsE
              go_simp
              exact Below.refl _ _
            · intro a W hC hs hd
              have hW : Below w5.heap.size w5 W := hC
              have y43 : (a.tmps[43]?.getD undef) = .bool true := hd 4 43 (by kernel_rfl) (by kernel_rfl) (by kernel_rfl)
              have e53 : (a.tmps[53]?.getD undef) = .int .i64 (u : Int) := hd 14 53 (by kernel_rfl) (by kernel_rfl) (by kernel_rfl)
              refine growsG_yes (E := fun W W' => Below W.heap.size W W') rfl (by kernel_rfl) y43 ?_
              clear hs hd
              unfold GrowsE
              go_simp
              exact Below.refl _ _
            · intro a W hC hs hd
              have hW : Below w5.heap.size w5 W := hC
              have y43 : (a.tmps[43]?.getD undef) = .bool true := hd 4 43 (by kernel_rfl) (by kernel_rfl) (by kernel_rfl)
              have e52 : (a.tmps[52]?.getD undef) = .int .u64 sv := hd 13 52 (by kernel_rfl) (by kernel_rfl) (by kernel_rfl)
              have e54 : (a.tmps[54]?.getD undef) = .int .u64 pu := hd 15 54 (by kernel_rfl) (by kernel_rfl) (by kernel_rfl)
              refine growsG_yes (E := fun W W' => Below W.heap.size W W') rfl (by kernel_rfl) y43 ?_
              clear hs hd
              unfold GrowsE
              go_simp
              exact Below.refl _ _
          intro vs W hW hf
          have f39 : (vs 39) = .int .u64 s := hf 0 39 (by decide) (by kernel_rfl) (fun _ hk => by cases hk)
          have f40 : (vs 40) = .int .i64 (u : Int) := hf 1 40 (by decide) (by kernel_rfl) (fun _ hk => by cases hk)
          have f41 : (vs 41) = .bool false := hf 2 41 (by decide) (by kernel_rfl) (fun _ hk => by cases hk)
          have f42 : (vs 42) = .bool true := hf 3 42 (by decide) (by kernel_rfl) (fun _ hk => by cases hk)
          have f43 : (vs 43) = .bool true := hf 4 43 (by decide) (by kernel_rfl) (fun _ hk => by cases hk)
          have f44 : (vs 44) = .func (.func 43) #[] #[.pointer (some ⟨bg, 0, none⟩), .pointer (some ⟨bd, 0, none⟩), .pointer (some ⟨bf, 0, none⟩)] := hf 5 44 (by decide) (by kernel_rfl) (fun _ hk => by cases hk)
          have f45 : (vs 45) = .int .u64 ch := hf 6 45 (by decide) (by kernel_rfl) (fun _ hk => by cases hk)
          have f46 : (vs 46) = .int .i64 (d : Int) := hf 7 46 (by decide) (by kernel_rfl) (fun _ hk => by cases hk)
          have f47 : (vs 47) = .int .u64 pd := hf 8 47 (by decide) (by kernel_rfl) (fun _ hk => by cases hk)
          have f48 : (vs 48) = .int .u64 cd := hf 9 48 (by decide) (by kernel_rfl) (fun _ hk => by cases hk)
          have f49 : (vs 49) = .int .u64 s := hf 10 49 (by decide) (by kernel_rfl) (fun _ hk => by cases hk)
          have f50 : (vs 50) = .int .i64 (vx : Int) := hf 11 50 (by decide) (by kernel_rfl) (fun _ hk => by cases hk)
          have f51 : (vs 51) = .int .u64 pv := hf 12 51 (by decide) (by kernel_rfl) (fun _ hk => by cases hk)
          have f52 : (vs 52) = .int .u64 sv := hf 13 52 (by decide) (by kernel_rfl) (fun _ hk => by cases hk)
          have f53 : (vs 53) = .int .i64 (u : Int) := hf 14 53 (by decide) (by kernel_rfl) (fun _ hk => by cases hk)
          have f54 : (vs 54) = .int .u64 pu := hf 15 54 (by decide) (by kernel_rfl) (fun _ hk => by cases hk)
          have f55 : (vs 55) = .int .u64 su := hf 16 55 (by decide) (by kernel_rfl) (fun _ hk => by cases hk)
          simp only [dsts, List.take_succ_cons, List.take_zero, List.drop_succ_cons, List.drop_zero, List.filterMap_cons, List.filterMap_nil, List.foldl_cons, List.foldl_nil, Act.put, List.setIfInBounds_toArray, List.set_cons_succ, List.set_cons_zero, f39, f40, f41, f42, f43, f44, f45, f46, f47, f48, f49, f50, f51, f52, f53, f54, f55]
          clear hf
          have hW : Below w5.heap.size w5 W := hW
          have M7 := M6.below hW
          have hc7 := (hW.cell (p := ⟨bm, 0, none⟩) M6.lt.1).trans hc6
          have hK7 := hK6.thenB hW
          clear cf zf
          go_wp2_with fail
          refine (IH.out su cd C W (by omega) hsul hcdl hcb M7 hc7).mono ?_
          rintro e w8 ⟨rfl, hc8, M8, hK8⟩
          have hK9 := hK7.trans hK8
          go_wp2_with fail
          go_roundw
          case rel => exact ⟨i + 1, by omega, by go_num, by rw [HE.out]; exact hc8, M8, hK9⟩
          case measure => simp [intOf]; omega
      · obtain rfl : i = 3 := by omega
        have HE : Hid (cM wt ch (mts es n (k + 1) s) = cM wt ch (mtT (mts es n k) es vx s L0 3)) := by show _ = _; rw [HMT.out]
        have hK9 := (Kept.of (S := fun k => k = bm) hb3).trans hK
        go_wp2_with fail
        go_ret
        exact ⟨rfl, by rw [HE.out]; exact hcw, MW, hK9⟩
end Go.Proofs.YtppfplhbfgjjhaaDoor
