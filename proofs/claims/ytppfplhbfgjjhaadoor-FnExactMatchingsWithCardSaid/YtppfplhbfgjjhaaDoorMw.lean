import Derived.Test.YtppfplhbfgjjhaaDoorMu
import Derived.Test.YtppfplhbfgjjhaaDoorLi
namespace Go.Proofs.YtppfplhbfgjjhaaDoor
open Go.RowKit Go.Sort Go.Shelf
/-! ### The reference's matchings -/
def mtR (rows : List (List Int)) (ys : List Int) (X : List (List Int)) : List (List Int) := rows ++ X.map (ys ++ ·)
theorem atLL (ys : List Int) (rows : List (List Int)) : mtR rows ys [[]] = rows ++ [ys] := by simp [mtR]
theorem i64_or_nat (a b : Nat) (ha : a < 9223372036854775808) (hb : b < 9223372036854775808) : bits .or .i64 (a : Int) (b : Int) = ((a ||| b : Nat) : Int) := by
  have hx : a ||| b < 2 ^ 63 := Nat.or_lt_two_pow (by omega) (by omega)
  show IntKind.i64.wrap ((BitVec.ofInt 64 (a : Int) ||| BitVec.ofInt 64 (b : Int)).toNat : Int) = _
  rw [BitVec.toNat_or, ofInt_u64 a (by omega), ofInt_u64 b (by omega)]
  exact IntWalk.i64_in _ (by omega)
theorem i64_and_nat (a b : Nat) (ha : a < 9223372036854775808) (hb : b < 9223372036854775808) : bits .and .i64 (a : Int) (b : Int) = ((a &&& b : Nat) : Int) := by
  have hx : a &&& b < 2 ^ 63 := Nat.and_lt_two_pow _ (by omega)
  show IntKind.i64.wrap ((BitVec.ofInt 64 (a : Int) &&& BitVec.ofInt 64 (b : Int)).toNat : Int) = _
  rw [BitVec.toNat_and, ofInt_u64 a (by omega), ofInt_u64 b (by omega)]
  exact IntWalk.i64_in _ (by omega)
theorem bit_i64 (s v : Nat) (hs : s < 9223372036854775808) : bits BinOp.and IntKind.i64 ((s : Int) / 2 ^ v) 1 = if s.testBit v then 1 else 0 := by
  have e : ((s : Int) / 2 ^ v) = ((s / 2 ^ v : Nat) : Int) := by simp
  rw [e, show (1 : Int) = ((1 : Nat) : Int) from rfl, i64_and_nat _ _ (Nat.lt_of_le_of_lt (Nat.div_le_self _ _) hs) (by decide), Nat.and_one_is_mod, Nat.testBit_eq_decide_div_mod_eq]
  have := Nat.mod_two_eq_zero_or_one (s / 2 ^ v)
  rcases this with h | h <;> simp [h]
theorem wrapi_pow {x : Nat} (h : x < 63) : IntKind.i64.wrap ((2 : Int) ^ x) = ((2 ^ x : Nat) : Int) := by
  have hp : (2 : Nat) ^ x < 9223372036854775808 := Nat.lt_of_lt_of_le (Nat.pow_lt_pow_of_lt (a := 2) (by decide) (by omega : x < 63)) (by decide)
  rw [show ((2 : Int) ^ x) = ((2 ^ x : Nat) : Int) by simp]
  generalize (2 : Nat) ^ x = y at hp
  exact IntWalk.i64_in _ (by omega)
theorem rowsT (R : Nat → List (List Int)) (es : List (Int × Int)) (v s : Nat) (L : List Int) (ys : List Int) (rows : List (List Int)) {i d u : Nat} (hd : ia L i = d) (hu : othN es d v = u) (h : s.testBit u = false) :
    mtR rows ys (mtT R es v s L (i + 1)) = mtR (mtR rows ys (mtT R es v s L i)) (ys ++ [(d : Int)]) (R (s ||| 2 ^ v ||| 2 ^ u)) := by
  unfold mtR
  rw [mtT_yes hd hu h, List.map_append, List.map_map, List.append_assoc]
  congr 2
  exact List.map_congr_left fun x _ => by simp
set_option maxRecDepth 100000 in
set_option maxHeartbeats 4000000 in
theorem l04List_any (N b o m c : Nat) (es : List (Int × Int)) (B0 : Nat) (hm : m ≤ 1048576) (hG : IsG N es) :
    ∀ (dp k s : Nat) (ys : List Int) (A0 : Option Addr) (c0 : Nat) (rows : List (List Int)) (A : Option Addr) (c' : Nat) (w : World), k < dp → uns s N ≤ 2 * k → s < 2 ^ N → ys.length + k ≤ 100 → rows.length + 3 ^ k ≤ 1048576 → Eds w b o m es → SrcI w A0 ys.length (ia ys) → (∃ top, OwnLL B0 top w A rows.length c' rows) → B0 ≤ w.heap.size →
      (∀ g, blkOf A = some g → g ≠ b ∧ blkOf A0 ≠ some g) → (∀ g, blkOf A0 = some g → g < w.heap.size) →
      Calls Tryd.prog 26 #[.agg #[.int .i64 N, .slice (some ⟨b, o, none⟩) m c], .slice A0 ys.length c0, .int .i64 s, .slice A rows.length c'] w (fun e w' => ∃ A2 c2, e = .returned (.slice A2 (mtR rows ys (mts es N k s)).length c2) ∧ (∃ top, OwnLL B0 top w' A2 (mtR rows ys (mts es N k s)).length c2 (mtR rows ys (mts es N k s))) ∧ Kept (fun k => blkOf A = some k) w w' ∧ ∀ g, blkOf A2 = some g → blkOf A = some g ∨ w.heap.size ≤ g) := by
  have KC := cell_rg
  have HG := Lib.hid hG
  have hn2 := hG.wf.1
  have hn20 := hG.wf.2.1
  clear hG
  intro dp
  induction dp with
  | zero => intro k s ys A0 c0 rows A c' w h; omega
  | succ dp ih =>
    intro k s ys A0 c0 rows A c' w hk hu hs hyl hrl h I hO hB hne hA0
    have IH := Lib.hid ih
    have hl := Lib.hid h.len
    have HNE := Lib.hid hne
    have hbox := Box2.made w (.int .i64 N) (.slice (some ⟨b, o, none⟩) m c) 30
    have hbb := (by go_grown : Below w.heap.size w (w.alloc (.cells #[.int .i64 N, .slice (some ⟨b, o, none⟩) m c] 30)))
    clear ih hne
    obtain ⟨w1, hw1⟩ : ∃ w1, w1 = w.alloc (Obj.cells #[Value.int IntKind.i64 N, Value.slice (some ⟨b, o, none⟩) m c] 30) := ⟨_, rfl⟩
    have E1 := h.below (hw1 ▸ hbb)
    have I1 := SrcI.below I (hw1 ▸ hbb)
    rw [← hw1] at hbb hbox
    obtain ⟨top, O⟩ := hO
    have O1 := O.below hbb
    have hA := O.blk
    have htop := O.2.1
    have hs1 : w1.heap.size = w.heap.size + 1 := by rw [hw1]; simp [go_sem]
    obtain ⟨sb, pb, qb⟩ := hbox
    have hs63 : s < 9223372036854775808 := Nat.lt_of_lt_of_le hs (Nat.le_trans (Nat.pow_le_pow_right (by decide) (by omega : N ≤ 20)) (by decide))
    have HW1 := Lib.hid hw1
    clear hw1 I O h
    go_enter Tryd.func26, Tryd.ntmps26
    go_wp2_with fail
    rw [← HW1.out]
    go_loopw [9] (fun vv wv => ∃ v : Nat, v ≤ N ∧ vv = .int .i64 v ∧ Hid (∀ j, j < v → s.testBit j = true) ∧ Below w1.heap.size w1 wv) (fun v _ => N - (intOf v).toNat)
    case atStart => exact ⟨0, Nat.zero_le _, rfl, fun j hj => absurd hj (by omega), Below.refl _ _⟩
    case round =>
      obtain ⟨vx, hv, rfl, HV, hbr⟩ := hrel
      have p1 := (hbr.cell (p := ⟨w.heap.size, 0, none⟩) sb).trans pb
      have q1 := (hbr.cell (p := ⟨w.heap.size, 1, none⟩) sb).trans qb
      have s1 := Nat.lt_of_lt_of_le sb hbr.size
      have hbi := bit_i64 s vx hs63
      by_cases hvl : vx < N
      · cases hb : s.testBit vx with
        | true =>
          rw [hb, if_pos rfl] at hbi
          have HB := Lib.hid hb
          clear hb
          go_wp2_with fail
          go_roundw
          case rel => exact ⟨vx + 1, by omega, by go_num, fun j hj => (by
            by_cases e : j = vx
            · subst e; exact HB.out
            · exact HV.out j (by omega)), hbr⟩
          case measure => simp [intOf]; omega
        | false =>
          rw [hb, if_neg (by decide)] at hbi
          have hlz : lz s N = vx := lz_uniq hv HV.out (fun _ => hb)
          have hnf : s ≠ 2 ^ N - 1 := fun e => by rw [e, testBit_full] at hb; simp at hb; omega
          obtain ⟨k', rfl⟩ : ∃ k', k = k' + 1 := by
            cases k with
            | zero => exact absurd (uns_zero hs (by omega)) hnf
            | succ k' => exact ⟨k', rfl⟩
          have hMT := mts_step (es := es) (k := k') hnf
          rw [hlz] at hMT
          have hL3 : (atL es vx).length = 3 := atL_3 HG.out (by omega) (by omega)
          have HAT := Lib.hid (fun W (E : Eds W b o m es) => l01At_any N b o m c es vx W E hm)
          have HLA := Lib.hid (fun i (hi : i < (atL es vx).length) => atL_at hi)
          obtain ⟨L0, hL0⟩ : ∃ L0, L0 = atL es (vx : Int) := ⟨_, rfl⟩
          rw [← hL0] at HAT hL3 HLA hMT
          have HL3 := Lib.hid hL3
          have HMT := Lib.hid hMT
          have hq : ((vx : Int) == N) = false := by simp; omega
          have hb3 := hbb.andB hbr
          have E3 := E1.below hbr
          have O3 := O1.below hbr
          have I3 := SrcI.below I1 hbr
          have HB := Lib.hid hb
          clear hb hlz hnf hL0 hL3 hMT hbr
          go_wp2_with fail
          refine (HAT.out _ E3).mono ?_
          rintro e w2 ⟨A3, c3, rfl, OA, hb4⟩
          rw [HL3.out] at OA ⊢
          have c33 : ((3 : Nat) : Int) = 3 := rfl
          obtain ⟨g3, o3, rfl, IL⟩ := OA.src (by omega)
          have hg3 : ∀ g, blkOf (some (⟨g3, o3, none⟩ : Addr)) = some g → w.heap.size < g := fun g hg => by have := (OA.blk g hg).1; have := hb3.size; omega
          have p2 := (hb4.cell (p := ⟨w.heap.size, 0, none⟩) s1).trans p1
          have q2 := (hb4.cell (p := ⟨w.heap.size, 1, none⟩) s1).trans q1
          have s2 := Nat.lt_of_lt_of_le s1 hb4.size
          have E4 := E3.below hb4
          have O4 := O3.below hb4
          have I4 := SrcI.below I3 hb4
          have hb5 := hb3.andB hb4
          have HG3 : Hid (¬ blkOf A = some g3) := fun hh => by have := (hA _ hh).2; have := hg3 g3 rfl; omega
          clear p1 q1 s1 E3 O3 I3 hb3 hb4 OA E1 O1 I1 pb qb sb
          go_wp2_with fail
          have HX0 : Hid (∃ A2 c2, (Value.slice A rows.length c') = .slice A2 (mtR rows ys (mtT (mts es N k') es vx s L0 0)).length c2 ∧ (∃ top, OwnLL B0 top w2 A2 (mtR rows ys (mtT (mts es N k') es vx s L0 0)).length c2 (mtR rows ys (mtT (mts es N k') es vx s L0 0))) ∧ ∀ g, blkOf A2 = some g → blkOf A = some g ∨ w2.heap.size ≤ g) := by
            have : mtR rows ys (mtT (mts es N k') es vx s L0 0) = rows := by simp [mtR, mtT]
            rw [this]; exact ⟨A, c', rfl, ⟨top, O4⟩, fun g hg => .inl hg⟩
          have HA0 : Hid (∀ g, blkOf A0 = some g → g < w.heap.size) := hA0
          go_loopw [3, 11] (fun ov iv wv => ∃ (i : Nat) (A2 : Option Addr) (c2 : Nat), i ≤ 3 ∧ iv = .int .i64 i ∧ ov = .slice A2 (mtR rows ys (mtT (mts es N k') es vx s L0 i)).length c2 ∧ (∃ top, OwnLL B0 top wv A2 (mtR rows ys (mtT (mts es N k') es vx s L0 i)).length c2 (mtR rows ys (mtT (mts es N k') es vx s L0 i))) ∧ Kept (fun k => blkOf A = some k) w2 wv ∧ ∀ g, blkOf A2 = some g → blkOf A = some g ∨ w2.heap.size ≤ g) (fun _ i _ => 3 - (intOf i).toNat)
          case atStart =>
            obtain ⟨A2, c2, e, hT, hN⟩ := HX0.out
            exact ⟨0, A2, c2, by omega, rfl, e, hT, Kept.refl _ _, hN⟩
          case round =>
            obtain ⟨w5, rfl⟩ : ∃ w5, w5 = wr := ⟨wr, rfl⟩
            obtain ⟨i, A2, c2, hi, rfl, rfl, hTT, hK, hN⟩ := hrel
            obtain ⟨R, hR⟩ : ∃ R, R = mtR rows ys (mtT (mts es N k') es vx s L0 i) := ⟨_, rfl⟩
            rw [← hR] at hTT ⊢
            have HR := Lib.hid hR
            have hRl : R.length ≤ rows.length + i * 3 ^ k' := by rw [hR, mtR, List.length_append, List.length_map]; have := mtT_len (es := es) (v := vx) (s := s) (L := L0) (mts_len es N k') i; omega
            have nbox : ¬ blkOf A = some w.heap.size := fun hh => by have := (hA _ hh).2; omega
            have nb : ¬ blkOf A = some b := fun hh => (HNE.out b hh).1 rfl
            have p3 := (hK.cell s2 nbox 0).trans p2
            have q3 := (hK.cell s2 nbox 1).trans q2
            have s3 := hK.lt s2
            have E5 := hK.eds E4 nb
            have I5 := hK.srcI I4 (fun g hg hh => (HNE.out g hh).2 hg)
            have L5 := hK.ints IL HG3.out
            clear hR
            by_cases hi3 : i < 3
            · have i3 := L5.c i hi3
              have zi := L5.blk
              obtain ⟨d, hdm, hdi, hdv⟩ := HLA.out i (by rw [HL3.out]; exact hi3)
              rw [hdi] at i3
              have hrg := oth_in HG.out.wf hdm hdv
              obtain ⟨u, hu1⟩ : ∃ u : Nat, oth es d vx = u := ⟨(oth es d vx).toNat, by omega⟩
              have hou : othN es (d : Int) vx = u := by rw [← hu1]; unfold othN oth; simp
              have hun : u < N := by omega
              have huv : u ≠ vx := by omega
              have hdl : d < m := by rw [← hl.out]; exact hdm
              have hos : ea es d + eb es d - (vx : Int) = (u : Int) := by rw [← hu1]; rfl
              have HOT : Hid (∀ W, Eds W b o m es → Calls Tryd.prog 36 #[.agg #[.int .i64 N, .slice (some ⟨b, o, none⟩) m c], .int .i64 d, .int .i64 vx] W (Ret (.int .i64 u) W)) := fun W hE => by
                have := spOther_any N b o m c es d vx W hE hdl hm HG.out.wf (by omega) (by omega)
                rw [hos] at this; exact this
              have hm30 : d < 30 := by have := HG.out.wf.2.2.2.1; omega
              have hbu := bit_i64 s u hs63
              have HDI := Lib.hid hdi
              have HOU := Lib.hid hou
              clear hdi hdv hrg hu1 hou hos hdm hbi
              go_wp2_with fail
              (refine wp_region_quiet_below (by kernel_rfl) (by kernel_rfl) ?_
               repeat (any_goals (go_big_quiet_step (first | (go_at_call 36; exact Ret.rg (HOT.out _ (E5.below (below_regrown _ _ _)))))))
               all_goals (refine wpQuiet_nil ?_; intro wq6 hq6; replace hq6 := below_of_rg hq6))
              have E6 := E5.below hq6
              have I6 := SrcI.below I5 hq6
              have i6 := (hq6.cell (p := ⟨g3, o3 + i, none⟩) zi).trans i3
              have z6 := Nat.lt_of_lt_of_le zi hq6.size
              have p6 := (hq6.cell (p := ⟨w.heap.size, 0, none⟩) s3).trans p3
              have q6' := (hq6.cell (p := ⟨w.heap.size, 1, none⟩) s3).trans q3
              have s6 := Nat.lt_of_lt_of_le s3 hq6.size
              have hK6 := hK.thenB hq6
              obtain ⟨tp, hTp⟩ := hTT
              have hT6 := hTp.below hq6
              clear E5 I5 i3 zi p3 q3 s3 hK L5 hTp
              cases hb : s.testBit u with
              | true =>
                rw [hb, if_pos rfl] at hbu
                have HE : Hid (mtR rows ys (mtT (mts es N k') es vx s L0 (i + 1)) = R) := by show _ = _; rw [HR.out, mtT_no (by rw [HDI.out, HOU.out]; simpa using hb)]
                clear hb
                go_wp2_with fail
                go_roundw
                case rel => exact ⟨i + 1, A2, c2, by omega, by go_num, by rw [HE.out], ⟨tp, by rw [HE.out]; exact hT6⟩, hK6, hN⟩
                case measure => simp [intOf]; omega
              | false =>
                rw [hb, if_neg (by decide)] at hbu
                obtain ⟨w6, rfl⟩ : ∃ w6, w6 = wq6 := ⟨wq6, rfl⟩
                have hy1 : (ys ++ [(d : Int)]).length = ys.length + 1 := by simp
                obtain ⟨pv, hpvE⟩ : ∃ pv, pv = (2 : Nat) ^ vx := ⟨_, rfl⟩
                obtain ⟨pu, hpuE⟩ : ∃ pu, pu = (2 : Nat) ^ u := ⟨_, rfl⟩
                have hpv := wrapi_pow (x := vx) (by omega)
                have hpu := wrapi_pow (x := u) (by omega)
                rw [← hpvE] at hpv
                rw [← hpuE] at hpu
                have hsvl := or_lt2 hs hvl
                have hsul := or_lt2 hsvl hun
                have hp20 : ∀ x, x < 2 ^ N → x < 9223372036854775808 := fun x hx => Nat.lt_of_lt_of_le hx (Nat.le_trans (Nat.pow_le_pow_right (by decide) (by omega : N ≤ 20)) (by decide))
                have osv := i64_or_nat s pv hs63 (by rw [hpvE]; exact hp20 _ (Nat.pow_lt_pow_of_lt (by decide) hvl))
                have osu := i64_or_nat (s ||| pv) pu (by rw [hpvE]; exact hp20 _ hsvl) (by rw [hpuE]; exact hp20 _ (Nat.pow_lt_pow_of_lt (by decide) hun))
                have hus := uns_step hvl hun huv HB.out hb
                have HE := Lib.hid (rowsT (mts es N k') es vx s L0 ys rows HDI.out HOU.out hb)
                rw [← hpvE, ← hpuE] at hsul hus HE
                rw [← HR.out] at HE
                obtain ⟨sv, hsv⟩ : ∃ sv, sv = s ||| pv := ⟨_, rfl⟩
                rw [← hsv] at osv osu hsul hus HE
                obtain ⟨su, hsu⟩ : ∃ su, su = sv ||| pu := ⟨_, rfl⟩
                rw [← hsu] at osu hsul hus HE
                have HOWN := Lib.hid (fun W (hW : Below w6.heap.size w6 W) => l01Own_any A0 ys.length c0 ys W (SrcI.below I6 hW) rfl (by omega))
                have hBz : B0 ≤ w6.heap.size := by have := hK6.size; have := hb5.size; omega
                have hz6 : w2.heap.size ≤ w6.heap.size := hK6.size
                have hwz : w.heap.size ≤ w2.heap.size := hb5.size
                have hRc : R.length + 3 ^ k' ≤ 1048576 := by
                  rw [Nat.pow_succ] at hrl
                  have : i * 3 ^ k' ≤ 2 * 3 ^ k' := Nat.mul_le_mul_right _ (by omega)
                  omega
                have hyk : ys.length + 1 + k' ≤ 100 := by omega
                have hwv : IntKind.u64.wrap (vx : Int) = vx := by rw [IntKind.wrap_u64]; omega
                have hwu : IntKind.u64.wrap (u : Int) = u := by rw [IntKind.wrap_u64]; omega
                clear hpvE hpuE hsv hsu hp20 hsvl hb hRl hrl hyl
                obtain ⟨p2', q2', s2'⟩ : w6.cell? ⟨w.heap.size, 0, none⟩ = some (.int .i64 N) ∧ w6.cell? ⟨w.heap.size, 1, none⟩ = some (.slice (some ⟨b, o, none⟩) m c) ∧ w.heap.size < w6.heap.size := ⟨p6, q6', s6⟩
                clear p2 q2 s2 p6 q6' s6
                obtain ⟨p2, q2, s2⟩ : w6.cell? ⟨w.heap.size, 0, none⟩ = some (.int .i64 N) ∧ w6.cell? ⟨w.heap.size, 1, none⟩ = some (.slice (some ⟨b, o, none⟩) m c) ∧ w.heap.size < w6.heap.size := ⟨p2', q2', s2'⟩
                clear p2' q2' s2'
                obtain ⟨i3, zi⟩ : w6.cell? ⟨g3, o3 + i, none⟩ = some (.int .i64 d) ∧ g3 < w6.heap.size := ⟨i6, z6⟩
                clear i6 z6
                go_wp2_with fail
                refine wp_region_then 19 (fun i9 v W => match i9 with
                  | 0 => v = .agg #[.int .i64 N, .slice (some ⟨b, o, none⟩) m c]
                  | 1 => v = .slice A0 ys.length c0
                  | 2 => NewL w6.heap.size (ys) v W
                  | 3 => v = .slice (some ⟨g3, o3, none⟩) 3 c3
                  | 4 => v = .int .i64 i
                  | 5 => v = .pointer (some ⟨g3, o3 + i, none⟩)
                  | 6 => v = .int .i64 (d : Int)
                  | 7 => NewS (d) v W
                  | 8 => NewL w6.heap.size (ys ++ [(d : Int)]) v W
                  | 9 => v = .int .i64 s
                  | 10 => v = .int .i64 vx
                  | 11 => v = .int .u64 vx
                  | 12 => v = .int .i64 pv
                  | 13 => v = .int .i64 sv
                  | 14 => v = .int .i64 u
                  | 15 => v = .int .u64 u
                  | 16 => v = .int .i64 pu
                  | 17 => v = .int .i64 su
                  | _ => v = .slice A2 R.length c2)
                  (fun i => match i with
                  | 2 => some 8
                  | 7 => some 8
                  | _ => none)
                  (fun k W W' => if k = 8 then Below w6.heap.size W W' else Below W.heap.size W W')  (fun W => Below w6.heap.size w6 W) (by kernel_rfl) (by kernel_rfl) ?_ ?_ ?_ ?_ ?_
                · exact (Below.refl _ _).drew
                · intro i k v W W' hne hd hC hf hE
                  by_cases hk8 : k = 8
                  · subst hk8
                    replace hE : Below w6.heap.size W W' := hE
                    match i, hne, hd, hf with
                    | 0, hne, hd, hf => exact hf
                    | 1, hne, hd, hf => exact hf
                    | 2, hne, hd, hf => exact absurd rfl hd
                    | 3, hne, hd, hf => exact hf
                    | 4, hne, hd, hf => exact hf
                    | 5, hne, hd, hf => exact hf
                    | 6, hne, hd, hf => exact hf
                    | 7, hne, hd, hf => exact absurd rfl hd
                    | 8, hne, hd, hf => exact absurd rfl hne
                    | 9, hne, hd, hf => exact hf
                    | 10, hne, hd, hf => exact hf
                    | 11, hne, hd, hf => exact hf
                    | 12, hne, hd, hf => exact hf
                    | 13, hne, hd, hf => exact hf
                    | 14, hne, hd, hf => exact hf
                    | 15, hne, hd, hf => exact hf
                    | 16, hne, hd, hf => exact hf
                    | 17, hne, hd, hf => exact hf
                    | _ + 18, hne, hd, hf => exact hf
                  simp only [if_neg hk8] at hE
                  match i, hf with
                  | 0, hf => exact hf
                  | 1, hf => exact hf
                  | 2, hf => exact NewL.below hf hE
                  | 3, hf => exact hf
                  | 4, hf => exact hf
                  | 5, hf => exact hf
                  | 6, hf => exact hf
                  | 7, hf => exact NewS.below hf hE
                  | 8, hf => exact NewL.below hf hE
                  | 9, hf => exact hf
                  | 10, hf => exact hf
                  | 11, hf => exact hf
                  | 12, hf => exact hf
                  | 13, hf => exact hf
                  | 14, hf => exact hf
                  | 15, hf => exact hf
                  | 16, hf => exact hf
                  | 17, hf => exact hf
                  | _ + 18, hf => exact hf
                · intro k W W' hC hE
                  by_cases hk8 : k = 8
                  · subst hk8; exact Below.trans hC hE
                  simp only [if_neg hk8] at hE
                  exact Below.andB hC hE
                · simp only [List.take_succ_cons, List.take_zero]
                  refine ⟨?_, ?_, ?_, ?_, ?_, ?_, ?_, ?_, ?_, ?_, ?_, ?_, ?_, ?_, ?_, ?_, ?_, ?_, ?_, trivial⟩
                  · intro a W hC hs hd
                    have hW : Below w6.heap.size w6 W := hC
                    have e4 : a.tmps[4]?.getD undef = .pointer (some ⟨w.heap.size, 0, none⟩) := hs 4 (by kernel_rfl)
                    refine growsG_none (E := fun W W' => Below W.heap.size W W') rfl ?_
                    have k0 := (hW.cell (p := ⟨w.heap.size, 0, none⟩) (s2)).trans (p2)
                    have k1 := (hW.cell (p := ⟨w.heap.size, 1, none⟩) (s2)).trans (q2)
                    have k2 := (hW.cell (p := ⟨g3, o3 + i, none⟩) (zi)).trans (i3)
                    clear hs hd
                    unfold GrowsE
                    go_simp
                    exact Below.refl _ _
                  · intro a W hC hs hd
                    have hW : Below w6.heap.size w6 W := hC
                    have e1 : a.tmps[1]?.getD undef = .slice A0 ys.length c0 := hs 1 (by kernel_rfl)
                    refine growsG_none (E := fun W W' => Below W.heap.size W W') rfl ?_
                    clear hs hd
                    unfold GrowsE
                    go_simp
                    exact Below.refl _ _
                  · intro a W hC hs hd
                    have hW : Below w6.heap.size w6 W := hC
                    have e57 : (a.tmps[57]?.getD undef) = .slice A0 ys.length c0 := hd 1 57 (by kernel_rfl) (by kernel_rfl) (by kernel_rfl)
                    refine growsG_none (E := fun W W' => Below W.heap.size W W') rfl ?_
                    clear hs hd
                    unfold GrowsE
                    go_simp
                    refine ⟨Below.refl _ _, (HOWN.out W hW).mono ?_⟩
                    rintro e w6 ⟨A6, c6, rfl, ho6, hb6⟩
                    exact ⟨_, rfl, hb6, A6, c6, rfl, ho6.mono hW.size⟩
                  · intro a W hC hs hd
                    have hW : Below w6.heap.size w6 W := hC
                    have e10 : a.tmps[10]?.getD undef = .slice (some ⟨g3, o3, none⟩) 3 c3 := hs 10 (by kernel_rfl)
                    refine growsG_none (E := fun W W' => Below W.heap.size W W') rfl ?_
                    clear hs hd
                    unfold GrowsE
                    go_simp
                    exact Below.refl _ _
                  · intro a W hC hs hd
                    have hW : Below w6.heap.size w6 W := hC
                    have e11 : a.tmps[11]?.getD undef = .int .i64 i := hs 11 (by kernel_rfl)
                    refine growsG_none (E := fun W W' => Below W.heap.size W W') rfl ?_
                    clear hs hd
                    unfold GrowsE
                    go_simp
                    exact Below.refl _ _
                  · intro a W hC hs hd
                    have hW : Below w6.heap.size w6 W := hC
                    have e59 : (a.tmps[59]?.getD undef) = .slice (some ⟨g3, o3, none⟩) 3 c3 := hd 3 59 (by kernel_rfl) (by kernel_rfl) (by kernel_rfl)
                    have e60 : (a.tmps[60]?.getD undef) = .int .i64 i := hd 4 60 (by kernel_rfl) (by kernel_rfl) (by kernel_rfl)
                    refine growsG_none (E := fun W W' => Below W.heap.size W W') rfl ?_
                    have k0 := (hW.cell (p := ⟨w.heap.size, 0, none⟩) (s2)).trans (p2)
                    have k1 := (hW.cell (p := ⟨w.heap.size, 1, none⟩) (s2)).trans (q2)
                    have k2 := (hW.cell (p := ⟨g3, o3 + i, none⟩) (zi)).trans (i3)
                    clear hs hd
                    unfold GrowsE
                    go_simp
                    exact Below.refl _ _
                  · intro a W hC hs hd
                    have hW : Below w6.heap.size w6 W := hC
                    have e61 : (a.tmps[61]?.getD undef) = .pointer (some ⟨g3, o3 + i, none⟩) := hd 5 61 (by kernel_rfl) (by kernel_rfl) (by kernel_rfl)
                    refine growsG_none (E := fun W W' => Below W.heap.size W W') rfl ?_
                    have k0 := (hW.cell (p := ⟨w.heap.size, 0, none⟩) (s2)).trans (p2)
                    have k1 := (hW.cell (p := ⟨w.heap.size, 1, none⟩) (s2)).trans (q2)
                    have k2 := (hW.cell (p := ⟨g3, o3 + i, none⟩) (zi)).trans (i3)
                    clear hs hd
                    unfold GrowsE
                    go_simp
                    exact Below.refl _ _
                  · intro a W hC hs hd
                    have hW : Below w6.heap.size w6 W := hC
                    have e62 : (a.tmps[62]?.getD undef) = .int .i64 (d : Int) := hd 6 62 (by kernel_rfl) (by kernel_rfl) (by kernel_rfl)
                    refine growsG_none (E := fun W W' => Below W.heap.size W W') rfl ?_
                    clear hs hd
                    unfold GrowsE
                    go_simp
                    exact ⟨(Below.refl _ _).alloc (Nat.le_refl _) _, _, rfl, ints1 _ _ _⟩
                  · intro a W hC hs hd
                    have hW : Below w6.heap.size w6 W := hC
                    have e58 : NewL w6.heap.size (ys) (a.tmps[58]?.getD undef) W := hd 2 58 (by kernel_rfl) (by kernel_rfl) (by kernel_rfl)
                    obtain ⟨A58, c58, e58, O58⟩ := e58
                    have e63 : NewS (d) (a.tmps[63]?.getD undef) W := hd 7 63 (by kernel_rfl) (by kernel_rfl) (by kernel_rfl)
                    obtain ⟨g63, e63, I63⟩ := e63
                    refine growsG_none rfl ?_
                    refine grows_appL rfl ((eval_tmp a 58).trans e58) ((eval_tmp a 63).trans e63) I63 (O58.mono (Nat.le_refl _)) (hW.size) (by omega) ?_
                    intro A6 c6 w6 ho6 hg6
                    exact ⟨(Below.refl _ _).grown hg6 hW.size (fun y hy => (O58.blk y hy).1), A6, c6, (by rw [List.length_append]; rfl), (by rw [List.length_append]; exact ho6)⟩
                  · intro a W hC hs hd
                    have hW : Below w6.heap.size w6 W := hC
                    have e2 : a.tmps[2]?.getD undef = .int .i64 s := hs 2 (by kernel_rfl)
                    refine growsG_none (E := fun W W' => Below W.heap.size W W') rfl ?_
                    clear hs hd
                    unfold GrowsE
                    go_simp
                    exact Below.refl _ _
                  · intro a W hC hs hd
                    have hW : Below w6.heap.size w6 W := hC
                    have e9 : a.tmps[9]?.getD undef = .int .i64 vx := hs 9 (by kernel_rfl)
                    refine growsG_none (E := fun W W' => Below W.heap.size W W') rfl ?_
                    clear hs hd
                    unfold GrowsE
                    go_simp
                    exact Below.refl _ _
                  · intro a W hC hs hd
                    have hW : Below w6.heap.size w6 W := hC
                    have e66 : (a.tmps[66]?.getD undef) = .int .i64 vx := hd 10 66 (by kernel_rfl) (by kernel_rfl) (by kernel_rfl)
                    refine growsG_none (E := fun W W' => Below W.heap.size W W') rfl ?_
                    clear hs hd
                    unfold GrowsE
                    go_simp
                    first | exact Below.refl _ _ | exact ⟨Below.refl _ _, hwv⟩
                  · intro a W hC hs hd
                    have hW : Below w6.heap.size w6 W := hC
                    have e67 : (a.tmps[67]?.getD undef) = .int .u64 vx := hd 11 67 (by kernel_rfl) (by kernel_rfl) (by kernel_rfl)
                    refine growsG_none (E := fun W W' => Below W.heap.size W W') rfl ?_
                    clear hs hd
                    unfold GrowsE
                    go_simp
                    exact Below.refl _ _
                  · intro a W hC hs hd
                    have hW : Below w6.heap.size w6 W := hC
                    have e65 : (a.tmps[65]?.getD undef) = .int .i64 s := hd 9 65 (by kernel_rfl) (by kernel_rfl) (by kernel_rfl)
                    have e68 : (a.tmps[68]?.getD undef) = .int .i64 pv := hd 12 68 (by kernel_rfl) (by kernel_rfl) (by kernel_rfl)
                    refine growsG_none (E := fun W W' => Below W.heap.size W W') rfl ?_
                    clear hs hd
                    unfold GrowsE
                    go_simp
                    exact Below.refl _ _
                  · intro a W hC hs hd
                    have hW : Below w6.heap.size w6 W := hC
                    have e12 : a.tmps[12]?.getD undef = .int .i64 u := hs 12 (by kernel_rfl)
                    refine growsG_none (E := fun W W' => Below W.heap.size W W') rfl ?_
                    clear hs hd
                    unfold GrowsE
                    go_simp
                    exact Below.refl _ _
                  · intro a W hC hs hd
                    have hW : Below w6.heap.size w6 W := hC
                    have e70 : (a.tmps[70]?.getD undef) = .int .i64 u := hd 14 70 (by kernel_rfl) (by kernel_rfl) (by kernel_rfl)
                    refine growsG_none (E := fun W W' => Below W.heap.size W W') rfl ?_
                    clear hs hd
                    unfold GrowsE
                    go_simp
                    first | exact Below.refl _ _ | exact ⟨Below.refl _ _, hwu⟩
                  · intro a W hC hs hd
                    have hW : Below w6.heap.size w6 W := hC
                    have e71 : (a.tmps[71]?.getD undef) = .int .u64 u := hd 15 71 (by kernel_rfl) (by kernel_rfl) (by kernel_rfl)
                    refine growsG_none (E := fun W W' => Below W.heap.size W W') rfl ?_
                    clear hs hd
                    unfold GrowsE
                    go_simp
                    exact Below.refl _ _
                  · intro a W hC hs hd
                    have hW : Below w6.heap.size w6 W := hC
                    have e69 : (a.tmps[69]?.getD undef) = .int .i64 sv := hd 13 69 (by kernel_rfl) (by kernel_rfl) (by kernel_rfl)
                    have e72 : (a.tmps[72]?.getD undef) = .int .i64 pu := hd 16 72 (by kernel_rfl) (by kernel_rfl) (by kernel_rfl)
                    refine growsG_none (E := fun W W' => Below W.heap.size W W') rfl ?_
                    clear hs hd
                    unfold GrowsE
                    go_simp
                    exact Below.refl _ _
                  · intro a W hC hs hd
                    have hW : Below w6.heap.size w6 W := hC
                    have e3 : a.tmps[3]?.getD undef = .slice A2 R.length c2 := hs 3 (by kernel_rfl)
                    refine growsG_none (E := fun W W' => Below W.heap.size W W') rfl ?_
                    clear hs hd
                    unfold GrowsE
                    go_simp
                    exact Below.refl _ _
                intro vs W hW hf
                have f56 : (vs 56) = .agg #[.int .i64 N, .slice (some ⟨b, o, none⟩) m c] := hf 0 56 (by decide) (by kernel_rfl) (fun _ hk => by cases hk)
                have f57 : (vs 57) = .slice A0 ys.length c0 := hf 1 57 (by decide) (by kernel_rfl) (fun _ hk => by cases hk)
                have f59 : (vs 59) = .slice (some ⟨g3, o3, none⟩) 3 c3 := hf 3 59 (by decide) (by kernel_rfl) (fun _ hk => by cases hk)
                have f60 : (vs 60) = .int .i64 i := hf 4 60 (by decide) (by kernel_rfl) (fun _ hk => by cases hk)
                have f61 : (vs 61) = .pointer (some ⟨g3, o3 + i, none⟩) := hf 5 61 (by decide) (by kernel_rfl) (fun _ hk => by cases hk)
                have f62 : (vs 62) = .int .i64 (d : Int) := hf 6 62 (by decide) (by kernel_rfl) (fun _ hk => by cases hk)
                have f64 : NewL w6.heap.size (ys ++ [(d : Int)]) (vs 64) W := hf 8 64 (by decide) (by kernel_rfl) (fun _ hk => by cases hk)
                obtain ⟨A64, c64, f64, O64⟩ := f64
                have f65 : (vs 65) = .int .i64 s := hf 9 65 (by decide) (by kernel_rfl) (fun _ hk => by cases hk)
                have f66 : (vs 66) = .int .i64 vx := hf 10 66 (by decide) (by kernel_rfl) (fun _ hk => by cases hk)
                have f67 : (vs 67) = .int .u64 vx := hf 11 67 (by decide) (by kernel_rfl) (fun _ hk => by cases hk)
                have f68 : (vs 68) = .int .i64 pv := hf 12 68 (by decide) (by kernel_rfl) (fun _ hk => by cases hk)
                have f69 : (vs 69) = .int .i64 sv := hf 13 69 (by decide) (by kernel_rfl) (fun _ hk => by cases hk)
                have f70 : (vs 70) = .int .i64 u := hf 14 70 (by decide) (by kernel_rfl) (fun _ hk => by cases hk)
                have f71 : (vs 71) = .int .u64 u := hf 15 71 (by decide) (by kernel_rfl) (fun _ hk => by cases hk)
                have f72 : (vs 72) = .int .i64 pu := hf 16 72 (by decide) (by kernel_rfl) (fun _ hk => by cases hk)
                have f73 : (vs 73) = .int .i64 su := hf 17 73 (by decide) (by kernel_rfl) (fun _ hk => by cases hk)
                have f74 : (vs 74) = .slice A2 R.length c2 := hf 18 74 (by decide) (by kernel_rfl) (fun _ hk => by cases hk)
                simp only [dsts, List.take_succ_cons, List.take_zero, List.drop_succ_cons, List.drop_zero, List.filterMap_cons, List.filterMap_nil, List.foldl_cons, List.foldl_nil, Act.put, List.setIfInBounds_toArray, List.set_cons_succ, List.set_cons_zero, f56, f57, f59, f60, f61, f62, f64, f65, f66, f67, f68, f69, f70, f71, f72, f73, f74]
                clear hf
                have hW : Below w6.heap.size w6 W := hW
                have hIH := IH.out k' su (ys ++ [(d : Int)]) A64 c64 R A2 c2 W
                rw [hy1] at hIH
                have HREC := Lib.hid (hIH (by omega) (by omega) hsul hyk hRc (E6.below hW) (by have := O64.src; rw [hy1] at this; exact this) ⟨tp, hT6.below hW⟩ (by have := hW.size; omega) (fun g hg => ⟨(by
                  rcases hN g hg with h1 | h1
                  · exact (HNE.out g h1).1
                  · intro e; subst e; have := E4.blk; omega), fun h74 => (by
                  have h1 := (O64.blk g h74).1
                  have h2 := hT6.blk g hg
                  have h3 := hT6.2.1
                  omega)⟩) (fun g hg => (O64.blk g hg).2))
                have hWz := hW.size
                have hKW := hK6.thenB hW
                clear hIH p2 q2 s2 i3 zi hT6 hW
                go_wp2_with fail
                refine HREC.out.mono ?_
                rintro e w9 ⟨A9, c9, rfl, T9, k9, n9⟩
                rw [← HE.out] at T9 ⊢
                have hK9 := hKW.trans' k9 hN
                have hN9 : Hid (∀ g, blkOf A9 = some g → blkOf A = some g ∨ w2.heap.size ≤ g) := fun g hg => (by
                  rcases n9 g hg with h1 | h1
                  · exact hN g h1
                  · right; omega)
                clear k9 n9
                go_wp2_with fail
                go_roundw
                case rel => exact ⟨i + 1, A9, c9, by omega, by go_num, rfl, T9, hK9, hN9⟩
                case measure => simp [intOf]; omega
            · obtain rfl : i = 3 := by omega
              have HE : Hid (mtR rows ys (mts es N (k' + 1) s) = R) := by show _ = _; rw [HMT.out, ← HR.out]
              have hK9 := (Kept.of hb5).trans' hK (S := fun k => blkOf A = some k) (fun i hi => .inl hi)
              have hN9 : Hid (∀ g, blkOf A2 = some g → blkOf A = some g ∨ w.heap.size ≤ g) := fun g hg => (hN g hg).imp id (Nat.le_trans hb5.size)
              go_wp2_with fail
              go_ret
              exact ⟨A2, c2, congrArg Ending.returned (congrArg (fun n => Value.slice A2 n c2) (by rw [HE.out])), by rw [HE.out]; exact hTT, hK9, hN9.out⟩
      · obtain rfl : vx = N := by omega
        have hfull : s = 2 ^ vx - 1 := by
          apply Nat.eq_of_testBit_eq
          intro j
          rw [testBit_full]
          by_cases h : j < vx
          · rw [HV.out j h]; simp [h]
          · rw [Nat.testBit_lt_two_pow (Nat.lt_of_lt_of_le hs (Nat.pow_le_pow_right (by decide) (by omega)))]; simp [h]
        have HE : Hid (mtR rows ys (mts es vx k s) = rows ++ [ys]) := by show _ = _; rw [hfull, mts_leaf, atLL]
        have hb3 := hbb.andB hbr
        have I3 := SrcI.below I1 hbr
        have O3 := O1.below hbr
        have HOW := Lib.hid (l01Own_any A0 ys.length c0 ys wr I3 rfl (by omega))
        have hrl' : rows.length + 1 ≤ 1048576 := by have := Nat.one_le_pow k 3 (by decide); omega
        clear hfull hbi hrl
        go_wp2_with fail
        refine HOW.out.mono ?_
        rintro e w2 ⟨A3, c3, rfl, OA, hb4⟩
        have O4 := O3.below hb4
        have hb5 := hb3.andB hb4
        have hz3 := hb3.size
        have hnew : ∀ g, blkOf A3 = some g → top ≤ g := fun g hg => by have := (OA.blk g hg).1; omega
        go_wp2_with (first
          | (at_builtin; refine wp_appR1 rfl rfl rfl rfl rfl rfl O4 (OA.mono (by omega)) hnew (by have := hb5.size; omega) (by omega) ?_; intro A5 c5 w5 O5 hg5 hat5))
        go_ret
        rw [HE.out]
        refine ⟨A5, c5, by rw [List.length_append]; rfl, ⟨_, by rw [List.length_append]; exact O5⟩, (Kept.of hb5).trans (Kept.ofGrown hg5 (fun k hk _ => hk)), fun g hg => ?_⟩
        rcases hat5 with h5 | ⟨g5, h5, h6⟩
        · left; rw [← h5]; exact hg
        · rw [h5] at hg; cases hg; right; have := hb5.size; omega
end Go.Proofs.YtppfplhbfgjjhaaDoor
