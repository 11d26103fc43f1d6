import Derived.Test.YtppfplhbfgjjhaaCh
import Derived.Test.YtppfplhbfgjjhaaM24
import Derived.Test.YtppfplhbfgjjhaaM33
import Derived.Test.YtppfplhbfgjjhaaM34
namespace Go.Proofs.Ytppfplhbfgjjhaa
open Go.RowKit Go.Sort
/-! ### ChainNumbers: plain, and the program -/
/-- The edges met, and the number of chains, of the first edges. -/
def cnS (es : List (Int × Int)) (cs : Nat → Int) (a b : Int) : Nat → Nat × Nat
  | 0 => (0, 0)
  | e + 1 => if cs e = a ∧ hasB (cnS es cs a b e).1 e = false then ((cnS es cs a b e).1 ||| chS es cs e b, (cnS es cs a b e).2 + 1) else cnS es cs a b e
theorem cnS_yes {es : List (Int × Int)} {cs : Nat → Int} {a b : Int} {e M t : Nat} (h : cnS es cs a b e = (M, t)) (h1 : cs e = a) (h2 : hasB M e = false) : cnS es cs a b (e + 1) = (M ||| chS es cs e b, t + 1) := by
  rw [cnS, h]; simp [h1, h2]
theorem cnS_no1 {es : List (Int × Int)} {cs : Nat → Int} {a b : Int} {e M t : Nat} (h : cnS es cs a b e = (M, t)) (h1 : ¬ cs e = a) : cnS es cs a b (e + 1) = (M, t) := by
  rw [cnS, h]; simp [h1]
theorem cnS_no2 {es : List (Int × Int)} {cs : Nat → Int} {a b : Int} {e M t : Nat} (h : cnS es cs a b e = (M, t)) (h2 : hasB M e = true) : cnS es cs a b (e + 1) = (M, t) := by
  rw [cnS, h]; simp [h2]
theorem cnS_le (es : List (Int × Int)) (cs : Nat → Int) (a b : Int) : ∀ e, (cnS es cs a b e).2 ≤ e
  | 0 => Nat.le_refl _
  | e + 1 => by rw [cnS]; have := cnS_le es cs a b e; split <;> simp <;> omega
theorem chS_lt {es : List (Int × Int)} {cs : Nat → Int} {e : Nat} {b : Int} (h : e < es.length) : chS es cs e b < 2 ^ es.length := by
  have hel := h
  have HEI := EInv.one (m := es.length) hel (hasB_two e)
  have HLT0 : (2 : Nat) ^ e < 2 ^ es.length := Nat.pow_lt_pow_of_lt (by decide) hel
  exact eBfs_lt (vE := vE es) (T := chT cs e b) (s := ⟨2 ^ e, [(e : Int)]⟩) HLT0 _
theorem cnS_lt {es : List (Int × Int)} {cs : Nat → Int} {a b : Int} : ∀ e, e ≤ es.length → (cnS es cs a b e).1 < 2 ^ es.length
  | 0, _ => Nat.two_pow_pos _
  | e + 1, h => by
    have := cnS_lt (es := es) (cs := cs) (a := a) (b := b) e (by omega)
    rw [cnS]; split
    · exact Nat.or_lt_two_pow this (chS_lt (by omega))
    · exact this
def cnX (es : List (Int × Int)) (cs : Nat → Int) (a b : Int) : Int := ((cnS es cs a b es.length).2 : Int)
noncomputable def cnC (n : Int) (es : List (Int × Int)) (cs : Nat → Int) (l : Nat) : Int := gcC n es (colB es cs l)
def paN (p : Nat) : Int := if p = 2 then 1 else 0
def pbN (p : Nat) : Int := if p = 0 then 1 else 2
def cnT (es : List (Int × Int)) (cs : Nat → Int) : Nat → List Int
  | 0 => []
  | p + 1 => cnT es cs p ++ [cnX es cs (paN p) (pbN p)]
noncomputable def cnL (n : Int) (es : List (Int × Int)) (cs : Nat → Int) (l : Nat) : List Int := if cnC n es cs l = 0 then cnT es cs 3 else []
theorem cnT_len (es : List (Int × Int)) (cs : Nat → Int) : ∀ p, (cnT es cs p).length = p
  | 0 => rfl
  | p + 1 => by rw [cnT, List.length_append, cnT_len es cs p]; rfl
theorem cnL_len (n : Int) (es : List (Int × Int)) (cs : Nat → Int) (l : Nat) : (cnL n es cs l).length ≤ 3 := by
  unfold cnL; split
  · rw [cnT_len]; omega
  · simp
theorem cn_0 {n : Int} {es : List (Int × Int)} {cs : Nat → Int} {l : Nat} (h : cnC n es cs l = 0) : IsG n es ∧ (l = es.length ∧ ColP es cs) ∧ cnL n es cs l = cnT es cs 3 := by
  refine ⟨?_, ?_, by simp [cnL, h]⟩
  · by_cases hg : IsG n es
    · exact hg
    · simp [cnC, gcC, B_false hg] at h
  · cases hc : colB es cs l with
    | true => exact B_iff.1 hc
    | false =>
      by_cases hg : IsG n es
      · simp [cnC, gcC, B_true hg, hc] at h
      · simp [cnC, gcC, B_false hg] at h
theorem cn_n {n : Int} {es : List (Int × Int)} {cs : Nat → Int} {l : Nat} (h : cnC n es cs l ≠ 0) : cnL n es cs l = [] := by simp [cnL, h]
def PairC (w : World) (g : Nat) : Prop := ∀ p, p < 3 → w.cell? ⟨g, p * 2, none⟩ = some (.int .i64 (paN p)) ∧ w.cell? ⟨g, p * 2 + 1, none⟩ = some (.int .i64 (pbN p))
theorem PairC.made (w : World) (t : TypeId) : PairC (w.alloc (.cells #[.int .i64 0, .int .i64 1, .int .i64 0, .int .i64 2, .int .i64 1, .int .i64 2] t)) w.heap.size := fun p hp => by
  rcases (show p = 0 ∨ p = 1 ∨ p = 2 by omega) with rfl | rfl | rfl
  all_goals (constructor <;> (rw [cell_of_row _ w.heap.size _ _ _ _ (heap_alloc_new w _)]; rfl))
theorem PairC.below {w w' : World} {g : Nat} (h : PairC w g) (hg : g < w.heap.size) (hb : Below w.heap.size w w') : PairC w' g := fun p hp =>
  ⟨(hb.cell (p := ⟨g, p * 2, none⟩) hg).trans (h p hp).1, (hb.cell (p := ⟨g, p * 2 + 1, none⟩) hg).trans (h p hp).2⟩
set_option maxRecDepth 100000 in
set_option maxHeartbeats 4000000 in
theorem imChainNumbers_any (n : Int) (b o m c : Nat) (es : List (Int × Int)) (b2 o2 l c2 : Nat) (cs : Nat → Int) (w : World) (h : Eds w b o m es) (hm : m ≤ 1048576) (h2 : Ints w b2 o2 l cs) (hl : l ≤ 1048576) :
    Calls Try.prog 41 #[.agg #[.int .i64 n, .slice (some ⟨b, o, none⟩) m c], .slice (some ⟨b2, o2, none⟩) l c2] w (RetLC (cnL n es cs l) (cnC n es cs l) w) := by
  have KC := cell_rg
  have hbb := (by go_grown : Below w.heap.size w (w.alloc (.cells #[.int .i64 n, .slice (some ⟨b, o, none⟩) m c] 30)))
  have hbx := Box2.made w (.int .i64 n) (.slice (some ⟨b, o, none⟩) m c) 30
  have hlm := Lib.hid h.len
  have hIC : ∀ d os, Calls Try.prog 79 #[.agg #[.int .i64 n, .slice (some ⟨b, o, none⟩) m c], .slice (some ⟨b2, o2, none⟩) l c2] (grow (redrawn (w.alloc (.cells #[.int .i64 n, .slice (some ⟨b, o, none⟩) m c] 30)) d) os) fun e w'' => e = .returned (.bool (B (IsG n es) && colB es cs l)) ∧ ∃ p : Regrown, w'' = grow (redrawn (w.alloc (.cells #[.int .i64 n, .slice (some ⟨b, o, none⟩) m c] 30)) p.d) p.os := fun d os =>
    Ret.rg (isColouring_all n b o m c b2 o2 l c2 es cs _ ((h.alloc _).below (below_regrown _ _ _)) hm ((h2.below hbb).below (below_regrown _ _ _)) hl)
  have hGC : ∀ r, gcC n es r = cnC n es cs l → ∀ d os, Calls Try.prog 57 #[.agg #[.int .i64 n, .slice (some ⟨b, o, none⟩) m c], .bool r] (grow (redrawn (w.alloc (.cells #[.int .i64 n, .slice (some ⟨b, o, none⟩) m c] 30)) d) os) fun e w'' => e = .returned (.int .i64 (cnC n es cs l)) ∧ ∃ p : Regrown, w'' = grow (redrawn (w.alloc (.cells #[.int .i64 n, .slice (some ⟨b, o, none⟩) m c] 30)) p.d) p.os := fun r hk d os =>
    Ret.rg (hk ▸ graphCode_any n _ _ _ _ es r _ ((h.alloc _).below (below_regrown _ _ _)) hm)
  have HIC := Lib.hid hIC
  have HGC := Lib.hid (hGC (B (IsG n es) && colB es cs l) (by unfold cnC gcC; cases B (IsG n es) <;> simp))
  obtain ⟨kc, hkc⟩ : ∃ kc, kc = cnC n es cs l := ⟨_, rfl⟩
  obtain ⟨x, hx⟩ : ∃ x, x = (B (IsG n es) && colB es cs l) := ⟨_, rfl⟩
  rw [← hx] at HIC HGC
  rw [← hkc] at HGC ⊢
  by_cases hz : kc = 0
  rotate_left
  · have HL : Hid (cnL n es cs l = []) := cn_n (by rw [← hkc]; exact hz)
    have hne : (kc != 0) = true := by simpa using hz
    clear hIC hGC hkc hx hz
    go_enter Try.func41, Try.ntmps41
    go_wp2_with fail
    (refine wp_region_quiet_below (by kernel_rfl) (by kernel_rfl) ?_
     repeat (any_goals (go_big_quiet_step (first | (go_at_call 79; exact HIC.out _ _) | (go_at_call 57; exact HGC.out _ _))))
     all_goals (refine wpQuiet_nil ?_; intro wq1 hq1; replace hq1 := below_of_rg hq1))
    have hB1 := hbb.thenB (by simp) hq1
    clear hq1 hbx hbb
    go_wp2_with fail
    go_ret2
    exact retLC_nil HL.out hB1
  obtain ⟨hG, ⟨hle, hcol⟩, hL⟩ := cn_0 (by rw [← hkc]; exact hz : cnC n es cs l = 0)
  obtain rfl : l = m := by rw [hle, hlm.out]
  have HW := Lib.hid hG.wf
  have hn20 := hG.wf.2.1
  have hl30 : l ≤ 30 := by have := hlm.out; have := hG.wf.2.2.2.1; omega
  have HCH := Lib.hid (fun (e : Nat) (bb : Int) W (E : Eds W b o l es) (I : Ints W b2 o2 l cs) (he : e < l) => chain_any n b o l c b2 o2 c2 e es cs bb W E hm HW.out I he)
  have HLT : Hid (∀ (a bb : Int) e, e ≤ l → (cnS es cs a bb e).1 < 18446744073709551616) := fun a bb e he => pow_30 (cnS_lt e (by rw [hlm.out]; exact he)) (by rw [hlm.out]; exact hl30)
  have HLC : Hid (∀ (bb : Int) e, e < l → chS es cs e bb < 18446744073709551616) := fun bb e he => pow_30 (chS_lt (by rw [hlm.out]; exact he)) (by rw [hlm.out]; exact hl30)
  have HL := Lib.hid hL
  rw [hz] at HGC
  clear hIC hGC hkc hx hle hcol hL hG
  rw [hz]
  clear hz
  go_enter Try.func41, Try.ntmps41
  go_wp2_with fail
  (refine wp_region_quiet_below (by kernel_rfl) (by kernel_rfl) ?_
   repeat (any_goals (go_big_quiet_step (first | (go_at_call 79; exact HIC.out _ _) | (go_at_call 57; exact HGC.out _ _))))
   all_goals (refine wpQuiet_nil ?_; intro wq1 hq1; replace hq1 := below_of_rg hq1))
  have hB1 := hbb.thenB (by simp) hq1
  have hbx1 := hbx.below hq1
  clear hq1 hbx hbb HIC HGC
  go_wp2_with fail
  have PC := PairC.made wq1 92
  have hb2 : Below wq1.heap.size wq1 (wq1.alloc (.cells #[.int .i64 0, .int .i64 1, .int .i64 0, .int .i64 2, .int .i64 1, .int .i64 2] 92)) := (Below.refl _ _).alloc (Nat.le_refl _) _
  have hs2 : wq1.heap.size < (wq1.alloc (.cells #[.int .i64 0, .int .i64 1, .int .i64 0, .int .i64 2, .int .i64 1, .int .i64 2] 92)).heap.size := by simp [go_sem]
  obtain ⟨w4, hw4⟩ : ∃ w4, w4 = wq1.alloc (.cells #[.int .i64 0, .int .i64 1, .int .i64 0, .int .i64 2, .int .i64 1, .int .i64 2] 92) := ⟨_, rfl⟩
  rw [← hw4] at PC hb2 hs2 ⊢
  clear hw4
  have hB4 := hB1.andB hb2
  have E4 := h.below hB4
  have I4 := h2.below hB4
  obtain ⟨s4, p4, q4⟩ := hbx1.below hb2
  go_loopw [7, 27] (fun lv iv wr => ∃ (p : Nat) (A : Option Addr) (c' : Nat), p ≤ 3 ∧ iv = .int .i64 p ∧ lv = .slice A p c' ∧ OwnL w4.heap.size wr A p c' (cnT es cs p) ∧ Below w4.heap.size w4 wr) (fun _ i _ => 3 - (intOf i).toNat)
  case atStart => exact ⟨0, _, _, by omega, rfl, rfl, OwnL.nil _ _, Below.refl _ _⟩
  case round =>
    obtain ⟨p, A, c', hp, rfl, rfl, OL, hbr⟩ := hrel
    by_cases hlt : p < 3
    · obtain ⟨d1, d2⟩ := (PC.below hs2 hbr) p hlt
      have z1 := Nat.lt_of_lt_of_le hs2 hbr.size
      go_wp2_with fail
      have hdp : decide ((p : Int) < 3) = true := by simp; omega
      simp only [hdp]
      clear hdp
      obtain ⟨w5, rfl⟩ : ∃ w5, w5 = wr := ⟨wr, rfl⟩
      have PB := Box2.made w5 (.int .i64 (paN p)) (.int .i64 (pbN p)) 92
      have hb5 : Below w5.heap.size w5 (w5.alloc (.cells #[.int .i64 (paN p), .int .i64 (pbN p)] 92)) := (Below.refl _ _).alloc (Nat.le_refl _) _
      have hs5 : (w5.alloc (.cells #[.int .i64 (paN p), .int .i64 (pbN p)] 92)).heap.size = w5.heap.size + 1 := by simp [go_sem]
      obtain ⟨w6, hw6⟩ : ∃ w6, w6 = w5.alloc (.cells #[.int .i64 (paN p), .int .i64 (pbN p)] 92) := ⟨_, rfl⟩
      rw [← hw6] at PB hb5 hs5 ⊢
      obtain ⟨g9, hg9⟩ : ∃ g9, g9 = w5.heap.size := ⟨_, rfl⟩
      rw [← hg9] at PB ⊢
      have hg96 : g9 < w6.heap.size := by omega
      have hg95 : w5.heap.size ≤ g9 := by omega
      have HCN := Lib.hid (show cnT es cs (p + 1) = cnT es cs p ++ [cnX es cs (paN p) (pbN p)] from rfl)
      have hb6 := hbr.andB hb5
      have OL6 := OL.below hb5
      obtain ⟨pa, hpa⟩ : ∃ pa, pa = paN p := ⟨_, rfl⟩
      obtain ⟨pb, hpb⟩ : ∃ pb, pb = pbN p := ⟨_, rfl⟩
      rw [← hpa, ← hpb] at PB HCN ⊢
      have E6 := E4.below hb6
      have I6 := I4.below hb6
      have X6 := Box2.below ⟨s4, p4, q4⟩ hb6
      clear hw6 hs5 hg9 OL d1 d2 z1 hpa hpb hbr hb5
      go_loopw [10, 11, 33] (fun mv tv iv wr => ∃ (e M t : Nat), e ≤ l ∧ iv = .int .i64 e ∧ mv = .int .u64 M ∧ tv = .int .i64 t ∧ Hid (cnS es cs pa pb e = (M, t)) ∧ Below w6.heap.size w6 wr) (fun _ _ i _ => l - (intOf i).toNat)
      case atStart => exact ⟨0, 0, 0, Nat.zero_le _, rfl, rfl, rfl, rfl, Below.refl _ _⟩
      case round =>
        obtain ⟨e, M, t, he, rfl, rfl, rfl, HS, hbe⟩ := hrel
        have hte : t ≤ e := by have := cnS_le es cs pa pb e; rw [HS.out] at this; exact this
        have hM : M < 18446744073709551616 := by have := HLT.out pa pb e he; rw [HS.out] at this; exact this
        by_cases hel : e < l
        · have E := E6.below hbe
          have I := I6.below hbe
          have i1 := I.c e hel
          have zI := I.blk
          obtain ⟨y1, y2, y3⟩ := PB.below hbe
          have hHA : ∀ W, Calls Try.prog 80 #[.int .u64 M, .int .i64 e] W (Is (.bool (hasB M e)) W) := fun W => has_any M e W hM (by omega) (by omega)
          obtain ⟨ce, hce⟩ : ∃ ce, ce = cs e := ⟨_, rfl⟩
          rw [← hce] at i1
          by_cases h1 : ce = pa
          · have h1' : (ce == pa) = true := by simp [h1]
            cases hh : hasB M e with
            | true =>
              have HE := Lib.hid (cnS_no2 HS.out hh)
              rw [hh] at hHA
              have HHA := Lib.hid hHA
              clear hHA hh hce h1
              go_wp2_with fail
              refine (Is.ret (HHA.out _)).mono ?_
              rintro ee w7 ⟨rfl, hb7⟩
              have hbe7 := hbe.andB hb7
              clear E I i1 y1 y2 y3 hb7
              go_wp2_with fail
              go_roundw
              case rel => exact ⟨e + 1, M, t, by omega, by go_num, rfl, rfl, HE, hbe7⟩
              case measure => simp [intOf]; omega
            | false =>
              have HE := Lib.hid (cnS_yes (b := pb) HS.out (by rw [← hce]; exact h1) hh)
              rw [hh] at hHA
              have HHA := Lib.hid hHA
              have hC := HLC.out pb e hel
              have HCE := Lib.hid (fun W E I => HCH.out e pb W E I hel)
              obtain ⟨C, hCC⟩ : ∃ C, C = chS es cs e pb := ⟨_, rfl⟩
              rw [← hCC] at hC HCE HE
              have hor := u64_or_nat M C hM hC
              clear hHA hh hce h1 hCC
              go_wp2_with fail
              refine (Is.ret (HHA.out _)).mono ?_
              rintro ee w7 ⟨rfl, hb7⟩
              have hbe7 := hbe.andB hb7
              have E7 := E.below hb7
              have I7 := I.below hb7
              obtain ⟨y1, y2, y3⟩ := Box2.below ⟨y1, y2, y3⟩ hb7
              obtain ⟨s7, p7, q7⟩ := X6.below hbe7
              clear E I i1 hb7
              go_wp2_with fail
              refine (HCE.out _ E7 I7).mono ?_
              rintro ee w8 ⟨rfl, hb8⟩
              have hbe8 := hbe7.andB hb8
              clear E7 I7 s7 p7 q7 y1 y2 y3 hb8
              go_wp2_with fail
              go_roundw
              case rel => exact ⟨e + 1, M ||| C, t + 1, by omega, by go_num, rfl, by go_num, HE, hbe8⟩
              case measure => simp [intOf]; omega
          · have h1' : (ce == pa) = false := by simp [h1]
            have HE := Lib.hid (cnS_no1 (b := pb) HS.out (by rw [← hce]; exact h1))
            clear hHA hce h1
            go_wp2_with fail
            go_roundw
            case rel => exact ⟨e + 1, M, t, by omega, by go_num, rfl, rfl, HE, hbe⟩
            case measure => simp [intOf]; omega
        · obtain rfl : e = l := by omega
          have hbe6 := hb6.andB hbe
          have OL7 := OL6.below hbe
          have HX : Hid (cnX es cs pa pb = t) := by show _ = _; unfold cnX; rw [hlm.out, HS.out]
          have hszq := hbe6.size
          go_wp2_with (first
            | (at_builtin; refine wp_appL1 rfl rfl rfl rfl (by simp) OL7 hszq (by omega) ?_; intro A5 c6 w9 OQ5 hg9 hat9))
          have OL8 := Lib.hid (show OwnL w4.heap.size w9 A5 (p + 1) c6 (cnT es cs (p + 1)) by rw [HCN.out, HX.out]; exact OQ5)
          have hb10 := hbe6.grown hg9 hszq (fun y hy => (OL7.blk y hy).1)
          go_roundw
          case rel => exact ⟨p + 1, A5, c6, by omega, by go_num, rfl, OL8.out, hb10⟩
          case measure => simp [intOf]; omega
    · obtain rfl : p = 3 := by omega
      have c33 : ((3 : Nat) : Int) = 3 := rfl
      go_wp2_with fail
      go_ret2
      rw [HL.out]
      exact ⟨A, c', rfl, OL.mono (by have := hB4.size; omega), hB4.andB hbr⟩
end Go.Proofs.Ytppfplhbfgjjhaa
