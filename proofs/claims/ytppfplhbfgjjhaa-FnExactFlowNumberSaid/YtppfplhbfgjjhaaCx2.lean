import Derived.Test.YtppfplhbfgjjhaaCh2
import Derived.Test.YtppfplhbfgjjhaaM24
import Derived.Test.YtppfplhbfgjjhaaM33
import Derived.Test.YtppfplhbfgjjhaaM34
import Derived.Test.YtppfplhbfgjjhaaCj
namespace Go.Proofs.Ytppfplhbfgjjhaa
open Go.RowKit Go.Sort
/-! ### ChainNumbers: plain, and the program -/
/-- The edges met, and the number of chains, of the first edges. -/
def cnS (es : List (Int × Int)) (cs : Nat → Int) (a b : Int) : Nat → Nat × Nat
  | 0 => (0, 0)
  | e + 1 => if cs e = a ∧ hasB (cnS es cs a b e).1 e = false then ((cnS es cs a b e).1 ||| chS es cs e b, (cnS es cs a b e).2 + 1) else cnS es cs a b e
theorem cnS_yes {es : List (Int × Int)} {cs : Nat → Int} {a b : Int} {e M t : Nat} (h : cnS es cs a b e = (M, t)) (h1 : cs e = a) (h2 : hasB M e = false) : cnS es cs a b (e + 1) = (M ||| chS es cs e b, t + 1) := by
  rw [cnS, h]; simp [h1, h2]
theorem cnS_no1 {es : List (Int × Int)} {cs : Nat → Int} {a b : Int} {e M t : Nat} (h : cnS es cs a b e = (M, t)) (h1 : ¬ cs e = a) : cnS es cs a b (e + 1) = (M, t) := by
  rw [cnS, h]; simp [h1]
theorem cnS_no2 {es : List (Int × Int)} {cs : Nat → Int} {a b : Int} {e M t : Nat} (h : cnS es cs a b e = (M, t)) (h2 : hasB M e = true) : cnS es cs a b (e + 1) = (M, t) := by
  rw [cnS, h]; simp [h2]
theorem cnS_le (es : List (Int × Int)) (cs : Nat → Int) (a b : Int) : ∀ e, (cnS es cs a b e).2 ≤ e
  | 0 => Nat.le_refl _
  | e + 1 => by rw [cnS]; have := cnS_le es cs a b e; split <;> simp <;> omega
theorem chS_lt {es : List (Int × Int)} {cs : Nat → Int} {e : Nat} {b : Int} (h : e < es.length) : chS es cs e b < 2 ^ es.length := by
  have hel := h
  have HEI := EInv.one (m := es.length) hel (hasB_two e)
  have HLT0 : (2 : Nat) ^ e < 2 ^ es.length := Nat.pow_lt_pow_of_lt (by decide) hel
  exact eBfs_lt (vE := vE es) (T := chT cs e b) (s := ⟨2 ^ e, [(e : Int)]⟩) HLT0 _
theorem cnS_lt {es : List (Int × Int)} {cs : Nat → Int} {a b : Int} : ∀ e, e ≤ es.length → (cnS es cs a b e).1 < 2 ^ es.length
  | 0, _ => Nat.two_pow_pos _
  | e + 1, h => by
    have := cnS_lt (es := es) (cs := cs) (a := a) (b := b) e (by omega)
    rw [cnS]; split
    · exact Nat.or_lt_two_pow this (chS_lt (by omega))
    · exact this
def cnX (es : List (Int × Int)) (cs : Nat → Int) (a b : Int) : Int := ((cnS es cs a b es.length).2 : Int)
noncomputable def cnC (n : Int) (es : List (Int × Int)) (cs : Nat → Int) (l : Nat) : Int := gcC n es (colB es cs l)
def paN (p : Nat) : Int := if p = 2 then 1 else 0
def pbN (p : Nat) : Int := if p = 0 then 1 else 2
def cnT (es : List (Int × Int)) (cs : Nat → Int) : Nat → List Int
  | 0 => []
  | p + 1 => cnT es cs p ++ [cnX es cs (paN p) (pbN p)]
noncomputable def cnL (n : Int) (es : List (Int × Int)) (cs : Nat → Int) (l : Nat) : List Int := if cnC n es cs l = 0 then cnT es cs 3 else []
theorem cnT_len (es : List (Int × Int)) (cs : Nat → Int) : ∀ p, (cnT es cs p).length = p
  | 0 => rfl
  | p + 1 => by rw [cnT, List.length_append, cnT_len es cs p]; rfl
theorem cnL_len (n : Int) (es : List (Int × Int)) (cs : Nat → Int) (l : Nat) : (cnL n es cs l).length ≤ 3 := by
  unfold cnL; split
  · rw [cnT_len]; omega
  · simp
theorem cn_0 {n : Int} {es : List (Int × Int)} {cs : Nat → Int} {l : Nat} (h : cnC n es cs l = 0) : IsG n es ∧ (l = es.length ∧ ColP es cs) ∧ cnL n es cs l = cnT es cs 3 := by
  refine ⟨?_, ?_, by simp [cnL, h]⟩
  · by_cases hg : IsG n es
    · exact hg
    · simp [cnC, gcC, B_false hg] at h
  · cases hc : colB es cs l with
    | true => exact B_iff.1 hc
    | false =>
      by_cases hg : IsG n es
      · simp [cnC, gcC, B_true hg, hc] at h
      · simp [cnC, gcC, B_false hg] at h
theorem cn_n {n : Int} {es : List (Int × Int)} {cs : Nat → Int} {l : Nat} (h : cnC n es cs l ≠ 0) : cnL n es cs l = [] := by simp [cnL, h]
def PairC (w : World) (g : Nat) : Prop := ∀ p, p < 3 → w.cell? ⟨g, p * 2, none⟩ = some (.int .i64 (paN p)) ∧ w.cell? ⟨g, p * 2 + 1, none⟩ = some (.int .i64 (pbN p))
theorem PairC.made (w : World) (t : TypeId) : PairC (w.alloc (.cells #[.int .i64 0, .int .i64 1, .int .i64 0, .int .i64 2, .int .i64 1, .int .i64 2] t)) w.heap.size := fun p hp => by
  rcases (show p = 0 ∨ p = 1 ∨ p = 2 by omega) with rfl | rfl | rfl
  all_goals (constructor <;> (rw [cell_of_row _ w.heap.size _ _ _ _ (heap_alloc_new w _)]; rfl))
theorem PairC.below {w w' : World} {g : Nat} (h : PairC w g) (hg : g < w.heap.size) (hb : Below w.heap.size w w') : PairC w' g := fun p hp =>
  ⟨(hb.cell (p := ⟨g, p * 2, none⟩) hg).trans (h p hp).1, (hb.cell (p := ⟨g, p * 2 + 1, none⟩) hg).trans (h p hp).2⟩
set_option maxRecDepth 100000 in
set_option maxHeartbeats 4000000 in
theorem imChainNumbers_any (n : Int) (b o m c : Nat) (es : List (Int × Int)) (b2 o2 l c2 : Nat) (cs : Nat → Int) (w : World) (h : Eds w b o m es) (hm : m ≤ 1048576) (h2 : Ints w b2 o2 l cs) (hl : l ≤ 1048576) :
    Calls Try.prog 41 #[.agg #[.int .i64 n, .slice (some ⟨b, o, none⟩) m c], .slice (some ⟨b2, o2, none⟩) l c2] w (RetLC (cnL n es cs l) (cnC n es cs l) w) := by
  have KC := cell_rg
  have hbb := (by go_grown : Below w.heap.size w (w.alloc (.cells #[.int .i64 n, .slice (some ⟨b, o, none⟩) m c] 30)))
  have hbx := Box2.made w (.int .i64 n) (.slice (some ⟨b, o, none⟩) m c) 30
  have hlm := Lib.hid h.len
  have hIC : ∀ d os, Calls Try.prog 79 #[.agg #[.int .i64 n, .slice (some ⟨b, o, none⟩) m c], .slice (some ⟨b2, o2, none⟩) l c2] (grow (redrawn (w.alloc (.cells #[.int .i64 n, .slice (some ⟨b, o, none⟩) m c] 30)) d) os) fun e w'' => e = .returned (.bool (B (IsG n es) && colB es cs l)) ∧ ∃ p : Regrown, w'' = grow (redrawn (w.alloc (.cells #[.int .i64 n, .slice (some ⟨b, o, none⟩) m c] 30)) p.d) p.os := fun d os =>
    Ret.rg (isColouring_all n b o m c b2 o2 l c2 es cs _ ((h.alloc _).below (below_regrown _ _ _)) hm ((h2.below hbb).below (below_regrown _ _ _)) hl)
  have hGC : ∀ r, gcC n es r = cnC n es cs l → ∀ d os, Calls Try.prog 57 #[.agg #[.int .i64 n, .slice (some ⟨b, o, none⟩) m c], .bool r] (grow (redrawn (w.alloc (.cells #[.int .i64 n, .slice (some ⟨b, o, none⟩) m c] 30)) d) os) fun e w'' => e = .returned (.int .i64 (cnC n es cs l)) ∧ ∃ p : Regrown, w'' = grow (redrawn (w.alloc (.cells #[.int .i64 n, .slice (some ⟨b, o, none⟩) m c] 30)) p.d) p.os := fun r hk d os =>
    Ret.rg (hk ▸ graphCode_any n _ _ _ _ es r _ ((h.alloc _).below (below_regrown _ _ _)) hm)
  have HIC := Lib.hid hIC
  have HGC := Lib.hid (hGC (B (IsG n es) && colB es cs l) (by unfold cnC gcC; cases B (IsG n es) <;> simp))
  obtain ⟨kc, hkc⟩ : ∃ kc, kc = cnC n es cs l := ⟨_, rfl⟩
  obtain ⟨x, hx⟩ : ∃ x, x = (B (IsG n es) && colB es cs l) := ⟨_, rfl⟩
  rw [← hx] at HIC HGC
  rw [← hkc] at HGC ⊢
  by_cases hz : kc = 0
  rotate_left
  · have HL : Hid (cnL n es cs l = []) := cn_n (by rw [← hkc]; exact hz)
    have hne : (kc != 0) = true := by simpa using hz
    clear hIC hGC hkc hx hz
    go_enter Try.func41, Try.ntmps41
    go_wp2_with fail
    (refine wp_region_quiet_below (by kernel_rfl) (by kernel_rfl) ?_
     repeat (any_goals (go_big_quiet_step (first | (go_at_call 79; exact HIC.out _ _) | (go_at_call 57; exact HGC.out _ _))))
     all_goals (refine wpQuiet_nil ?_; intro wq1 hq1; replace hq1 := below_of_rg hq1))
    have hB1 := hbb.thenB (by simp) hq1
    clear hq1 hbx hbb
    go_wp2_with fail
    go_ret2
    exact retLC_nil HL.out hB1
  obtain ⟨hG, ⟨hle, hcol⟩, hL⟩ := cn_0 (by rw [← hkc]; exact hz : cnC n es cs l = 0)
  obtain rfl : l = m := by rw [hle, hlm.out]
  have HW := Lib.hid hG.wf
  have hn20 := hG.wf.2.1
  have hl30 : l ≤ 30 := by have := hlm.out; have := hG.wf.2.2.2.1; omega
  have HCH := Lib.hid (fun (e : Nat) (bb : Int) W (E : Eds W b o l es) (I : Ints W b2 o2 l cs) (he : e < l) => chain_any n b o l c b2 o2 c2 e es cs bb W E hm HW.out I he)
  have HLT : Hid (∀ (a bb : Int) e, e ≤ l → (cnS es cs a bb e).1 < 18446744073709551616) := fun a bb e he => pow_30 (cnS_lt e (by rw [hlm.out]; exact he)) (by rw [hlm.out]; exact hl30)
  have HLC : Hid (∀ (bb : Int) e, e < l → chS es cs e bb < 18446744073709551616) := fun bb e he => pow_30 (chS_lt (by rw [hlm.out]; exact he)) (by rw [hlm.out]; exact hl30)
  have HL := Lib.hid hL
  rw [hz] at HGC
  clear hIC hGC hkc hx hle hcol hL hG
  rw [hz]
  clear hz
  go_enter Try.func41, Try.ntmps41
  go_wp2_with fail
  (refine wp_region_quiet_below (by kernel_rfl) (by kernel_rfl) ?_
   repeat (any_goals (go_big_quiet_step (first | (go_at_call 79; exact HIC.out _ _) | (go_at_call 57; exact HGC.out _ _))))
   all_goals (refine wpQuiet_nil ?_; intro wq1 hq1; replace hq1 := below_of_rg hq1))
  have hB1 := hbb.thenB (by simp) hq1
  have hbx1 := hbx.below hq1
  clear hq1 hbx hbb HIC HGC
  go_wp2_with fail
  have PC := PairC.made wq1 92
  have hb2 : Below wq1.heap.size wq1 (wq1.alloc (.cells #[.int .i64 0, .int .i64 1, .int .i64 0, .int .i64 2, .int .i64 1, .int .i64 2] 92)) := (Below.refl _ _).alloc (Nat.le_refl _) _
  have hs2 : wq1.heap.size < (wq1.alloc (.cells #[.int .i64 0, .int .i64 1, .int .i64 0, .int .i64 2, .int .i64 1, .int .i64 2] 92)).heap.size := by simp [go_sem]
  obtain ⟨w4, hw4⟩ : ∃ w4, w4 = wq1.alloc (.cells #[.int .i64 0, .int .i64 1, .int .i64 0, .int .i64 2, .int .i64 1, .int .i64 2] 92) := ⟨_, rfl⟩
  rw [← hw4] at PC hb2 hs2 ⊢
  clear hw4
  have hB4 := hB1.andB hb2
  have E4 := h.below hB4
  have I4 := h2.below hB4
  obtain ⟨s4, p4, q4⟩ := hbx1.below hb2
  go_loopw [7, 27] (fun lv iv wr => ∃ (p : Nat) (A : Option Addr) (c' : Nat), p ≤ 3 ∧ iv = .int .i64 p ∧ lv = .slice A p c' ∧ OwnL w4.heap.size wr A p c' (cnT es cs p) ∧ Below w4.heap.size w4 wr) (fun _ i _ => 3 - (intOf i).toNat)
  case atStart => exact ⟨0, _, _, by omega, rfl, rfl, OwnL.nil _ _, Below.refl _ _⟩
  case round =>
    obtain ⟨p, A, c', hp, rfl, rfl, OL, hbr⟩ := hrel
    by_cases hlt : p < 3
    · obtain ⟨d1, d2⟩ := (PC.below hs2 hbr) p hlt
      have z1 := Nat.lt_of_lt_of_le hs2 hbr.size
      go_wp2_with fail
      have hdp : decide ((p : Int) < 3) = true := by simp; omega
      simp only [hdp]
      clear hdp
      obtain ⟨w5, rfl⟩ : ∃ w5, w5 = wr := ⟨wr, rfl⟩
      have PB := Box2.made w5 (.int .i64 (paN p)) (.int .i64 (pbN p)) 92
      have hb5 : Below w5.heap.size w5 (w5.alloc (.cells #[.int .i64 (paN p), .int .i64 (pbN p)] 92)) := (Below.refl _ _).alloc (Nat.le_refl _) _
      have hs5 : (w5.alloc (.cells #[.int .i64 (paN p), .int .i64 (pbN p)] 92)).heap.size = w5.heap.size + 1 := by simp [go_sem]
      obtain ⟨w6, hw6⟩ : ∃ w6, w6 = w5.alloc (.cells #[.int .i64 (paN p), .int .i64 (pbN p)] 92) := ⟨_, rfl⟩
      rw [← hw6] at PB hb5 hs5 ⊢
      obtain ⟨g9, hg9⟩ : ∃ g9, g9 = w5.heap.size := ⟨_, rfl⟩
      rw [← hg9] at PB ⊢
      have hg96 : g9 < w6.heap.size := by omega
      have hg95 : w5.heap.size ≤ g9 := by omega
      have HCN := Lib.hid (show cnT es cs (p + 1) = cnT es cs p ++ [cnX es cs (paN p) (pbN p)] from rfl)
      have hb6 := hbr.andB hb5
      have OL6 := OL.below hb5
      obtain ⟨pa, hpa⟩ : ∃ pa, pa = paN p := ⟨_, rfl⟩
      obtain ⟨pb, hpb⟩ : ∃ pb, pb = pbN p := ⟨_, rfl⟩
      rw [← hpa, ← hpb] at PB HCN ⊢
      have E6 := E4.below hb6
      have I6 := I4.below hb6
      have X6 := Box2.below ⟨s4, p4, q4⟩ hb6
      clear hw6 hs5 hg9 OL d1 d2 z1 hpa hpb hbr hb5
      go_loopw [10, 11, 33] (fun mv tv iv wr => ∃ (e M t : Nat), e ≤ l ∧ iv = .int .i64 e ∧ mv = .int .u64 M ∧ tv = .int .i64 t ∧ Hid (cnS es cs pa pb e = (M, t)) ∧ Below w6.heap.size w6 wr) (fun _ _ i _ => l - (intOf i).toNat)
      case atStart => exact ⟨0, 0, 0, Nat.zero_le _, rfl, rfl, rfl, rfl, Below.refl _ _⟩
      case round =>
        obtain ⟨e, M, t, he, rfl, rfl, rfl, HS, hbe⟩ := hrel
        have hte : t ≤ e := by have := cnS_le es cs pa pb e; rw [HS.out] at this; exact this
        have hM : M < 18446744073709551616 := by have := HLT.out pa pb e he; rw [HS.out] at this; exact this
        by_cases hel : e < l
        · have E := E6.below hbe
          have I := I6.below hbe
          have i1 := I.c e hel
          have zI := I.blk
          obtain ⟨y1, y2, y3⟩ := PB.below hbe
          have hHA : ∀ W, Calls Try.prog 80 #[.int .u64 M, .int .i64 e] W (Is (.bool (hasB M e)) W) := fun W => has_any M e W hM (by omega) (by omega)
          obtain ⟨ce, hce⟩ : ∃ ce, ce = cs e := ⟨_, rfl⟩
          rw [← hce] at i1
          by_cases h1 : ce = pa
          · have h1' : (ce == pa) = true := by simp [h1]
            cases hh : hasB M e with
            | true =>
              have HE := Lib.hid (cnS_no2 HS.out hh)
              rw [hh] at hHA
              have HHA := Lib.hid hHA
              clear hHA hh hce h1
              go_wp2_with fail
              refine (Is.ret (HHA.out _)).mono ?_
              rintro ee w7 ⟨rfl, hb7⟩
              have hbe7 := hbe.andB hb7
              clear E I i1 y1 y2 y3 hb7
              go_wp2_with fail
              go_roundw
              case rel => exact ⟨e + 1, M, t, by omega, by go_num, rfl, rfl, HE, hbe7⟩
              case measure => simp [intOf]; omega
            | false =>
              have HE := Lib.hid (cnS_yes (b := pb) HS.out (by rw [← hce]; exact h1) hh)
              rw [hh] at hHA
              have HHA := Lib.hid hHA
              have hC := HLC.out pb e hel
              have HCE := Lib.hid (fun W E I => HCH.out e pb W E I hel)
              obtain ⟨C, hCC⟩ : ∃ C, C = chS es cs e pb := ⟨_, rfl⟩
              rw [← hCC] at hC HCE HE
              have hor := u64_or_nat M C hM hC
              clear hHA hh hce h1 hCC
              go_wp2_with fail
              refine (Is.ret (HHA.out _)).mono ?_
              rintro ee w7 ⟨rfl, hb7⟩
              have hbe7 := hbe.andB hb7
              have E7 := E.below hb7
              have I7 := I.below hb7
              obtain ⟨y1, y2, y3⟩ := Box2.below ⟨y1, y2, y3⟩ hb7
              obtain ⟨s7, p7, q7⟩ := X6.below hbe7
              clear E I i1 hb7
              go_wp2_with fail
              refine (HCE.out _ E7 I7).mono ?_
              rintro ee w8 ⟨rfl, hb8⟩
              have hbe8 := hbe7.andB hb8
              clear E7 I7 s7 p7 q7 y1 y2 y3 hb8
              go_wp2_with fail
              go_roundw
              case rel => exact ⟨e + 1, M ||| C, t + 1, by omega, by go_num, rfl, by go_num, HE, hbe8⟩
              case measure => simp [intOf]; omega
          · have h1' : (ce == pa) = false := by simp [h1]
            have HE := Lib.hid (cnS_no1 (b := pb) HS.out (by rw [← hce]; exact h1))
            clear hHA hce h1
            go_wp2_with fail
            go_roundw
            case rel => exact ⟨e + 1, M, t, by omega, by go_num, rfl, rfl, HE, hbe⟩
            case measure => simp [intOf]; omega
        · obtain rfl : e = l := by omega
          have hbe6 := hb6.andB hbe
          have OL7 := OL6.below hbe
          have HX : Hid (cnX es cs pa pb = t) := by show _ = _; unfold cnX; rw [hlm.out, HS.out]
          have hszq := hbe6.size
          go_wp2_with (first
            | (at_builtin; refine wp_appL1 rfl rfl rfl rfl (by simp) OL7 hszq (by omega) ?_; intro A5 c6 w9 OQ5 hg9 hat9))
          have OL8 := Lib.hid (show OwnL w4.heap.size w9 A5 (p + 1) c6 (cnT es cs (p + 1)) by rw [HCN.out, HX.out]; exact OQ5)
          have hb10 := hbe6.grown hg9 hszq (fun y hy => (OL7.blk y hy).1)
          go_roundw
          case rel => exact ⟨p + 1, A5, c6, by omega, by go_num, rfl, OL8.out, hb10⟩
          case measure => simp [intOf]; omega
    · obtain rfl : p = 3 := by omega
      have c33 : ((3 : Nat) : Int) = 3 := rfl
      go_wp2_with fail
      go_ret2
      rw [HL.out]
      exact ⟨A, c', rfl, OL.mono (by have := hB4.size; omega), hB4.andB hbr⟩
end Go.Proofs.Ytppfplhbfgjjhaa
namespace Go.Proofs.Ytppfplhbfgjjhaa
open Go.RowKit Go.Sort
/-! ### ChainNumbers, the reference -/
theorem cn_cases (n : Int) (es : List (Int × Int)) (cs : Nat → Int) (l : Nat) :
    (gcC n es (colB es cs l) = cnC n es cs l) ∧ (cnC n es cs l = 0 ∨ cnC n es cs l = 1 ∨ cnC n es cs l = 2) := by
  refine ⟨rfl, ?_⟩
  unfold cnC gcC
  cases B (IsG n es) <;> cases colB es cs l <;> simp
/-- Place of the first pair of a row. -/
def r0N (a : Nat) : Nat := if a = 0 then 0 else if a = 1 then 2 else 3
/-- A row of bits, half of it done. -/
def halfB (M C f : Nat) (x : Nat) : Bool := if x < f then hasB (M ||| C) x else hasB M x
theorem pn_at {a bb : Nat} (h1 : a + 1 ≤ bb) (h2 : bb < 3) : paN (r0N a + (bb - (a + 1))) = a ∧ pbN (r0N a + (bb - (a + 1))) = bb ∧ r0N a + (bb + 1 - (a + 1)) = r0N a + (bb - (a + 1)) + 1 := by
  rcases (show (a = 0 ∧ bb = 1) ∨ (a = 0 ∧ bb = 2) ∨ (a = 1 ∧ bb = 2) by omega) with ⟨rfl, rfl⟩ | ⟨rfl, rfl⟩ | ⟨rfl, rfl⟩ <;> simp [r0N, paN, pbN]
theorem r0_at {a : Nat} (h : a < 3) : r0N a + (3 - (a + 1)) = r0N (a + 1) := by
  rcases (show a = 0 ∨ a = 1 ∨ a = 2 by omega) with rfl | rfl | rfl <;> simp [r0N]
theorem r0_le (a : Nat) : r0N a ≤ 3 := by unfold r0N; split; omega; split <;> omega
theorem hasB_or2 (M C x : Nat) : hasB (M ||| C) (x : Int) = (hasB M x || hasB C x) := by
  unfold hasB; rw [Nat.testBit_or]
set_option maxRecDepth 100000 in
set_option maxHeartbeats 4000000 in
theorem spChainNumbers_any (n : Int) (b o m c : Nat) (es : List (Int × Int)) (b2 o2 l c2 : Nat) (cs : Nat → Int) (w : World) (h : Eds w b o m es) (hm : m ≤ 1048576) (h2 : Ints w b2 o2 l cs) (hl : l ≤ 1048576) :
    Calls Try.prog 39 #[.agg #[.int .i64 n, .slice (some ⟨b, o, none⟩) m c], .slice (some ⟨b2, o2, none⟩) l c2] w (RetLC (cnL n es cs l) (cnC n es cs l) w) := by
  have KC := cell_rg
  have hbb := (by go_grown : Below w.heap.size w (w.alloc (.cells #[.int .i64 n, .slice (some ⟨b, o, none⟩) m c] 30)))
  have hbx := Box2.made w (.int .i64 n) (.slice (some ⟨b, o, none⟩) m c) 30
  have hlm := Lib.hid h.len
  obtain ⟨w1, hw1⟩ : ∃ w1, w1 = w.alloc (.cells #[.int .i64 n, .slice (some ⟨b, o, none⟩) m c] 30) := ⟨_, rfl⟩
  have hs1 : w1.heap.size = w.heap.size + 1 := by rw [hw1]; simp [go_sem]
  have HLK := Lib.hid (l02Code_any n b o m c es (w1.alloc (.cells #[.slice (some ⟨b2, o2, none⟩) l c2] 36)) ((hw1 ▸ h.below hbb : Eds w1 b o m es).alloc _) hm w1.heap.size 1 1 (fun _ => b2) (fun _ => o2) (fun _ => l) (fun _ => c2) (fun _ => cs) (by simp [go_sem]) (by omega) (fun j hj => cell_one _ _ _ j hj) (fun _ _ => ⟨(hw1 ▸ h2.below hbb : Ints w1 b2 o2 l cs).alloc _, hl⟩))
  rw [lkC_1, hs1] at HLK
  rw [← hw1] at hbb hbx
  have hw1s := hs1
  have hbl : Below w1.heap.size w1 (w1.alloc (.cells #[.slice (some ⟨b2, o2, none⟩) l c2] 36)) := (Below.refl _ _).alloc (Nat.le_refl _) _
  have hB0 := hbb.andB hbl
  have hB0x := hbx.below hbl
  rw [show gcC n es (colB es cs l) = cnC n es cs l from rfl] at HLK
  obtain ⟨kc, hkc⟩ : ∃ kc, kc = cnC n es cs l := ⟨_, rfl⟩
  rw [← hkc] at HLK ⊢
  by_cases hz : kc = 0
  rotate_left
  · have HL : Hid (cnL n es cs l = []) := cn_n (by rw [← hkc]; exact hz)
    have hne : (kc != 0) = true := by simpa using hz
    clear hkc hz
    go_enter Try.func39, Try.ntmps39
    go_wp2_with fail
    rw [← hw1]
    refine HLK.out.mono ?_
    rintro e w2 ⟨rfl, hb2⟩
    go_wp2_with fail
    go_ret2
    exact retLC_nil HL.out (hB0.andB hb2)
  obtain ⟨hG, ⟨hle, hcol⟩, hL⟩ := cn_0 (by rw [← hkc]; exact hz : cnC n es cs l = 0)
  obtain rfl : l = m := by rw [hle, hlm.out]
  have hn2 := hG.wf.1
  have hn20 := hG.wf.2.1
  obtain ⟨N, rfl⟩ : ∃ N : Nat, n = N := ⟨n.toNat, by omega⟩
  have hl30 : l ≤ 30 := by have := hlm.out; have := hG.wf.2.2.2.1; omega
  have HCH := Lib.hid (fun (e : Nat) (bb : Int) W (E : Eds W b o l es) (I : Ints W b2 o2 l cs) (he : e < l) => l02Chain_any N b o l c b2 o2 c2 e es cs bb W E hm hG I he)
  have HL := Lib.hid hL
  rw [hz] at HLK
  clear hkc hle hcol hL hG
  rw [hz]
  clear hz
  have hmk := run_make_row' (P := Try.prog) 90 4 (.bool false) 1 Try.underlying90 infB rfl .i64 .i64 l (by omega) (by omega)
  go_enter Try.func39, Try.ntmps39
  go_wp2_with fail
  rw [← hw1]
  refine HLK.out.mono ?_
  rintro e w2 ⟨rfl, hb2⟩
  have hbx1 := hB0x.below hb2
  have hB2 := hB0.andB hb2
  clear hb2 hB0 hB0x hbl hbb hbx hw1 HLK hs1 hw1s w1
  go_wp2_with fail
  have O0 : OwnL (w2.heap.size) (w2.alloc (.cells #[] 2)) (some ⟨w2.heap.size, 0, none⟩) 0 0 [] := OwnL.ofRow0 (row0 w2) (Nat.le_refl _)
  have hb3 : Below w2.heap.size w2 (w2.alloc (.cells #[] 2)) := (Below.refl _ _).alloc (Nat.le_refl _) _
  obtain ⟨w3, hw3⟩ : ∃ w3, w3 = w2.alloc (.cells #[] 2) := ⟨_, rfl⟩
  rw [← hw3] at O0 hb3 ⊢
  clear hw3
  have E2 := h.below hB2
  have I2 := h2.below hB2
  go_loopw [7, 8] (fun lv iv wr => ∃ (a : Nat) (A : Option Addr) (c' : Nat), a ≤ 3 ∧ iv = .int .i64 a ∧ lv = .slice A (r0N a) c' ∧ OwnL w2.heap.size wr A (r0N a) c' (cnT es cs (r0N a)) ∧ Below w2.heap.size w2 wr) (fun _ i _ => 3 - (intOf i).toNat)
  case atStart => exact ⟨0, _, _, by omega, rfl, rfl, O0, hb3⟩
  case round =>
    clear O0 hb3
    obtain ⟨a, A, c', ha, rfl, rfl, OL, hbr⟩ := hrel
    by_cases hlt : a < 3
    · go_wp2_with fail
      have hda : decide ((a : Int) < 3) = true := by simp; omega
      simp only [hda]
      clear hda
      obtain ⟨w4, rfl⟩ : ∃ w4, w4 = wr := ⟨wr, rfl⟩
      obtain ⟨R0, hR0⟩ : ∃ R0, R0 = r0N a := ⟨_, rfl⟩
      have HR0 := Lib.hid hR0
      rw [← hR0] at OL ⊢
      clear hR0
      have hR3 : R0 ≤ 3 := by rw [HR0.out]; exact r0_le a
      go_loopw [7, 9] (fun lv iv wr => ∃ (bb : Nat) (A : Option Addr) (c' : Nat), a + 1 ≤ bb ∧ bb ≤ 3 ∧ iv = .int .i64 bb ∧ lv = .slice A (R0 + (bb - (a + 1))) c' ∧ OwnL w2.heap.size wr A (R0 + (bb - (a + 1))) c' (cnT es cs (R0 + (bb - (a + 1)))) ∧ Below w2.heap.size w2 wr) (fun _ i _ => 3 - (intOf i).toNat)
      case atStart => exact ⟨a + 1, _, _, by omega, by omega, by go_num, by rw [Nat.sub_self]; rfl, by rw [Nat.sub_self]; exact OL, hbr⟩
      case round =>
        clear OL hbr
        obtain ⟨bb, A, c', hab, hb3, rfl, rfl, OL, hbr⟩ := hrel
        obtain ⟨p, hp⟩ : ∃ p, p = R0 + (bb - (a + 1)) := ⟨_, rfl⟩
        have HP := Lib.hid hp
        have hp5 : p ≤ 5 := by omega
        rw [← hp] at OL ⊢
        clear hp
        by_cases hlb : bb < 3
        · have hpn := pn_at hab hlb
          have HCN := Lib.hid (show cnT es cs (p + 1) = cnT es cs p ++ [cnX es cs a bb] by show _ ++ _ = _; rw [HP.out, HR0.out, hpn.1, hpn.2.1])
          have HP1 : Hid (R0 + (bb + 1 - (a + 1)) = p + 1) := by show _ = _; rw [HP.out, HR0.out]; exact hpn.2.2
          clear hpn
          go_wp2_with fail
          have hdb : decide ((bb : Int) < 3) = true := by simp; omega
          simp only [hdb]
          clear hdb
          obtain ⟨w5, rfl⟩ : ∃ w5, w5 = wr := ⟨wr, rfl⟩
          have R := World.rowIs_made w5 (.bool false) l 4
          have hb6 : Below w5.heap.size w5 (w5.alloc (.cells (madeCells #[.bool false] l) 4)) := (Below.refl _ _).alloc (Nat.le_refl _) _
          obtain ⟨w6, hw6⟩ : ∃ w6, w6 = w5.alloc (.cells (madeCells #[.bool false] l) 4) := ⟨_, rfl⟩
          rw [← hw6] at R hb6 ⊢
          clear hw6
          obtain ⟨gm, hgm⟩ : ∃ gm, gm = w5.heap.size := ⟨_, rfl⟩
          rw [← hgm] at R ⊢
          have hgm5 : w5.heap.size ≤ gm := by omega
          have R0x : Hid (w6.rowIs gm 4 l (fun x => .bool (hasB 0 x))) := R.congr (fun x _ => by simp [hasB])
          have E5 := E2.below hbr
          have I5 := I2.below hbr
          have X5 := hbx1.below hbr
          clear R hgm
          go_loopw [11, 12] (fun tv iv wr => ∃ (e M t : Nat), e ≤ l ∧ iv = .int .i64 e ∧ tv = .int .i64 t ∧ Hid (cnS es cs a bb e = (M, t)) ∧ wr.rowIs gm 4 l (fun x => .bool (hasB M x)) ∧ Below w5.heap.size w5 wr) (fun _ i _ => l - (intOf i).toNat)
          case atStart => exact ⟨0, 0, 0, Nat.zero_le _, rfl, rfl, rfl, R0x.out, hb6⟩
          case round =>
            clear R0x hb6
            obtain ⟨e, M, t, he, rfl, rfl, HS, R, hbe⟩ := hrel
            have hte : t ≤ e := by have := cnS_le es cs a bb e; rw [HS.out] at this; exact this
            by_cases hel : e < l
            · have E := E5.below hbe
              have I := I5.below hbe
              have i1 := I.c e hel
              have zI := I.blk
              have r1 := R.cell hel
              have zR := R.lt
              obtain ⟨ce, hce⟩ : ∃ ce, ce = cs e := ⟨_, rfl⟩
              rw [← hce] at i1
              by_cases h1 : ce = a
              · have h1' : (ce != (a : Int)) = false := by simp [h1]
                cases hh : hasB M e with
                | true =>
                  have HE := Lib.hid (cnS_no2 HS.out hh)
                  rw [hh] at r1
                  clear hh hce h1
                  go_wp2_with fail
                  go_roundw
                  case rel => exact ⟨e + 1, M, t, by omega, by go_num, rfl, HE, R, hbe⟩
                  case measure => simp [intOf]; omega
                | false =>
                  have HE := Lib.hid (cnS_yes (b := bb) HS.out (by rw [← hce]; exact h1) hh)
                  rw [hh] at r1
                  have HCE := Lib.hid (HCH.out e bb _ E I hel)
                  obtain ⟨C, hCC⟩ : ∃ C, C = chS es cs e bb := ⟨_, rfl⟩
                  rw [← hCC] at HCE HE
                  obtain ⟨s7, p7, q7⟩ := X5.below hbe
                  clear hh hce h1 hCC
                  go_wp2_with fail
                  refine HCE.out.mono ?_
                  rintro ee w8 ⟨g, rfl, hg, RC, hb8⟩
                  have R8 := R.of_block (hb8.block _ R.lt)
                  have hbe8 := hbe.andB hb8
                  have hne : gm ≠ g := by omega
                  have R9 : Hid (w8.rowIs gm 4 l (fun x => .bool (halfB M C 0 x))) := R8.congr (fun x _ => by simp [halfB])
                  clear E I i1 r1 zI R R8 HCE zR s7 p7 q7 hbe hb8
                  go_wp2_with fail
                  go_loopw [14] (fun iv wv => ∃ (f : Nat), f ≤ l ∧ iv = .int .i64 f ∧ wv.rowIs gm 4 l (fun x => .bool (halfB M C f x)) ∧ wv.rowIs g 4 l (fun x => .bool (hasB C x)) ∧ Below w5.heap.size w5 wv) (fun i _ => l - (intOf i).toNat)
                  case atStart => exact ⟨0, Nat.zero_le _, rfl, R9.out, RC, hbe8⟩
                  case round =>
                    clear R9 RC hbe8 hg
                    obtain ⟨f, hf, rfl, R, RC, hbf⟩ := hrel
                    by_cases hfl : f < l
                    · have r1 := R.cell hfl
                      have r2 := RC.cell hfl
                      have f1 := R.frozen f
                      have zR := R.lt
                      have zC := RC.lt
                      rw [show halfB M C f f = hasB M f by simp [halfB]] at r1
                      have HR2 := Lib.hid ((R.set f (.bool (hasB M f || hasB C f))).congr (g := fun x => .bool (halfB M C (f + 1) x)) (fun x _ => by
                        by_cases hx : x = f
                        · subst hx; simp [halfB, hasB_or2]
                        · rw [if_neg hx]; simp only [halfB]; by_cases h4 : x < f <;> simp [h4, show x < f + 1 ↔ x < f by omega]))
                      have HC2 := Lib.hid (RC.setOther (a := ⟨gm, f, none⟩) (by simp; omega) (.bool (hasB M f || hasB C f)))
                      clear R RC
                      cases hh : hasB M f with
                      | true =>
                        rw [hh] at r1 HR2 HC2
                        rw [Bool.true_or] at HR2 HC2
                        clear hh
                        go_wp2_with fail
                        refine ⟨?_, ?_⟩
                        · exact ⟨f + 1, by omega, by go_num, HR2.out, HC2.out, hbf.setCell (by simp; omega) _⟩
                        · simp [intOf]; omega
                      | false =>
                        rw [hh] at r1 HR2 HC2
                        rw [Bool.false_or] at HR2 HC2
                        clear hh
                        go_wp2_with fail
                        refine ⟨?_, ?_⟩
                        · exact ⟨f + 1, by omega, by go_num, HR2.out, HC2.out, hbf.setCell (by simp; omega) _⟩
                        · simp [intOf]; omega
                    · obtain rfl : f = l := by omega
                      have HR3 := Lib.hid (R.congr (g := fun x => .bool (hasB (M ||| C) x)) (fun x hx => by simp only [halfB]; rw [if_pos hx]))
                      go_wp2_with fail
                      go_roundw
                      case rel => exact ⟨e + 1, M ||| C, t + 1, by omega, by go_num, by go_num, HE, HR3.out, hbf⟩
                      case measure => simp [intOf]; omega
              · have h1' : (ce != (a : Int)) = true := by simp [h1]
                have HE := Lib.hid (cnS_no1 (b := bb) HS.out (by rw [← hce]; exact h1))
                clear hce h1
                go_wp2_with fail
                go_roundw
                case rel => exact ⟨e + 1, M, t, by omega, by go_num, rfl, HE, R, hbe⟩
                case measure => simp [intOf]; omega
            · obtain rfl : e = l := by omega
              have OL7 := OL.below hbe
              have hb7 := hbr.andB hbe
              have HX : Hid (cnX es cs a bb = t) := by show _ = _; unfold cnX; rw [hlm.out, HS.out]
              have hszq := hb7.size
              go_wp2_with (first
                | (at_builtin; refine wp_appL1 rfl rfl rfl rfl (by simp) OL7 hszq (by omega) ?_; intro A5 c6 w9 OQ5 hg9 hat9))
              have OL8 := Lib.hid (show OwnL w2.heap.size w9 A5 (p + 1) c6 (cnT es cs (p + 1)) by rw [HCN.out, HX.out]; exact OQ5)
              have hb10 := hb7.grown hg9 hszq (fun y hy => (OL7.blk y hy).1)
              go_roundw
              case rel => exact ⟨bb + 1, A5, c6, by omega, by omega, by go_num, by rw [HP1.out], by rw [HP1.out]; exact OL8.out, hb10⟩
              case measure => simp [intOf]; omega
        · obtain rfl : bb = 3 := by omega
          have c33 : ((3 : Nat) : Int) = 3 := rfl
          have HP2 : Hid (r0N (a + 1) = p) := by show _ = _; rw [HP.out, HR0.out]; exact (r0_at hlt).symm
          go_wp2_with fail
          go_roundw
          case rel => exact ⟨a + 1, A, c', by omega, by go_num, by rw [HP2.out], by rw [HP2.out]; exact OL, hbr⟩
          case measure => simp [intOf]; omega
    · obtain rfl : a = 3 := by omega
      have c33 : ((3 : Nat) : Int) = 3 := rfl
      have c3 : Hid (r0N 3 = 3) := rfl
      rw [c3.out] at OL ⊢
      go_wp2_with fail
      go_ret2
      rw [HL.out]
      exact ⟨A, c', rfl, OL.mono (by have := hB2.size; omega), hB2.andB hbr⟩
end Go.Proofs.Ytppfplhbfgjjhaa
