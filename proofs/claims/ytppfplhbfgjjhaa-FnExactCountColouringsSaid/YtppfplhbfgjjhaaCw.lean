import Derived.Test.YtppfplhbfgjjhaaCx
import Derived.Test.YtppfplhbfgjjhaaCj
namespace Go.Proofs.Ytppfplhbfgjjhaa
open Go.RowKit Go.Sort
/-! ### ChainNumbers, the reference -/
theorem cn_cases (n : Int) (es : List (Int × Int)) (cs : Nat → Int) (l : Nat) :
    (gcC n es (colB es cs l) = cnC n es cs l) ∧ (cnC n es cs l = 0 ∨ cnC n es cs l = 1 ∨ cnC n es cs l = 2) := by
  refine ⟨rfl, ?_⟩
  unfold cnC gcC
  cases B (IsG n es) <;> cases colB es cs l <;> simp
/-- Place of the first pair of a row. -/
def r0N (a : Nat) : Nat := if a = 0 then 0 else if a = 1 then 2 else 3
/-- A row of bits, half of it done. -/
def halfB (M C f : Nat) (x : Nat) : Bool := if x < f then hasB (M ||| C) x else hasB M x
theorem pn_at {a bb : Nat} (h1 : a + 1 ≤ bb) (h2 : bb < 3) : paN (r0N a + (bb - (a + 1))) = a ∧ pbN (r0N a + (bb - (a + 1))) = bb ∧ r0N a + (bb + 1 - (a + 1)) = r0N a + (bb - (a + 1)) + 1 := by
  rcases (show (a = 0 ∧ bb = 1) ∨ (a = 0 ∧ bb = 2) ∨ (a = 1 ∧ bb = 2) by omega) with ⟨rfl, rfl⟩ | ⟨rfl, rfl⟩ | ⟨rfl, rfl⟩ <;> simp [r0N, paN, pbN]
theorem r0_at {a : Nat} (h : a < 3) : r0N a + (3 - (a + 1)) = r0N (a + 1) := by
  rcases (show a = 0 ∨ a = 1 ∨ a = 2 by omega) with rfl | rfl | rfl <;> simp [r0N]
theorem r0_le (a : Nat) : r0N a ≤ 3 := by unfold r0N; split; omega; split <;> omega
theorem hasB_or2 (M C x : Nat) : hasB (M ||| C) (x : Int) = (hasB M x || hasB C x) := by
  unfold hasB; rw [Nat.testBit_or]
set_option maxRecDepth 100000 in
set_option maxHeartbeats 4000000 in
theorem spChainNumbers_any (n : Int) (b o m c : Nat) (es : List (Int × Int)) (b2 o2 l c2 : Nat) (cs : Nat → Int) (w : World) (h : Eds w b o m es) (hm : m ≤ 1048576) (h2 : Ints w b2 o2 l cs) (hl : l ≤ 1048576) :
    Calls Try.prog 39 #[.agg #[.int .i64 n, .slice (some ⟨b, o, none⟩) m c], .slice (some ⟨b2, o2, none⟩) l c2] w (RetLC (cnL n es cs l) (cnC n es cs l) w) := by
  have KC := cell_rg
  have hbb := (by go_grown : Below w.heap.size w (w.alloc (.cells #[.int .i64 n, .slice (some ⟨b, o, none⟩) m c] 30)))
  have hbx := Box2.made w (.int .i64 n) (.slice (some ⟨b, o, none⟩) m c) 30
  have hlm := Lib.hid h.len
  obtain ⟨w1, hw1⟩ : ∃ w1, w1 = w.alloc (.cells #[.int .i64 n, .slice (some ⟨b, o, none⟩) m c] 30) := ⟨_, rfl⟩
  have hs1 : w1.heap.size = w.heap.size + 1 := by rw [hw1]; simp [go_sem]
  have HLK := Lib.hid (l02Code_any n b o m c es (w1.alloc (.cells #[.slice (some ⟨b2, o2, none⟩) l c2] 36)) ((hw1 ▸ h.below hbb : Eds w1 b o m es).alloc _) hm w1.heap.size 1 1 (fun _ => b2) (fun _ => o2) (fun _ => l) (fun _ => c2) (fun _ => cs) (by simp [go_sem]) (by omega) (fun j hj => cell_one _ _ _ j hj) (fun _ _ => ⟨(hw1 ▸ h2.below hbb : Ints w1 b2 o2 l cs).alloc _, hl⟩))
  rw [lkC_1, hs1] at HLK
  rw [← hw1] at hbb hbx
  have hw1s := hs1
  have hbl : Below w1.heap.size w1 (w1.alloc (.cells #[.slice (some ⟨b2, o2, none⟩) l c2] 36)) := (Below.refl _ _).alloc (Nat.le_refl _) _
  have hB0 := hbb.andB hbl
  have hB0x := hbx.below hbl
  rw [show gcC n es (colB es cs l) = cnC n es cs l from rfl] at HLK
  obtain ⟨kc, hkc⟩ : ∃ kc, kc = cnC n es cs l := ⟨_, rfl⟩
  rw [← hkc] at HLK ⊢
  by_cases hz : kc = 0
  rotate_left
  · have HL : Hid (cnL n es cs l = []) := cn_n (by rw [← hkc]; exact hz)
    have hne : (kc != 0) = true := by simpa using hz
    clear hkc hz
    go_enter Try.func39, Try.ntmps39
    go_wp2_with fail
    rw [← hw1]
    refine HLK.out.mono ?_
    rintro e w2 ⟨rfl, hb2⟩
    go_wp2_with fail
    go_ret2
    exact retLC_nil HL.out (hB0.andB hb2)
  obtain ⟨hG, ⟨hle, hcol⟩, hL⟩ := cn_0 (by rw [← hkc]; exact hz : cnC n es cs l = 0)
  obtain rfl : l = m := by rw [hle, hlm.out]
  have hn2 := hG.wf.1
  have hn20 := hG.wf.2.1
  obtain ⟨N, rfl⟩ : ∃ N : Nat, n = N := ⟨n.toNat, by omega⟩
  have hl30 : l ≤ 30 := by have := hlm.out; have := hG.wf.2.2.2.1; omega
  have HCH := Lib.hid (fun (e : Nat) (bb : Int) W (E : Eds W b o l es) (I : Ints W b2 o2 l cs) (he : e < l) => l02Chain_any N b o l c b2 o2 c2 e es cs bb W E hm hG I he)
  have HL := Lib.hid hL
  rw [hz] at HLK
  clear hkc hle hcol hL hG
  rw [hz]
  clear hz
  have hmk := run_make_row' (P := Try.prog) 90 4 (.bool false) 1 Try.underlying90 infB rfl .i64 .i64 l (by omega) (by omega)
  go_enter Try.func39, Try.ntmps39
  go_wp2_with fail
  rw [← hw1]
  refine HLK.out.mono ?_
  rintro e w2 ⟨rfl, hb2⟩
  have hbx1 := hB0x.below hb2
  have hB2 := hB0.andB hb2
  clear hb2 hB0 hB0x hbl hbb hbx hw1 HLK hs1 hw1s w1
  go_wp2_with fail
  have O0 : OwnL (w2.heap.size) (w2.alloc (.cells #[] 2)) (some ⟨w2.heap.size, 0, none⟩) 0 0 [] := OwnL.ofRow0 (row0 w2) (Nat.le_refl _)
  have hb3 : Below w2.heap.size w2 (w2.alloc (.cells #[] 2)) := (Below.refl _ _).alloc (Nat.le_refl _) _
  obtain ⟨w3, hw3⟩ : ∃ w3, w3 = w2.alloc (.cells #[] 2) := ⟨_, rfl⟩
  rw [← hw3] at O0 hb3 ⊢
  clear hw3
  have E2 := h.below hB2
  have I2 := h2.below hB2
  go_loopw [7, 8] (fun lv iv wr => ∃ (a : Nat) (A : Option Addr) (c' : Nat), a ≤ 3 ∧ iv = .int .i64 a ∧ lv = .slice A (r0N a) c' ∧ OwnL w2.heap.size wr A (r0N a) c' (cnT es cs (r0N a)) ∧ Below w2.heap.size w2 wr) (fun _ i _ => 3 - (intOf i).toNat)
  case atStart => exact ⟨0, _, _, by omega, rfl, rfl, O0, hb3⟩
  case round =>
    clear O0 hb3
    obtain ⟨a, A, c', ha, rfl, rfl, OL, hbr⟩ := hrel
    by_cases hlt : a < 3
    · go_wp2_with fail
      have hda : decide ((a : Int) < 3) = true := by simp; omega
      simp only [hda]
      clear hda
      obtain ⟨w4, rfl⟩ : ∃ w4, w4 = wr := ⟨wr, rfl⟩
      obtain ⟨R0, hR0⟩ : ∃ R0, R0 = r0N a := ⟨_, rfl⟩
      have HR0 := Lib.hid hR0
      rw [← hR0] at OL ⊢
      clear hR0
      have hR3 : R0 ≤ 3 := by rw [HR0.out]; exact r0_le a
      go_loopw [7, 9] (fun lv iv wr => ∃ (bb : Nat) (A : Option Addr) (c' : Nat), a + 1 ≤ bb ∧ bb ≤ 3 ∧ iv = .int .i64 bb ∧ lv = .slice A (R0 + (bb - (a + 1))) c' ∧ OwnL w2.heap.size wr A (R0 + (bb - (a + 1))) c' (cnT es cs (R0 + (bb - (a + 1)))) ∧ Below w2.heap.size w2 wr) (fun _ i _ => 3 - (intOf i).toNat)
      case atStart => exact ⟨a + 1, _, _, by omega, by omega, by go_num, by rw [Nat.sub_self]; rfl, by rw [Nat.sub_self]; exact OL, hbr⟩
      case round =>
        clear OL hbr
        obtain ⟨bb, A, c', hab, hb3, rfl, rfl, OL, hbr⟩ := hrel
        obtain ⟨p, hp⟩ : ∃ p, p = R0 + (bb - (a + 1)) := ⟨_, rfl⟩
        have HP := Lib.hid hp
        have hp5 : p ≤ 5 := by omega
        rw [← hp] at OL ⊢
        clear hp
        by_cases hlb : bb < 3
        · have hpn := pn_at hab hlb
          have HCN := Lib.hid (show cnT es cs (p + 1) = cnT es cs p ++ [cnX es cs a bb] by show _ ++ _ = _; rw [HP.out, HR0.out, hpn.1, hpn.2.1])
          have HP1 : Hid (R0 + (bb + 1 - (a + 1)) = p + 1) := by show _ = _; rw [HP.out, HR0.out]; exact hpn.2.2
          clear hpn
          go_wp2_with fail
          have hdb : decide ((bb : Int) < 3) = true := by simp; omega
          simp only [hdb]
          clear hdb
          obtain ⟨w5, rfl⟩ : ∃ w5, w5 = wr := ⟨wr, rfl⟩
          have R := World.rowIs_made w5 (.bool false) l 4
          have hb6 : Below w5.heap.size w5 (w5.alloc (.cells (madeCells #[.bool false] l) 4)) := (Below.refl _ _).alloc (Nat.le_refl _) _
          obtain ⟨w6, hw6⟩ : ∃ w6, w6 = w5.alloc (.cells (madeCells #[.bool false] l) 4) := ⟨_, rfl⟩
          rw [← hw6] at R hb6 ⊢
          clear hw6
          obtain ⟨gm, hgm⟩ : ∃ gm, gm = w5.heap.size := ⟨_, rfl⟩
          rw [← hgm] at R ⊢
          have hgm5 : w5.heap.size ≤ gm := by omega
          have R0x : Hid (w6.rowIs gm 4 l (fun x => .bool (hasB 0 x))) := R.congr (fun x _ => by simp [hasB])
          have E5 := E2.below hbr
          have I5 := I2.below hbr
          have X5 := hbx1.below hbr
          clear R hgm
          go_loopw [11, 12] (fun tv iv wr => ∃ (e M t : Nat), e ≤ l ∧ iv = .int .i64 e ∧ tv = .int .i64 t ∧ Hid (cnS es cs a bb e = (M, t)) ∧ wr.rowIs gm 4 l (fun x => .bool (hasB M x)) ∧ Below w5.heap.size w5 wr) (fun _ i _ => l - (intOf i).toNat)
          case atStart => exact ⟨0, 0, 0, Nat.zero_le _, rfl, rfl, rfl, R0x.out, hb6⟩
          case round =>
            clear R0x hb6
            obtain ⟨e, M, t, he, rfl, rfl, HS, R, hbe⟩ := hrel
            have hte : t ≤ e := by have := cnS_le es cs a bb e; rw [HS.out] at this; exact this
            by_cases hel : e < l
            · have E := E5.below hbe
              have I := I5.below hbe
              have i1 := I.c e hel
              have zI := I.blk
              have r1 := R.cell hel
              have zR := R.lt
              obtain ⟨ce, hce⟩ : ∃ ce, ce = cs e := ⟨_, rfl⟩
              rw [← hce] at i1
              by_cases h1 : ce = a
              · have h1' : (ce != (a : Int)) = false := by simp [h1]
                cases hh : hasB M e with
                | true =>
                  have HE := Lib.hid (cnS_no2 HS.out hh)
                  rw [hh] at r1
                  clear hh hce h1
                  go_wp2_with fail
                  go_roundw
                  case rel => exact ⟨e + 1, M, t, by omega, by go_num, rfl, HE, R, hbe⟩
                  case measure => simp [intOf]; omega
                | false =>
                  have HE := Lib.hid (cnS_yes (b := bb) HS.out (by rw [← hce]; exact h1) hh)
                  rw [hh] at r1
                  have HCE := Lib.hid (HCH.out e bb _ E I hel)
                  obtain ⟨C, hCC⟩ : ∃ C, C = chS es cs e bb := ⟨_, rfl⟩
                  rw [← hCC] at HCE HE
                  obtain ⟨s7, p7, q7⟩ := X5.below hbe
                  clear hh hce h1 hCC
                  go_wp2_with fail
                  refine HCE.out.mono ?_
                  rintro ee w8 ⟨g, rfl, hg, RC, hb8⟩
                  have R8 := R.of_block (hb8.block _ R.lt)
                  have hbe8 := hbe.andB hb8
                  have hne : gm ≠ g := by omega
                  have R9 : Hid (w8.rowIs gm 4 l (fun x => .bool (halfB M C 0 x))) := R8.congr (fun x _ => by simp [halfB])
                  clear E I i1 r1 zI R R8 HCE zR s7 p7 q7 hbe hb8
                  go_wp2_with fail
                  go_loopw [14] (fun iv wv => ∃ (f : Nat), f ≤ l ∧ iv = .int .i64 f ∧ wv.rowIs gm 4 l (fun x => .bool (halfB M C f x)) ∧ wv.rowIs g 4 l (fun x => .bool (hasB C x)) ∧ Below w5.heap.size w5 wv) (fun i _ => l - (intOf i).toNat)
                  case atStart => exact ⟨0, Nat.zero_le _, rfl, R9.out, RC, hbe8⟩
                  case round =>
                    clear R9 RC hbe8 hg
                    obtain ⟨f, hf, rfl, R, RC, hbf⟩ := hrel
                    by_cases hfl : f < l
                    · have r1 := R.cell hfl
                      have r2 := RC.cell hfl
                      have f1 := R.frozen f
                      have zR := R.lt
                      have zC := RC.lt
                      rw [show halfB M C f f = hasB M f by simp [halfB]] at r1
                      have HR2 := Lib.hid ((R.set f (.bool (hasB M f || hasB C f))).congr (g := fun x => .bool (halfB M C (f + 1) x)) (fun x _ => by
                        by_cases hx : x = f
                        · subst hx; simp [halfB, hasB_or2]
                        · rw [if_neg hx]; simp only [halfB]; by_cases h4 : x < f <;> simp [h4, show x < f + 1 ↔ x < f by omega]))
                      have HC2 := Lib.hid (RC.setOther (a := ⟨gm, f, none⟩) (by simp; omega) (.bool (hasB M f || hasB C f)))
                      clear R RC
                      cases hh : hasB M f with
                      | true =>
                        rw [hh] at r1 HR2 HC2
                        rw [Bool.true_or] at HR2 HC2
                        clear hh
                        go_wp2_with fail
                        refine ⟨?_, ?_⟩
                        · exact ⟨f + 1, by omega, by go_num, HR2.out, HC2.out, hbf.setCell (by simp; omega) _⟩
                        · simp [intOf]; omega
                      | false =>
                        rw [hh] at r1 HR2 HC2
                        rw [Bool.false_or] at HR2 HC2
                        clear hh
                        go_wp2_with fail
                        refine ⟨?_, ?_⟩
                        · exact ⟨f + 1, by omega, by go_num, HR2.out, HC2.out, hbf.setCell (by simp; omega) _⟩
                        · simp [intOf]; omega
                    · obtain rfl : f = l := by omega
                      have HR3 := Lib.hid (R.congr (g := fun x => .bool (hasB (M ||| C) x)) (fun x hx => by simp only [halfB]; rw [if_pos hx]))
                      go_wp2_with fail
                      go_roundw
                      case rel => exact ⟨e + 1, M ||| C, t + 1, by omega, by go_num, by go_num, HE, HR3.out, hbf⟩
                      case measure => simp [intOf]; omega
              · have h1' : (ce != (a : Int)) = true := by simp [h1]
                have HE := Lib.hid (cnS_no1 (b := bb) HS.out (by rw [← hce]; exact h1))
                clear hce h1
                go_wp2_with fail
                go_roundw
                case rel => exact ⟨e + 1, M, t, by omega, by go_num, rfl, HE, R, hbe⟩
                case measure => simp [intOf]; omega
            · obtain rfl : e = l := by omega
              have OL7 := OL.below hbe
              have hb7 := hbr.andB hbe
              have HX : Hid (cnX es cs a bb = t) := by show _ = _; unfold cnX; rw [hlm.out, HS.out]
              have hszq := hb7.size
              go_wp2_with (first
                | (at_builtin; refine wp_appL1 rfl rfl rfl rfl (by simp) OL7 hszq (by omega) ?_; intro A5 c6 w9 OQ5 hg9 hat9))
              have OL8 := Lib.hid (show OwnL w2.heap.size w9 A5 (p + 1) c6 (cnT es cs (p + 1)) by rw [HCN.out, HX.out]; exact OQ5)
              have hb10 := hb7.grown hg9 hszq (fun y hy => (OL7.blk y hy).1)
              go_roundw
              case rel => exact ⟨bb + 1, A5, c6, by omega, by omega, by go_num, by rw [HP1.out], by rw [HP1.out]; exact OL8.out, hb10⟩
              case measure => simp [intOf]; omega
        · obtain rfl : bb = 3 := by omega
          have c33 : ((3 : Nat) : Int) = 3 := rfl
          have HP2 : Hid (r0N (a + 1) = p) := by show _ = _; rw [HP.out, HR0.out]; exact (r0_at hlt).symm
          go_wp2_with fail
          go_roundw
          case rel => exact ⟨a + 1, A, c', by omega, by go_num, by rw [HP2.out], by rw [HP2.out]; exact OL, hbr⟩
          case measure => simp [intOf]; omega
    · obtain rfl : a = 3 := by omega
      have c33 : ((3 : Nat) : Int) = 3 := rfl
      have c3 : Hid (r0N 3 = 3) := rfl
      rw [c3.out] at OL ⊢
      go_wp2_with fail
      go_ret2
      rw [HL.out]
      exact ⟨A, c', rfl, OL.mono (by have := hB2.size; omega), hB2.andB hbr⟩
end Go.Proofs.Ytppfplhbfgjjhaa
