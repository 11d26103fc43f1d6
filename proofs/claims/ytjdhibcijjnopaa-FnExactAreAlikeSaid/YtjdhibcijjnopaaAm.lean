import Derived.Test.YtjdhibcijjnopaaAa
import Derived.Test.YtjdhibcijjnopaaLk
import Derived.Test.YtjdhibcijjnopaaCt
import Derived.Test.YtjdhibcijjnopaaLs
import Derived.Test.YtjdhibcijjnopaaFw
import Derived.Test.YtjdhibcijjnopaaQu
namespace Go.Proofs.Ytjdhibcijjnopaa
open Go.RowKit Go.Sort
/-! ### Alike colourings, the reference -/
noncomputable def sameB (m : Nat) (f g : Nat → Int) : Bool := B (∀ e, e < m → f e = g e)
set_option maxHeartbeats 800000 in
theorem l02Same_any (b1 o1 l c1 b2 o2 c2 : Nat) (f g : Nat → Int) (w : World) (h1 : Ints w b1 o1 l f) (h2 : Ints w b2 o2 l g) (hl : l ≤ 1048576) :
    Calls Try.prog 46 #[.slice (some ⟨b1, o1, none⟩) l c1, .slice (some ⟨b2, o2, none⟩) l c2] w (Ret (.bool (sameB l f g)) w) := by
  have KC := cell_rg
  go_enter Try.func46, Try.ntmps46
  go_wp2_with fail
  go_loopw [5] (fun i wr => ∃ j : Nat, j ≤ l ∧ i = .int .i64 j ∧ Hid (∀ e, e < j → f e = g e) ∧ Below w.heap.size w wr) (fun i _ => l - (intOf i).toNat)
  case atStart => exact ⟨0, Nat.zero_le _, rfl, (fun e he => absurd he (by omega)), Below.refl _ _⟩
  case round =>
    obtain ⟨j, hj, rfl, HP, hbr⟩ := hrel
    by_cases hlt : j < l
    · have k1 := (h1.below hbr).c j hlt
      have k2 := (h2.below hbr).c j hlt
      have s1 := (h1.below hbr).blk
      have s2 := (h2.below hbr).blk
      by_cases hfg : f j = g j
      · have hne : (f j != g j) = false := by simp [hfg]
        have HP2 : Hid (∀ e, e < j + 1 → f e = g e) := fun e he => by
          by_cases x : e = j
          · subst x; exact hfg
          · exact HP.out e (by omega)
        clear hfg
        go_wp2_with fail
        (refine wp_region_quiet_below (by kernel_rfl) (by kernel_rfl) ?_
         repeat (any_goals (go_big_quiet_step (first | fail)))
         all_goals (refine wpQuiet_nil ?_; intro wq1 hq1; replace hq1 := below_of_rg hq1))
        go_wp2_with fail
        go_roundw
        case rel => exact ⟨j + 1, by omega, by go_num, HP2, hbr.andB hq1⟩
        case measure => simp [intOf]; omega
      · have hne : (f j != g j) = true := by simp [hfg]
        have HV : Hid (sameB l f g = false) := B_false fun x => hfg (x j hlt)
        clear hfg
        go_wp2_with fail
        (refine wp_region_quiet_below (by kernel_rfl) (by kernel_rfl) ?_
         repeat (any_goals (go_big_quiet_step (first | fail)))
         all_goals (refine wpQuiet_nil ?_; intro wq1 hq1; replace hq1 := below_of_rg hq1))
        go_wp2_with fail
        go_ret
        exact ⟨ret_bool HV.out.symm, hbr.andB hq1⟩
    · obtain rfl : j = l := by omega
      have HV : Hid (sameB j f g = true) := B_true HP.out
      go_wp2_with fail
      go_ret
      exact ⟨ret_bool HV.out.symm, hbr⟩
/-- What the images are after some places. -/
def imS (L : List Int) (a : Nat → Int) : Nat → Int → Int
  | 0, _ => 0
  | i + 1, x => if a (ia L i).toNat = x then (i : Int) else imS L a i x
theorem imS_3 (L : List Int) (a : Nat → Int) (x : Int) : imS L a 3 x = imgL L a x := by
  simp only [imS, imgL]
  split
  · rfl
  · split
    · rfl
    · split <;> rfl
def mdL (L : List Int) (a : Nat → Int) (m : Nat) : List Int := (List.range m).map fun e : Nat => imgL L a (a e)
theorem mdL_len (L : List Int) (a : Nat → Int) (m : Nat) : (mdL L a m).length = m := by simp [mdL]
theorem mdL_succ (L : List Int) (a : Nat → Int) (m : Nat) : mdL L a (m + 1) = mdL L a m ++ [imgL L a (a m)] := by simp [mdL, List.range_succ]
theorem mdL_at (L : List Int) (a : Nat → Int) {m e : Nat} (h : e < m) : ia (mdL L a m) e = imgL L a (a e) := by simp [ia, mdL, h]
theorem row0 (w : World) : (w.alloc (.cells #[] 2)).rowIs w.heap.size 2 0 (fun j => .int .i64 ((fun _ : Nat => (0 : Int)) j)) := World.rowIs_alloc w #[] 2 _ (fun i hi => absurd hi (by simp))
theorem OwnL.ofRow0 {base : Nat} {w : World} {g : Nat} {f : Nat → Value} (h : w.rowIs g 2 0 f) (hb : base ≤ g) : OwnL base w (some ⟨g, 0, none⟩) 0 0 [] := by
  obtain ⟨c, hc, hs, _⟩ := h
  obtain rfl : c = #[] := Array.eq_empty_of_size_eq_zero hs
  exact OwnL.empty base w g hb hc
theorem rows_ne {w : World} {g g' : Nat} {f f' : Nat → Value} (h : w.rowIs g 2 0 f) (h' : w.rowIs g' 2 3 f') : g ≠ g' := fun e => by
  subst e
  obtain ⟨c, hc, hs, _⟩ := h
  obtain ⟨d, hd, hs', _⟩ := h'
  rw [hc] at hd
  cases hd
  omega
set_option maxRecDepth 100000 in
set_option maxHeartbeats 4000000 in
theorem l02Made_any (n : Int) (b o l c b2 o2 c2 : Nat) (es : List (Int × Int)) (cs : Nat → Int) (w : World) (h : Eds w b o l es) (hm : l ≤ 1048576) (hG : IsG n es) (h2 : Ints w b2 o2 l cs) (hc : ColP es cs) :
    Calls Try.prog 47 #[.agg #[.int .i64 n, .slice (some ⟨b, o, none⟩) l c], .slice (some ⟨b2, o2, none⟩) l c2] w (RetL (mdL (atL es 0) cs l) w) := by
  have KC := cell_rg
  have hbox := Box2.made w (.int .i64 n) (.slice (some ⟨b, o, none⟩) l c) 31
  have hbb := (by go_grown : Below w.heap.size w (w.alloc (.cells #[.int .i64 n, .slice (some ⟨b, o, none⟩) l c] 31)))
  have hlm := Lib.hid h.len
  have hn2 := hG.wf.1
  have HL3 : Hid ((atL es 0).length = 3) := atL_3 hG (by omega) (by omega)
  have HM := Lib.hid (at3 hG hc (v := 0) (by omega) (by omega)).1
  have HAS : Hid (0 ≤ ia (atL es 0) 0 ∧ ia (atL es 0) 0 < ia (atL es 0) 1) := by
    obtain ⟨f, hf, e, _⟩ := HM.out 0 (by omega)
    exact ⟨by omega, atTo_asc es.length 0 1 (by omega) (by have : (atTo es 0 es.length).length = 3 := HL3.out; omega)⟩
  have HCO := Lib.hid hc.1
  have HAT := Lib.hid (fun W (E : Eds W b o l es) => l01At_any n b o l c es 0 W E hm)
  have hmk3 := run_make_row' (P := Try.prog) 25 2 (.int .i64 0) 8 Try.underlying25 inf2 rfl .i64 .i64 3 (by omega) (by omega)
  rw [show ((3 : Nat) : Int) = 3 from rfl] at hmk3
  obtain ⟨w1, hw1⟩ : ∃ w1, w1 = w.alloc (.cells #[.int .i64 n, .slice (some ⟨b, o, none⟩) l c] 31) := ⟨_, rfl⟩
  rw [← hw1] at hbox hbb
  have E := h.below hbb
  have I := h2.below hbb
  obtain ⟨s1, p1, q1⟩ := hbox
  clear hG hc
  go_enter Try.func47, Try.ntmps47
  go_wp2_with fail
  rw [← hw1]
  clear hw1
  refine wp_region_facts (fun i v W => match i with
    | 0 => v = .agg #[.int .i64 n, .slice (some ⟨b, o, none⟩) l c]
    | 1 => NewL w1.heap.size (atL es 0) v W
    | 2 => NewI w1.heap.size (3) (fun _ => 0) v W
    | 3 => NewI w1.heap.size (0) (fun _ => 0) v W
    | 4 => NewL w1.heap.size (atL es 0) v W
    | 5 => NewI w1.heap.size (3) (fun _ => 0) v W
    | _ => NewI w1.heap.size (0) (fun _ => 0) v W) (by kernel_rfl) (by kernel_rfl) ?_ ?_ ?_
  · intro i v W W' hf hb
    match i, hf with
    | 0, hf => exact hf
    | 1, hf => exact NewL.below hf hb
    | 2, hf => exact NewI.below hf hb
    | 3, hf => exact NewI.below hf hb
    | 4, hf => exact NewL.below hf hb
    | 5, hf => exact NewI.below hf hb
    | (i + 6), hf => exact NewI.below hf hb
  · refine ⟨?_, ?_, ?_, ?_, ?_, ?_, ?_, trivial⟩
    · intro a W hW hs hd
      have e2 : a.tmps[2]?.getD undef = .pointer (some ⟨w.heap.size, 0, none⟩) := hs 2 (by kernel_rfl)
      have k0 := (hW.cell (p := ⟨w.heap.size, 0, none⟩) (s1)).trans (p1)
      have k1 := (hW.cell (p := ⟨w.heap.size, 1, none⟩) (s1)).trans (q1)
      clear hs hd
      unfold Grows
      go_simp
      exact Below.refl _ _
    · intro a W hW hs hd
      have e10 : (a.tmps[10]?.getD undef) = .agg #[.int .i64 n, .slice (some ⟨b, o, none⟩) l c] := hd 0 10 (by kernel_rfl) (by kernel_rfl)
      clear hs hd
      unfold Grows
      go_simp
      refine ⟨Below.refl _ _, (HAT.out W (E.below hW)).mono ?_⟩
      rintro e w6 ⟨A6, c6, rfl, ho6, hb6⟩
      exact ⟨_, rfl, hb6, A6, c6, rfl, ho6.mono (hW.size)⟩
    · intro a W hW hs hd
      clear hs hd
      unfold Grows
      go_simp
      exact ⟨(Below.refl _ _).alloc (Nat.le_refl _) _, _, rfl, hW.size, World.rowIs_made W (.int .i64 0) 3 2⟩
    · intro a W hW hs hd
      clear hs hd
      unfold Grows
      go_simp
      exact ⟨(Below.refl _ _).alloc (Nat.le_refl _) _, _, rfl, hW.size, row0 W⟩
    · intro a W hW hs hd
      have e11 : NewL w1.heap.size (atL es 0) (a.tmps[11]?.getD undef) W := hd 1 11 (by kernel_rfl) (by kernel_rfl)
      obtain ⟨A11, c11, e11, O11⟩ := e11
      clear hs hd
      unfold Grows
      go_simp
      exact ⟨Below.refl _ _, A11, c11, rfl, O11⟩
    · intro a W hW hs hd
      have e12 : NewI w1.heap.size (3) (fun _ => 0) (a.tmps[12]?.getD undef) W := hd 2 12 (by kernel_rfl) (by kernel_rfl)
      obtain ⟨g12, e12, hg12, R12⟩ := e12
      clear hs hd
      unfold Grows
      go_simp
      exact ⟨Below.refl _ _, g12, rfl, hg12, R12⟩
    · intro a W hW hs hd
      have e13 : NewI w1.heap.size (0) (fun _ => 0) (a.tmps[13]?.getD undef) W := hd 3 13 (by kernel_rfl) (by kernel_rfl)
      obtain ⟨g13, e13, hg13, R13⟩ := e13
      clear hs hd
      unfold Grows
      go_simp
      exact ⟨Below.refl _ _, g13, rfl, hg13, R13⟩
  intro vs W hW hf
  have f5 : NewL w1.heap.size (atL es 0) (vs 5) W := hf 4 5 (by kernel_rfl)
  obtain ⟨A5, c5, f5, O5⟩ := f5
  have f6 : NewI w1.heap.size (3) (fun _ => 0) (vs 6) W := hf 5 6 (by kernel_rfl)
  obtain ⟨g6, f6, hg6, R6⟩ := f6
  have f7 : NewI w1.heap.size (0) (fun _ => 0) (vs 7) W := hf 6 7 (by kernel_rfl)
  obtain ⟨g7, f7, hg7, R7⟩ := f7
  simp only [dsts, List.filterMap_cons, List.filterMap_nil, List.foldl_cons, List.foldl_nil, Act.put, List.setIfInBounds_toArray, List.set_cons_succ, List.set_cons_zero, f5, f6, f7]
  clear hf
  have hb1 := hbb.andB hW
  have EW := E.below hW
  have IW := I.below hW
  have O7 := OwnL.ofRow0 R7 hg7
  have ne7 := rows_ne R7 R6
  obtain ⟨L, hLL⟩ : ∃ L, L = atL es 0 := ⟨_, rfl⟩
  rw [← hLL] at HL3 HM HAS O5 ⊢
  rw [HL3.out] at O5 ⊢
  obtain ⟨g5, rfl, hg5, hg5'⟩ : ∃ g, A5 = some ⟨g, 0, none⟩ ∧ w1.heap.size ≤ g ∧ g < W.heap.size := by
    rcases O5.cases with ⟨_, h0, _⟩ | h0
    · omega
    · exact h0
  have ne5 : g5 ≠ g6 := fun e => by
    subst e
    have k1 := O5.cell (j := 1) (by omega)
    have k2 := R6.cell (i := 1) (by omega)
    rw [k1] at k2
    have := HAS.out
    simp at k2
    omega
  have hsz := hW.size
  have HLL := Lib.hid hLL
  clear hLL R7 E I HAT hmk3
  have HL4 : Hid (L.length = 3) := HL3.out
  go_wp2_with fail
  go_loopw [8] (fun iv wr => ∃ i : Nat, i ≤ 3 ∧ iv = .int .i64 i ∧ wr.rowIs g6 2 3 (fun x => .int .i64 (imS L cs i x)) ∧ OwnL w1.heap.size wr (some ⟨g5, 0, none⟩) 3 c5 L ∧ OwnL w1.heap.size wr (some ⟨g7, 0, none⟩) 0 0 [] ∧ Below w1.heap.size w1 wr) (fun i _ => 3 - (intOf i).toNat)
  case atStart => exact ⟨0, Nat.zero_le _, rfl, R6.congr (fun x _ => rfl), O5, O7, hW⟩
  case round =>
    clear R6 O5 O7 EW IW
    obtain ⟨i, hi, rfl, hr6, ho5, ho7, hbr⟩ := hrel
    by_cases hlt : i < 3
    · obtain ⟨f, hf, hfe, hf1, hf2⟩ := HM.out i hlt
      have hf' : f < l := by rw [← hlm.out]; exact hf
      have k1 := ho5.cell hlt
      rw [hfe] at k1
      have IW := (h2.below hbb).below hbr
      have k2 := IW.c f hf'
      obtain ⟨u, hu⟩ : ∃ u : Nat, cs f = u := ⟨(cs f).toNat, by omega⟩
      rw [hu] at k2
      have hu3 : u < 3 := by omega
      have s2 := IW.blk
      have s3 := (ho5.blk g5 rfl).2
      have e1 := hr6.cell hu3
      have f1 := hr6.frozen u
      have s4 := hr6.lt
      have HR2 : Hid ((wr.setCell ⟨g6, u, none⟩ (.int .i64 i)).rowIs g6 2 3 (fun x => .int .i64 (imS L cs (i + 1) x))) := (hr6.set u (.int .i64 i)).congr (fun x _ => by
        simp only [imS, hfe, Int.toNat_natCast, hu]
        by_cases hx : x = u
        · subst hx; rw [if_pos rfl, if_pos rfl]
        · rw [if_neg hx, if_neg (by omega)])
      have HO5 : Hid (OwnL w1.heap.size (wr.setCell ⟨g6, u, none⟩ (.int .i64 i)) (some ⟨g5, 0, none⟩) 3 c5 L) := ho5.setOther (by simp [blkOf]; exact fun e => ne5 e.symm) _
      have HO7 : Hid (OwnL w1.heap.size (wr.setCell ⟨g6, u, none⟩ (.int .i64 i)) (some ⟨g7, 0, none⟩) 0 0 []) := ho7.setOther (by simp [blkOf]; exact fun e => ne7 e.symm) _
      have hb5 : Below w1.heap.size w1 (wr.setCell ⟨g6, u, none⟩ (.int .i64 i)) := hbr.setCell hg6 _
      clear hf hfe hf1 hf2 hu ho5 ho7 hr6 IW hbr
      go_wp2_with fail
      go_roundw
      case rel => exact ⟨i + 1, by omega, by go_num, HR2.out, HO5.out, HO7.out, hb5⟩
      case measure => simp [intOf]; omega
    · obtain rfl : i = 3 := by omega
      have hr6 := hr6.congr (g := fun x => .int .i64 (imgL L cs x)) (fun x _ => by rw [imS_3])
      clear ho5
      rw [show ((3 : Nat) : Int) = 3 from rfl]
      go_wp2_with fail
      go_loopw [7, 9] (fun ov ev wv => ∃ (e : Nat) (A : Option Addr) (c' : Nat), e ≤ l ∧ ev = .int .i64 e ∧ ov = .slice A e c' ∧ OwnL w1.heap.size wv A e c' (mdL L cs e) ∧ (∀ y, blkOf A = some y → y ≠ g6) ∧ wv.rowIs g6 2 3 (fun x => .int .i64 (imgL L cs x)) ∧ Below w1.heap.size w1 wv) (fun _ e _ => l - (intOf e).toNat)
      case atStart => exact ⟨0, _, _, Nat.zero_le _, rfl, rfl, ho7, (fun y hy => by simp [blkOf] at hy; omega), hr6, hbr⟩
      case round =>
        clear hr6 ho7 hbr
        obtain ⟨e, A, c', he, rfl, rfl, ho, hne, hr6, hbr⟩ := hrel
        have IW := (h2.below hbb).below hbr
        have hszr := hbr.size
        by_cases hlt2 : e < l
        · have k2 := IW.c e hlt2
          have hce := HCO.out e (by rw [hlm.out]; exact hlt2)
          obtain ⟨u, hu⟩ : ∃ u : Nat, cs e = u := ⟨(cs e).toNat, by omega⟩
          rw [hu] at k2
          have hu3 : u < 3 := by omega
          have s2 := IW.blk
          have e1 := hr6.cell hu3
          have s4 := hr6.lt
          have HS : Hid (mdL L cs (e + 1) = mdL L cs e ++ [imgL L cs u]) := by show _ = _; rw [mdL_succ, hu]
          clear hce hu IW
          go_wp2_with (first
            | (at_builtin; refine wp_appL1 rfl rfl rfl rfl rfl ho (by omega) (by omega) ?_; intro A3 c3 w5 ho3 hg5 hat5))
          have hb5 := hbr.grown hg5 hszr (fun y hy => (ho.blk y hy).1)
          have hr5 := hr6.of_block (hg5.block g6 s4 (fun e2 => by
            cases hA : blkOf A with
            | none => rw [hA] at e2; cases e2
            | some y => rw [hA] at e2; exact hne y hA (Option.some.inj e2).symm))
          have ne3 : ∀ y, blkOf A3 = some y → y ≠ g6 := fun y hy e2 => by
            rcases hat5 with h1 | ⟨g1, h1, h3⟩
            · exact hne y (by rw [← h1]; exact hy) e2
            · rw [h1] at hy; have := Option.some.inj hy; omega
          go_roundw
          case rel =>
            exact ⟨e + 1, A3, c3, by omega, by go_num, rfl, by rw [HS.out]; exact ho3, ne3, hr5, hb5⟩
          case measure => simp [intOf]; omega
        · obtain rfl : e = l := by omega
          go_wp2_with fail
          go_ret
          have HLN := mdL_len (atL es 0) cs e
          rw [HLL.out] at ho
          exact ⟨A, c', by rw [HLN] <;> rfl, by rw [HLN]; exact ho.mono (by have := hbb.size; omega), hbb.andB hbr⟩
end Go.Proofs.Ytjdhibcijjnopaa
