import Derived.Test.YtajnhkkiddeegaaGreatZc18
set_option linter.unusedVariables false
set_option linter.unusedSimpArgs false
namespace Go.Proofs.YtajnhkkiddeegaaGreat
open Go.RowKit Go.Sort
def AlikeP (m : Nat) (a b : Nat → Int) : Prop := ∀ e f, e < m → f < m → a e = a f → b e = b f
/-- The image of a colour: the place of the edge at vertex 0 that has it. -/
def imgL (L : List Int) (a : Nat → Int) (x : Int) : Int :=
  if a (ia L 2).toNat = x then 2 else if a (ia L 1).toNat = x then 1 else 0
theorem col_adj {n : Int} {es : List (Int × Int)} {cs : Nat → Int} (hn : WfP n es) (h : ColP es cs) {e f : Nat} {v : Int} (he : e < es.length) (hfe : f < e) (h1 : ea es f = v ∨ eb es f = v) (h2 : ea es e = v ∨ eb es e = v) : cs f ≠ cs e := by
  have hf := ((colP_iff hn).1 h e he).2
  rcases h2 with h2 | h2
  · exact hf 0 (by omega) f hfe (by rw [Nat.add_zero, vE_0, h2]; exact h1)
  · exact hf 1 (by omega) f hfe (by rw [vE_1, h2]; exact h1)
theorem atTo_asc {es : List (Int × Int)} {v : Int} : ∀ k i j, i < j → j < (atTo es v k).length → ia (atTo es v k) i < ia (atTo es v k) j := by
  intro k
  induction k with
  | zero => intro i j _ hj; simp [atTo] at hj
  | succ k ih =>
    intro i j hij hj
    simp only [atTo] at hj ⊢
    split at hj
    case isTrue h =>
      rw [if_pos h]
      simp only [List.length_append, List.length_cons, List.length_nil] at hj
      by_cases hjk : j < (atTo es v k).length
      · have := ih i j hij hjk
        simpa [ia, List.getElem?_append_left hjk, List.getElem?_append_left (Nat.lt_trans hij hjk)] using this
      · have hje : j = (atTo es v k).length := by omega
        subst hje
        obtain ⟨f, hf, e1, _⟩ := mem_atTo.1 (ia_mem (xs := atTo es v k) (i := i) hij)
        have e2 : ia (atTo es v k ++ [(k : Int)]) i = ia (atTo es v k) i := by simp [ia, List.getElem?_append_left hij]
        have e3 : ia (atTo es v k ++ [(k : Int)]) (atTo es v k).length = k := by simp [ia]
        rw [e2, e3, e1]; omega
    case isFalse h =>
      rw [if_neg h, List.append_nil] at *
      exact ih i j hij (by simpa using hj)
/-- The three edges at a vertex have the three colours. -/
theorem at3 {n : Int} {es : List (Int × Int)} {cs : Nat → Int} (hG : IsG n es) (h : ColP es cs) {v : Int} (h1 : 0 ≤ v) (h2 : v ≤ n - 1) :
    (∀ i, i < 3 → ∃ f : Nat, f < es.length ∧ ia (atL es v) i = f ∧ 0 ≤ cs f ∧ cs f ≤ 2) ∧
    cs (ia (atL es v) 0).toNat ≠ cs (ia (atL es v) 1).toNat ∧ cs (ia (atL es v) 0).toNat ≠ cs (ia (atL es v) 2).toNat ∧ cs (ia (atL es v) 1).toNat ≠ cs (ia (atL es v) 2).toNat := by
  have hL := atL_3 hG h1 h2
  have hm : ∀ i, i < 3 → ∃ f : Nat, f < es.length ∧ ia (atL es v) i = f ∧ (ea es f = v ∨ eb es f = v) := fun i hi => mem_atTo.1 (ia_mem (xs := atL es v) (i := i) (by omega))
  have hd : ∀ i j, i < j → j < 3 → cs (ia (atL es v) i).toNat ≠ cs (ia (atL es v) j).toNat := fun i j hij hj => by
    obtain ⟨f, hf, e1, v1⟩ := hm i (by omega)
    obtain ⟨g, hg, e2, v2⟩ := hm j hj
    have hlt : ia (atL es v) i < ia (atL es v) j := atTo_asc es.length i j hij (by have : (atTo es v es.length).length = 3 := hL; omega)
    rw [e1, e2] at hlt ⊢
    rw [Int.toNat_natCast, Int.toNat_natCast]
    exact col_adj hG.wf h hg (by omega) v1 v2
  exact ⟨fun i hi => by obtain ⟨f, hf, e1, _⟩ := hm i hi; exact ⟨f, hf, e1, (h.1 f hf).1, (h.1 f hf).2⟩, hd 0 1 (by omega) (by omega), hd 0 2 (by omega) (by omega), hd 1 2 (by omega) (by omega)⟩
theorem alike_iff {n : Int} {es : List (Int × Int)} {a b : Nat → Int} (hG : IsG n es) (ha : ColP es a) (hb : ColP es b) :
    (∀ e, e < es.length → imgL (atL es 0) a (a e) = imgL (atL es 0) b (b e)) ↔ AlikeP es.length a b := by
  have hn := hG.wf.1
  obtain ⟨m1, d1, d2, d3⟩ := at3 hG ha (v := 0) (by omega) (by omega)
  obtain ⟨m2, e1, e2, e3⟩ := at3 hG hb (v := 0) (by omega) (by omega)
  obtain ⟨f0, hf0, q0, r0⟩ := m1 0 (by omega)
  obtain ⟨f1, hf1, q1, r1⟩ := m1 1 (by omega)
  obtain ⟨f2, hf2, q2, r2⟩ := m1 2 (by omega)
  have s0 := hb.1 f0 hf0
  have s1 := hb.1 f1 hf1
  have s2 := hb.1 f2 hf2
  simp only [imgL, q0, q1, q2, Int.toNat_natCast] at *
  constructor
  · intro h e f he hf hae
    have h1 := h e he
    have h2 := h f hf
    have := ha.1 e he
    have := hb.1 e he
    have := hb.1 f hf
    rw [hae, h2] at h1
    split at h1 <;> split at h1 <;> (try split at h1) <;> (try split at h1) <;> omega
  · intro h e he
    have := ha.1 e he
    have := hb.1 e he
    have g0 := h e f0 he hf0
    have g1 := h e f1 he hf1
    have g2 := h e f2 he hf2
    split <;> split <;> (try split) <;> (try split) <;> omega
/-- What impl's names are after some edges. -/
def nmF (a b : Nat → Int) : Nat → Int → Int
  | 0, _ => -1
  | i + 1, x => if a i = x ∧ nmF a b i x = -1 then b i else nmF a b i x
theorem nmF_none {a b : Nat → Int} {i : Nat} {x : Int} (hb : ∀ f, f < i → 0 ≤ b f) : nmF a b i x = -1 ↔ ∀ f, f < i → a f ≠ x := by
  induction i with
  | zero => simp [nmF]
  | succ i ih =>
    have ih := ih (fun f hf => hb f (by omega))
    have h0 := hb i (by omega)
    simp only [nmF]
    constructor
    · intro h f hf
      split at h
      · omega
      · rename_i hn
        have h1 := ih.1 h
        by_cases e : f = i
        · subst e; exact fun e2 => hn ⟨e2, h⟩
        · exact h1 f (by omega)
    · intro h
      rw [if_neg (fun hc => h i (by omega) hc.1)]
      exact ih.2 fun f hf => h f (by omega)
theorem nmF_some {a b : Nat → Int} {i : Nat} {x : Int} (hb : ∀ f, f < i → 0 ≤ b f) (h : nmF a b i x ≠ -1) : ∃ f, f < i ∧ a f = x ∧ nmF a b i x = b f := by
  induction i with
  | zero => simp [nmF] at h
  | succ i ih =>
    simp only [nmF] at h ⊢
    split
    · rename_i hc; exact ⟨i, by omega, hc.1, rfl⟩
    · rename_i hc
      rw [if_neg hc] at h
      obtain ⟨f, hf, e⟩ := ih (fun f hf => hb f (by omega)) h
      exact ⟨f, by omega, e⟩
end Go.Proofs.YtajnhkkiddeegaaGreat
namespace Go.Proofs.YtajnhkkiddeegaaGreat
open Go.RowKit Go.Sort
end Go.Proofs.YtajnhkkiddeegaaGreat
namespace Go.Proofs.YtajnhkkiddeegaaGreat
open Go.RowKit Go.Sort
end Go.Proofs.YtajnhkkiddeegaaGreat
namespace Go.Proofs.YtajnhkkiddeegaaGreat
open Go.RowKit Go.Sort
noncomputable def sameB (m : Nat) (f g : Nat → Int) : Bool := B (∀ e, e < m → f e = g e)
set_option maxHeartbeats 800000 in
theorem l02Same_any (b1 o1 l c1 b2 o2 c2 : Nat) (f g : Nat → Int) (w : World) (h1 : Ints w b1 o1 l f) (h2 : Ints w b2 o2 l g) (hl : l ≤ 1048576) :
    Calls Tryz.prog 69 #[.slice (some ⟨b1, o1, none⟩) l c1, .slice (some ⟨b2, o2, none⟩) l c2] w (Ret (.bool (sameB l f g)) w) := by
  have KC := cell_rg
  go_enter Tryz.func69, Tryz.ntmps69
  go_wp2_with fail
  go_loopw [5] (fun i wr => ∃ j : Nat, j ≤ l ∧ i = .int .i64 j ∧ Hid (∀ e, e < j → f e = g e) ∧ Below w.heap.size w wr) (fun i _ => l - (intOf i).toNat)
  case atStart => exact ⟨0, Nat.zero_le _, rfl, (fun e he => absurd he (by omega)), Below.refl _ _⟩
  case round =>
    obtain ⟨j, hj, rfl, HP, hbr⟩ := hrel
    by_cases hlt : j < l
    · have k1 := (h1.below hbr).c j hlt
      have k2 := (h2.below hbr).c j hlt
      have s1 := (h1.below hbr).blk
      have s2 := (h2.below hbr).blk
      by_cases hfg : f j = g j
      · have hne : (f j != g j) = false := by simp [hfg]
        have HP2 : Hid (∀ e, e < j + 1 → f e = g e) := fun e he => by
          by_cases x : e = j
          · subst x; exact hfg
          · exact HP.out e (by omega)
        clear hfg
        go_wp2_with fail
        (refine wp_region_quiet_below (by kernel_rfl) (by kernel_rfl) ?_
         repeat (any_goals (go_big_quiet_step (first | fail)))
         all_goals (refine wpQuiet_nil ?_; intro wq1 hq1; replace hq1 := below_of_rg hq1))
        go_wp2_with fail
        go_roundw
        case rel => exact ⟨j + 1, by omega, by go_num, HP2, hbr.andB hq1⟩
        case measure => simp [intOf]; omega
      · have hne : (f j != g j) = true := by simp [hfg]
        have HV : Hid (sameB l f g = false) := B_false fun x => hfg (x j hlt)
        clear hfg
        go_wp2_with fail
        (refine wp_region_quiet_below (by kernel_rfl) (by kernel_rfl) ?_
         repeat (any_goals (go_big_quiet_step (first | fail)))
         all_goals (refine wpQuiet_nil ?_; intro wq1 hq1; replace hq1 := below_of_rg hq1))
        go_wp2_with fail
        go_ret
        exact ⟨ret_bool HV.out.symm, hbr.andB hq1⟩
    · obtain rfl : j = l := by omega
      have HV : Hid (sameB j f g = true) := B_true HP.out
      go_wp2_with fail
      go_ret
      exact ⟨ret_bool HV.out.symm, hbr⟩
/-- What the images are after some places. -/
def imS (L : List Int) (a : Nat → Int) : Nat → Int → Int
  | 0, _ => 0
  | i + 1, x => if a (ia L i).toNat = x then (i : Int) else imS L a i x
theorem imS_3 (L : List Int) (a : Nat → Int) (x : Int) : imS L a 3 x = imgL L a x := by
  simp only [imS, imgL]
  split
  · rfl
  · split
    · rfl
    · split <;> rfl
def mdL (L : List Int) (a : Nat → Int) (m : Nat) : List Int := (List.range m).map fun e : Nat => imgL L a (a e)
theorem mdL_len (L : List Int) (a : Nat → Int) (m : Nat) : (mdL L a m).length = m := by simp [mdL]
theorem mdL_succ (L : List Int) (a : Nat → Int) (m : Nat) : mdL L a (m + 1) = mdL L a m ++ [imgL L a (a m)] := by simp [mdL, List.range_succ]
theorem mdL_at (L : List Int) (a : Nat → Int) {m e : Nat} (h : e < m) : ia (mdL L a m) e = imgL L a (a e) := by simp [ia, mdL, h]
theorem row0 (w : World) : (w.alloc (.cells #[] 2)).rowIs w.heap.size 2 0 (fun j => .int .i64 ((fun _ : Nat => (0 : Int)) j)) := World.rowIs_alloc w #[] 2 _ (fun i hi => absurd hi (by simp))
theorem OwnL.ofRow0 {base : Nat} {w : World} {g : Nat} {f : Nat → Value} (h : w.rowIs g 2 0 f) (hb : base ≤ g) : OwnL base w (some ⟨g, 0, none⟩) 0 0 [] := by
  obtain ⟨c, hc, hs, _⟩ := h
  obtain rfl : c = #[] := Array.eq_empty_of_size_eq_zero hs
  exact OwnL.empty base w g hb hc
theorem rows_ne {w : World} {g g' : Nat} {f f' : Nat → Value} (h : w.rowIs g 2 0 f) (h' : w.rowIs g' 2 3 f') : g ≠ g' := fun e => by
  subst e
  obtain ⟨c, hc, hs, _⟩ := h
  obtain ⟨d, hd, hs', _⟩ := h'
  rw [hc] at hd
  cases hd
  omega
set_option maxRecDepth 100000 in
set_option maxHeartbeats 4000000 in
theorem l02Made_any (n : Int) (b o l c b2 o2 c2 : Nat) (es : List (Int × Int)) (cs : Nat → Int) (w : World) (h : Eds w b o l es) (hm : l ≤ 1048576) (hG : IsG n es) (h2 : Ints w b2 o2 l cs) (hc : ColP es cs) :
    Calls Tryz.prog 70 #[.agg #[.int .i64 n, .slice (some ⟨b, o, none⟩) l c], .slice (some ⟨b2, o2, none⟩) l c2] w (RetL (mdL (atL es 0) cs l) w) := by
  have KC := cell_rg
  have hbox := Box2.made w (.int .i64 n) (.slice (some ⟨b, o, none⟩) l c) 26
  have hbb := (by go_grown : Below w.heap.size w (w.alloc (.cells #[.int .i64 n, .slice (some ⟨b, o, none⟩) l c] 26)))
  have hlm := Lib.hid h.len
  have hn2 := hG.wf.1
  have HL3 : Hid ((atL es 0).length = 3) := atL_3 hG (by omega) (by omega)
  have HM := Lib.hid (at3 hG hc (v := 0) (by omega) (by omega)).1
  have HAS : Hid (0 ≤ ia (atL es 0) 0 ∧ ia (atL es 0) 0 < ia (atL es 0) 1) := by
    obtain ⟨f, hf, e, _⟩ := HM.out 0 (by omega)
    exact ⟨by omega, atTo_asc es.length 0 1 (by omega) (by have : (atTo es 0 es.length).length = 3 := HL3.out; omega)⟩
  have HCO := Lib.hid hc.1
  have HAT := Lib.hid (fun W (E : Eds W b o l es) => l01At_any n b o l c es 0 W E hm)
  have hmk3 := run_make_row' (P := Tryz.prog) 34 2 (.int .i64 0) 8 Tryz.underlying34 inf2 rfl .i64 .i64 3 (by omega) (by omega)
  rw [show ((3 : Nat) : Int) = 3 from rfl] at hmk3
  obtain ⟨w1, hw1⟩ : ∃ w1, w1 = w.alloc (.cells #[.int .i64 n, .slice (some ⟨b, o, none⟩) l c] 26) := ⟨_, rfl⟩
  rw [← hw1] at hbox hbb
  have E := h.below hbb
  have I := h2.below hbb
  obtain ⟨s1, p1, q1⟩ := hbox
  clear hG hc
  go_enter Tryz.func70, Tryz.ntmps70
  go_wp2_with fail
  rw [← hw1]
  clear hw1
  refine wp_region_facts (fun i v W => match i with
    | 0 => v = .agg #[.int .i64 n, .slice (some ⟨b, o, none⟩) l c]
    | 1 => NewL w1.heap.size (atL es 0) v W
    | 2 => NewI w1.heap.size (3) (fun _ => 0) v W
    | 3 => NewI w1.heap.size (0) (fun _ => 0) v W
    | 4 => NewL w1.heap.size (atL es 0) v W
    | 5 => NewI w1.heap.size (3) (fun _ => 0) v W
    | _ => NewI w1.heap.size (0) (fun _ => 0) v W) (by kernel_rfl) (by kernel_rfl) ?_ ?_ ?_
  · intro i v W W' hf hb
    match i, hf with
    | 0, hf => exact hf
    | 1, hf => exact NewL.below hf hb
    | 2, hf => exact NewI.below hf hb
    | 3, hf => exact NewI.below hf hb
    | 4, hf => exact NewL.below hf hb
    | 5, hf => exact NewI.below hf hb
    | (i + 6), hf => exact NewI.below hf hb
  · refine ⟨?_, ?_, ?_, ?_, ?_, ?_, ?_, trivial⟩
    · intro a W hW hs hd
      have e2 : a.tmps[2]?.getD undef = .pointer (some ⟨w.heap.size, 0, none⟩) := hs 2 (by kernel_rfl)
      have k0 := (hW.cell (p := ⟨w.heap.size, 0, none⟩) (s1)).trans (p1)
      have k1 := (hW.cell (p := ⟨w.heap.size, 1, none⟩) (s1)).trans (q1)
      clear hs hd
      unfold Grows
      go_simp
      exact Below.refl _ _
    · intro a W hW hs hd
      have e10 : (a.tmps[10]?.getD undef) = .agg #[.int .i64 n, .slice (some ⟨b, o, none⟩) l c] := hd 0 10 (by kernel_rfl) (by kernel_rfl)
      clear hs hd
      unfold Grows
      go_simp
      refine ⟨Below.refl _ _, (HAT.out W (E.below hW)).mono ?_⟩
      rintro e w6 ⟨A6, c6, rfl, ho6, hb6⟩
      exact ⟨_, rfl, hb6, A6, c6, rfl, ho6.mono (hW.size)⟩
    · intro a W hW hs hd
      clear hs hd
      unfold Grows
      go_simp
      exact ⟨(Below.refl _ _).alloc (Nat.le_refl _) _, _, rfl, hW.size, World.rowIs_made W (.int .i64 0) 3 2⟩
    · intro a W hW hs hd
      clear hs hd
      unfold Grows
      go_simp
      exact ⟨(Below.refl _ _).alloc (Nat.le_refl _) _, _, rfl, hW.size, row0 W⟩
    · intro a W hW hs hd
      have e11 : NewL w1.heap.size (atL es 0) (a.tmps[11]?.getD undef) W := hd 1 11 (by kernel_rfl) (by kernel_rfl)
      obtain ⟨A11, c11, e11, O11⟩ := e11
      clear hs hd
      unfold Grows
      go_simp
      exact ⟨Below.refl _ _, A11, c11, rfl, O11⟩
    · intro a W hW hs hd
      have e12 : NewI w1.heap.size (3) (fun _ => 0) (a.tmps[12]?.getD undef) W := hd 2 12 (by kernel_rfl) (by kernel_rfl)
      obtain ⟨g12, e12, hg12, R12⟩ := e12
      clear hs hd
      unfold Grows
      go_simp
      exact ⟨Below.refl _ _, g12, rfl, hg12, R12⟩
    · intro a W hW hs hd
      have e13 : NewI w1.heap.size (0) (fun _ => 0) (a.tmps[13]?.getD undef) W := hd 3 13 (by kernel_rfl) (by kernel_rfl)
      obtain ⟨g13, e13, hg13, R13⟩ := e13
      clear hs hd
      unfold Grows
      go_simp
      exact ⟨Below.refl _ _, g13, rfl, hg13, R13⟩
  intro vs W hW hf
  have f5 : NewL w1.heap.size (atL es 0) (vs 5) W := hf 4 5 (by kernel_rfl)
  obtain ⟨A5, c5, f5, O5⟩ := f5
  have f6 : NewI w1.heap.size (3) (fun _ => 0) (vs 6) W := hf 5 6 (by kernel_rfl)
  obtain ⟨g6, f6, hg6, R6⟩ := f6
  have f7 : NewI w1.heap.size (0) (fun _ => 0) (vs 7) W := hf 6 7 (by kernel_rfl)
  obtain ⟨g7, f7, hg7, R7⟩ := f7
  simp only [dsts, List.filterMap_cons, List.filterMap_nil, List.foldl_cons, List.foldl_nil, Act.put, List.setIfInBounds_toArray, List.set_cons_succ, List.set_cons_zero, f5, f6, f7]
  clear hf
  have hb1 := hbb.andB hW
  have EW := E.below hW
  have IW := I.below hW
  have O7 := OwnL.ofRow0 R7 hg7
  have ne7 := rows_ne R7 R6
  obtain ⟨L, hLL⟩ : ∃ L, L = atL es 0 := ⟨_, rfl⟩
  rw [← hLL] at HL3 HM HAS O5 ⊢
  rw [HL3.out] at O5 ⊢
  obtain ⟨g5, rfl, hg5, hg5'⟩ : ∃ g, A5 = some ⟨g, 0, none⟩ ∧ w1.heap.size ≤ g ∧ g < W.heap.size := by
    rcases O5.cases with ⟨_, h0, _⟩ | h0
    · omega
    · exact h0
  have ne5 : g5 ≠ g6 := fun e => by
    subst e
    have k1 := O5.cell (j := 1) (by omega)
    have k2 := R6.cell (i := 1) (by omega)
    rw [k1] at k2
    have := HAS.out
    simp at k2
    omega
  have hsz := hW.size
  have HLL := Lib.hid hLL
  clear hLL R7 E I HAT hmk3
  have HL4 : Hid (L.length = 3) := HL3.out
  go_wp2_with fail
  go_loopw [8] (fun iv wr => ∃ i : Nat, i ≤ 3 ∧ iv = .int .i64 i ∧ wr.rowIs g6 2 3 (fun x => .int .i64 (imS L cs i x)) ∧ OwnL w1.heap.size wr (some ⟨g5, 0, none⟩) 3 c5 L ∧ OwnL w1.heap.size wr (some ⟨g7, 0, none⟩) 0 0 [] ∧ Below w1.heap.size w1 wr) (fun i _ => 3 - (intOf i).toNat)
  case atStart => exact ⟨0, Nat.zero_le _, rfl, R6.congr (fun x _ => rfl), O5, O7, hW⟩
  case round =>
    clear R6 O5 O7 EW IW
    obtain ⟨i, hi, rfl, hr6, ho5, ho7, hbr⟩ := hrel
    by_cases hlt : i < 3
    · obtain ⟨f, hf, hfe, hf1, hf2⟩ := HM.out i hlt
      have hf' : f < l := by rw [← hlm.out]; exact hf
      have k1 := ho5.cell hlt
      rw [hfe] at k1
      have IW := (h2.below hbb).below hbr
      have k2 := IW.c f hf'
      obtain ⟨u, hu⟩ : ∃ u : Nat, cs f = u := ⟨(cs f).toNat, by omega⟩
      rw [hu] at k2
      have hu3 : u < 3 := by omega
      have s2 := IW.blk
      have s3 := (ho5.blk g5 rfl).2
      have e1 := hr6.cell hu3
      have f1 := hr6.frozen u
      have s4 := hr6.lt
      have HR2 : Hid ((wr.setCell ⟨g6, u, none⟩ (.int .i64 i)).rowIs g6 2 3 (fun x => .int .i64 (imS L cs (i + 1) x))) := (hr6.set u (.int .i64 i)).congr (fun x _ => by
        simp only [imS, hfe, Int.toNat_natCast, hu]
        by_cases hx : x = u
        · subst hx; rw [if_pos rfl, if_pos rfl]
        · rw [if_neg hx, if_neg (by omega)])
      have HO5 : Hid (OwnL w1.heap.size (wr.setCell ⟨g6, u, none⟩ (.int .i64 i)) (some ⟨g5, 0, none⟩) 3 c5 L) := ho5.setOther (by simp [blkOf]; exact fun e => ne5 e.symm) _
      have HO7 : Hid (OwnL w1.heap.size (wr.setCell ⟨g6, u, none⟩ (.int .i64 i)) (some ⟨g7, 0, none⟩) 0 0 []) := ho7.setOther (by simp [blkOf]; exact fun e => ne7 e.symm) _
      have hb5 : Below w1.heap.size w1 (wr.setCell ⟨g6, u, none⟩ (.int .i64 i)) := hbr.setCell hg6 _
      clear hf hfe hf1 hf2 hu ho5 ho7 hr6 IW hbr
      go_wp2_with fail
      go_roundw
      case rel => exact ⟨i + 1, by omega, by go_num, HR2.out, HO5.out, HO7.out, hb5⟩
      case measure => simp [intOf]; omega
    · obtain rfl : i = 3 := by omega
      have hr6 := hr6.congr (g := fun x => .int .i64 (imgL L cs x)) (fun x _ => by rw [imS_3])
      clear ho5
      rw [show ((3 : Nat) : Int) = 3 from rfl]
      go_wp2_with fail
      go_loopw [7, 9] (fun ov ev wv => ∃ (e : Nat) (A : Option Addr) (c' : Nat), e ≤ l ∧ ev = .int .i64 e ∧ ov = .slice A e c' ∧ OwnL w1.heap.size wv A e c' (mdL L cs e) ∧ (∀ y, blkOf A = some y → y ≠ g6) ∧ wv.rowIs g6 2 3 (fun x => .int .i64 (imgL L cs x)) ∧ Below w1.heap.size w1 wv) (fun _ e _ => l - (intOf e).toNat)
      case atStart => exact ⟨0, _, _, Nat.zero_le _, rfl, rfl, ho7, (fun y hy => by simp [blkOf] at hy; omega), hr6, hbr⟩
      case round =>
        clear hr6 ho7 hbr
        obtain ⟨e, A, c', he, rfl, rfl, ho, hne, hr6, hbr⟩ := hrel
        have IW := (h2.below hbb).below hbr
        have hszr := hbr.size
        by_cases hlt2 : e < l
        · have k2 := IW.c e hlt2
          have hce := HCO.out e (by rw [hlm.out]; exact hlt2)
          obtain ⟨u, hu⟩ : ∃ u : Nat, cs e = u := ⟨(cs e).toNat, by omega⟩
          rw [hu] at k2
          have hu3 : u < 3 := by omega
          have s2 := IW.blk
          have e1 := hr6.cell hu3
          have s4 := hr6.lt
          have HS : Hid (mdL L cs (e + 1) = mdL L cs e ++ [imgL L cs u]) := by show _ = _; rw [mdL_succ, hu]
          clear hce hu IW
          go_wp2_with (first
            | (at_builtin; refine wp_appL1 rfl rfl rfl rfl rfl ho (by omega) (by omega) ?_; intro A3 c3 w5 ho3 hg5 hat5))
          have hb5 := hbr.grown hg5 hszr (fun y hy => (ho.blk y hy).1)
          have hr5 := hr6.of_block (hg5.block g6 s4 (fun e2 => by
            cases hA : blkOf A with
            | none => rw [hA] at e2; cases e2
            | some y => rw [hA] at e2; exact hne y hA (Option.some.inj e2).symm))
          have ne3 : ∀ y, blkOf A3 = some y → y ≠ g6 := fun y hy e2 => by
            rcases hat5 with h1 | ⟨g1, h1, h3⟩
            · exact hne y (by rw [← h1]; exact hy) e2
            · rw [h1] at hy; have := Option.some.inj hy; omega
          go_roundw
          case rel =>
            exact ⟨e + 1, A3, c3, by omega, by go_num, rfl, by rw [HS.out]; exact ho3, ne3, hr5, hb5⟩
          case measure => simp [intOf]; omega
        · obtain rfl : e = l := by omega
          go_wp2_with fail
          go_ret
          have HLN := mdL_len (atL es 0) cs e
          rw [HLL.out] at ho
          exact ⟨A, c', by rw [HLN] <;> rfl, by rw [HLN]; exact ho.mono (by have := hbb.size; omega), hbb.andB hbr⟩
end Go.Proofs.YtajnhkkiddeegaaGreat
namespace Go.Proofs.YtajnhkkiddeegaaGreat
open Go.RowKit Go.Sort
noncomputable def aaC (n : Int) (es : List (Int × Int)) (a : Nat → Int) (la : Nat) (g : Nat → Int) (lb : Nat) : Int := gcC n es (colB es a la && colB es g lb)
noncomputable def aaV (n : Int) (es : List (Int × Int)) (a : Nat → Int) (la : Nat) (g : Nat → Int) (lb : Nat) : Bool := decide (aaC n es a la g lb = 0) && B (AlikeP es.length a g)
theorem aa_0 {n : Int} {es : List (Int × Int)} {a g : Nat → Int} {la lb : Nat} (h : aaC n es a la g lb = 0) : IsG n es ∧ (la = es.length ∧ ColP es a) ∧ (lb = es.length ∧ ColP es g) ∧ aaV n es a la g lb = B (AlikeP es.length a g) := by
  have hv : aaV n es a la g lb = B (AlikeP es.length a g) := by simp [aaV, h]
  unfold aaC gcC at h
  by_cases h1 : IsG n es
  · rw [B_true h1] at h
    cases h2 : colB es a la with
    | false => rw [h2] at h; simp at h
    | true =>
      cases h3 : colB es g lb with
      | false => rw [h2, h3] at h; simp at h
      | true => exact ⟨h1, B_iff.1 h2, B_iff.1 h3, hv⟩
  · rw [B_false h1] at h; simp at h
theorem aa_n {n : Int} {es : List (Int × Int)} {a g : Nat → Int} {la lb : Nat} (h : aaC n es a la g lb ≠ 0) : aaV n es a la g lb = false := by simp [aaV, h]
theorem cell_two (w : World) (v0 v1 : Value) (t : TypeId) : (w.alloc (.cells #[v0, v1] t)).cell? ⟨w.heap.size, 0, none⟩ = some v0 ∧ (w.alloc (.cells #[v0, v1] t)).cell? ⟨w.heap.size, 1, none⟩ = some v1 := by
  constructor
  · rw [cell_of_row _ w.heap.size 0 _ _ _ (heap_alloc_new w _)]; rfl
  · rw [cell_of_row _ w.heap.size 1 _ _ _ (heap_alloc_new w _)]; rfl
set_option maxRecDepth 100000 in
set_option maxHeartbeats 2000000 in
theorem spAreAlike_any (n : Int) (b o m c : Nat) (es : List (Int × Int)) (b2 o2 la c2 : Nat) (f : Nat → Int) (b3 o3 lb c3 : Nat) (g : Nat → Int) (w : World) (h : Eds w b o m es) (hm : m ≤ 1048576) (h2 : Ints w b2 o2 la f) (hla : la ≤ 1048576) (h3 : Ints w b3 o3 lb g) (hlb : lb ≤ 1048576) :
    Calls Tryz.prog 21 #[.agg #[.int .i64 n, .slice (some ⟨b, o, none⟩) m c], .slice (some ⟨b2, o2, none⟩) la c2, .slice (some ⟨b3, o3, none⟩) lb c3] w (Ret (.tuple #[.bool (aaV n es f la g lb), .int .i64 (aaC n es f la g lb)]) w) := by
  have KC := cell_rg
  have hbb := (by go_grown : Below w.heap.size w (w.alloc (.cells #[.int .i64 n, .slice (some ⟨b, o, none⟩) m c] 26)))
  have hbx := Box2.made w (.int .i64 n) (.slice (some ⟨b, o, none⟩) m c) 26
  have hlm := Lib.hid h.len
  obtain ⟨w1, hw1⟩ : ∃ w1, w1 = w.alloc (.cells #[.int .i64 n, .slice (some ⟨b, o, none⟩) m c] 26) := ⟨_, rfl⟩
  have hs1 : w1.heap.size = w.heap.size + 1 := by rw [hw1]; simp [go_sem]
  rw [← hw1] at hbb hbx
  obtain ⟨wl, hwl⟩ : ∃ wl, wl = w1.alloc (.cells #[.slice (some ⟨b2, o2, none⟩) la c2, .slice (some ⟨b3, o3, none⟩) lb c3] 34) := ⟨_, rfl⟩
  have hc2 := cell_two w1 (.slice (some ⟨b2, o2, none⟩) la c2) (.slice (some ⟨b3, o3, none⟩) lb c3) 34
  have hbl : Below w1.heap.size w1 wl := by rw [hwl]; exact (Below.refl _ _).alloc (Nat.le_refl _) _
  rw [← hwl] at hc2
  have hB0 := hbb.andB hbl
  have HLK := Lib.hid (l02Code_any n b o m c es wl (h.below hB0) hm w1.heap.size 2 2 (fun j => if j = 0 then b2 else b3) (fun j => if j = 0 then o2 else o3) (fun j => if j = 0 then la else lb) (fun j => if j = 0 then c2 else c3) (fun j => if j = 0 then f else g) (by rw [hwl]; simp [go_sem]) (by omega)
    (fun j hj => by
      rcases (show j = 0 ∨ j = 1 by omega) with rfl | rfl
      · exact hc2.1
      · exact hc2.2)
    (fun j hj => by
      rcases (show j = 0 ∨ j = 1 by omega) with rfl | rfl
      · exact ⟨h2.below hB0, hla⟩
      · exact ⟨h3.below hB0, hlb⟩))
  rw [lkC_2, hs1] at HLK
  have hB0x := hbx.below hbl
  rw [show gcC n es (colB es f la && colB es g lb) = aaC n es f la g lb from rfl] at HLK
  rcases (show aaC n es f la g lb = 0 ∨ aaC n es f la g lb ≠ 0 from Classical.em _) with h0 | h0
  rotate_left
  · have HV := Lib.hid (aa_n h0)
    rw [HV.out]
    obtain ⟨K, hK⟩ : ∃ K, aaC n es f la g lb = K := ⟨_, rfl⟩
    rw [hK] at HLK h0 ⊢
    have hkb : (K != 0) = true := by simpa using h0
    clear hK h0 hc2
    go_enter Tryz.func21, Tryz.ntmps21
    go_wp2_with fail
    rw [← hw1, ← hwl]
    refine HLK.out.mono ?_
    rintro e w2 ⟨rfl, hb2⟩
    go_wp2_with fail
    go_ret2
    exact ⟨rfl, hB0.andB hb2⟩
  obtain ⟨hG, ⟨hle, hca⟩, ⟨hle2, hcb⟩, hv⟩ := aa_0 h0
  obtain rfl : la = m := by rw [hle, hlm.out]
  obtain rfl : lb = la := by rw [hle2, hlm.out]
  obtain ⟨l, rfl⟩ : ∃ l, l = lb := ⟨lb, rfl⟩
  have hl0 : 0 < l := by
    obtain ⟨f0, hf0, _⟩ := (at3 hG hca (v := 0) (by omega) (by have := hG.wf.1; omega)).1 0 (by omega)
    rw [hlm.out] at hf0; omega
  obtain ⟨r, hr⟩ : ∃ r, r = B (AlikeP es.length f g) := ⟨_, rfl⟩
  obtain ⟨mdA, hA⟩ : ∃ mdA, mdA = mdL (atL es 0) f l := ⟨_, rfl⟩
  obtain ⟨mdB, hB⟩ : ∃ mdB, mdB = mdL (atL es 0) g l := ⟨_, rfl⟩
  have hAl : mdA.length = l := by rw [hA, mdL_len]
  have hBl : mdB.length = l := by rw [hB, mdL_len]
  have HMA := Lib.hid (fun W (E : Eds W b o l es) (I : Ints W b2 o2 l f) => hA ▸ l02Made_any n b o l c b2 o2 c2 es f W E hm hG I hca)
  have HMB := Lib.hid (fun W (E : Eds W b o l es) (I : Ints W b3 o3 l g) => hB ▸ l02Made_any n b o l c b3 o3 c3 es g W E hm hG I hcb)
  have hrs : sameB l (ia mdA) (ia mdB) = r := by
    rw [hr]
    refine B_congr ?_
    rw [← alike_iff hG hca hcb, hlm.out]
    constructor
    · intro x e he
      have := x e he
      rw [hA, hB, mdL_at _ _ he, mdL_at _ _ he] at this
      exact this
    · intro x e he
      rw [hA, hB, mdL_at _ _ he, mdL_at _ _ he]
      exact x e he
  have HSA : Hid (∀ W base A ca A' cb, OwnL base W A mdA.length ca mdA → OwnL base W A' mdB.length cb mdB → Calls Tryz.prog 69 #[.slice A mdA.length ca, .slice A' mdB.length cb] W (Ret (.bool r) W)) := fun W base A ca A' cb O1 O2 => by
    obtain ⟨g1, o1, rfl, I1⟩ := O1.src (by omega)
    obtain ⟨g2, o2, rfl, I2⟩ := O2.src (by omega)
    rw [hAl] at I1 ⊢
    rw [hBl] at I2 ⊢
    rw [← hrs]
    exact l02Same_any g1 o1 l ca g2 o2 cb (ia mdA) (ia mdB) W I1 I2 hm
  rw [hv, ← hr, h0]
  rw [h0] at HLK
  clear hrs hA hB hAl hBl hr hv h0 hle hle2 hca hcb hG hc2
  go_enter Tryz.func21, Tryz.ntmps21
  go_wp2_with fail
  rw [← hw1, ← hwl]
  refine HLK.out.mono ?_
  rintro e w2 ⟨rfl, hb2⟩
  have hB2 := hB0.andB hb2
  obtain ⟨s1, p1, q1⟩ := hB0x.below hb2
  have E := h.below hB2
  have I2 := h2.below hB2
  have I3 := h3.below hB2
  clear hb2 hB0 hB0x hbl hbb hbx hw1 hwl HLK hs1
  go_wp2_with fail
  refine wp_region_facts (fun i v W => match i with
    | 0 => v = .agg #[.int .i64 n, .slice (some ⟨b, o, none⟩) l c]
    | 1 => v = .slice (some ⟨b2, o2, none⟩) l c2
    | 2 => NewL w2.heap.size (mdA) v W
    | 3 => v = .agg #[.int .i64 n, .slice (some ⟨b, o, none⟩) l c]
    | 4 => v = .slice (some ⟨b3, o3, none⟩) l c3
    | 5 => NewL w2.heap.size (mdB) v W
    | 6 => v = .bool r
    | 7 => v = .bool r
    | _ => v = .int .i64 0) (by kernel_rfl) (by kernel_rfl) ?_ ?_ ?_
  · intro i v W W' hf hb
    match i, hf with
    | 0, hf => exact hf
    | 1, hf => exact hf
    | 2, hf => exact NewL.below hf hb
    | 3, hf => exact hf
    | 4, hf => exact hf
    | 5, hf => exact NewL.below hf hb
    | 6, hf => exact hf
    | 7, hf => exact hf
    | (i + 8), hf => exact hf
  · refine ⟨?_, ?_, ?_, ?_, ?_, ?_, ?_, ?_, ?_, trivial⟩
    · intro a W hW hs hd
      have e3 : a.tmps[3]?.getD undef = .pointer (some ⟨w.heap.size, 0, none⟩) := hs 3 (by kernel_rfl)
      have k0 := (hW.cell (p := ⟨w.heap.size, 0, none⟩) (s1)).trans (p1)
      have k1 := (hW.cell (p := ⟨w.heap.size, 1, none⟩) (s1)).trans (q1)
      clear hs hd
      unfold Grows
      go_simp
      exact Below.refl _ _
    · intro a W hW hs hd
      have e1 : a.tmps[1]?.getD undef = .slice (some ⟨b2, o2, none⟩) l c2 := hs 1 (by kernel_rfl)
      clear hs hd
      unfold Grows
      go_simp
      exact Below.refl _ _
    · intro a W hW hs hd
      have e17 : (a.tmps[17]?.getD undef) = .agg #[.int .i64 n, .slice (some ⟨b, o, none⟩) l c] := hd 0 17 (by kernel_rfl) (by kernel_rfl)
      have e18 : (a.tmps[18]?.getD undef) = .slice (some ⟨b2, o2, none⟩) l c2 := hd 1 18 (by kernel_rfl) (by kernel_rfl)
      clear hs hd
      unfold Grows
      go_simp
      refine ⟨Below.refl _ _, (HMA.out W (E.below hW) (I2.below hW)).mono ?_⟩
      rintro e w6 ⟨A6, c6, rfl, ho6, hb6⟩
      exact ⟨_, rfl, hb6, A6, c6, rfl, ho6.mono (hW.size)⟩
    · intro a W hW hs hd
      have e3 : a.tmps[3]?.getD undef = .pointer (some ⟨w.heap.size, 0, none⟩) := hs 3 (by kernel_rfl)
      have k0 := (hW.cell (p := ⟨w.heap.size, 0, none⟩) (s1)).trans (p1)
      have k1 := (hW.cell (p := ⟨w.heap.size, 1, none⟩) (s1)).trans (q1)
      clear hs hd
      unfold Grows
      go_simp
      exact Below.refl _ _
    · intro a W hW hs hd
      have e2 : a.tmps[2]?.getD undef = .slice (some ⟨b3, o3, none⟩) l c3 := hs 2 (by kernel_rfl)
      clear hs hd
      unfold Grows
      go_simp
      exact Below.refl _ _
    · intro a W hW hs hd
      have e20 : (a.tmps[20]?.getD undef) = .agg #[.int .i64 n, .slice (some ⟨b, o, none⟩) l c] := hd 3 20 (by kernel_rfl) (by kernel_rfl)
      have e21 : (a.tmps[21]?.getD undef) = .slice (some ⟨b3, o3, none⟩) l c3 := hd 4 21 (by kernel_rfl) (by kernel_rfl)
      clear hs hd
      unfold Grows
      go_simp
      refine ⟨Below.refl _ _, (HMB.out W (E.below hW) (I3.below hW)).mono ?_⟩
      rintro e w6 ⟨A6, c6, rfl, ho6, hb6⟩
      exact ⟨_, rfl, hb6, A6, c6, rfl, ho6.mono (hW.size)⟩
    · intro a W hW hs hd
      have e19 : NewL w2.heap.size (mdA) (a.tmps[19]?.getD undef) W := hd 2 19 (by kernel_rfl) (by kernel_rfl)
      obtain ⟨A19, c19, e19, O19⟩ := e19
      have e22 : NewL w2.heap.size (mdB) (a.tmps[22]?.getD undef) W := hd 5 22 (by kernel_rfl) (by kernel_rfl)
      obtain ⟨A22, c22, e22, O22⟩ := e22
      clear hs hd
      unfold Grows
      go_simp
      refine ⟨Below.refl _ _, (HSA.out _ _ _ _ _ _ O19 O22).mono ?_⟩
      rintro e w6 ⟨rfl, hb6⟩
      exact ⟨_, rfl, hb6, rfl⟩
    · intro a W hW hs hd
      have e23 : (a.tmps[23]?.getD undef) = .bool r := hd 6 23 (by kernel_rfl) (by kernel_rfl)
      clear hs hd
      unfold Grows
      go_simp
      exact Below.refl _ _
    · intro a W hW hs hd
      clear hs hd
      unfold Grows
      go_simp
      exact Below.refl _ _
  intro vs W hW hf
  have f6 : vs 6 = .bool r := hf 7 6 (by kernel_rfl)
  have f7 : vs 7 = .int .i64 0 := hf 8 7 (by kernel_rfl)
  simp only [dsts, List.filterMap_cons, List.filterMap_nil, List.foldl_cons, List.foldl_nil, Act.put, List.setIfInBounds_toArray, List.set_cons_succ, List.set_cons_zero, f6, f7]
  clear hf
  clear s1 p1 q1 E I2 I3
  go_wp2_with fail
  go_ret2
  exact ⟨rfl, hB2.andB hW⟩
end Go.Proofs.YtajnhkkiddeegaaGreat
namespace Go.Proofs.YtajnhkkiddeegaaGreat
open Go.RowKit Go.Sort
theorem aa_no {n : Int} {es : List (Int × Int)} {a g : Nat → Int} {la lb : Nat} (h : (B (IsG n es) && colB es a la) = false) : gcC n es false = aaC n es a la g lb := by
  unfold aaC gcC
  cases hG : B (IsG n es) with
  | false => rfl
  | true => rw [hG, Bool.true_and] at h; rw [h]; rfl
theorem aa_yes {n : Int} {es : List (Int × Int)} {a g : Nat → Int} {la lb : Nat} (h : (B (IsG n es) && colB es a la) = true) : gcC n es (B (IsG n es) && colB es g lb) = aaC n es a la g lb := by
  obtain ⟨h1, h2⟩ := Bool.and_eq_true_iff.1 h
  unfold aaC
  rw [h1, h2]
theorem nm_step {a b : Nat → Int} {i : Nat} {x : Int} (h : a i = x) (h2 : nmF a b i x = -1) : nmF a b (i + 1) x = b i := by
  simp only [nmF]; rw [if_pos ⟨h, h2⟩]
theorem nm_keep {a b : Nat → Int} {i : Nat} {x : Int} (h : ¬ (a i = x ∧ nmF a b i x = -1)) : nmF a b (i + 1) x = nmF a b i x := by
  simp only [nmF]; rw [if_neg h]
theorem alike_succ {a b : Nat → Int} {i : Nat} (h : AlikeP i a b) (h2 : ∀ f, f < i → a f = a i → b f = b i) : AlikeP (i + 1) a b := fun e f he hf hab => by
  by_cases e1 : e = i
  · by_cases e2 : f = i
    · rw [e1, e2]
    · rw [e1] at hab ⊢; exact (h2 f (by omega) hab.symm).symm
  · by_cases e2 : f = i
    · rw [e2] at hab ⊢; exact h2 e (by omega) hab
    · exact h e f (by omega) (by omega) hab
set_option maxRecDepth 100000 in
set_option maxHeartbeats 4000000 in
theorem imAreAlike_any (n : Int) (b o m c : Nat) (es : List (Int × Int)) (b2 o2 la c2 : Nat) (f : Nat → Int) (b3 o3 lb c3 : Nat) (g : Nat → Int) (w : World) (h : Eds w b o m es) (hm : m ≤ 1048576) (h2 : Ints w b2 o2 la f) (hla : la ≤ 1048576) (h3 : Ints w b3 o3 lb g) (hlb : lb ≤ 1048576) :
    Calls Tryz.prog 20 #[.agg #[.int .i64 n, .slice (some ⟨b, o, none⟩) m c], .slice (some ⟨b2, o2, none⟩) la c2, .slice (some ⟨b3, o3, none⟩) lb c3] w (Ret (.tuple #[.bool (aaV n es f la g lb), .int .i64 (aaC n es f la g lb)]) w) := by
  have KC := cell_rg
  have hbb := (by go_grown : Below w.heap.size w (w.alloc (.cells #[.int .i64 n, .slice (some ⟨b, o, none⟩) m c] 26)))
  have hbx := Box2.made w (.int .i64 n) (.slice (some ⟨b, o, none⟩) m c) 26
  have hlm := Lib.hid h.len
  have hIA : ∀ d os, Calls Tryz.prog 67 #[.agg #[.int .i64 n, .slice (some ⟨b, o, none⟩) m c], .slice (some ⟨b2, o2, none⟩) la c2] (grow (redrawn (w.alloc (.cells #[.int .i64 n, .slice (some ⟨b, o, none⟩) m c] 26)) d) os) fun e w'' => e = .returned (.bool (B (IsG n es) && colB es f la)) ∧ ∃ p : Regrown, w'' = grow (redrawn (w.alloc (.cells #[.int .i64 n, .slice (some ⟨b, o, none⟩) m c] 26)) p.d) p.os := fun d os =>
    Ret.rg (isColouring_all n b o m c b2 o2 la c2 es f _ ((h.alloc _).below (below_regrown _ _ _)) hm ((h2.below hbb).below (below_regrown _ _ _)) hla)
  have hIB : ∀ d os, Calls Tryz.prog 67 #[.agg #[.int .i64 n, .slice (some ⟨b, o, none⟩) m c], .slice (some ⟨b3, o3, none⟩) lb c3] (grow (redrawn (w.alloc (.cells #[.int .i64 n, .slice (some ⟨b, o, none⟩) m c] 26)) d) os) fun e w'' => e = .returned (.bool (B (IsG n es) && colB es g lb)) ∧ ∃ p : Regrown, w'' = grow (redrawn (w.alloc (.cells #[.int .i64 n, .slice (some ⟨b, o, none⟩) m c] 26)) p.d) p.os := fun d os =>
    Ret.rg (isColouring_all n b o m c b3 o3 lb c3 es g _ ((h.alloc _).below (below_regrown _ _ _)) hm ((h3.below hbb).below (below_regrown _ _ _)) hlb)
  have hGC : ∀ r, gcC n es r = aaC n es f la g lb → ∀ d os, Calls Tryz.prog 52 #[.agg #[.int .i64 n, .slice (some ⟨b, o, none⟩) m c], .bool r] (grow (redrawn (w.alloc (.cells #[.int .i64 n, .slice (some ⟨b, o, none⟩) m c] 26)) d) os) fun e w'' => e = .returned (.int .i64 (aaC n es f la g lb)) ∧ ∃ p : Regrown, w'' = grow (redrawn (w.alloc (.cells #[.int .i64 n, .slice (some ⟨b, o, none⟩) m c] 26)) p.d) p.os := fun r hk d os =>
    Ret.rg (hk ▸ graphCode_any n _ _ _ _ es r _ ((h.alloc _).below (below_regrown _ _ _)) hm)
  have HIA := Lib.hid hIA
  have HIB := Lib.hid hIB
  obtain ⟨kc, hkc⟩ : ∃ kc, kc = aaC n es f la g lb := ⟨_, rfl⟩
  obtain ⟨x, hx⟩ : ∃ x, x = (B (IsG n es) && colB es f la) := ⟨_, rfl⟩
  obtain ⟨y, hy⟩ : ∃ y, y = (B (IsG n es) && colB es g lb) := ⟨_, rfl⟩
  rw [← hx] at HIA
  rw [← hy] at HIB
  rw [← hkc] at hGC ⊢
  by_cases hz : kc = 0
  rotate_left
  · have HV : Hid (aaV n es f la g lb = false) := aa_n (by rw [← hkc]; exact hz)
    rw [HV.out]
    have hne : (kc != 0) = true := by simpa using hz
    cases x with
    | false =>
      have HGC := Lib.hid (hGC false (by rw [hkc]; exact aa_no hx.symm))
      clear hIA hIB hGC hkc hx hy hz
      go_enter Tryz.func20, Tryz.ntmps20
      go_wp2_with fail
      (refine wp_region_quiet_below (by kernel_rfl) (by kernel_rfl) ?_
       repeat (any_goals (go_big_quiet_step (first | (go_at_call 67; first | with_reducible exact HIA.out _ _ | with_reducible exact HIB.out _ _) | (go_at_call 52; exact HGC.out _ _))))
       all_goals (refine wpQuiet_nil ?_; intro wq1 hq1; replace hq1 := below_of_rg hq1))
      have hB1 := hbb.thenB (by simp) hq1
      clear hq1 hbx hbb
      go_wp2_with fail
      go_ret2
      exact ⟨rfl, hB1⟩
    | true =>
      have HGC := Lib.hid (hGC y (by rw [hkc, hy]; exact aa_yes hx.symm))
      clear hIA hIB hGC hkc hx hy hz
      go_enter Tryz.func20, Tryz.ntmps20
      go_wp2_with fail
      (refine wp_region_quiet_below (by kernel_rfl) (by kernel_rfl) ?_
       repeat (any_goals (go_big_quiet_step (first | (go_at_call 67; first | with_reducible exact HIA.out _ _ | with_reducible exact HIB.out _ _) | (go_at_call 52; exact HGC.out _ _))))
       all_goals (refine wpQuiet_nil ?_; intro wq1 hq1; replace hq1 := below_of_rg hq1))
      have hB1 := hbb.thenB (by simp) hq1
      clear hq1 hbx hbb
      go_wp2_with fail
      go_ret2
      exact ⟨rfl, hB1⟩
  obtain ⟨hG, ⟨hle, hca⟩, ⟨hle2, hcb⟩, hv⟩ := aa_0 (by rw [← hkc]; exact hz : aaC n es f la g lb = 0)
  have hxt : x = true := by rw [hx, B_true hG, show colB es f la = true from B_true ⟨hle, hca⟩]; rfl
  have HGC := Lib.hid (hGC y (by rw [hkc, hy]; exact aa_yes (by rw [← hx]; exact hxt)))
  obtain rfl : la = m := by rw [hle, hlm.out]
  obtain rfl : lb = la := by rw [hle2, hlm.out]
  obtain ⟨l, rfl⟩ : ∃ l, l = lb := ⟨lb, rfl⟩
  have HV : Hid (aaV n es f l g l = B (AlikeP l f g)) := by show _ = _; rw [hv, hlm.out]
  have HCA : Hid (∀ e, e < l → 0 ≤ f e ∧ f e ≤ 2) := fun e he => hca.1 e (by rw [hlm.out]; exact he)
  have HCB : Hid (∀ e, e < l → 0 ≤ g e ∧ g e ≤ 2) := fun e he => hcb.1 e (by rw [hlm.out]; exact he)
  subst hxt
  rw [hz] at HGC
  rw [hz, HV.out]
  obtain ⟨r, hr⟩ : ∃ r, r = B (AlikeP l f g) := ⟨_, rfl⟩
  rw [← hr]
  have HRT : Hid (AlikeP l f g → r = true) := fun x => by rw [hr]; exact B_true x
  have HRF : Hid (¬ AlikeP l f g → r = false) := fun x => by rw [hr]; exact B_false x
  clear hIA hIB hGC hkc hx hy hz hv hle hle2 hca hcb hG hr
  go_enter Tryz.func20, Tryz.ntmps20
  go_wp2_with fail
  (refine wp_region_quiet_below (by kernel_rfl) (by kernel_rfl) ?_
   repeat (any_goals (go_big_quiet_step (first | (go_at_call 67; first | with_reducible exact HIA.out _ _ | with_reducible exact HIB.out _ _) | (go_at_call 52; exact HGC.out _ _))))
   all_goals (refine wpQuiet_nil ?_; intro wq1 hq1; replace hq1 := below_of_rg hq1))
  have hB1 := hbb.thenB (by simp) hq1
  clear hq1 hbx hbb HIA HIB HGC
  go_wp2_with fail
  have R : (wq1.alloc (.cells #[.int .i64 (-1), .int .i64 (-1), .int .i64 (-1)] 73)).rowIs wq1.heap.size 73 3 (fun _ => .int .i64 (-1)) :=
    World.rowIs_alloc wq1 #[.int .i64 (-1), .int .i64 (-1), .int .i64 (-1)] 73 _ (fun i hi => by
      have : i < 3 := hi
      rcases (show i = 0 ∨ i = 1 ∨ i = 2 by omega) with rfl | rfl | rfl <;> rfl)
  have hb3 : Below wq1.heap.size wq1 (wq1.alloc (.cells #[.int .i64 (-1), .int .i64 (-1), .int .i64 (-1)] 73)) := (Below.refl _ _).alloc (Nat.le_refl _) _
  obtain ⟨w3, hw3⟩ : ∃ w3, w3 = wq1.alloc (.cells #[.int .i64 (-1), .int .i64 (-1), .int .i64 (-1)] 73) := ⟨_, rfl⟩
  rw [← hw3] at R hb3 ⊢
  clear hw3
  go_loopw [28] (fun iv wr => ∃ i : Nat, i ≤ l ∧ iv = .int .i64 i ∧ Hid (AlikeP i f g) ∧ wr.rowIs wq1.heap.size 73 3 (fun x => .int .i64 (nmF f g i x)) ∧ Below wq1.heap.size wq1 wr) (fun i _ => l - (intOf i).toNat)
  case atStart => exact ⟨0, Nat.zero_le _, rfl, (fun e f he => absurd he (by omega)), R.congr (fun x _ => rfl), hb3⟩
  case round =>
    clear R hb3
    obtain ⟨i, hi, rfl, HP, hrow, hbr⟩ := hrel
    by_cases hlt : i < l
    · have hB := hB1.andB hbr
      have I2 := h2.below hB
      have I3 := h3.below hB
      have k1 := I2.c i hlt
      have k2 := I3.c i hlt
      have s2 := I2.blk
      have s3 := I3.blk
      obtain ⟨u, hu⟩ : ∃ u : Nat, f i = u := ⟨(f i).toNat, by have := HCA.out i hlt; omega⟩
      have hu3 : u < 3 := by have := HCA.out i hlt; omega
      have e1 := hrow.cell hu3
      have f1 := hrow.frozen u
      have s4 := hrow.lt
      rw [hu] at k1
      have hg0 : ∀ j, j < i → 0 ≤ g j := fun j hj => (HCB.out j (by omega)).1
      by_cases hn : nmF f g i u = -1
      · have HP2 : Hid (AlikeP (i + 1) f g) := alike_succ HP.out (fun j hj hjf => absurd (hjf.trans hu) ((nmF_none hg0).1 hn j hj))
        have HR2 : Hid ((wr.setCell ⟨wq1.heap.size, u, none⟩ (.int .i64 (g i))).rowIs wq1.heap.size 73 3 (fun x => .int .i64 (nmF f g (i + 1) x))) := (hrow.set u (.int .i64 (g i))).congr (fun x _ => by
          by_cases hx : x = u
          · subst hx; rw [if_pos rfl, nm_step hu hn]
          · rw [if_neg hx, nm_keep (fun hc => by have := hc.1; rw [hu] at this; omega)])
        have hb5 : Below wq1.heap.size wq1 (wr.setCell ⟨wq1.heap.size, u, none⟩ (.int .i64 (g i))) := hbr.setCell (Nat.le_refl _) _
        have hB5 := hB1.andB hb5
        have z1 := (h3.below hB5).c i hlt
        have z2 := (h3.below hB5).blk
        have z3 := HR2.out.cell hu3
        rw [nm_step hu hn] at z3
        have z4 := HR2.out.lt
        rw [hn] at e1
        obtain ⟨v, hv⟩ : ∃ v, v = g i := ⟨_, rfl⟩
        rw [← hv] at z1 z3 k2 HR2 hb5 hB5 z2 z4
        clear hrow hbr hn hg0 hu I2 I3 hv
        go_wp2_with fail
        obtain ⟨w7, hw7⟩ : ∃ w7, w7 = wr.setCell ⟨wq1.heap.size, u, none⟩ (.int .i64 v) := ⟨_, rfl⟩
        rw [← hw7] at z1 z2 z3 z4 HR2 hb5 hB5 ⊢
        clear hw7
        (refine wp_region_quiet_below (by kernel_rfl) (by kernel_rfl) ?_
         repeat (any_goals (go_big_quiet_step (first | fail)))
         all_goals (refine wpQuiet_nil ?_; intro wq2 hq2; replace hq2 := below_of_rg hq2))
        go_wp2_with fail
        go_roundw
        case rel => exact ⟨i + 1, by omega, by go_num, HP2, HR2.out.of_block (hq2.block _ z4), hb5.andB hq2⟩
        case measure => simp [intOf]; omega
      · have hnb : (nmF f g i u == -1) = false := by simpa using hn
        obtain ⟨j, hj, hju, hjv⟩ := nmF_some hg0 hn
        have HK : Hid (∀ x : Nat, nmF f g (i + 1) x = nmF f g i x) := fun x => nm_keep (fun hc => by
          have e := hc.1; rw [hu] at e
          have : x = u := by omega
          subst this; exact hn hc.2)
        by_cases hne : nmF f g i u = g i
        · have hneb : (nmF f g i u != g i) = false := by simp [hne]
          have HP2 : Hid (AlikeP (i + 1) f g) := alike_succ HP.out (fun k hk hkf => by
            rw [← hne, hjv]
            exact HP.out k j hk hj (by rw [hkf, hu, hju]))
          clear hn hg0 hu hju hjv hne I2 I3
          go_wp2_with fail
          (refine wp_region_quiet_below (by kernel_rfl) (by kernel_rfl) ?_
           repeat (any_goals (go_big_quiet_step (first | fail)))
           all_goals (refine wpQuiet_nil ?_; intro wq2 hq2; replace hq2 := below_of_rg hq2))
          go_wp2_with fail
          go_roundw
          case rel => exact ⟨i + 1, by omega, by go_num, HP2, (hrow.of_block (hq2.block _ s4)).congr (fun x _ => by rw [HK.out]), hbr.andB hq2⟩
          case measure => simp [intOf]; omega
        · have hneb : (nmF f g i u != g i) = true := by simp [hne]
          have HF := Lib.hid (HRF.out (fun x => hne (by rw [hjv]; exact x j i (by omega) hlt (by rw [hju, hu]))))
          clear hn hg0 hu hju hjv hne I2 I3
          go_wp2_with fail
          (refine wp_region_quiet_below (by kernel_rfl) (by kernel_rfl) ?_
           repeat (any_goals (go_big_quiet_step (first | fail)))
           all_goals (refine wpQuiet_nil ?_; intro wq2 hq2; replace hq2 := below_of_rg hq2))
          go_wp2_with fail
          go_ret2
          exact ⟨by rw [HF.out] <;> rfl, hB.andB hq2⟩
    · obtain rfl : i = l := by omega
      have HT := Lib.hid (HRT.out HP.out)
      go_wp2_with fail
      go_ret2
      exact ⟨by rw [HT.out] <;> rfl, hB1.andB hbr⟩
end Go.Proofs.YtajnhkkiddeegaaGreat
namespace Go.Proofs.YtajnhkkiddeegaaGreat
open Go.RowKit Go.Sort
noncomputable def icR (n : Int) (es : List (Int × Int)) (ls : Nat → Int) (l : Nat) : Bool := B (IsG n es) && colB es ls l
set_option maxHeartbeats 400000 in
theorem spIsColouring_any (n : Int) (b o m c b2 o2 l c2 : Nat) (es : List (Int × Int)) (ls : Nat → Int) (w : World) (h : Eds w b o m es) (hm : m ≤ 1048576) (h2 : Ints w b2 o2 l ls) (hl2 : l ≤ 1048576) :
    Calls Tryz.prog 24 #[.agg #[.int .i64 n, .slice (some ⟨b, o, none⟩) m c], .slice (some ⟨b2, o2, none⟩) l c2] w (Ret (.tuple #[.bool (icR n es ls l), .int .i64 (imC n es)]) w) := by
  have hbox := Box2.made w (.int .i64 n) (.slice (some ⟨b, o, none⟩) m c) 26
  have hbb := (by go_grown : Below w.heap.size w (w.alloc (.cells #[.int .i64 n, .slice (some ⟨b, o, none⟩) m c] 26)))
  have HSP := Lib.hid (l01Is_any n b o m c es _ (h.alloc (.cells #[.int .i64 n, .slice (some ⟨b, o, none⟩) m c] 26)) hm)
  by_cases hG : IsG n es
  · have HC : Hid (imC n es = 0) := by simp [Hid, imC, B_true hG]
    have HR : Hid (icR n es ls l = colB es ls l) := by simp [Hid, icR, B_true hG]
    have HG := Lib.hid hG
    rw [B_true hG] at HSP
    clear hG
    go_enter Tryz.func24, Tryz.ntmps24
    go_wp2_with fail
    refine HSP.out.mono ?_
    rintro e w1 ⟨rfl, hb1⟩
    have hB1 := hbb.thenB (by simp) hb1
    obtain ⟨s1, p1, q1⟩ := hbox.below hb1
    clear hb1 hbb hbox
    go_wp2_with fail
    refine (l02Is_any n b o m c b2 o2 l c2 es ls _ (h.below hB1) hm HG.out (h2.below hB1) hl2).mono ?_
    rintro e w2 ⟨rfl, hb2⟩
    go_wp2_with fail
    go_ret2
    exact ⟨retBC HR.out.symm HC.out.symm, hB1.andB hb2⟩
  · have HC : Hid (imC n es = 1) := by simp [Hid, imC, B_false hG]
    have HR : Hid (icR n es ls l = false) := by simp [Hid, icR, B_false hG]
    rw [B_false hG] at HSP
    clear hG hbox
    go_enter Tryz.func24, Tryz.ntmps24
    go_wp2_with fail
    refine HSP.out.mono ?_
    rintro e w1 ⟨rfl, hb1⟩
    have hB1 := hbb.thenB (by simp) hb1
    clear hb1 hbb
    go_wp2_with fail
    go_ret2
    exact ⟨retBC HR.out.symm HC.out.symm, hB1⟩
set_option maxHeartbeats 400000 in
theorem imIsColouring_any (n : Int) (b o m c b2 o2 l c2 : Nat) (es : List (Int × Int)) (ls : Nat → Int) (w : World) (h : Eds w b o m es) (hm : m ≤ 1048576) (h2 : Ints w b2 o2 l ls) (hl2 : l ≤ 1048576) :
    Calls Tryz.prog 23 #[.agg #[.int .i64 n, .slice (some ⟨b, o, none⟩) m c], .slice (some ⟨b2, o2, none⟩) l c2] w (Ret (.tuple #[.bool (icR n es ls l), .int .i64 (imC n es)]) w) := by
  have hbox := Box2.made w (.int .i64 n) (.slice (some ⟨b, o, none⟩) m c) 26
  have hbb := (by go_grown : Below w.heap.size w (w.alloc (.cells #[.int .i64 n, .slice (some ⟨b, o, none⟩) m c] 26)))
  have HGC := Lib.hid (graphCode_any n b o m c es true _ (h.alloc (.cells #[.int .i64 n, .slice (some ⟨b, o, none⟩) m c] 26)) hm)
  by_cases hG : IsG n es
  · have HC : Hid (imC n es = 0) := by simp [Hid, imC, B_true hG]
    have HR : Hid (icR n es ls l = colB es ls l) := by simp [Hid, icR, B_true hG]
    have HG := Lib.hid hG
    rw [show gcC n es true = 0 by simp [gcC, B_true hG]] at HGC
    clear hG
    go_enter Tryz.func23, Tryz.ntmps23
    go_wp2_with fail
    refine HGC.out.mono ?_
    rintro e w1 ⟨rfl, hb1⟩
    have hB1 := hbb.thenB (by simp) hb1
    obtain ⟨s1, p1, q1⟩ := hbox.below hb1
    clear hb1 hbb hbox
    go_wp2_with fail
    refine (isColouring_any n b o m c b2 o2 l c2 es ls _ (h.below hB1) hm HG.out (h2.below hB1) hl2).mono ?_
    rintro e w2 ⟨rfl, hb2⟩
    go_wp2_with fail
    go_ret2
    exact ⟨retBC HR.out.symm HC.out.symm, hB1.andB hb2⟩
  · have HC : Hid (imC n es = 1) := by simp [Hid, imC, B_false hG]
    have HR : Hid (icR n es ls l = false) := by simp [Hid, icR, B_false hG]
    rw [show gcC n es true = 1 by simp [gcC, B_false hG]] at HGC
    clear hG hbox
    go_enter Tryz.func23, Tryz.ntmps23
    go_wp2_with fail
    refine HGC.out.mono ?_
    rintro e w1 ⟨rfl, hb1⟩
    have hB1 := hbb.thenB (by simp) hb1
    clear hb1 hbb
    go_wp2_with fail
    go_ret2
    exact ⟨retBC HR.out.symm HC.out.symm, hB1⟩
end Go.Proofs.YtajnhkkiddeegaaGreat
