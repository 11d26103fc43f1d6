import Derived.StillTailTactics
import Derived.Test.YtajnhkkiddeegaaGreatZc13
set_option linter.unusedVariables false
set_option linter.unusedSimpArgs false
namespace Go.Proofs.YtajnhkkiddeegaaGreat
open Go.RowKit Go.Sort
def natL (xs : List Nat) : List Int := xs.map fun j : Nat => (j : Int)
theorem natL_len (xs : List Nat) : (natL xs).length = xs.length := by simp [natL]
theorem natL_at (xs : List Nat) (j : Nat) : ia (natL xs) j = ((xs.getD j 0 : Nat) : Int) := by
  simp only [ia, natL, List.getD_eq_getElem?_getD, List.getElem?_map]
  cases xs[j]? <;> rfl
theorem natL_app (xs : List Nat) (k : Nat) : natL (xs ++ [k]) = natL xs ++ [(k : Int)] := by simp [natL]
/-- The edges (of the first so many) whose lesser vertex is in a list. -/
noncomputable def inTo (es : List (Int × Int)) (r : List Int) : Nat → List Nat
  | 0 => []
  | k + 1 => inTo es r k ++ (if B (ea es k ∈ r) then [k] else [])
theorem inTo_yes {es : List (Int × Int)} {r : List Int} {k : Nat} (h : ea es k ∈ r) : inTo es r (k + 1) = inTo es r k ++ [k] := by simp only [inTo]; rw [if_pos (B_true h)]
theorem inTo_no {es : List (Int × Int)} {r : List Int} {k : Nat} (h : ¬ ea es k ∈ r) : inTo es r (k + 1) = inTo es r k := by simp only [inTo]; rw [if_neg (by rw [B_false h]; decide), List.append_nil]
theorem inTo_len (es : List (Int × Int)) (r : List Int) (k : Nat) : (inTo es r k).length ≤ k := by
  induction k with
  | zero => simp [inTo]
  | succ k ih => simp only [inTo, List.length_append]; split <;> simp <;> omega
theorem mem_inTo {es : List (Int × Int)} {r : List Int} {d : Nat} : ∀ {k : Nat}, d ∈ inTo es r k ↔ d < k ∧ ea es d ∈ r := by
  intro k
  induction k with
  | zero => simp [inTo]
  | succ k ih =>
    simp only [inTo, List.mem_append, ih]
    constructor
    · rintro (h | h)
      · exact ⟨by omega, h.2⟩
      · split at h
        · rename_i hb
          obtain rfl : d = k := by simpa using h
          exact ⟨by omega, B_iff.1 hb⟩
        · simp at h
    · rintro ⟨h1, h2⟩
      by_cases e : d = k
      · subst e; right; rw [if_pos (B_true h2)]; simp
      · exact .inl ⟨by omega, h2⟩
theorem inTo_asc (es : List (Int × Int)) (r : List Int) (k : Nat) : (inTo es r k).Pairwise (· < ·) := by
  induction k with
  | zero => simp [inTo]
  | succ k ih =>
    simp only [inTo]
    split
    · rw [List.pairwise_append]
      exact ⟨ih, by simp, fun a ha b hb => by obtain rfl : b = k := by simpa using hb
                                              exact (mem_inTo.1 ha).1⟩
    · simpa using ih
noncomputable def peR (es : List (Int × Int)) (rows : List (List Int)) (m : Nat) : Nat → List (List Int)
  | 0 => []
  | j + 1 => peR es rows m j ++ [natL (inTo es (ra rows j) m)]
theorem peR_len (es : List (Int × Int)) (rows : List (List Int)) (m : Nat) : ∀ j, (peR es rows m j).length = j := by
  intro j
  induction j with
  | zero => rfl
  | succ j ih => simp [peR, ih]
theorem peR_at (es : List (Int × Int)) (rows : List (List Int)) (m : Nat) : ∀ j i, i < j → ra (peR es rows m j) i = natL (inTo es (ra rows i) m) := by
  intro j
  induction j with
  | zero => intro i h; omega
  | succ j ih =>
    intro i hi
    rw [peR]
    by_cases e : i < j
    · rw [ra_app_lt (by rw [peR_len]; exact e)]; exact ih i e
    · obtain rfl : i = j := by omega
      have : ra (peR es rows m i ++ [natL (inTo es (ra rows i) m)]) (peR es rows m i).length = natL (inTo es (ra rows i) m) := ra_app_at
      rwa [peR_len] at this
set_option maxRecDepth 100000 in
set_option maxHeartbeats 4000000 in
theorem partEdges_any (n : Int) (b o m c : Nat) (es : List (Int × Int)) (w : World) (h : Eds w b o m es) (hm : m ≤ 1048576) (hn : WfP n es) :
    Calls Tryz.prog 100 #[.agg #[.int .i64 n, .slice (some ⟨b, o, none⟩) m c]] w (RetLL (peR es (sdTo es noSk n.toNat n.toNat) m (sdTo es noSk n.toNat n.toNat).length) w) := by
  have hbox := Box2.made w (.int .i64 n) (.slice (some ⟨b, o, none⟩) m c) 26
  have hbb := (by go_grown : Below w.heap.size w (w.alloc (.cells #[.int .i64 n, .slice (some ⟨b, o, none⟩) m c] 26)))
  have hl := Lib.hid h.len
  have HW := Lib.hid hn
  have hn2 := hn.1
  have hn20 := hn.2.1
  have hm30 : m ≤ 30 := by have := hn.2.2.2.1; have := hl.out; omega
  have HSD := Lib.hid (sides_any n b o m c 0 es _ (h.below hbb) hm hn (by decide))
  rw [skS_none] at HSD
  obtain ⟨N, rfl⟩ : ∃ N : Nat, n = N := ⟨n.toNat, by omega⟩
  rw [Int.toNat_natCast] at HSD ⊢
  obtain ⟨rows, hrw⟩ : ∃ rows, rows = sdTo es noSk N N := ⟨_, rfl⟩
  have hlr20 : rows.length ≤ 20 := by rw [hrw, sdTo_len]; have := ldCnt_le es noSk N; omega
  have HRW : Hid (∀ j, j < rows.length → 0 < (ra rows j).length ∧ (ra rows j).length ≤ 20 ∧ ∀ i, i < (ra rows j).length → 0 ≤ ia (ra rows j) i ∧ ia (ra rows j) i ≤ 63) := fun j hj => by
    rw [hrw] at hj ⊢
    obtain ⟨v, hv, _, e⟩ := sd_row (Nat.le_refl N) j hj
    rw [e]
    exact ⟨cm_pos hv, by have := cmTo_len es noSk v N; omega, fun i hi => by have := cm_rng hi; omega⟩
  rw [← hrw] at HSD ⊢
  clear hn hrw
  have hPL := Lib.hid (peR_len es rows m)
  go_enter Tryz.func100, Tryz.ntmps100
  go_wp2_with fail
  refine HSD.out.mono ?_
  rintro e w1 ⟨A, c1, rfl, O, hb1⟩
  have hB1 := hbb.thenB (by simp) hb1
  obtain ⟨s1, p1, q1⟩ := hbox.below hb1
  have hE := h.below hB1
  clear hb1 hbb hbox HSD
  go_wp2_with fail
  have O0 := OwnLL.nil w1.heap.size w1
  go_loopw [3, 13] (fun lv iv wr => ∃ (j : Nat) (A' : Option Addr) (c' : Nat), j ≤ rows.length ∧ iv = .int .i64 j ∧ lv = .slice A' j c' ∧ OwnLL w1.heap.size wr.heap.size wr A' j c' (peR es rows m j) ∧ Below w1.heap.size w1 wr) (fun _ i _ => rows.length - (intOf i).toNat)
  case atStart => exact ⟨0, _, _, Nat.zero_le _, rfl, rfl, O0, Below.refl _ _⟩
  case round =>
    clear O0
    obtain ⟨j, A', c', hj, rfl, rfl, O2, hbr⟩ := hrel
    have hsz := hbr.size
    by_cases hlt : j < rows.length
    · have Or := O.below hbr
      obtain ⟨g, Aj, cj, rfl, hg, hg', rc, OJ⟩ := Or.at hlt
      have hrw := HRW.out j hlt
      obtain ⟨r, hr⟩ : ∃ r, r = ra rows j := ⟨_, rfl⟩
      rw [← hr] at rc OJ hrw
      have HRN := Lib.hid hrw.2.2
      have hr0 := hrw.1
      have hr20 := hrw.2.1
      have HPE : Hid (peR es rows m (j + 1) = peR es rows m j ++ [natL (inTo es r m)]) := by show _ = _; rw [hr]; rfl
      obtain ⟨gj, oj, rfl, IJ⟩ := OJ.src hr0
      have Er := hE.below hbr
      have k1 := (hbr.cell (p := ⟨w.heap.size, 1, none⟩) s1).trans q1
      have s2 : w.heap.size < wr.heap.size := by omega
      have HSET := Lib.hid (setOf_any gj oj r.length cj (ia r) wr IJ (by omega) HRN.out)
      have HLT : Hid (setN (ia r) r.length < 18446744073709551616) := setN_lt fun u hu => (HRN.out u hu).2
      obtain ⟨sx, hsx⟩ : ∃ sx, sx = setN (ia r) r.length := ⟨_, rfl⟩
      have HHL : Hid (∀ k, k < m → (hasB sx (ea es k) = true ↔ ea es k ∈ r)) := fun k hk => by
        have := HW.out.2.2.2.2 k (by rw [hl.out]; exact hk)
        rw [hsx]
        exact hasL_iff (xs := r) (by omega) (fun y hy => by obtain ⟨i, hi, e⟩ := memIa hy; rw [← e]; exact (HRN.out i hi).1)
      rw [← hsx] at HSET HLT
      clear hr hsx hrw IJ OJ Or
      go_wp2_with (go_at_call 125; refine HSET.out.mono ?_; rintro e w' ⟨rfl, rfl⟩)
      obtain ⟨w4, rfl⟩ : ∃ w4, w4 = wr := ⟨wr, rfl⟩
      clear rc HSET
      go_loopw [7, 22] (fun lv kv wv => ∃ (k : Nat) (A2 : Option Addr) (c2 : Nat), k ≤ m ∧ kv = .int .i64 k ∧ lv = .slice A2 (inTo es r k).length c2 ∧ OwnL w4.heap.size wv A2 (inTo es r k).length c2 (natL (inTo es r k)) ∧ Below w4.heap.size w4 wv) (fun _ k _ => m - (intOf k).toNat)
      case atStart => exact ⟨0, _, _, Nat.zero_le _, rfl, rfl, OwnL.nil _ _, Below.refl _ _⟩
      case round =>
        obtain ⟨k, A2, c2, hk, rfl, rfl, ho, hbk⟩ := hrel
        have hcl := inTo_len es r k
        have hszk := hbk.size
        by_cases hlt2 : k < m
        · have E := Er.below hbk
          have d1 := E.ca k hlt2
          have d2 := E.cb k hlt2
          have hb6 : Below w4.heap.size w4 (wr.alloc (.cells #[.int .i64 (ea es k), .int .i64 (eb es k)] 78)) := hbk.alloc hszk _
          have ho6 := ho.below ((Below.refl _ _).alloc (Nat.le_refl _) (.cells #[.int .i64 (ea es k), .int .i64 (eb es k)] 78))
          have hin := HW.out.2.2.2.2 k (by rw [hl.out]; exact hlt2)
          have hHA : ∀ W, Calls Tryz.prog 105 #[.int .u64 sx, .int .i64 (ea es k)] W (Is (.bool (hasB sx (ea es k))) W) := fun W => has_any sx _ W HLT.out (by omega) (by omega)
          have hh0 := HHL.out k hlt2
          clear E hin
          cases hh : hasB sx (ea es k) with
          | true =>
            rw [hh] at hHA
            have e := inTo_yes (hh0.1 hh)
            have HE1 : Hid (natL (inTo es r (k + 1)) = natL (inTo es r k) ++ [(k : Int)]) := by show _ = _; rw [e, natL_app]
            have HE2 : Hid ((inTo es r (k + 1)).length = (inTo es r k).length + 1) := by show _ = _; rw [e]; simp
            have HH := Lib.hid hHA
            clear hHA hh e hh0
            go_wp2_with (first
              | (go_at_call 105; refine (HH.out _).mono ?_; rintro e w' ⟨rfl, rfl⟩)
              | (at_builtin; refine wp_appL1 rfl rfl rfl rfl (by simp [go_sem]) ho6 (by simp [go_sem]; omega) (by omega) ?_; intro A3 c3 w5 ho3 hg5 hat5))
            have hb5 := hb6.grown hg5 hb6.size (fun y hy => (ho.blk y hy).1)
            go_roundw
            case rel => exact ⟨k + 1, A3, c3, by omega, by go_num, by rw [HE2.out], by rw [HE2.out, HE1.out]; exact ho3, hb5⟩
            case measure => simp [intOf]; omega
          | false =>
            rw [hh] at hHA
            have HE1 := Lib.hid (inTo_no (fun x => by have := hh0.2 x; rw [hh] at this; cases this))
            have HH := Lib.hid hHA
            clear hHA hh hh0
            go_wp2_with (go_at_call 105; refine (HH.out _).mono ?_; rintro e w' ⟨rfl, rfl⟩)
            go_roundw
            case rel => exact ⟨k + 1, A2, c2, by omega, by go_num, by rw [HE1.out], by rw [HE1.out]; exact ho6, hb6⟩
            case measure => simp [intOf]; omega
        · obtain rfl : k = m := by omega
          have O2 := O2.below hbk
          have hb4 := hbr.andB hbk
          have ho' := ho.mono (show w1.heap.size ≤ w4.heap.size by omega)
          have hnew : ∀ g, blkOf A2 = some g → w4.heap.size ≤ g := fun g hg => (ho.blk g hg).1
          clear ho
          go_wp2_with (first
            | (at_builtin; refine wp_appR1 rfl rfl rfl rfl rfl (natL_len _) O2 ho' hnew (by omega) (by omega) ?_; intro A3 c3 w5 O5 hg5 _))
          have hb5 := hb4.grown hg5 hb4.size (fun y hy => (O2.blk y hy).1)
          go_roundw
          case rel => exact ⟨j + 1, A3, c3, by omega, by go_num, rfl, by rw [HPE.out]; exact O5, hb5⟩
          case measure => simp [intOf]; omega
    · obtain rfl : j = rows.length := by omega
      go_wp2_with fail
      go_ret
      have hPL2 := hPL.out rows.length
      have O3 := O2.mono (show w.heap.size ≤ w1.heap.size by omega)
      have HO : Hid (∃ A c, Value.slice A' rows.length c' = .slice A (peR es rows m rows.length).length c ∧ OwnLL w.heap.size wr.heap.size wr A (peR es rows m rows.length).length c (peR es rows m rows.length)) := ⟨A', c', by rw [hPL2], by rw [hPL2]; exact O3⟩
      obtain ⟨A9, c9, e9, O9⟩ := HO.out
      exact ⟨A9, c9, congrArg Ending.returned e9, O9, hB1.andB hbr⟩
end Go.Proofs.YtajnhkkiddeegaaGreat
namespace Go.Proofs.YtajnhkkiddeegaaGreat
open Go.RowKit Go.Sort
set_option maxRecDepth 100000 in
set_option maxHeartbeats 2000000 in
theorem l02Fits_any (n : Int) (b o m c b2 o2 c2 e : Nat) (es : List (Int × Int)) (cs : Nat → Int) (w : World) (h : Eds w b o m es) (hm : m ≤ 1048576) (hG : IsG n es) (h2 : Ints w b2 o2 m cs) (he : e < m) :
    Calls Tryz.prog 113 #[.agg #[.int .i64 n, .slice (some ⟨b, o, none⟩) m c], .slice (some ⟨b2, o2, none⟩) m c2, .int .i64 e, .int .i64 (cs e)] w (Ret (.bool (B (FitP es cs e))) w) := by
  have hl := Lib.hid h.len
  have HG := Lib.hid hG
  have hbx := Box2.made w (.int .i64 n) (.slice (some ⟨b, o, none⟩) m c) 26
  have hbb := (by go_grown : Below w.heap.size w (w.alloc (.cells #[.int .i64 n, .slice (some ⟨b, o, none⟩) m c] 26)))
  clear hG
  go_enter Tryz.func113, Tryz.ntmps113
  go_wp2_with fail
  obtain ⟨w1, hw1⟩ : ∃ w1, w1 = w.alloc (Obj.cells #[Value.int IntKind.i64 n, Value.slice (some ⟨b, o, none⟩) m c] 26) := ⟨_, rfl⟩
  rw [← hw1] at hbx hbb ⊢
  clear hw1
  have E1 := h.below hbb
  have I1 := h2.below hbb
  obtain ⟨s1, p1, q1⟩ := hbx
  go_loopw [9] (fun kv wv => ∃ k : Nat, k ≤ 2 ∧ kv = .int .i64 k ∧ Hid (∀ k', k' < k → FitK es cs e k') ∧ Below w1.heap.size w1 wv) (fun k _ => 2 - (intOf k).toNat)
  case atStart => exact ⟨0, by omega, rfl, fun k hk => absurd hk (by omega), Below.refl _ _⟩
  case round =>
    obtain ⟨k, hk, rfl, HF, hbr⟩ := hrel
    have hsz := hbr.size
    by_cases hk2 : k < 2
    · have E := E1.below hbr
      have k1 := (hbr.cell (p := ⟨w.heap.size, 0, none⟩) s1).trans p1
      have k2 := (hbr.cell (p := ⟨w.heap.size, 1, none⟩) s1).trans q1
      have s2 : w.heap.size < wr.heap.size := by omega
      have ce := vE_cell E he hk2
      have hv := vE_in HG.out.wf (2 * e + k) (by rw [hl.out]; omega)
      obtain ⟨L, hL⟩ : ∃ L, L = atL es (vE es (2 * e + k)) := ⟨_, rfl⟩
      have hL3 : L.length = 3 := by rw [hL]; exact atL_3 HG.out hv.1 hv.2
      have HL3 := Lib.hid hL3
      have HLm := Lib.hid (show ∀ i, i < 3 → 0 ≤ ia L i ∧ ia L i < m from fun i hi => by
        obtain ⟨f, hf, e1, _⟩ := mem_atTo.1 (show ia L i ∈ atTo es (vE es (2 * e + k)) es.length by have := ia_mem (xs := L) (i := i) (by omega); rw [hL] at this ⊢; exact this)
        rw [hl.out] at hf
        omega)
      have HAT := Lib.hid (fitK_at (cs := cs) (e := e) (k := k) (by rw [hl.out]; exact he : e < es.length))
      have HRL := Lib.hid (show ∀ W, Below wr.heap.size wr W → Calls Tryz.prog 112 #[.agg #[.int .i64 n, .slice (some ⟨b, o, none⟩) m c], .int .i64 (vE es (2 * e + k))] W (RetL L W) from fun W hW => by rw [hL]; exact l01At_any n b o m c es _ W (E.below hW) hm)
      rw [← hL] at HAT
      clear hL hL3 hv
      go_wp2_with fail
      refine wp_region_facts (fun i v W => match i with
        | 0 => v = .agg #[.int .i64 n, .slice (some ⟨b, o, none⟩) m c]
        | 1 => v = .pointer (some ⟨w.heap.size, 1, none⟩)
        | 2 => v = .slice (some ⟨b, o, none⟩) m c
        | 3 => v = .int .i64 e
        | 4 => v = .int .i64 k
        | 5 => v = .pointer (some ⟨b, o + e * 2, none⟩)
        | 6 => v = .pointer (some ⟨b, o + e * 2 + k, none⟩)
        | 7 => v = .int .i64 (vE es (2 * e + k))
        | _ => NewL wr.heap.size L v W) (by kernel_rfl) (by kernel_rfl) ?_ ?_ ?_
      · intro i v W W' hf hb
        match i, hf with
        | 0, hf => exact hf
        | 1, hf => exact hf
        | 2, hf => exact hf
        | 3, hf => exact hf
        | 4, hf => exact hf
        | 5, hf => exact hf
        | 6, hf => exact hf
        | 7, hf => exact hf
        | (i + 8), hf => exact NewL.below hf hb
      · refine ⟨?_, ?_, ?_, ?_, ?_, ?_, ?_, ?_, ?_, ?_, trivial⟩
        · intro a W hW hs hd
          have e5 : a.tmps[4]?.getD undef = .pointer (some ⟨w.heap.size, 0, none⟩) := hs 4 (by kernel_rfl)
          have k0 := (hW.cell (p := ⟨w.heap.size, 0, none⟩) s2).trans k1
          have k1 := (hW.cell (p := ⟨w.heap.size, 1, none⟩) s2).trans k2
          clear hs hd
          unfold Grows
          go_simp
          exact Below.refl _ _
        · intro a W hW hs hd
          have e5 : a.tmps[4]?.getD undef = .pointer (some ⟨w.heap.size, 0, none⟩) := hs 4 (by kernel_rfl)
          have k0 := (hW.cell (p := ⟨w.heap.size, 0, none⟩) s2).trans k1
          have k1 := (hW.cell (p := ⟨w.heap.size, 1, none⟩) s2).trans k2
          clear hs hd
          unfold Grows
          go_simp
          exact Below.refl _ _
        · intro a W hW hs hd
          have e5 : a.tmps[17]?.getD undef = .pointer (some ⟨w.heap.size, 1, none⟩) := hd 1 17 (by kernel_rfl) (by kernel_rfl)
          have k1 := (hW.cell (p := ⟨w.heap.size, 1, none⟩) s2).trans k2
          clear hs hd
          unfold Grows
          go_simp
          exact Below.refl _ _
        · intro a W hW hs hd
          have e5 : a.tmps[2]?.getD undef = .int .i64 e := hs 2 (by kernel_rfl)
          clear hs hd
          unfold Grows
          go_simp
          exact Below.refl _ _
        · intro a W hW hs hd
          have e5 : a.tmps[9]?.getD undef = .int .i64 k := hs 9 (by kernel_rfl)
          clear hs hd
          unfold Grows
          go_simp
          exact Below.refl _ _
        · intro a W hW hs hd
          have e5 : a.tmps[18]?.getD undef = .slice (some ⟨b, o, none⟩) m c := hd 2 18 (by kernel_rfl) (by kernel_rfl)
          have e6 : a.tmps[19]?.getD undef = .int .i64 e := hd 3 19 (by kernel_rfl) (by kernel_rfl)
          have EW := E.below hW
          have d1 := EW.ca e he
          have d2 := EW.cb e he
          clear hs hd EW
          unfold Grows
          go_simp
          exact Below.refl _ _
        · intro a W hW hs hd
          have e5 : a.tmps[21]?.getD undef = .pointer (some ⟨b, o + e * 2, none⟩) := hd 5 21 (by kernel_rfl) (by kernel_rfl)
          have e6 : a.tmps[20]?.getD undef = .int .i64 k := hd 4 20 (by kernel_rfl) (by kernel_rfl)
          clear hs hd
          unfold Grows
          go_simp
          exact Below.refl _ _
        · intro a W hW hs hd
          have e5 : a.tmps[22]?.getD undef = .pointer (some ⟨b, o + e * 2 + k, none⟩) := hd 6 22 (by kernel_rfl) (by kernel_rfl)
          have d1 := vE_cell (E.below hW) he hk2
          clear hs hd
          unfold Grows
          go_simp
          exact Below.refl _ _
        · intro a W hW hs hd
          have e16 : a.tmps[16]?.getD undef = .agg #[.int .i64 n, .slice (some ⟨b, o, none⟩) m c] := hd 0 16 (by kernel_rfl) (by kernel_rfl)
          have e18 : a.tmps[23]?.getD undef = .int .i64 (vE es (2 * e + k)) := hd 7 23 (by kernel_rfl) (by kernel_rfl)
          clear hs hd
          unfold Grows
          go_simp
          refine ⟨Below.refl _ _, (HRL.out W hW).mono ?_⟩
          rintro e w6 ⟨A, c', rfl, ho, hb6⟩
          exact ⟨_, rfl, hb6, A, c', rfl, ho.mono hW.size⟩
        · intro a W hW hs hd
          have e19 : NewL wr.heap.size L (a.tmps[24]?.getD undef) W := hd 8 24 (by kernel_rfl) (by kernel_rfl)
          obtain ⟨A, c', e19, ho⟩ := e19
          clear hs hd
          unfold Grows
          go_simp
          exact ⟨Below.refl _ _, A, c', rfl, ho⟩
      intro vs W hW hf
      have f10 : NewL wr.heap.size L (vs 10) W := hf 9 10 (by kernel_rfl)
      obtain ⟨A, c', f10, ho⟩ := f10
      obtain ⟨b3, o3, rfl, I3⟩ := ho.src (by rw [HL3.out]; decide)
      rw [HL3.out] at f10 I3
      have I2 := (I1.below hbr).below hW
      have s3 := I3.blk
      have s4 := I2.blk
      simp only [dsts, List.filterMap_cons, List.filterMap_nil, List.foldl_cons, List.foldl_nil, Act.put, List.setIfInBounds_toArray, List.set_cons_succ, List.set_cons_zero, f10]
      clear hf f10 ho E ce k1 k2 HRL
      have hbW := hbr.andB hW
      clear hW
      go_wp2_with fail
      go_loop [11] (fun iv => ∃ i : Nat, i ≤ 3 ∧ iv = .int .i64 i ∧ Hid (∀ i', i' < i → ia L i' < e → cs (ia L i').toNat ≠ cs e)) (fun i => 3 - (intOf i).toNat)
      case atStart => exact ⟨0, by omega, rfl, fun i hi => absurd hi (by omega)⟩
      case round =>
        obtain ⟨i, hi, rfl, HI⟩ := hrel
        by_cases hi3 : i < 3
        · have c1 := I3.c i hi3
          have hx := HLm.out i hi3
          obtain ⟨x, hxe⟩ : ∃ x : Nat, ia L i = x := ⟨(ia L i).toNat, by omega⟩
          have hxm : x < m := by omega
          have c2 := I2.c x hxm
          rw [hxe] at c1
          have HX := Lib.hid hxe
          clear hxe hx
          by_cases hlt : x < e
          · by_cases hcs : cs x = cs e
            · have HV : Hid (B (FitP es cs e) = false) := B_false fun hf => HAT.out.1 (hf k hk2) i (by rw [HL3.out]; exact hi3) (by rw [HX.out]; omega) (by rw [HX.out, Int.toNat_natCast]; exact hcs)
              go_wp2_with fail
              go_ret
              exact ⟨ret_bool HV.out.symm, hbb.andB hbW⟩
            · have HI' : Hid (∀ i', i' < i + 1 → ia L i' < e → cs (ia L i').toNat ≠ cs e) := fun u hu hul => by
                by_cases hui : u = i
                · subst hui; rw [HX.out, Int.toNat_natCast]; exact hcs
                · exact HI.out u (by omega) hul
              go_wp2_with fail
              go_round
              case rel => exact ⟨i + 1, by omega, by go_num, HI'⟩
              case measure => simp [intOf]; omega
          · have HI' : Hid (∀ i', i' < i + 1 → ia L i' < e → cs (ia L i').toNat ≠ cs e) := fun u hu hul => by
              by_cases hui : u = i
              · subst hui; rw [HX.out] at hul; omega
              · exact HI.out u (by omega) hul
            go_wp2_with fail
            go_round
            case rel => exact ⟨i + 1, by omega, by go_num, HI'⟩
            case measure => simp [intOf]; omega
        · obtain rfl : i = 3 := by omega
          have HF' : Hid (∀ k', k' < k + 1 → FitK es cs e k') := fun u hu => by
            by_cases huk : u = k
            · subst huk; exact HAT.out.2 fun i hi => HI.out i (by rw [HL3.out] at hi; exact hi)
            · exact HF.out u (by omega)
          go_wp2_with fail
          go_roundw
          case rel => exact ⟨k + 1, by omega, by go_num, HF', hbW⟩
          case measure => simp [intOf]; omega
    · obtain rfl : k = 2 := by omega
      have HV : Hid (B (FitP es cs e) = true) := B_true fun k hk => HF.out k hk
      go_wp2_with fail
      go_ret
      exact ⟨ret_bool HV.out.symm, hbb.andB hbr⟩
end Go.Proofs.YtajnhkkiddeegaaGreat
namespace Go.Proofs.YtajnhkkiddeegaaGreat
open Go.RowKit Go.Sort
theorem colP_iff {n : Int} {es : List (Int × Int)} {cs : Nat → Int} (hn : WfP n es) : ColP es cs ↔ ∀ e, e < es.length → (0 ≤ cs e ∧ cs e ≤ 2) ∧ FitP es cs e := by
  constructor
  · rintro ⟨h1, h2⟩ e he
    exact ⟨h1 e he, (fitP_iff hn he).2 ⟨h2 _ (by omega), h2 _ (by omega)⟩⟩
  · intro h
    refine ⟨fun e he => (h e he).1, fun t ht => ?_⟩
    have h1 := (fitP_iff hn (by omega : t / 2 < es.length)).1 (h (t / 2) (by omega)).2
    rcases (show t = 2 * (t / 2) ∨ t = 2 * (t / 2) + 1 by omega) with e | e <;> rw [e]
    · exact h1.1
    · exact h1.2
set_option maxRecDepth 100000 in
set_option maxHeartbeats 2000000 in
theorem l02Is_any (n : Int) (b o m c b2 o2 l c2 : Nat) (es : List (Int × Int)) (cs : Nat → Int) (w : World) (h : Eds w b o m es) (hm : m ≤ 1048576) (hG : IsG n es) (h2 : Ints w b2 o2 l cs) (hl2 : l ≤ 1048576) :
    Calls Tryz.prog 65 #[.agg #[.int .i64 n, .slice (some ⟨b, o, none⟩) m c], .slice (some ⟨b2, o2, none⟩) l c2] w (Ret (.bool (colB es cs l)) w) := by
  have KC := cell_rg
  have hl := Lib.hid h.len
  have HG := Lib.hid hG
  have hbx := Box2.made w (.int .i64 n) (.slice (some ⟨b, o, none⟩) m c) 26
  have hbb := (by go_grown : Below w.heap.size w (w.alloc (.cells #[.int .i64 n, .slice (some ⟨b, o, none⟩) m c] 26)))
  clear hG
  by_cases hlm : l = m
  rotate_left
  · have HV : Hid (colB es cs l = false) := B_false fun x => hlm (by rw [x.1, hl.out])
    have hne : ((l : Int) != m) = true := by simp; omega
    go_enter Tryz.func65, Tryz.ntmps65
    go_wp2_with fail
    go_ret
    exact ⟨ret_bool HV.out.symm, hbb⟩
  subst hlm
  go_enter Tryz.func65, Tryz.ntmps65
  go_wp2_with fail
  obtain ⟨w1, hw1⟩ : ∃ w1, w1 = w.alloc (Obj.cells #[Value.int IntKind.i64 n, Value.slice (some ⟨b, o, none⟩) l c] 26) := ⟨_, rfl⟩
  rw [← hw1] at hbx hbb ⊢
  clear hw1
  have E1 := h.below hbb
  have I1 := h2.below hbb
  obtain ⟨s1, p1, q1⟩ := hbx
  go_loopw [5] (fun kv wv => ∃ e : Nat, e ≤ l ∧ kv = .int .i64 e ∧ Hid (∀ u, u < e → (0 ≤ cs u ∧ cs u ≤ 2) ∧ FitP es cs u) ∧ Below w1.heap.size w1 wv) (fun k _ => l - (intOf k).toNat)
  case atStart => exact ⟨0, by omega, rfl, fun k hk => absurd hk (by omega), Below.refl _ _⟩
  case round =>
    obtain ⟨e, he, rfl, HF, hbr⟩ := hrel
    have hsz := hbr.size
    by_cases hlt : e < l
    · have E := E1.below hbr
      have I := I1.below hbr
      have c1 := I.c e hlt
      have s3 := I.blk
      have k1 := (hbr.cell (p := ⟨w.heap.size, 0, none⟩) s1).trans p1
      have k2 := (hbr.cell (p := ⟨w.heap.size, 1, none⟩) s1).trans q1
      have s2 : w.heap.size < wr.heap.size := by omega
      cases hA : inB (cs e) 0 2 with
      | false =>
        have HV : Hid (colB es cs l = false) := B_false fun x => inB_not.1 hA (x.2.1 e (by rw [hl.out]; exact hlt))
        clear E I
        go_wp2_with fail
        (refine wp_region_quiet_below (by kernel_rfl) (by kernel_rfl) ?_
         repeat (any_goals (go_big_quiet_step (first | (go_at_call 116; exact Is.rg (in_any _ _ _ _)))))
         all_goals (refine wpQuiet_nil ?_; intro wq1 hq1; replace hq1 := below_of_rg hq1))
        go_wp2_with fail
        go_ret
        exact ⟨ret_bool HV.out.symm, (hbb.andB hbr).andB hq1⟩
      | true =>
        obtain ⟨r, hr⟩ : ∃ r, r = B (FitP es cs e) := ⟨_, rfl⟩
        have hFT : ∀ d os, Calls Tryz.prog 113 #[.agg #[.int .i64 n, .slice (some ⟨b, o, none⟩) l c], .slice (some ⟨b2, o2, none⟩) l c2, .int .i64 e, .int .i64 (cs e)] (grow (redrawn wr d) os) fun e w'' => e = .returned (.bool r) ∧ ∃ p : Regrown, w'' = grow (redrawn wr p.d) p.os := fun d os =>
          Ret.rg (hr ▸ l02Fits_any n b o l c b2 o2 c2 e es cs _ (E.below (below_regrown _ _ _)) hm HG.out (I.below (below_regrown _ _ _)) hlt)
        have HFT := Lib.hid hFT
        clear hFT E I
        cases r with
        | false =>
          have HV : Hid (colB es cs l = false) := B_false fun x => B_not.1 hr.symm (((colP_iff HG.out.wf).1 x.2 e (by rw [hl.out]; exact hlt)).2)
          clear hr
          go_wp2_with fail
          (refine wp_region_quiet_below (by kernel_rfl) (by kernel_rfl) ?_
           repeat (any_goals (go_big_quiet_step (first | (go_at_call 116; exact Is.rg (in_any _ _ _ _)) | (go_at_call 113; exact HFT.out _ _))))
           all_goals (refine wpQuiet_nil ?_; intro wq1 hq1; replace hq1 := below_of_rg hq1))
          go_wp2_with fail
          go_ret
          exact ⟨ret_bool HV.out.symm, (hbb.andB hbr).andB hq1⟩
        | true =>
          have HF' : Hid (∀ u, u < e + 1 → (0 ≤ cs u ∧ cs u ≤ 2) ∧ FitP es cs u) := fun u hu => by
            by_cases hue : u = e
            · subst hue; exact ⟨inB_iff.1 hA, B_iff.1 hr.symm⟩
            · exact HF.out u (by omega)
          clear hr
          go_wp2_with fail
          (refine wp_region_quiet_below (by kernel_rfl) (by kernel_rfl) ?_
           repeat (any_goals (go_big_quiet_step (first | (go_at_call 116; exact Is.rg (in_any _ _ _ _)) | (go_at_call 113; exact HFT.out _ _))))
           all_goals (refine wpQuiet_nil ?_; intro wq1 hq1; replace hq1 := below_of_rg hq1))
          go_wp2_with fail
          go_roundw
          case rel => exact ⟨e + 1, by omega, by go_num, HF', hbr.andB hq1⟩
          case measure => simp [intOf]; omega
    · obtain rfl : e = l := by omega
      have HV : Hid (colB es cs e = true) := B_true ⟨hl.out.symm, (colP_iff HG.out.wf).2 fun u hu => HF.out u (by rw [hl.out] at hu; exact hu)⟩
      go_wp2_with fail
      go_ret
      exact ⟨ret_bool HV.out.symm, hbb.andB hbr⟩
end Go.Proofs.YtajnhkkiddeegaaGreat
namespace Go.Proofs.YtajnhkkiddeegaaGreat
open Go.RowKit Go.Sort
theorem enC1 : Enters 118 := fun args w => by kernel_rfl
theorem infS : (Tryz.prog.info? 81).map (fun i => (i.zero, i.size, i.bytes)) = some (some (.int .u64 0), 1, 8) := by kernel_rfl
theorem isColour_any (a : Int) (w : World) : Calls Tryz.prog 118 #[.int .i64 a] w (Is (.bool (inB a 0 2)) w) := by
  go_enter Tryz.func118, Tryz.ntmps118
  go_wp2_with (go_at_call 124; refine (within_any _ _ _ _).mono ?_; rintro e w' ⟨rfl, rfl⟩)
  go_ret
  exact ⟨rfl, rfl⟩
theorem seenS_succ (es : List (Int × Int)) (cs : Nat → Int) (i k : Nat) (hk : k < 2) (v : Int) : seenS es cs (2 * i + k + 1) v = if vE es (2 * i + k) = v then seenS es cs (2 * i + k) v ||| 2 ^ (cs i).toNat else seenS es cs (2 * i + k) v := by
  simp only [seenS, show (2 * i + k) / 2 = i by omega]
set_option maxRecDepth 100000 in
set_option maxHeartbeats 2000000 in
theorem isColouring_any (n : Int) (b o m c b2 o2 l c2 : Nat) (es : List (Int × Int)) (cs : Nat → Int) (w : World) (h : Eds w b o m es) (hm : m ≤ 1048576) (hG : IsG n es) (h2 : Ints w b2 o2 l cs) (hl2 : l ≤ 1048576) :
    Calls Tryz.prog 67 #[.agg #[.int .i64 n, .slice (some ⟨b, o, none⟩) m c], .slice (some ⟨b2, o2, none⟩) l c2] w (Ret (.bool (colB es cs l)) w) := by
  have KC := cell_rg
  have hl := Lib.hid h.len
  have HW := Lib.hid hG.wf
  have hn2 := hG.wf.1
  have hn20 := hG.wf.2.1
  have hbb := (by go_grown : Below w.heap.size w (w.alloc (.cells #[.int .i64 n, .slice (some ⟨b, o, none⟩) m c] 26)))
  have hbx := Box2.made w (.int .i64 n) (.slice (some ⟨b, o, none⟩) m c) 26
  have HIM := Lib.hid (implIs_any n b o m c es _ (h.alloc (.cells #[.int .i64 n, .slice (some ⟨b, o, none⟩) m c] 26)) hm)
  rw [B_true hG] at HIM
  clear hG
  by_cases hlm : l = m
  rotate_left
  · have HV : Hid (colB es cs l = false) := B_false fun x => hlm (by rw [x.1, hl.out])
    have hne : ((l : Int) != m) = true := by simp; omega
    go_enter Tryz.func67, Tryz.ntmps67
    go_wp2_with fail
    refine HIM.out.mono ?_
    rintro e w1 ⟨rfl, hb1⟩
    obtain ⟨s1, p1, q1⟩ := hbx.below hb1
    go_wp2_with fail
    go_ret
    exact ⟨ret_bool HV.out.symm, hbb.thenB (by simp) hb1⟩
  subst hlm
  obtain ⟨r, hr⟩ : ∃ r, r = allB l (fun j => inB (cs j) 0 2) := ⟨_, rfl⟩
  have hAR := fun W (I : Ints W b2 o2 l cs) => hr ▸ areAllL_any 118 #[] (fun j => inB (cs j) 0 2) b2 o2 l c2 cs W I hm enC1 (fun j _ w' _ => Is.ret (isColour_any (cs j) w'))
  have HAR := Lib.hid hAR
  clear hAR
  cases r with
  | false =>
    have HV : Hid (colB es cs l = false) := B_false fun x => allB_not.1 hr.symm fun j hj => inB_iff.2 (x.2.1 j (by rw [hl.out]; exact hj))
    clear hr
    go_enter Tryz.func67, Tryz.ntmps67
    go_wp2_with fail
    refine HIM.out.mono ?_
    rintro e w1 ⟨rfl, hb1⟩
    obtain ⟨s1, p1, q1⟩ := hbx.below hb1
    have hB1 := hbb.thenB (by simp) hb1
    clear hb1 hbx hbb
    go_wp2_with fail
    refine (HAR.out _ (h2.below hB1)).mono ?_
    rintro e w2 ⟨rfl, hb2⟩
    go_wp2_with fail
    go_ret
    exact ⟨ret_bool HV.out.symm, hB1.andB hb2⟩
  | true =>
    have HC := Lib.hid (show ∀ e, e < l → 0 ≤ cs e ∧ cs e ≤ 2 from fun e he => inB_iff.1 (allB_iff.1 hr.symm e he))
    clear hr
    obtain ⟨N, rfl⟩ : ∃ N : Nat, n = N := ⟨n.toNat, by omega⟩
    have hmk := run_make_row' (P := Tryz.prog) 103 81 (.int .u64 0) 8 Tryz.underlying103 infS rfl .i64 .i64 N (by omega) (by omega)
    go_enter Tryz.func67, Tryz.ntmps67
    go_wp2_with fail
    refine HIM.out.mono ?_
    rintro e w1 ⟨rfl, hb1⟩
    obtain ⟨s1, p1, q1⟩ := hbx.below hb1
    have hB1 := hbb.thenB (by simp) hb1
    clear hb1 hbx hbb
    go_wp2_with fail
    refine (HAR.out _ (h2.below hB1)).mono ?_
    rintro e w2 ⟨rfl, hb2⟩
    obtain ⟨s1, p1, q1⟩ := Box2.below ⟨s1, p1, q1⟩ hb2
    have hB2 := hB1.andB hb2
    clear hb2 hB1 HIM HAR
    go_wp2_with fail
    have R := World.rowIs_made w2 (.int .u64 0) N 81
    have hb3 : Below w2.heap.size w2 (w2.alloc (.cells (madeCells #[.int .u64 0] N) 81)) := (Below.refl _ _).alloc (Nat.le_refl _) _
    obtain ⟨w3, hw3⟩ : ∃ w3, w3 = w2.alloc (.cells (madeCells #[.int .u64 0] N) 81) := ⟨_, rfl⟩
    rw [← hw3] at R hb3 ⊢
    clear hw3
    have E2 := h.below hB2
    have I2 := h2.below hB2
    have hbE := E2.blk
    have hbI := I2.blk
    go_loopw [32] (fun iv wv => ∃ i : Nat, i ≤ l ∧ iv = .int .i64 i ∧ Hid (∀ t, t < 2 * i → ¬ ConfP es cs t) ∧ wv.rowIs w2.heap.size 81 N (fun v => .int .u64 (seenS es cs (2 * i) v)) ∧ Below w2.heap.size w2 wv) (fun i _ => l - (intOf i).toNat)
    case atStart => exact ⟨0, by omega, rfl, fun t ht => absurd ht (by omega), R.congr (fun v _ => by simp [seenS]), hb3⟩
    case round =>
      obtain ⟨i, hi, rfl, HF, hrow, hbr⟩ := hrel
      have hsz := hbr.size
      by_cases hlt : i < l
      · have E := E2.upto hbE hbr
        have d1 := E.ca i hlt
        have d2 := E.cb i hlt
        have hbx : Below w2.heap.size w2 (wr.alloc (.cells #[.int .i64 (ea es i), .int .i64 (eb es i)] 78)) := hbr.alloc hsz _
        have hrx := hrow.alloc (.cells #[.int .i64 (ea es i), .int .i64 (eb es i)] 78)
        clear E hbr hrow
        go_wp2_with fail
        obtain ⟨w5, hw5⟩ : ∃ w5, w5 = wr.alloc (.cells #[.int .i64 (ea es i), .int .i64 (eb es i)] 78) := ⟨_, rfl⟩
        rw [← hw5] at hbx hrx ⊢
        clear hw5 d1 d2 hsz
        go_loopw [38] (fun kv wv => ∃ k : Nat, k ≤ 2 ∧ kv = .int .i64 k ∧ Hid (∀ t, t < 2 * i + k → ¬ ConfP es cs t) ∧ wv.rowIs w2.heap.size 81 N (fun v => .int .u64 (seenS es cs (2 * i + k) v)) ∧ Below w2.heap.size w2 wv) (fun k _ => 2 - (intOf k).toNat)
        case atStart => exact ⟨0, by omega, rfl, HF, hrx, hbx⟩
        case round =>
          obtain ⟨k, hk, rfl, HFk, hrow, hbr⟩ := hrel
          have hsz := hbr.size
          by_cases hk2 : k < 2
          · have I := I2.upto hbI hbr
            have c1 := I.c i hlt
            have s3 := I.blk
            have hv := vE_in HW.out (2 * i + k) (by rw [hl.out]; omega)
            obtain ⟨y, hy⟩ : ∃ y : Nat, vE es (2 * i + k) = y := ⟨(vE es (2 * i + k)).toNat, by omega⟩
            have hyN : y < N := by omega
            have hidx : ∀ W, (Instr.index 78 (.agg #[.int .i64 (ea es i), .int .i64 (eb es i)]) (.int .i64 k)).run Tryz.prog W = .ok (.int .i64 y) W := fun W => by
              rw [← hy]
              rcases (show k = 0 ∨ k = 1 by omega) with rfl | rfl
              · rw [Nat.add_zero, vE_0]; kernel_rfl
              · rw [vE_1]; kernel_rfl
            have hci := HC.out i hlt
            obtain ⟨q, hq⟩ : ∃ q : Nat, cs i = q := ⟨(cs i).toNat, by omega⟩
            have hq2 : q ≤ 2 := by omega
            have hss := seenS_succ es cs i k hk2
            have HLT := Lib.hid (show seenS es cs (2 * i + k) y < 18446744073709551616 from seenS_lt _ _ fun s hs => by have := HC.out (s / 2) (by omega); omega)
            have hcf := conf_iff (es := es) (cs := cs) (t := 2 * i + k) (fun s hs => (HC.out (s / 2) (by omega)).1)
            rw [show (2 * i + k) / 2 = i by omega, hq, hy] at hcf
            rw [hq] at c1 hss
            rw [hy, Int.toNat_natCast] at hss
            have r1 := hrow.cell hyN
            have s4 := hrow.lt
            have HSS := Lib.hid hss
            have HCF := Lib.hid hcf
            clear I hv hci hss hcf hq
            cases hh : hasB (seenS es cs (2 * i + k) y) (q : Int) with
            | true =>
              have HV : Hid (colB es cs l = false) := B_false fun x => x.2.2 (2 * i + k) (by rw [hl.out]; omega) (HCF.out.1 hh)
              have hHA : ∀ W, Calls Tryz.prog 105 #[.int .u64 (seenS es cs (2 * i + k) y), .int .i64 q] W (Is (.bool true) W) := fun W => hh ▸ has_any _ q W HLT.out (by omega) (by omega)
              have HHA := Lib.hid hHA
              clear hHA hrow
              go_wp2_with fail
              (refine wp_region_quiet_below (by kernel_rfl) (by kernel_rfl) ?_
               repeat (any_goals (go_big_quiet_step (first | (go_at_call 105; exact Is.rg (HHA.out _)))))
               all_goals (refine wpQuiet_nil ?_; intro wq2 hq2; replace hq2 := below_of_rg hq2))
              go_wp2_with fail
              go_ret
              exact ⟨ret_bool HV.out.symm, (hB2.andB hbr).andB hq2⟩
            | false =>
              have HF' : Hid (∀ t, t < 2 * i + (k + 1) → ¬ ConfP es cs t) := fun t ht => by
                by_cases e : t = 2 * i + k
                · subst e; exact fun hc => by have := HCF.out.2 hc; rw [hh] at this; cases this
                · exact HFk.out t (by omega)
              have hHA : ∀ W, Calls Tryz.prog 105 #[.int .u64 (seenS es cs (2 * i + k) y), .int .i64 q] W (Is (.bool false) W) := fun W => hh ▸ has_any _ q W HLT.out (by omega) (by omega)
              have HHA := Lib.hid hHA
              clear hHA hh
              go_wp2_with fail
              (refine wp_region_quiet_below (by kernel_rfl) (by kernel_rfl) ?_
               repeat (any_goals (go_big_quiet_step (first | (go_at_call 105; exact Is.rg (HHA.out _)))))
               all_goals (refine wpQuiet_nil ?_; intro wq2 hq2; replace hq2 := below_of_rg hq2))
              have hrow2 := hrow.of_block (hq2.block _ hrow.lt)
              have r2 := hrow2.cell hyN
              have f2 := hrow2.frozen y
              have c2' := (hq2.cell (p := ⟨b2, o2 + i, none⟩) s3).trans c1
              have hbq := hbr.thenB hsz hq2
              have s5 : b2 < wq2.heap.size := Nat.lt_of_lt_of_le s3 hq2.size
              have s6 : w2.heap.size < wq2.heap.size := Nat.lt_of_lt_of_le s4 hq2.size
              have hX := wrap_pow (x := q) (by omega)
              have hX2 := pow64 (x := q) (by omega)
              have hss := HSS.out
              obtain ⟨pc, hpc⟩ : ∃ pc : Nat, pc = 2 ^ q := ⟨_, rfl⟩
              rw [← hpc] at hX hX2 hss
              have hor := u64_or_nat _ pc HLT.out hX2
              have HR : Hid (((wq2.setCell ⟨w2.heap.size, y, none⟩ (.int .u64 ((seenS es cs (2 * i + k) y ||| pc : Nat) : Int)))).rowIs w2.heap.size 81 N (fun v => .int .u64 (seenS es cs (2 * i + (k + 1)) v))) := (hrow2.set y _).congr (fun v _ => by
                rw [← Nat.add_assoc, hss]
                by_cases e : v = y
                · subst e; rw [if_pos rfl, if_pos rfl]
                · rw [if_neg e, if_neg (show ¬ (y : Int) = (v : Int) by omega)])
              clear hrow hrow2 r1 c1 hss hpc HSS HCF hX2
              go_wp2_with fail
              go_still_tail 11, (by kernel_rfl)
              change wpList _ _ _ _ _ wq2.drew
              go_wp2_with fail
              go_roundw
              case rel => exact ⟨k + 1, by omega, by go_num, HF', HR.out.drew, (hbq.setCell (Nat.le_refl _) _).drew⟩
              case measure => simp [intOf]; omega
          · obtain rfl : k = 2 := by omega
            go_wp2_with fail
            go_roundw
            case rel => exact ⟨i + 1, by omega, by go_num, HFk, hrow, hbr⟩
            case measure => simp [intOf]; omega
      · obtain rfl : i = l := by omega
        have HV : Hid (colB es cs i = true) := B_true ⟨hl.out.symm, fun e he => HC.out e (by rw [hl.out] at he; exact he), fun t ht => HF.out t (by rw [hl.out] at ht; exact ht)⟩
        go_wp2_with fail
        go_ret
        exact ⟨ret_bool HV.out.symm, hB2.andB hbr⟩
end Go.Proofs.YtajnhkkiddeegaaGreat
namespace Go.Proofs.YtajnhkkiddeegaaGreat
open Go.RowKit Go.Sort
def NewU (base N : Nat) (v : Value) (W : World) : Prop := ∃ g, v = .slice (some ⟨g, 0, none⟩) N N ∧ base ≤ g ∧ W.rowIs g 81 N (fun _ => .int .u64 0)
theorem NewU.below {base N : Nat} {v : Value} {W W' : World} (h : NewU base N v W) (hb : Below W.heap.size W W') : NewU base N v W' := let ⟨g, e, hg, R⟩ := h; ⟨g, e, hg, R.of_block (hb.block _ R.lt)⟩
def PaintV (base N m : Nat) (E L fv v : Value) (W : World) : Prop := ∃ gc gu, v = .agg #[.int .i64 N, E, L, .slice (some ⟨gc, 0, none⟩) m m, .slice (some ⟨gu, 0, none⟩) N N, fv] ∧ base ≤ gc ∧ base ≤ gu ∧ W.rowIs gc 2 m (fun _ => .int .i64 (-1)) ∧ W.rowIs gu 81 N (fun _ => .int .u64 0)
theorem PaintV.below {base N m : Nat} {E L fv v : Value} {W W' : World} (h : PaintV base N m E L fv v W) (hb : Below W.heap.size W W') : PaintV base N m E L fv v W' := let ⟨gc, gu, e, h1, h2, R1, R2⟩ := h; ⟨gc, gu, e, h1, h2, R1.of_block (hb.block _ R1.lt), R2.of_block (hb.block _ R2.lt)⟩
def PaintP (base N m : Nat) (E L fv v : Value) (W : World) : Prop := ∃ gp gc gu, v = .pointer (some ⟨gp, 0, none⟩) ∧ base ≤ gp ∧ base ≤ gc ∧ base ≤ gu ∧ W.heap[gp]? = some (.cells #[.int .i64 N, E, L, .slice (some ⟨gc, 0, none⟩) m m, .slice (some ⟨gu, 0, none⟩) N N, fv] 105 (0, 0)) ∧ W.rowIs gc 2 m (fun _ => .int .i64 (-1)) ∧ W.rowIs gu 81 N (fun _ => .int .u64 0)
theorem PaintP.below {base N m : Nat} {E L fv v : Value} {W W' : World} (h : PaintP base N m E L fv v W) (hb : Below W.heap.size W W') : PaintP base N m E L fv v W' := by
  obtain ⟨gp, gc, gu, e, h0, h1, h2, R0, R1, R2⟩ := h
  exact ⟨gp, gc, gu, e, h0, h1, h2, (hb.block _ (Array.getElem?_eq_some_iff.1 R0).1).trans R0, R1.of_block (hb.block _ R1.lt), R2.of_block (hb.block _ R2.lt)⟩
theorem row_ne {w : World} {b b' : Nat} {x : Array Value} {t t' : TypeId} {fr : Nat × Nat} {n : Nat} {f : Nat → Value} (h : w.heap[b]? = some (.cells x t fr)) (R : w.rowIs b' t' n f) (ht : t ≠ t') : b ≠ b' := by
  rintro rfl
  obtain ⟨c, hc, _, _⟩ := R
  rw [h] at hc
  injection hc with hc
  injection hc with _ h2 _
  exact ht h2
/-- The colours given at first. -/
def nF (L : List Int) : Nat → Nat → Int
  | 0 => fun _ => -1
  | k + 1 => upF (nF L k) (ia L k).toNat k
def nU (es : List (Int × Int)) (L : List Int) : Nat → Nat → Nat
  | 0 => fun _ => 0
  | k + 1 => givU es (nU es L k) (ia L k).toNat k
theorem nU8 (es : List (Int × Int)) (L : List Int) : ∀ k, k ≤ 3 → ∀ v, nU es L k v < 8 := by
  intro k
  induction k with
  | zero => intro _ v; simp [nU]
  | succ k ih =>
    intro hk v
    simp only [nU, givU]
    split
    · exact or8 (ih (by omega) v) (by omega)
    · exact ih (by omega) v
def pF (r : Bool) (L : List Int) : Nat → Int := if r then nF L 3 else fun _ => -1
def pU (r : Bool) (es : List (Int × Int)) (L : List Int) : Nat → Nat := if r then nU es L 3 else fun _ => 0
/-- A painter that lies in memory. -/
structure PO (w w' : World) (bp bc bu N m : Nat) (E L fv : Value) (f : Nat → Int) (U : Nat → Nat) : Prop where
  p0 : w'.cell? ⟨bp, 0, none⟩ = some (.int .i64 N)
  p1 : w'.cell? ⟨bp, 1, none⟩ = some E
  p2 : w'.cell? ⟨bp, 2, none⟩ = some L
  p3 : w'.cell? ⟨bp, 3, none⟩ = some (.slice (some ⟨bc, 0, none⟩) m m)
  p4 : w'.cell? ⟨bp, 4, none⟩ = some (.slice (some ⟨bu, 0, none⟩) N N)
  p5 : w'.cell? ⟨bp, 5, none⟩ = some fv
  pl : bp < w'.heap.size
  hp : w.heap.size ≤ bp
  hc : w.heap.size ≤ bc
  hu : w.heap.size ≤ bu
  n1 : bp ≠ bc
  n2 : bp ≠ bu
  n3 : bc ≠ bu
  rc : w'.rowIs bc 2 m (fun j => .int .i64 (f j))
  ru : w'.rowIs bu 81 N (fun j => .int .u64 (U j))
  bel : Below w.heap.size w w'
theorem PO.ps {w w' : World} {bp bc bu N m : Nat} {A : Option Addr} {cA : Nat} {L : List Nat} {b o c : Nat} {es : List (Int × Int)} {fv : Value} {f : Nat → Int} {U : Nat → Nat} {S : Nat → Prop}
    (h : PO w w' bp bc bu N m (.slice (some ⟨b, o, none⟩) m c) (.slice A L.length cA) fv f U) (E : Eds w b o m es) (I : SrcI w A L.length (fun j => ((L.getD j 0 : Nat) : Int))) (hA : ∀ g, blkOf A = some g → g < w.heap.size) (hL : ∀ d, d ∈ L → d < m)
    (hS : ∀ k, S k → k < w.heap.size) (hSb : ¬ S b) (hSA : ∀ g, blkOf A = some g → ¬ S g) : PS w' S bp bc bu N m A cA L b o c m N es fv where
  p0 := h.p0
  p1 := h.p1
  p2 := h.p2
  p3 := h.p3
  p4 := h.p4
  p5 := h.p5
  pl := h.pl
  E := E.below h.bel
  I := SrcI.below I h.bel
  hL := hL
  np := by
    rintro (e | e | e)
    · exact h.n1 e
    · exact h.n2 e
    · have := hS _ e; have := h.hp; omega
  nb := by
    rintro (e | e | e)
    · have := E.blk; have := h.hc; omega
    · have := E.blk; have := h.hu; omega
    · exact hSb e
  nA := fun g hg => by
    rintro (e | e | e)
    · have := hA g hg; have := h.hc; omega
    · have := hA g hg; have := h.hu; omega
    · exact hSA g hg e
  ne := h.n3
theorem PO.pw {w w' : World} {bp bc bu N m : Nat} {E L fv : Value} {f : Nat → Int} {U : Nat → Nat} {S : Nat → Prop} (h : PO w w' bp bc bu N m E L fv f U) : PW w' S bc bu N m f U w' := ⟨Kept.refl _ _, h.rc, h.ru⟩
/-- After a colour is given. -/
theorem PO.next {w w1 w2 : World} {bp bc bu N m : Nat} {E L fv : Value} {f f' : Nat → Int} {U U' : Nat → Nat} (h : PO w w1 bp bc bu N m E L fv f U) (P : PW w1 (fun _ => False) bc bu N m f' U' w2) : PO w w2 bp bc bu N m E L fv f' U' :=
  have hn : ¬ Mut (fun _ => False) bc bu bp := by
    rintro (e | e | e)
    · exact h.n1 e
    · exact h.n2 e
    · exact e
  ⟨(P.k.cell h.pl hn 0).trans h.p0, (P.k.cell h.pl hn 1).trans h.p1, (P.k.cell h.pl hn 2).trans h.p2, (P.k.cell h.pl hn 3).trans h.p3, (P.k.cell h.pl hn 4).trans h.p4, (P.k.cell h.pl hn 5).trans h.p5, P.k.lt h.pl, h.hp, h.hc, h.hu, h.n1, h.n2, h.n3, P.rc, P.ru,
    h.bel.trans (P.k.below h.bel.size (fun k hk => by
      rcases hk with e | e | e
      · have := h.hc; omega
      · have := h.hu; omega
      · exact absurd e id))⟩
theorem PO.below {w w1 w2 : World} {bp bc bu N m : Nat} {E L fv : Value} {f : Nat → Int} {U : Nat → Nat} (h : PO w w1 bp bc bu N m E L fv f U) (hb : Below w1.heap.size w1 w2) : PO w w2 bp bc bu N m E L fv f U :=
  h.next ⟨Kept.of hb, h.rc.of_block (hb.block _ h.rc.lt), h.ru.of_block (hb.block _ h.ru.lt)⟩
theorem PO.old {w0 w w1 : World} {bp bc bu N m : Nat} {E L fv : Value} {f : Nat → Int} {U : Nat → Nat} (h : PO w w1 bp bc bu N m E L fv f U) (hb : Below w0.heap.size w0 w) : PO w0 w1 bp bc bu N m E L fv f U :=
  have hs := hb.size
  ⟨h.p0, h.p1, h.p2, h.p3, h.p4, h.p5, h.pl, Nat.le_trans hs h.hp, Nat.le_trans hs h.hc, Nat.le_trans hs h.hu, h.n1, h.n2, h.n3, h.rc, h.ru, hb.andB h.bel⟩
theorem Kept.ownL {S : Nat → Prop} {w w' : World} (h : Kept S w w') {base : Nat} {A : Option Addr} {m c : Nat} {xs : List Int} (O : OwnL base w A m c xs) (hs : ∀ g, blkOf A = some g → ¬ S g) : OwnL base w' A m c xs := by
  refine ⟨O.1, O.2.1, ?_⟩
  rcases O.2.2 with hn | ⟨g, cap, cur, e, hb, hh, r⟩
  · exact .inl hn
  · refine .inr ⟨g, cap, cur, e, hb, (h.block g (Array.getElem?_eq_some_iff.1 hh).1 (hs g ?_)).trans hh, r⟩
    injection e with e1 _ _
    rw [e1]; rfl
set_option maxRecDepth 100000 in
set_option maxHeartbeats 4000000 in
theorem painterOf_any (N b o m c : Nat) (es : List (Int × Int)) (A : Option Addr) (cA : Nat) (L : List Nat) (r : Bool) (fid : FuncId) (caps : Array Value) (w : World) (h : Eds w b o m es) (hm : m ≤ 1048576) (hG : IsG N es) (I : SrcI w A L.length (fun j => ((L.getD j 0 : Nat) : Int))) (hA : ∀ g, blkOf A = some g → g < w.heap.size) (hL : ∀ d, d ∈ L → d < m) :
    Calls Tryz.prog 54 #[.agg #[.int .i64 N, .slice (some ⟨b, o, none⟩) m c], .slice A L.length cA, .bool r, .func (.func fid) #[] caps] w (fun e w' => ∃ bp bc bu, e = .returned (.pointer (some ⟨bp, 0, none⟩)) ∧ PO w w' bp bc bu N m (.slice (some ⟨b, o, none⟩) m c) (.slice A L.length cA) (.func (.func fid) #[] caps) (pF r (atL es 0)) (pU r es (atL es 0))) := by
  have hbox := Box2.made w (.int .i64 N) (.slice (some ⟨b, o, none⟩) m c) 26
  have hbb := (by go_grown : Below w.heap.size w (w.alloc (.cells #[.int .i64 N, .slice (some ⟨b, o, none⟩) m c] 26)))
  have hl := Lib.hid h.len
  have HG := Lib.hid hG
  have hn2 := hG.wf.1
  have hn20 := hG.wf.2.1
  have hm30 : m ≤ 30 ∧ 3 ≤ m := by have := hG.wf.2.2.2.1; have := hl.out; omega
  have hm1 := hm30.1
  have hm2 := hm30.2
  have HI := Lib.hid I
  have HA := Lib.hid hA
  have HL := Lib.hid hL
  obtain ⟨l, hll⟩ : ∃ l, l = L.length := ⟨_, rfl⟩
  have HLL := Lib.hid hll
  rw [← hll]
  clear hG I hA hL hm30 hll
  have hmk := run_make_row' (P := Tryz.prog) 103 81 (.int .u64 0) 8 Tryz.underlying103 infS rfl .i64 .i64 N (by omega) (by omega)
  go_enter Tryz.func54, Tryz.ntmps54
  go_wp2_with fail
  obtain ⟨w1, hw1⟩ : ∃ w1, w1 = w.alloc (Obj.cells #[Value.int IntKind.i64 N, Value.slice (some ⟨b, o, none⟩) m c] 26) := ⟨_, rfl⟩
  rw [← hw1] at hbb hbox ⊢
  clear hw1
  obtain ⟨s1, p1, q1⟩ := hbox
  refine wp_region_facts (fun i v W => match i with
    | 0 => v = .agg #[.int .i64 N, .slice (some ⟨b, o, none⟩) m c]
    | 1 => v = .slice A l cA
    | 2 => NewS (-1) v W
    | 3 => v = .pointer (some ⟨w.heap.size, 1, none⟩)
    | 4 => v = .slice (some ⟨b, o, none⟩) m c
    | 5 => v = .int .i64 m
    | 6 => NewI w1.heap.size (m) (fun _ => -1) v W
    | 7 => v = .pointer (some ⟨w.heap.size, 0, none⟩)
    | 8 => v = .int .i64 N
    | 9 => NewU w1.heap.size N v W
    | 10 => v = .func (.func fid) #[] caps
    | 11 => PaintV w1.heap.size N m (.slice (some ⟨b, o, none⟩) m c) (.slice A l cA) (.func (.func fid) #[] caps) v W
    | 12 => PaintP w1.heap.size N m (.slice (some ⟨b, o, none⟩) m c) (.slice A l cA) (.func (.func fid) #[] caps) v W
    | _ => PaintP w1.heap.size N m (.slice (some ⟨b, o, none⟩) m c) (.slice A l cA) (.func (.func fid) #[] caps) v W) (by kernel_rfl) (by kernel_rfl) ?_ ?_ ?_
  · intro i v W W' hf hb
    match i, hf with
    | 0, hf => exact hf
    | 1, hf => exact hf
    | 2, hf => exact NewS.below hf hb
    | 3, hf => exact hf
    | 4, hf => exact hf
    | 5, hf => exact hf
    | 6, hf => exact NewI.below hf hb
    | 7, hf => exact hf
    | 8, hf => exact hf
    | 9, hf => exact NewU.below hf hb
    | 10, hf => exact hf
    | 11, hf => exact PaintV.below hf hb
    | 12, hf => exact PaintP.below hf hb
    | (i + 13), hf => exact PaintP.below hf hb
  · refine ⟨?_, ?_, ?_, ?_, ?_, ?_, ?_, ?_, ?_, ?_, ?_, ?_, ?_, ?_, trivial⟩
    · intro a W hW hs hd
      have e4 : a.tmps[4]?.getD undef = .pointer (some ⟨w.heap.size, 0, none⟩) := hs 4 (by kernel_rfl)
      have k0 := (hW.cell (p := ⟨w.heap.size, 0, none⟩) (s1)).trans (p1)
      have k1 := (hW.cell (p := ⟨w.heap.size, 1, none⟩) (s1)).trans (q1)
      clear hs hd
      unfold Grows
      go_simp
      exact Below.refl _ _
    · intro a W hW hs hd
      have e1 : a.tmps[1]?.getD undef = .slice A l cA := hs 1 (by kernel_rfl)
      clear hs hd
      unfold Grows
      go_simp
      exact Below.refl _ _
    · intro a W hW hs hd
      clear hs hd
      unfold Grows
      go_simp
      exact ⟨(Below.refl _ _).alloc (Nat.le_refl _) _, _, rfl, ints1 _ _ _⟩
    · intro a W hW hs hd
      have e4 : a.tmps[4]?.getD undef = .pointer (some ⟨w.heap.size, 0, none⟩) := hs 4 (by kernel_rfl)
      have k0 := (hW.cell (p := ⟨w.heap.size, 0, none⟩) (s1)).trans (p1)
      have k1 := (hW.cell (p := ⟨w.heap.size, 1, none⟩) (s1)).trans (q1)
      clear hs hd
      unfold Grows
      go_simp
      exact Below.refl _ _
    · intro a W hW hs hd
      have e15 : (a.tmps[15]?.getD undef) = .pointer (some ⟨w.heap.size, 1, none⟩) := hd 3 15 (by kernel_rfl) (by kernel_rfl)
      have k0 := (hW.cell (p := ⟨w.heap.size, 0, none⟩) (s1)).trans (p1)
      have k1 := (hW.cell (p := ⟨w.heap.size, 1, none⟩) (s1)).trans (q1)
      clear hs hd
      unfold Grows
      go_simp
      exact Below.refl _ _
    · intro a W hW hs hd
      have e16 : (a.tmps[16]?.getD undef) = .slice (some ⟨b, o, none⟩) m c := hd 4 16 (by kernel_rfl) (by kernel_rfl)
      clear hs hd
      unfold Grows
      go_simp
      exact Below.refl _ _
    · intro a W hW hs hd
      have e14 : NewS (-1) (a.tmps[14]?.getD undef) W := hd 2 14 (by kernel_rfl) (by kernel_rfl)
      obtain ⟨g14, e14, I14⟩ := e14
      have e17 : (a.tmps[17]?.getD undef) = .int .i64 m := hd 5 17 (by kernel_rfl) (by kernel_rfl)
      clear hs hd
      unfold Grows
      go_simp
      refine ⟨Below.refl _ _, (repeat_any m (-1) _ _ _ W I14 (by omega) (by omega)).mono ?_⟩
      rintro e w6 ⟨g6, rfl, hg6, R6, hb6⟩
      exact ⟨_, rfl, hb6, g6, rfl, Nat.le_trans (hW.size) hg6, R6⟩
    · intro a W hW hs hd
      have e4 : a.tmps[4]?.getD undef = .pointer (some ⟨w.heap.size, 0, none⟩) := hs 4 (by kernel_rfl)
      have k0 := (hW.cell (p := ⟨w.heap.size, 0, none⟩) (s1)).trans (p1)
      have k1 := (hW.cell (p := ⟨w.heap.size, 1, none⟩) (s1)).trans (q1)
      clear hs hd
      unfold Grows
      go_simp
      exact Below.refl _ _
    · intro a W hW hs hd
      have e19 : (a.tmps[19]?.getD undef) = .pointer (some ⟨w.heap.size, 0, none⟩) := hd 7 19 (by kernel_rfl) (by kernel_rfl)
      have k0 := (hW.cell (p := ⟨w.heap.size, 0, none⟩) (s1)).trans (p1)
      have k1 := (hW.cell (p := ⟨w.heap.size, 1, none⟩) (s1)).trans (q1)
      clear hs hd
      unfold Grows
      go_simp
      exact Below.refl _ _
    · intro a W hW hs hd
      have e20 : (a.tmps[20]?.getD undef) = .int .i64 N := hd 8 20 (by kernel_rfl) (by kernel_rfl)
      clear hs hd
      unfold Grows
      go_simp
      exact ⟨(Below.refl _ _).alloc (Nat.le_refl _) _, _, rfl, hW.size, World.rowIs_made _ _ _ _⟩
    · intro a W hW hs hd
      have e3 : a.tmps[3]?.getD undef = .func (.func fid) #[] caps := hs 3 (by kernel_rfl)
      clear hs hd
      unfold Grows
      go_simp
      exact Below.refl _ _
    · intro a W hW hs hd
      have e12 : (a.tmps[12]?.getD undef) = .agg #[.int .i64 N, .slice (some ⟨b, o, none⟩) m c] := hd 0 12 (by kernel_rfl) (by kernel_rfl)
      have e13 : (a.tmps[13]?.getD undef) = .slice A l cA := hd 1 13 (by kernel_rfl) (by kernel_rfl)
      have e18 : NewI w1.heap.size (m) (fun _ => -1) (a.tmps[18]?.getD undef) W := hd 6 18 (by kernel_rfl) (by kernel_rfl)
      obtain ⟨g18, e18, hg18, R18⟩ := e18
      have e21 : NewU w1.heap.size N (a.tmps[21]?.getD undef) W := hd 9 21 (by kernel_rfl) (by kernel_rfl)
      obtain ⟨g21, e21, hg21, R21⟩ := e21
      have e22 : (a.tmps[22]?.getD undef) = .func (.func fid) #[] caps := hd 10 22 (by kernel_rfl) (by kernel_rfl)
      clear hs hd
      unfold Grows
      go_simp
      exact ⟨Below.refl _ _, g18, g21, rfl, hg18, hg21, R18, R21⟩
    · intro a W hW hs hd
      have e23 : PaintV w1.heap.size N m (.slice (some ⟨b, o, none⟩) m c) (.slice A l cA) (.func (.func fid) #[] caps) (a.tmps[23]?.getD undef) W := hd 11 23 (by kernel_rfl) (by kernel_rfl)
      obtain ⟨gc, gu, e23, hgc, hgu, Rc, Ru⟩ := e23
      clear hs hd
      unfold Grows
      go_simp
      exact ⟨(Below.refl _ _).alloc (Nat.le_refl _) _, _, gc, gu, rfl, hW.size, hgc, hgu, heap_alloc_new _ _, Rc.alloc _, Ru.alloc _⟩
    · intro a W hW hs hd
      have e24 : PaintP w1.heap.size N m (.slice (some ⟨b, o, none⟩) m c) (.slice A l cA) (.func (.func fid) #[] caps) (a.tmps[24]?.getD undef) W := hd 12 24 (by kernel_rfl) (by kernel_rfl)
      obtain ⟨gp, gc, gu, e24, hgp, hgc, hgu, Rp, Rc, Ru⟩ := e24
      clear hs hd
      unfold Grows
      go_simp
      exact ⟨Below.refl _ _, gp, gc, gu, rfl, hgp, hgc, hgu, Rp, Rc, Ru⟩
  intro vs W hW hf
  have f9 : PaintP w1.heap.size N m (.slice (some ⟨b, o, none⟩) m c) (.slice A l cA) (.func (.func fid) #[] caps) (vs 9) W := hf 13 9 (by kernel_rfl)
  obtain ⟨gp, gc, gu, f9, hgp, hgc, hgu, Rp, Rc, Ru⟩ := f9
  simp only [dsts, List.filterMap_cons, List.filterMap_nil, List.foldl_cons, List.foldl_nil, Act.put, List.setIfInBounds_toArray, List.set_cons_succ, List.set_cons_zero, f9]
  clear hf

  have po : PO w1 W gp gc gu N m (.slice (some ⟨b, o, none⟩) m c) (.slice A l cA) (.func (.func fid) #[] caps) (fun _ => -1) (fun _ => 0) :=
    ⟨cell_of_row W gp _ _ _ _ Rp, cell_of_row W gp _ _ _ _ Rp, cell_of_row W gp _ _ _ _ Rp, cell_of_row W gp _ _ _ _ Rp, cell_of_row W gp _ _ _ _ Rp, cell_of_row W gp _ _ _ _ Rp, (Array.getElem?_eq_some_iff.1 Rp).1, hgp, hgc, hgu, row_ne Rp Rc (by decide), row_ne Rp Ru (by decide), (by
      obtain ⟨x, hx, _, _⟩ := Rc
      exact row_ne hx Ru (by decide)), Rc, Ru, hW⟩
  have hbW := hbb.andB hW
  have k0 := (hW.cell (p := ⟨w.heap.size, 0, none⟩) s1).trans p1
  have k1 := (hW.cell (p := ⟨w.heap.size, 1, none⟩) s1).trans q1
  have sW : w.heap.size < W.heap.size := Nat.lt_of_lt_of_le s1 hW.size
  clear p1 q1 Rp Rc Ru f9 hgp hgc hgu hmk
  cases r with
  | false =>
    have po2 := po.old hbb
    go_wp2_with fail
    go_ret
    exact ⟨gp, gc, gu, rfl, po2⟩
  | true =>
    have E := h.below hbW
    have HAT := Lib.hid (at_any N b o m c es 0 _ E hm)
    have hL3 : (atL es 0).length = 3 := atL_3 HG.out (by omega) (by omega)
    have HK := Lib.hid (fun k (hk : k < 3) => atL_at (es := es) (u := 0) (k := k) (by rw [hL3]; exact hk))
    obtain ⟨L0, hL0⟩ : ∃ L0, L0 = atL es 0 := ⟨_, rfl⟩
    have HPF : Hid (pF true (atL es 0) = nF L0 3 ∧ pU true es (atL es 0) = nU es L0 3) := by rw [hL0]; exact ⟨rfl, rfl⟩
    rw [← hL0] at HAT hL3 HK
    have HL3 := Lib.hid hL3
    clear hL0 E
    go_wp2_with fail
    refine HAT.out.mono ?_
    rintro e w2 ⟨A2, c2, rfl, O2, hb2⟩
    rw [HL3.out] at O2 ⊢
    have po2 := po.below hb2
    have gcW := po.rc.lt
    have guW := po.ru.lt
    have c33 : ((3 : Nat) : Int) = 3 := rfl
    clear po k0 k1 hL3 HAT hW hbW
    go_wp2_with fail
    go_loopw [29] (fun kv wv => ∃ k : Nat, k ≤ 3 ∧ kv = .int .i64 k ∧ PO w1 wv gp gc gu N m (.slice (some ⟨b, o, none⟩) m c) (.slice A l cA) (.func (.func fid) #[] caps) (nF L0 k) (nU es L0 k) ∧ OwnL W.heap.size wv A2 3 c2 L0 ∧ (∀ g, blkOf A2 = some g → g ≠ gc ∧ g ≠ gu)) (fun k _ => 3 - (intOf k).toNat)
    case atStart => exact ⟨0, by omega, rfl, po2, O2, fun g hg => by
      have := (O2.blk g hg).1
      omega⟩
    case round =>
      clear po2 O2
      obtain ⟨k, hk, rfl, P, O, hne⟩ := hrel
      by_cases hk3 : k < 3
      · obtain ⟨d, hd, e, hv⟩ := HK.out k hk3
        rw [hl.out] at hd
        obtain ⟨g3, o3, rfl, I3⟩ := O.src (by omega)
        have i1 := I3.c k hk3
        rw [e] at i1
        have hpsb : PS wr (fun _ => False) gp gc gu N m A cA L b o c m N es (.func (.func fid) #[] caps) := by
          have P' := P.old hbb
          rw [HLL.out] at P'
          exact P'.ps h HI.out HA.out HL.out (fun _ h => absurd h id) id (fun _ _ => id)
        have HPS := Lib.hid hpsb
        have HNX : Hid (nF L0 (k + 1) = upF (nF L0 k) d k ∧ nU es L0 (k + 1) = givU es (nU es L0 k) d k) := by
          constructor <;> simp only [nF, nU, e, Int.toNat_natCast]
        have h8 := nU8 es L0 k hk
        clear hpsb I3 e
        go_wp2_with fail
        refine (give_any HPS.out HG.out.wf (nF L0 k) (nU es L0 k) d k _ P.pw hd hk3 h8).mono ?_
        rintro e w5 ⟨rfl, P5⟩
        have P6 := P.next P5
        have O6 : OwnL W.heap.size w5 (some ⟨g3, o3, none⟩) 3 c2 L0 := by
          refine P5.two.ownL O (fun g hg hm => ?_)
          have := hne g hg
          omega
        clear P P5 O i1
        go_wp2_with fail
        go_roundw
        case rel => exact ⟨k + 1, by omega, by go_num, by rw [HNX.out.1, HNX.out.2]; exact P6, O6, hne⟩
        case measure => simp [intOf]; omega
      · obtain rfl : k = 3 := by omega
        have po2 := P.old hbb
        go_wp2_with fail
        go_ret
        rw [HPF.out.1, HPF.out.2]
        exact ⟨gp, gc, gu, rfl, po2⟩
end Go.Proofs.YtajnhkkiddeegaaGreat
