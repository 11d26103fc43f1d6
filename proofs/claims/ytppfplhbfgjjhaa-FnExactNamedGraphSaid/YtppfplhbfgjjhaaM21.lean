import Derived.Test.YtppfplhbfgjjhaaM20
import Derived.Test.YtppfplhbfgjjhaaM15
import Derived.Test.YtppfplhbfgjjhaaM8
namespace Go.Proofs.Ytppfplhbfgjjhaa
open Go.RowKit Go.Sort
/-! ### The edges of the parts -/
def natL (xs : List Nat) : List Int := xs.map fun j : Nat => (j : Int)
theorem natL_len (xs : List Nat) : (natL xs).length = xs.length := by simp [natL]
theorem natL_at (xs : List Nat) (j : Nat) : ia (natL xs) j = ((xs.getD j 0 : Nat) : Int) := by
  simp only [ia, natL, List.getD_eq_getElem?_getD, List.getElem?_map]
  cases xs[j]? <;> rfl
theorem natL_app (xs : List Nat) (k : Nat) : natL (xs ++ [k]) = natL xs ++ [(k : Int)] := by simp [natL]
/-- The edges (of the first so many) whose lesser vertex is in a list. -/
noncomputable def inTo (es : List (Int × Int)) (r : List Int) : Nat → List Nat
  | 0 => []
  | k + 1 => inTo es r k ++ (if B (ea es k ∈ r) then [k] else [])
theorem inTo_yes {es : List (Int × Int)} {r : List Int} {k : Nat} (h : ea es k ∈ r) : inTo es r (k + 1) = inTo es r k ++ [k] := by simp only [inTo]; rw [if_pos (B_true h)]
theorem inTo_no {es : List (Int × Int)} {r : List Int} {k : Nat} (h : ¬ ea es k ∈ r) : inTo es r (k + 1) = inTo es r k := by simp only [inTo]; rw [if_neg (by rw [B_false h]; decide), List.append_nil]
theorem inTo_len (es : List (Int × Int)) (r : List Int) (k : Nat) : (inTo es r k).length ≤ k := by
  induction k with
  | zero => simp [inTo]
  | succ k ih => simp only [inTo, List.length_append]; split <;> simp <;> omega
theorem mem_inTo {es : List (Int × Int)} {r : List Int} {d : Nat} : ∀ {k : Nat}, d ∈ inTo es r k ↔ d < k ∧ ea es d ∈ r := by
  intro k
  induction k with
  | zero => simp [inTo]
  | succ k ih =>
    simp only [inTo, List.mem_append, ih]
    constructor
    · rintro (h | h)
      · exact ⟨by omega, h.2⟩
      · split at h
        · rename_i hb
          obtain rfl : d = k := by simpa using h
          exact ⟨by omega, B_iff.1 hb⟩
        · simp at h
    · rintro ⟨h1, h2⟩
      by_cases e : d = k
      · subst e; right; rw [if_pos (B_true h2)]; simp
      · exact .inl ⟨by omega, h2⟩
theorem inTo_asc (es : List (Int × Int)) (r : List Int) (k : Nat) : (inTo es r k).Pairwise (· < ·) := by
  induction k with
  | zero => simp [inTo]
  | succ k ih =>
    simp only [inTo]
    split
    · rw [List.pairwise_append]
      exact ⟨ih, by simp, fun a ha b hb => by obtain rfl : b = k := by simpa using hb
                                              exact (mem_inTo.1 ha).1⟩
    · simpa using ih
noncomputable def peR (es : List (Int × Int)) (rows : List (List Int)) (m : Nat) : Nat → List (List Int)
  | 0 => []
  | j + 1 => peR es rows m j ++ [natL (inTo es (ra rows j) m)]
theorem peR_len (es : List (Int × Int)) (rows : List (List Int)) (m : Nat) : ∀ j, (peR es rows m j).length = j := by
  intro j
  induction j with
  | zero => rfl
  | succ j ih => simp [peR, ih]
theorem peR_at (es : List (Int × Int)) (rows : List (List Int)) (m : Nat) : ∀ j i, i < j → ra (peR es rows m j) i = natL (inTo es (ra rows i) m) := by
  intro j
  induction j with
  | zero => intro i h; omega
  | succ j ih =>
    intro i hi
    rw [peR]
    by_cases e : i < j
    · rw [ra_app_lt (by rw [peR_len]; exact e)]; exact ih i e
    · obtain rfl : i = j := by omega
      have : ra (peR es rows m i ++ [natL (inTo es (ra rows i) m)]) (peR es rows m i).length = natL (inTo es (ra rows i) m) := ra_app_at
      rwa [peR_len] at this
set_option maxRecDepth 100000 in
set_option maxHeartbeats 4000000 in
theorem partEdges_any (n : Int) (b o m c : Nat) (es : List (Int × Int)) (w : World) (h : Eds w b o m es) (hm : m ≤ 1048576) (hn : WfP n es) :
    Calls Try.prog 110 #[.agg #[.int .i64 n, .slice (some ⟨b, o, none⟩) m c]] w (RetLL (peR es (sdTo es noSk n.toNat n.toNat) m (sdTo es noSk n.toNat n.toNat).length) w) := by
  have hbox := Box2.made w (.int .i64 n) (.slice (some ⟨b, o, none⟩) m c) 30
  have hbb := (by go_grown : Below w.heap.size w (w.alloc (.cells #[.int .i64 n, .slice (some ⟨b, o, none⟩) m c] 30)))
  have hl := Lib.hid h.len
  have HW := Lib.hid hn
  have hn2 := hn.1
  have hn20 := hn.2.1
  have hm30 : m ≤ 30 := by have := hn.2.2.2.1; have := hl.out; omega
  have HSD := Lib.hid (sides_any n b o m c 0 es _ (h.below hbb) hm hn (by decide))
  rw [skS_none] at HSD
  obtain ⟨N, rfl⟩ : ∃ N : Nat, n = N := ⟨n.toNat, by omega⟩
  rw [Int.toNat_natCast] at HSD ⊢
  obtain ⟨rows, hrw⟩ : ∃ rows, rows = sdTo es noSk N N := ⟨_, rfl⟩
  have hlr20 : rows.length ≤ 20 := by rw [hrw, sdTo_len]; have := ldCnt_le es noSk N; omega
  have HRW : Hid (∀ j, j < rows.length → 0 < (ra rows j).length ∧ (ra rows j).length ≤ 20 ∧ ∀ i, i < (ra rows j).length → 0 ≤ ia (ra rows j) i ∧ ia (ra rows j) i ≤ 63) := fun j hj => by
    rw [hrw] at hj ⊢
    obtain ⟨v, hv, _, e⟩ := sd_row (Nat.le_refl N) j hj
    rw [e]
    exact ⟨cm_pos hv, by have := cmTo_len es noSk v N; omega, fun i hi => by have := cm_rng hi; omega⟩
  rw [← hrw] at HSD ⊢
  clear hn hrw
  have hPL := Lib.hid (peR_len es rows m)
  go_enter Try.func110, Try.ntmps110
  go_wp2_with fail
  refine HSD.out.mono ?_
  rintro e w1 ⟨A, c1, rfl, O, hb1⟩
  have hB1 := hbb.thenB (by simp) hb1
  obtain ⟨s1, p1, q1⟩ := hbox.below hb1
  have hE := h.below hB1
  clear hb1 hbb hbox HSD
  go_wp2_with fail
  have O0 := OwnLL.nil w1.heap.size w1
  go_loopw [3, 13] (fun lv iv wr => ∃ (j : Nat) (A' : Option Addr) (c' : Nat), j ≤ rows.length ∧ iv = .int .i64 j ∧ lv = .slice A' j c' ∧ OwnLL w1.heap.size wr.heap.size wr A' j c' (peR es rows m j) ∧ Below w1.heap.size w1 wr) (fun _ i _ => rows.length - (intOf i).toNat)
  case atStart => exact ⟨0, _, _, Nat.zero_le _, rfl, rfl, O0, Below.refl _ _⟩
  case round =>
    clear O0
    obtain ⟨j, A', c', hj, rfl, rfl, O2, hbr⟩ := hrel
    have hsz := hbr.size
    by_cases hlt : j < rows.length
    · have Or := O.below hbr
      obtain ⟨g, Aj, cj, rfl, hg, hg', rc, OJ⟩ := Or.at hlt
      have hrw := HRW.out j hlt
      obtain ⟨r, hr⟩ : ∃ r, r = ra rows j := ⟨_, rfl⟩
      rw [← hr] at rc OJ hrw
      have HRN := Lib.hid hrw.2.2
      have hr0 := hrw.1
      have hr20 := hrw.2.1
      have HPE : Hid (peR es rows m (j + 1) = peR es rows m j ++ [natL (inTo es r m)]) := by show _ = _; rw [hr]; rfl
      obtain ⟨gj, oj, rfl, IJ⟩ := OJ.src hr0
      have Er := hE.below hbr
      have k1 := (hbr.cell (p := ⟨w.heap.size, 1, none⟩) s1).trans q1
      have s2 : w.heap.size < wr.heap.size := by omega
      have HSET := Lib.hid (setOf_any gj oj r.length cj (ia r) wr IJ (by omega) HRN.out)
      have HLT : Hid (setN (ia r) r.length < 18446744073709551616) := setN_lt fun u hu => (HRN.out u hu).2
      obtain ⟨sx, hsx⟩ : ∃ sx, sx = setN (ia r) r.length := ⟨_, rfl⟩
      have HHL : Hid (∀ k, k < m → (hasB sx (ea es k) = true ↔ ea es k ∈ r)) := fun k hk => by
        have := HW.out.2.2.2.2 k (by rw [hl.out]; exact hk)
        rw [hsx]
        exact hasL_iff (xs := r) (by omega) (fun y hy => by obtain ⟨i, hi, e⟩ := memIa hy; rw [← e]; exact (HRN.out i hi).1)
      rw [← hsx] at HSET HLT
      clear hr hsx hrw IJ OJ Or
      go_wp2_with (go_at_call 155; refine HSET.out.mono ?_; rintro e w' ⟨rfl, rfl⟩)
      obtain ⟨w4, rfl⟩ : ∃ w4, w4 = wr := ⟨wr, rfl⟩
      clear rc HSET
      go_loopw [7, 22] (fun lv kv wv => ∃ (k : Nat) (A2 : Option Addr) (c2 : Nat), k ≤ m ∧ kv = .int .i64 k ∧ lv = .slice A2 (inTo es r k).length c2 ∧ OwnL w4.heap.size wv A2 (inTo es r k).length c2 (natL (inTo es r k)) ∧ Below w4.heap.size w4 wv) (fun _ k _ => m - (intOf k).toNat)
      case atStart => exact ⟨0, _, _, Nat.zero_le _, rfl, rfl, OwnL.nil _ _, Below.refl _ _⟩
      case round =>
        obtain ⟨k, A2, c2, hk, rfl, rfl, ho, hbk⟩ := hrel
        have hcl := inTo_len es r k
        have hszk := hbk.size
        by_cases hlt2 : k < m
        · have E := Er.below hbk
          have d1 := E.ca k hlt2
          have d2 := E.cb k hlt2
          have hb6 : Below w4.heap.size w4 (wr.alloc (.cells #[.int .i64 (ea es k), .int .i64 (eb es k)] 98)) := hbk.alloc hszk _
          have ho6 := ho.below ((Below.refl _ _).alloc (Nat.le_refl _) (.cells #[.int .i64 (ea es k), .int .i64 (eb es k)] 98))
          have hin := HW.out.2.2.2.2 k (by rw [hl.out]; exact hlt2)
          have hHA : ∀ W, Calls Try.prog 80 #[.int .u64 sx, .int .i64 (ea es k)] W (Is (.bool (hasB sx (ea es k))) W) := fun W => has_any sx _ W HLT.out (by omega) (by omega)
          have hh0 := HHL.out k hlt2
          clear E hin
          cases hh : hasB sx (ea es k) with
          | true =>
            rw [hh] at hHA
            have e := inTo_yes (hh0.1 hh)
            have HE1 : Hid (natL (inTo es r (k + 1)) = natL (inTo es r k) ++ [(k : Int)]) := by show _ = _; rw [e, natL_app]
            have HE2 : Hid ((inTo es r (k + 1)).length = (inTo es r k).length + 1) := by show _ = _; rw [e]; simp
            have HH := Lib.hid hHA
            clear hHA hh e hh0
            go_wp2_with (first
              | (go_at_call 80; refine (HH.out _).mono ?_; rintro e w' ⟨rfl, rfl⟩)
              | (at_builtin; refine wp_appL1 rfl rfl rfl rfl (by simp [go_sem]) ho6 (by simp [go_sem]; omega) (by omega) ?_; intro A3 c3 w5 ho3 hg5 hat5))
            have hb5 := hb6.grown hg5 hb6.size (fun y hy => (ho.blk y hy).1)
            go_roundw
            case rel => exact ⟨k + 1, A3, c3, by omega, by go_num, by rw [HE2.out], by rw [HE2.out, HE1.out]; exact ho3, hb5⟩
            case measure => simp [intOf]; omega
          | false =>
            rw [hh] at hHA
            have HE1 := Lib.hid (inTo_no (fun x => by have := hh0.2 x; rw [hh] at this; cases this))
            have HH := Lib.hid hHA
            clear hHA hh hh0
            go_wp2_with (go_at_call 80; refine (HH.out _).mono ?_; rintro e w' ⟨rfl, rfl⟩)
            go_roundw
            case rel => exact ⟨k + 1, A2, c2, by omega, by go_num, by rw [HE1.out], by rw [HE1.out]; exact ho6, hb6⟩
            case measure => simp [intOf]; omega
        · obtain rfl : k = m := by omega
          have O2 := O2.below hbk
          have hb4 := hbr.andB hbk
          have ho' := ho.mono (show w1.heap.size ≤ w4.heap.size by omega)
          have hnew : ∀ g, blkOf A2 = some g → w4.heap.size ≤ g := fun g hg => (ho.blk g hg).1
          clear ho
          go_wp2_with (first
            | (at_builtin; refine wp_appR1 rfl rfl rfl rfl rfl (natL_len _) O2 ho' hnew (by omega) (by omega) ?_; intro A3 c3 w5 O5 hg5 _))
          have hb5 := hb4.grown hg5 hb4.size (fun y hy => (O2.blk y hy).1)
          go_roundw
          case rel => exact ⟨j + 1, A3, c3, by omega, by go_num, rfl, by rw [HPE.out]; exact O5, hb5⟩
          case measure => simp [intOf]; omega
    · obtain rfl : j = rows.length := by omega
      go_wp2_with fail
      go_ret
      have hPL2 := hPL.out rows.length
      have O3 := O2.mono (show w.heap.size ≤ w1.heap.size by omega)
      have HO : Hid (∃ A c, Value.slice A' rows.length c' = .slice A (peR es rows m rows.length).length c ∧ OwnLL w.heap.size wr.heap.size wr A (peR es rows m rows.length).length c (peR es rows m rows.length)) := ⟨A', c', by rw [hPL2], by rw [hPL2]; exact O3⟩
      obtain ⟨A9, c9, e9, O9⟩ := HO.out
      exact ⟨A9, c9, congrArg Ending.returned e9, O9, hB1.andB hbr⟩
end Go.Proofs.Ytppfplhbfgjjhaa
namespace Go.Proofs.Ytppfplhbfgjjhaa
open Go.RowKit Go.Sort
set_option maxRecDepth 100000 in
set_option maxHeartbeats 2000000 in
theorem l02Fits_any (n : Int) (b o m c b2 o2 c2 e : Nat) (es : List (Int × Int)) (cs : Nat → Int) (w : World) (h : Eds w b o m es) (hm : m ≤ 1048576) (hG : IsG n es) (h2 : Ints w b2 o2 m cs) (he : e < m) :
    Calls Try.prog 113 #[.agg #[.int .i64 n, .slice (some ⟨b, o, none⟩) m c], .slice (some ⟨b2, o2, none⟩) m c2, .int .i64 e, .int .i64 (cs e)] w (Ret (.bool (B (FitP es cs e))) w) := by
  have hl := Lib.hid h.len
  have HG := Lib.hid hG
  have hbx := Box2.made w (.int .i64 n) (.slice (some ⟨b, o, none⟩) m c) 30
  have hbb := (by go_grown : Below w.heap.size w (w.alloc (.cells #[.int .i64 n, .slice (some ⟨b, o, none⟩) m c] 30)))
  clear hG
  go_enter Try.func113, Try.ntmps113
  go_wp2_with fail
  obtain ⟨w1, hw1⟩ : ∃ w1, w1 = w.alloc (Obj.cells #[Value.int IntKind.i64 n, Value.slice (some ⟨b, o, none⟩) m c] 30) := ⟨_, rfl⟩
  rw [← hw1] at hbx hbb ⊢
  clear hw1
  have E1 := h.below hbb
  have I1 := h2.below hbb
  obtain ⟨s1, p1, q1⟩ := hbx
  go_loopw [9] (fun kv wv => ∃ k : Nat, k ≤ 2 ∧ kv = .int .i64 k ∧ Hid (∀ k', k' < k → FitK es cs e k') ∧ Below w1.heap.size w1 wv) (fun k _ => 2 - (intOf k).toNat)
  case atStart => exact ⟨0, by omega, rfl, fun k hk => absurd hk (by omega), Below.refl _ _⟩
  case round =>
    obtain ⟨k, hk, rfl, HF, hbr⟩ := hrel
    have hsz := hbr.size
    by_cases hk2 : k < 2
    · have E := E1.below hbr
      have k1 := (hbr.cell (p := ⟨w.heap.size, 0, none⟩) s1).trans p1
      have k2 := (hbr.cell (p := ⟨w.heap.size, 1, none⟩) s1).trans q1
      have s2 : w.heap.size < wr.heap.size := by omega
      have ce := vE_cell E he hk2
      have hv := vE_in HG.out.wf (2 * e + k) (by rw [hl.out]; omega)
      obtain ⟨L, hL⟩ : ∃ L, L = atL es (vE es (2 * e + k)) := ⟨_, rfl⟩
      have hL3 : L.length = 3 := by rw [hL]; exact atL_3 HG.out hv.1 hv.2
      have HL3 := Lib.hid hL3
      have HLm := Lib.hid (show ∀ i, i < 3 → 0 ≤ ia L i ∧ ia L i < m from fun i hi => by
        obtain ⟨f, hf, e1, _⟩ := mem_atTo.1 (show ia L i ∈ atTo es (vE es (2 * e + k)) es.length by have := ia_mem (xs := L) (i := i) (by omega); rw [hL] at this ⊢; exact this)
        rw [hl.out] at hf
        omega)
      have HAT := Lib.hid (fitK_at (cs := cs) (e := e) (k := k) (by rw [hl.out]; exact he : e < es.length))
      have HRL := Lib.hid (show ∀ W, Below wr.heap.size wr W → Calls Try.prog 112 #[.agg #[.int .i64 n, .slice (some ⟨b, o, none⟩) m c], .int .i64 (vE es (2 * e + k))] W (RetL L W) from fun W hW => by rw [hL]; exact l01At_any n b o m c es _ W (E.below hW) hm)
      rw [← hL] at HAT
      clear hL hL3 hv
      go_wp2_with fail
      refine wp_region_facts (fun i v W => match i with
        | 0 => v = .agg #[.int .i64 n, .slice (some ⟨b, o, none⟩) m c]
        | 1 => v = .pointer (some ⟨w.heap.size, 1, none⟩)
        | 2 => v = .slice (some ⟨b, o, none⟩) m c
        | 3 => v = .int .i64 e
        | 4 => v = .int .i64 k
        | 5 => v = .pointer (some ⟨b, o + e * 2, none⟩)
        | 6 => v = .pointer (some ⟨b, o + e * 2 + k, none⟩)
        | 7 => v = .int .i64 (vE es (2 * e + k))
        | _ => NewL wr.heap.size L v W) (by kernel_rfl) (by kernel_rfl) ?_ ?_ ?_
      · intro i v W W' hf hb
        match i, hf with
        | 0, hf => exact hf
        | 1, hf => exact hf
        | 2, hf => exact hf
        | 3, hf => exact hf
        | 4, hf => exact hf
        | 5, hf => exact hf
        | 6, hf => exact hf
        | 7, hf => exact hf
        | (i + 8), hf => exact NewL.below hf hb
      · refine ⟨?_, ?_, ?_, ?_, ?_, ?_, ?_, ?_, ?_, ?_, trivial⟩
        · intro a W hW hs hd
          have e5 : a.tmps[4]?.getD undef = .pointer (some ⟨w.heap.size, 0, none⟩) := hs 4 (by kernel_rfl)
          have k0 := (hW.cell (p := ⟨w.heap.size, 0, none⟩) s2).trans k1
          have k1 := (hW.cell (p := ⟨w.heap.size, 1, none⟩) s2).trans k2
          clear hs hd
          unfold Grows
          go_simp
          exact Below.refl _ _
        · intro a W hW hs hd
          have e5 : a.tmps[4]?.getD undef = .pointer (some ⟨w.heap.size, 0, none⟩) := hs 4 (by kernel_rfl)
          have k0 := (hW.cell (p := ⟨w.heap.size, 0, none⟩) s2).trans k1
          have k1 := (hW.cell (p := ⟨w.heap.size, 1, none⟩) s2).trans k2
          clear hs hd
          unfold Grows
          go_simp
          exact Below.refl _ _
        · intro a W hW hs hd
          have e5 : a.tmps[17]?.getD undef = .pointer (some ⟨w.heap.size, 1, none⟩) := hd 1 17 (by kernel_rfl) (by kernel_rfl)
          have k1 := (hW.cell (p := ⟨w.heap.size, 1, none⟩) s2).trans k2
          clear hs hd
          unfold Grows
          go_simp
          exact Below.refl _ _
        · intro a W hW hs hd
          have e5 : a.tmps[2]?.getD undef = .int .i64 e := hs 2 (by kernel_rfl)
          clear hs hd
          unfold Grows
          go_simp
          exact Below.refl _ _
        · intro a W hW hs hd
          have e5 : a.tmps[9]?.getD undef = .int .i64 k := hs 9 (by kernel_rfl)
          clear hs hd
          unfold Grows
          go_simp
          exact Below.refl _ _
        · intro a W hW hs hd
          have e5 : a.tmps[18]?.getD undef = .slice (some ⟨b, o, none⟩) m c := hd 2 18 (by kernel_rfl) (by kernel_rfl)
          have e6 : a.tmps[19]?.getD undef = .int .i64 e := hd 3 19 (by kernel_rfl) (by kernel_rfl)
          have EW := E.below hW
          have d1 := EW.ca e he
          have d2 := EW.cb e he
          clear hs hd EW
          unfold Grows
          go_simp
          exact Below.refl _ _
        · intro a W hW hs hd
          have e5 : a.tmps[21]?.getD undef = .pointer (some ⟨b, o + e * 2, none⟩) := hd 5 21 (by kernel_rfl) (by kernel_rfl)
          have e6 : a.tmps[20]?.getD undef = .int .i64 k := hd 4 20 (by kernel_rfl) (by kernel_rfl)
          clear hs hd
          unfold Grows
          go_simp
          exact Below.refl _ _
        · intro a W hW hs hd
          have e5 : a.tmps[22]?.getD undef = .pointer (some ⟨b, o + e * 2 + k, none⟩) := hd 6 22 (by kernel_rfl) (by kernel_rfl)
          have d1 := vE_cell (E.below hW) he hk2
          clear hs hd
          unfold Grows
          go_simp
          exact Below.refl _ _
        · intro a W hW hs hd
          have e16 : a.tmps[16]?.getD undef = .agg #[.int .i64 n, .slice (some ⟨b, o, none⟩) m c] := hd 0 16 (by kernel_rfl) (by kernel_rfl)
          have e18 : a.tmps[23]?.getD undef = .int .i64 (vE es (2 * e + k)) := hd 7 23 (by kernel_rfl) (by kernel_rfl)
          clear hs hd
          unfold Grows
          go_simp
          refine ⟨Below.refl _ _, (HRL.out W hW).mono ?_⟩
          rintro e w6 ⟨A, c', rfl, ho, hb6⟩
          exact ⟨_, rfl, hb6, A, c', rfl, ho.mono hW.size⟩
        · intro a W hW hs hd
          have e19 : NewL wr.heap.size L (a.tmps[24]?.getD undef) W := hd 8 24 (by kernel_rfl) (by kernel_rfl)
          obtain ⟨A, c', e19, ho⟩ := e19
          clear hs hd
          unfold Grows
          go_simp
          exact ⟨Below.refl _ _, A, c', rfl, ho⟩
      intro vs W hW hf
      have f10 : NewL wr.heap.size L (vs 10) W := hf 9 10 (by kernel_rfl)
      obtain ⟨A, c', f10, ho⟩ := f10
      obtain ⟨b3, o3, rfl, I3⟩ := ho.src (by rw [HL3.out]; decide)
      rw [HL3.out] at f10 I3
      have I2 := (I1.below hbr).below hW
      have s3 := I3.blk
      have s4 := I2.blk
      simp only [dsts, List.filterMap_cons, List.filterMap_nil, List.foldl_cons, List.foldl_nil, Act.put, List.setIfInBounds_toArray, List.set_cons_succ, List.set_cons_zero, f10]
      clear hf f10 ho E ce k1 k2 HRL
      have hbW := hbr.andB hW
      clear hW
      go_wp2_with fail
      go_loop [11] (fun iv => ∃ i : Nat, i ≤ 3 ∧ iv = .int .i64 i ∧ Hid (∀ i', i' < i → ia L i' < e → cs (ia L i').toNat ≠ cs e)) (fun i => 3 - (intOf i).toNat)
      case atStart => exact ⟨0, by omega, rfl, fun i hi => absurd hi (by omega)⟩
      case round =>
        obtain ⟨i, hi, rfl, HI⟩ := hrel
        by_cases hi3 : i < 3
        · have c1 := I3.c i hi3
          have hx := HLm.out i hi3
          obtain ⟨x, hxe⟩ : ∃ x : Nat, ia L i = x := ⟨(ia L i).toNat, by omega⟩
          have hxm : x < m := by omega
          have c2 := I2.c x hxm
          rw [hxe] at c1
          have HX := Lib.hid hxe
          clear hxe hx
          by_cases hlt : x < e
          · by_cases hcs : cs x = cs e
            · have HV : Hid (B (FitP es cs e) = false) := B_false fun hf => HAT.out.1 (hf k hk2) i (by rw [HL3.out]; exact hi3) (by rw [HX.out]; omega) (by rw [HX.out, Int.toNat_natCast]; exact hcs)
              go_wp2_with fail
              go_ret
              exact ⟨ret_bool HV.out.symm, hbb.andB hbW⟩
            · have HI' : Hid (∀ i', i' < i + 1 → ia L i' < e → cs (ia L i').toNat ≠ cs e) := fun u hu hul => by
                by_cases hui : u = i
                · subst hui; rw [HX.out, Int.toNat_natCast]; exact hcs
                · exact HI.out u (by omega) hul
              go_wp2_with fail
              go_round
              case rel => exact ⟨i + 1, by omega, by go_num, HI'⟩
              case measure => simp [intOf]; omega
          · have HI' : Hid (∀ i', i' < i + 1 → ia L i' < e → cs (ia L i').toNat ≠ cs e) := fun u hu hul => by
              by_cases hui : u = i
              · subst hui; rw [HX.out] at hul; omega
              · exact HI.out u (by omega) hul
            go_wp2_with fail
            go_round
            case rel => exact ⟨i + 1, by omega, by go_num, HI'⟩
            case measure => simp [intOf]; omega
        · obtain rfl : i = 3 := by omega
          have HF' : Hid (∀ k', k' < k + 1 → FitK es cs e k') := fun u hu => by
            by_cases huk : u = k
            · subst huk; exact HAT.out.2 fun i hi => HI.out i (by rw [HL3.out] at hi; exact hi)
            · exact HF.out u (by omega)
          go_wp2_with fail
          go_roundw
          case rel => exact ⟨k + 1, by omega, by go_num, HF', hbW⟩
          case measure => simp [intOf]; omega
    · obtain rfl : k = 2 := by omega
      have HV : Hid (B (FitP es cs e) = true) := B_true fun k hk => HF.out k hk
      go_wp2_with fail
      go_ret
      exact ⟨ret_bool HV.out.symm, hbb.andB hbr⟩
end Go.Proofs.Ytppfplhbfgjjhaa
namespace Go.Proofs.Ytppfplhbfgjjhaa
open Go.RowKit Go.Sort
theorem colP_iff {n : Int} {es : List (Int × Int)} {cs : Nat → Int} (hn : WfP n es) : ColP es cs ↔ ∀ e, e < es.length → (0 ≤ cs e ∧ cs e ≤ 2) ∧ FitP es cs e := by
  constructor
  · rintro ⟨h1, h2⟩ e he
    exact ⟨h1 e he, (fitP_iff hn he).2 ⟨h2 _ (by omega), h2 _ (by omega)⟩⟩
  · intro h
    refine ⟨fun e he => (h e he).1, fun t ht => ?_⟩
    have h1 := (fitP_iff hn (by omega : t / 2 < es.length)).1 (h (t / 2) (by omega)).2
    rcases (show t = 2 * (t / 2) ∨ t = 2 * (t / 2) + 1 by omega) with e | e <;> rw [e]
    · exact h1.1
    · exact h1.2
set_option maxRecDepth 100000 in
set_option maxHeartbeats 2000000 in
theorem l02Is_any (n : Int) (b o m c b2 o2 l c2 : Nat) (es : List (Int × Int)) (cs : Nat → Int) (w : World) (h : Eds w b o m es) (hm : m ≤ 1048576) (hG : IsG n es) (h2 : Ints w b2 o2 l cs) (hl2 : l ≤ 1048576) :
    Calls Try.prog 135 #[.agg #[.int .i64 n, .slice (some ⟨b, o, none⟩) m c], .slice (some ⟨b2, o2, none⟩) l c2] w (Ret (.bool (colB es cs l)) w) := by
  have KC := cell_rg
  have hl := Lib.hid h.len
  have HG := Lib.hid hG
  have hbx := Box2.made w (.int .i64 n) (.slice (some ⟨b, o, none⟩) m c) 30
  have hbb := (by go_grown : Below w.heap.size w (w.alloc (.cells #[.int .i64 n, .slice (some ⟨b, o, none⟩) m c] 30)))
  clear hG
  by_cases hlm : l = m
  rotate_left
  · have HV : Hid (colB es cs l = false) := B_false fun x => hlm (by rw [x.1, hl.out])
    have hne : ((l : Int) != m) = true := by simp; omega
    go_enter Try.func135, Try.ntmps135
    go_wp2_with fail
    go_ret
    exact ⟨ret_bool HV.out.symm, hbb⟩
  subst hlm
  go_enter Try.func135, Try.ntmps135
  go_wp2_with fail
  obtain ⟨w1, hw1⟩ : ∃ w1, w1 = w.alloc (Obj.cells #[Value.int IntKind.i64 n, Value.slice (some ⟨b, o, none⟩) l c] 30) := ⟨_, rfl⟩
  rw [← hw1] at hbx hbb ⊢
  clear hw1
  have E1 := h.below hbb
  have I1 := h2.below hbb
  obtain ⟨s1, p1, q1⟩ := hbx
  go_loopw [5] (fun kv wv => ∃ e : Nat, e ≤ l ∧ kv = .int .i64 e ∧ Hid (∀ u, u < e → (0 ≤ cs u ∧ cs u ≤ 2) ∧ FitP es cs u) ∧ Below w1.heap.size w1 wv) (fun k _ => l - (intOf k).toNat)
  case atStart => exact ⟨0, by omega, rfl, fun k hk => absurd hk (by omega), Below.refl _ _⟩
  case round =>
    obtain ⟨e, he, rfl, HF, hbr⟩ := hrel
    have hsz := hbr.size
    by_cases hlt : e < l
    · have E := E1.below hbr
      have I := I1.below hbr
      have c1 := I.c e hlt
      have s3 := I.blk
      have k1 := (hbr.cell (p := ⟨w.heap.size, 0, none⟩) s1).trans p1
      have k2 := (hbr.cell (p := ⟨w.heap.size, 1, none⟩) s1).trans q1
      have s2 : w.heap.size < wr.heap.size := by omega
      cases hA : inB (cs e) 0 2 with
      | false =>
        have HV : Hid (colB es cs l = false) := B_false fun x => inB_not.1 hA (x.2.1 e (by rw [hl.out]; exact hlt))
        clear E I
        go_wp2_with fail
        (refine wp_region_quiet_below (by kernel_rfl) (by kernel_rfl) ?_
         repeat (any_goals (go_big_quiet_step (first | (go_at_call 120; exact Is.rg (in_any _ _ _ _)))))
         all_goals (refine wpQuiet_nil ?_; intro wq1 hq1; replace hq1 := below_of_rg hq1))
        go_wp2_with fail
        go_ret
        exact ⟨ret_bool HV.out.symm, (hbb.andB hbr).andB hq1⟩
      | true =>
        obtain ⟨r, hr⟩ : ∃ r, r = B (FitP es cs e) := ⟨_, rfl⟩
        have hFT : ∀ d os, Calls Try.prog 113 #[.agg #[.int .i64 n, .slice (some ⟨b, o, none⟩) l c], .slice (some ⟨b2, o2, none⟩) l c2, .int .i64 e, .int .i64 (cs e)] (grow (redrawn wr d) os) fun e w'' => e = .returned (.bool r) ∧ ∃ p : Regrown, w'' = grow (redrawn wr p.d) p.os := fun d os =>
          Ret.rg (hr ▸ l02Fits_any n b o l c b2 o2 c2 e es cs _ (E.below (below_regrown _ _ _)) hm HG.out (I.below (below_regrown _ _ _)) hlt)
        have HFT := Lib.hid hFT
        clear hFT E I
        cases r with
        | false =>
          have HV : Hid (colB es cs l = false) := B_false fun x => B_not.1 hr.symm (((colP_iff HG.out.wf).1 x.2 e (by rw [hl.out]; exact hlt)).2)
          clear hr
          go_wp2_with fail
          (refine wp_region_quiet_below (by kernel_rfl) (by kernel_rfl) ?_
           repeat (any_goals (go_big_quiet_step (first | (go_at_call 120; exact Is.rg (in_any _ _ _ _)) | (go_at_call 113; exact HFT.out _ _))))
           all_goals (refine wpQuiet_nil ?_; intro wq1 hq1; replace hq1 := below_of_rg hq1))
          go_wp2_with fail
          go_ret
          exact ⟨ret_bool HV.out.symm, (hbb.andB hbr).andB hq1⟩
        | true =>
          have HF' : Hid (∀ u, u < e + 1 → (0 ≤ cs u ∧ cs u ≤ 2) ∧ FitP es cs u) := fun u hu => by
            by_cases hue : u = e
            · subst hue; exact ⟨inB_iff.1 hA, B_iff.1 hr.symm⟩
            · exact HF.out u (by omega)
          clear hr
          go_wp2_with fail
          (refine wp_region_quiet_below (by kernel_rfl) (by kernel_rfl) ?_
           repeat (any_goals (go_big_quiet_step (first | (go_at_call 120; exact Is.rg (in_any _ _ _ _)) | (go_at_call 113; exact HFT.out _ _))))
           all_goals (refine wpQuiet_nil ?_; intro wq1 hq1; replace hq1 := below_of_rg hq1))
          go_wp2_with fail
          go_roundw
          case rel => exact ⟨e + 1, by omega, by go_num, HF', hbr.andB hq1⟩
          case measure => simp [intOf]; omega
    · obtain rfl : e = l := by omega
      have HV : Hid (colB es cs e = true) := B_true ⟨hl.out.symm, (colP_iff HG.out.wf).2 fun u hu => HF.out u (by rw [hl.out] at hu; exact hu)⟩
      go_wp2_with fail
      go_ret
      exact ⟨ret_bool HV.out.symm, hbb.andB hbr⟩
end Go.Proofs.Ytppfplhbfgjjhaa
