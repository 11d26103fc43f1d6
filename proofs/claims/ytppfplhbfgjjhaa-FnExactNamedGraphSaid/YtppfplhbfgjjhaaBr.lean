import Derived.Test.YtppfplhbfgjjhaaM16
import Derived.Test.YtppfplhbfgjjhaaM6
import Derived.Test.YtppfplhbfgjjhaaM7
namespace Go.Proofs.Ytppfplhbfgjjhaa
open Go.RowKit Go.Sort
/-! ### Bridges -/
theorem ldCnt_rest (es : List (Int × Int)) (sk : Nat → Bool) (N : Nat) : ldCnt (restE es sk) noSk N = ldCnt es sk N := by
  induction N with
  | zero => rfl
  | succ N ih => simp only [ldCnt, ih, lead_rest]
theorem set_one (k : Nat) : skS (setN (fun _ => (k : Int)) 1) = skI k := by
  rw [← skS_one]; congr 1; simp [setN]
theorem set_oneP (k : Nat) (u : Int) (h : (k : Int) ≤ u) : SetP (fun _ => (k : Int)) 1 u := fun j hj => ⟨⟨Int.natCast_nonneg k, h⟩, fun h => by omega⟩
noncomputable def brTo (n : Int) (es : List (Int × Int)) : Nat → List Int
  | 0 => []
  | k + 1 => brTo n es k ++ (if cutB n es (skI k) then [(k : Int)] else [])
theorem brTo_len (n : Int) (es : List (Int × Int)) (k : Nat) : (brTo n es k).length ≤ k := by
  induction k with
  | zero => simp [brTo]
  | succ k ih => simp only [brTo, List.length_append]; split <;> simp <;> omega
theorem brTo_yes {n : Int} {es : List (Int × Int)} {k : Nat} (h : cutB n es (skI k) = true) : brTo n es (k + 1) = brTo n es k ++ [(k : Int)] := by simp [brTo, h]
theorem brTo_no {n : Int} {es : List (Int × Int)} {k : Nat} (h : cutB n es (skI k) = false) : brTo n es (k + 1) = brTo n es k := by simp [brTo, h]
set_option maxRecDepth 100000 in
set_option maxHeartbeats 1600000 in
theorem l03Bridges_any (n : Int) (b o m c : Nat) (es : List (Int × Int)) (w : World) (h : Eds w b o m es) (hm : m ≤ 1048576) (hn : WfP n es) :
    Calls Try.prog 73 #[.agg #[.int .i64 n, .slice (some ⟨b, o, none⟩) m c]] w (RetL (brTo n es m) w) := by
  have hl := Lib.hid h.len
  have HW := Lib.hid hn
  have hn2 := hn.1
  have hn20 := hn.2.1
  obtain ⟨N, rfl⟩ : ∃ N : Nat, n = N := ⟨n.toNat, by omega⟩
  clear hn
  obtain ⟨p0, hp0⟩ : ∃ p0, ldCnt es noSk N = p0 := ⟨_, rfl⟩
  have HP0 := Lib.hid hp0
  have HP : Hid (∀ W, Eds W b o m es → Calls Try.prog 131 #[.int .i64 N, .slice (some ⟨b, o, none⟩) m c] W (Ret (.int .i64 p0) W)) := fun W hE => by rw [← hp0]; exact parts_any N b o m c es W hE hm HW.out.inR (by omega) (by omega)
  have hlc : p0 ≤ N := by rw [← hp0]; exact ldCnt_le es noSk N
  clear hp0
  have hbb := (by go_grown : Below w.heap.size w (w.alloc (.cells #[.int .i64 N, .slice (some ⟨b, o, none⟩) m c] 30)))
  have hbx := Box2.made w (.int .i64 N) (.slice (some ⟨b, o, none⟩) m c) 30
  obtain ⟨w1, hw1⟩ : ∃ w1, w1 = w.alloc (Obj.cells #[Value.int IntKind.i64 N, Value.slice (some ⟨b, o, none⟩) m c] 30) := ⟨_, rfl⟩
  rw [← hw1] at hbb hbx
  have hs1 : w1.heap.size = w.heap.size + 1 := by rw [hw1]; simp [go_sem]
  have O : OwnL w1.heap.size (w1.alloc (.cells #[] 2)) (some ⟨w.heap.size + 1, 0, none⟩) 0 0 [] := OwnL.empty _ _ _ (by omega) (by rw [← hs1]; exact heap_alloc_new w1 _)
  have hb0 : Below w1.heap.size w1 (w1.alloc (.cells #[] 2)) := (Below.refl _ _).alloc (Nat.le_refl _) _
  have HW1 := Lib.hid hw1
  clear hw1 hs1
  go_enter Try.func73, Try.ntmps73
  go_wp2_with fail
  rw [← HW1.out]
  refine (HP.out _ (h.below (hbb.andB hb0))).mono ?_
  rintro e w2 ⟨rfl, hb2⟩
  have O := O.below hb2
  have hb2 := hb0.andB hb2
  clear hb0
  go_wp2_with fail
  go_loopw [3, 5] (fun lv kv wr => ∃ (k : Nat) (A : Option Addr) (c' : Nat), k ≤ m ∧ kv = .int .i64 k ∧ lv = .slice A (brTo N es k).length c' ∧ OwnL w1.heap.size wr A (brTo N es k).length c' (brTo N es k) ∧ Below w1.heap.size w1 wr) (fun _ k _ => m - (intOf k).toNat)
  case atStart => exact ⟨0, _, _, Nat.zero_le _, rfl, rfl, O, hb2⟩
  case round =>
    clear O hb2
    obtain ⟨k, A, c', hk, rfl, rfl, ho, hb1⟩ := hrel
    have hbr := hbb.andB hb1
    obtain ⟨z1, pp1, qq1⟩ := hbx.below hb1
    have hln := brTo_len N es k
    have hsz := hb1.size
    by_cases hlt : k < m
    · have E := h.below hbr
      obtain ⟨p1, hp1⟩ : ∃ p1, ldCnt es (skI k) N = p1 := ⟨_, rfl⟩
      have HRE : Hid (∀ W, Eds W b o m es → ∀ g, Ints W g 0 1 (fun _ => (k : Int)) → Calls Try.prog 132 #[.agg #[.int .i64 N, .slice (some ⟨b, o, none⟩) m c], .slice (some ⟨g, 0, none⟩) 1 1] W (RetE (restE es (skI k)) W)) := fun W hE g hI => by
        rw [← set_one]; exact rest_any N b o m c g 0 1 1 es _ ((m : Int)) W hE hm hI (by omega) (set_oneP k _ (by omega))
      have HPA : Hid (∀ W g c2, Eds W g 0 (restE es (skI k)).length (restE es (skI k)) → Calls Try.prog 131 #[.int .i64 N, .slice (some ⟨g, 0, none⟩) (restE es (skI k)).length c2] W (Ret (.int .i64 p1) W)) := fun W g c2 hE => by
        rw [← hp1, ← ldCnt_rest]
        exact parts_any N g 0 _ c2 _ W hE (by have := restTo_len es (skI k) es.length; have := hl.out; show (restTo _ _ _).length ≤ _; omega) (inR_rest HW.out.inR) (by omega) (by omega)
      have HCU : Hid (cutB N es (skI k) = decide (p0 < p1)) := by show decide _ = _; rw [Int.toNat_natCast, HP0.out, hp1]
      have hlc1 : p1 ≤ N := by rw [← hp1]; exact ldCnt_le es _ N
      clear hp1
      go_wp2_with fail
      refine wp_region_facts (fun i v W => match i with
        | 0 => v = .pointer (some ⟨w.heap.size, 0, none⟩)
        | 1 => v = .int .i64 N
        | 2 => v = .agg #[.int .i64 N, .slice (some ⟨b, o, none⟩) m c]
        | 3 => v = .int .i64 k
        | 4 => NewS (k) v W
        | 5 => NewE wr.heap.size (restE es (skI k)) v W
        | 6 => v = .int .i64 p1
        | 7 => v = .int .i64 p0
        | _ => v = .bool (decide (p0 < p1))) (by kernel_rfl) (by kernel_rfl) ?_ ?_ ?_
      · intro i v W W' hf hb
        match i, hf with
        | 0, hf => exact hf
        | 1, hf => exact hf
        | 2, hf => exact hf
        | 3, hf => exact hf
        | 4, hf => exact NewS.below hf hb
        | 5, hf => exact NewE.below hf hb
        | 6, hf => exact hf
        | 7, hf => exact hf
        | (i + 8), hf => exact hf
      · refine ⟨?_, ?_, ?_, ?_, ?_, ?_, ?_, ?_, ?_, trivial⟩
        · intro a W hW hs hd
          have e1 : a.tmps[1]?.getD undef = .pointer (some ⟨w.heap.size, 0, none⟩) := hs 1 (by kernel_rfl)
          have k0 := (hW.cell (p := ⟨w.heap.size, 0, none⟩) (z1)).trans (pp1)
          have k1 := (hW.cell (p := ⟨w.heap.size, 1, none⟩) (z1)).trans (qq1)
          clear hs hd
          unfold Grows
          go_simp
          exact Below.refl _ _
        · intro a W hW hs hd
          have e19 : (a.tmps[19]?.getD undef) = .pointer (some ⟨w.heap.size, 0, none⟩) := hd 0 19 (by kernel_rfl) (by kernel_rfl)
          have k0 := (hW.cell (p := ⟨w.heap.size, 0, none⟩) (z1)).trans (pp1)
          have k1 := (hW.cell (p := ⟨w.heap.size, 1, none⟩) (z1)).trans (qq1)
          clear hs hd
          unfold Grows
          go_simp
          exact Below.refl _ _
        · intro a W hW hs hd
          have e1 : a.tmps[1]?.getD undef = .pointer (some ⟨w.heap.size, 0, none⟩) := hs 1 (by kernel_rfl)
          have k0 := (hW.cell (p := ⟨w.heap.size, 0, none⟩) (z1)).trans (pp1)
          have k1 := (hW.cell (p := ⟨w.heap.size, 1, none⟩) (z1)).trans (qq1)
          clear hs hd
          unfold Grows
          go_simp
          exact Below.refl _ _
        · intro a W hW hs hd
          have e5 : a.tmps[5]?.getD undef = .int .i64 k := hs 5 (by kernel_rfl)
          clear hs hd
          unfold Grows
          go_simp
          exact Below.refl _ _
        · intro a W hW hs hd
          have e22 : (a.tmps[22]?.getD undef) = .int .i64 k := hd 3 22 (by kernel_rfl) (by kernel_rfl)
          clear hs hd
          unfold Grows
          go_simp
          exact ⟨(Below.refl _ _).alloc (Nat.le_refl _) _, _, rfl, ints1 _ _ _⟩
        · intro a W hW hs hd
          have e21 : (a.tmps[21]?.getD undef) = .agg #[.int .i64 N, .slice (some ⟨b, o, none⟩) m c] := hd 2 21 (by kernel_rfl) (by kernel_rfl)
          have e23 : NewS (k) (a.tmps[23]?.getD undef) W := hd 4 23 (by kernel_rfl) (by kernel_rfl)
          obtain ⟨g23, e23, I23⟩ := e23
          clear hs hd
          unfold Grows
          go_simp
          refine ⟨Below.refl _ _, (HRE.out W (E.below hW) _ I23).mono ?_⟩
          rintro e w6 ⟨g6, c6, rfl, ho6, hb6⟩
          exact ⟨_, rfl, hb6, g6, c6, rfl, ho6.1, (ho6.mono (hW.size)).2⟩
        · intro a W hW hs hd
          have e20 : (a.tmps[20]?.getD undef) = .int .i64 N := hd 1 20 (by kernel_rfl) (by kernel_rfl)
          have e24 : NewE wr.heap.size (restE es (skI k)) (a.tmps[24]?.getD undef) W := hd 5 24 (by kernel_rfl) (by kernel_rfl)
          obtain ⟨g24, c24, e24, O24⟩ := e24
          clear hs hd
          unfold Grows
          go_simp
          refine ⟨Below.refl _ _, (HPA.out W _ _ O24.eds).mono ?_⟩
          rintro e w6 ⟨rfl, hb6⟩
          exact ⟨_, rfl, hb6, rfl⟩
        · intro a W hW hs hd
          have e4 : a.tmps[4]?.getD undef = .int .i64 p0 := hs 4 (by kernel_rfl)
          clear hs hd
          unfold Grows
          go_simp
          exact Below.refl _ _
        · intro a W hW hs hd
          have e25 : (a.tmps[25]?.getD undef) = .int .i64 p1 := hd 6 25 (by kernel_rfl) (by kernel_rfl)
          have e26 : (a.tmps[26]?.getD undef) = .int .i64 p0 := hd 7 26 (by kernel_rfl) (by kernel_rfl)
          clear hs hd
          unfold Grows
          go_simp
          exact Below.refl _ _
      intro vs W hW hf
      have f27 : vs 27 = .bool (decide (p0 < p1)) := hf 8 27 (by kernel_rfl)
      simp only [dsts, List.filterMap_cons, List.filterMap_nil, List.foldl_cons, List.foldl_nil, Act.put, List.setIfInBounds_toArray, List.set_cons_succ, List.set_cons_zero, f27]
      clear hf
      have hb3 := hb1.andB hW
      have ho := ho.below hW
      clear E z1 pp1 qq1 f27 hbr
      have hsz3 := hb3.size
      by_cases hc : p0 < p1
      · have e := brTo_yes (n := N) (es := es) (k := k) (by rw [HCU.out]; simp [hc])
        have HE := Lib.hid e
        have HE2 : Hid ((brTo N es (k + 1)).length = (brTo N es k).length + 1) := by show _ = _; rw [e]; simp
        clear e
        go_wp2_with (first
          | (at_builtin; refine wp_appL1 rfl rfl rfl rfl rfl ho (by omega) (by omega) ?_; intro A2 c2 w5 ho3 hg5 hat5))
        have hb5 := hb3.grown hg5 hsz3 (fun y hy => (ho.blk y hy).1)
        go_roundw
        case rel => exact ⟨k + 1, A2, c2, by omega, by go_num, by rw [HE2.out], by rw [HE2.out, HE.out]; exact ho3, hb5⟩
        case measure => simp [intOf]; omega
      · have HE := Lib.hid (brTo_no (n := N) (es := es) (k := k) (by rw [HCU.out]; simp [hc]))
        go_wp2_with fail
        go_roundw
        case rel => exact ⟨k + 1, A, c', by omega, by go_num, by rw [HE.out], by rw [HE.out]; exact ho, hb3⟩
        case measure => simp [intOf]; omega
    · obtain rfl : k = m := by omega
      go_wp2_with fail
      go_ret
      exact ⟨A, c', rfl, ho.mono hbb.size, hbr⟩
noncomputable def bgL (n : Int) (es : List (Int × Int)) : List Int := if B (IsG n es) then brTo n es es.length else []
theorem bgL_len (n : Int) (es : List (Int × Int)) : (bgL n es).length ≤ es.length := by
  unfold bgL
  split
  · exact brTo_len _ _ _
  · simp
-- left out in this seat
-- left out in this seat
end Go.Proofs.Ytppfplhbfgjjhaa
