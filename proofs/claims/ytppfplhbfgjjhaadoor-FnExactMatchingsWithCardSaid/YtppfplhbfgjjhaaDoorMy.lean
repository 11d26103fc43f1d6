import Derived.Test.YtppfplhbfgjjhaaDoorMx
namespace Go.Proofs.YtppfplhbfgjjhaaDoor
open Go.RowKit Go.Sort Go.Shelf
theorem mts_rows (es : List (Int × Int)) (n : Nat) : ∀ k s, ∀ r ∈ mts es n k s, r.length ≤ k := by
  intro k
  induction k with
  | zero => intro s r hr; simp [mts] at hr; simp [hr]
  | succ k ih =>
    intro s r hr
    simp only [mts] at hr
    split at hr
    · simp at hr; simp [hr]
    · generalize lz s n = v at hr
      have : ∀ i, ∀ r ∈ mtT (mts es n k) es v s (atL es v) i, r.length ≤ k + 1 := by
        intro i
        induction i with
        | zero => intro r hr; simp [mtT] at hr
        | succ i ih2 =>
          intro r hr
          simp only [mtT, List.mem_append] at hr
          rcases hr with hr | hr
          · exact ih2 r hr
          · split at hr
            · cases hr
            · obtain ⟨q, hq, rfl⟩ := List.mem_map.1 hr
              simp; exact ih _ q hq
      exact this 3 r hr
theorem mtAll_row (es : List (Int × Int)) (n j : Nat) : (ra (mtAll es n) j).length ≤ 1048576 := by
  unfold ra
  by_cases h : j < (mtAll es n).length
  · rw [List.getD_eq_getElem?_getD, List.getElem?_eq_getElem h]
    have := mts_rows es n 10 0 _ (List.getElem_mem h)
    simp only [Option.getD_some]; omega
  · rw [List.getD_eq_getElem?_getD, List.getElem?_eq_none (by omega)]; simp
theorem cntH_all (e : Int) (rows : List (List Int)) : cntH e rows rows.length = (rows.filter (hasR e)).length := by simp [cntH]
theorem cM_cntH {es : List (Int × Int)} {n E : Nat} : cM (2 ^ E) 0 (mtAll es n) = cntH (E : Int) (mtAll es n) (mtAll es n).length := by
  have := cM_has (e := (E : Int)) (by omega) (a := mtAll es n) (fun r hr x hx => mts_nn es n 10 0 r hr x hx)
  rw [Int.toNat_natCast] at this
  rw [this, cntH_all]; rfl
noncomputable def mwV (n : Int) (es : List (Int × Int)) (e : Int) : Int := if B (IsG n es) then (if inB e 0 ((es.length : Int) - 1) then ((cntH e (mtAll es n.toNat) (mtAll es n.toNat).length : Nat) : Int) else 0) else 0
noncomputable def mwC (n : Int) (es : List (Int × Int)) (e : Int) : Int := gcC n es (inB e 0 ((es.length : Int) - 1))
set_option maxHeartbeats 1000000 in
theorem spMatchingsWith_any (n : Int) (b o m c : Nat) (es : List (Int × Int)) (x : Int) (w : World) (h : Eds w b o m es) (hm : m ≤ 1048576) :
    Calls Tryd.prog 6 #[.agg #[.int .i64 n, .slice (some ⟨b, o, none⟩) m c], .int .i64 x] w (Ret (.tuple #[.int .i64 (mwV n es x), .int .i64 (mwC n es x)]) w) := by
  have hbox := Box2.made w (.int .i64 n) (.slice (some ⟨b, o, none⟩) m c) 30
  have hbb := (by go_grown : Below w.heap.size w (w.alloc (.cells #[.int .i64 n, .slice (some ⟨b, o, none⟩) m c] 30)))
  have HSP := Lib.hid (l01Is_any n b o m c es _ (h.alloc (.cells #[.int .i64 n, .slice (some ⟨b, o, none⟩) m c] 30)) hm)
  have hl := h.len
  have hw : IntKind.i64.wrap ((m : Int) - 1) = (m : Int) - 1 := IntWalk.i64_in _ (by omega)
  by_cases hG : IsG n es
  · have hn2 := hG.wf.1
    cases hI : inB x 0 ((m : Int) - 1) with
    | true =>
      have HC : Hid (mwC n es x = 0) := by simp [Hid, mwC, gcC, B_true hG, hl, hI]
      have HR : Hid (mwV n es x = ((cntH x (mtAll es n.toNat) (mtAll es n.toNat).length : Nat) : Int)) := by simp [Hid, mwV, B_true hG, hl, hI]
      have HI := Lib.hid hI
      have HG := Lib.hid hG
      rw [B_true hG] at HSP
      clear hG hI
      obtain ⟨N, rfl⟩ : ∃ N : Nat, n = N := ⟨n.toNat, by omega⟩
      rw [Int.toNat_natCast] at HR
      have HAL := Lib.hid (fun W hE => l04All_any N b o m c es W hE hm HG.out)
      have hal := mtAll_len es N
      have HRW := Lib.hid (mtAll_row es N)
      obtain ⟨X, hX⟩ : ∃ X, X = mtAll es N := ⟨_, rfl⟩
      rw [← hX] at HR HAL hal HRW
      clear hX hl
      go_enter Tryd.func6, Tryd.ntmps6
      go_wp2_with fail
      refine HSP.out.mono ?_
      rintro e w1 ⟨rfl, hb1⟩
      have hB1 := hbb.thenB (by simp) hb1
      obtain ⟨s1, p1, q1⟩ := hbox.below hb1
      have E := h.below hB1
      clear hb1 hbb hbox
      go_wp2_with (go_at_call 14; refine (in_any _ _ _ _).mono ?_; rintro e w' ⟨rfl, rfl⟩; rw [HI.out])
      refine (HAL.out _ E).mono ?_
      rintro e w2 ⟨A2, c2, rfl, O2, hb2⟩
      have hB2 := hB1.andB hb2
      go_wp2_with fail
      refine (l04With_any _ _ A2 X.length c2 X x w2 O2 (by omega) HRW.out).mono ?_
      rintro e w3 ⟨rfl, hb3⟩
      have hB3 := hB2.andB hb3
      go_wp2_with fail
      go_ret2
      exact ⟨ret2 HR.out.symm HC.out.symm, hB3⟩
    | false =>
      have HC : Hid (mwC n es x = 2) := by simp [Hid, mwC, gcC, B_true hG, hl, hI]
      have HR : Hid (mwV n es x = 0) := by simp [Hid, mwV, B_true hG, hl, hI]
      have HI := Lib.hid hI
      rw [B_true hG] at HSP
      clear hG hI hl
      go_enter Tryd.func6, Tryd.ntmps6
      go_wp2_with fail
      refine HSP.out.mono ?_
      rintro e w1 ⟨rfl, hb1⟩
      have hB1 := hbb.thenB (by simp) hb1
      obtain ⟨s1, p1, q1⟩ := hbox.below hb1
      clear hb1 hbb hbox
      go_wp2_with (go_at_call 14; refine (in_any _ _ _ _).mono ?_; rintro e w' ⟨rfl, rfl⟩; rw [HI.out])
      go_ret2
      exact ⟨ret2 HR.out.symm HC.out.symm, hB1⟩
  · have HC : Hid (mwC n es x = 1) := by simp [Hid, mwC, gcC, B_false hG]
    have HR : Hid (mwV n es x = 0) := by simp [Hid, mwV, B_false hG]
    rw [B_false hG] at HSP
    clear hG hbox hl
    go_enter Tryd.func6, Tryd.ntmps6
    go_wp2_with fail
    refine HSP.out.mono ?_
    rintro e w1 ⟨rfl, hb1⟩
    have hB1 := hbb.thenB (by simp) hb1
    clear hb1 hbb
    go_wp2_with fail
    go_ret2
    exact ⟨ret2 HR.out.symm HC.out.symm, hB1⟩
set_option maxRecDepth 100000 in
set_option maxHeartbeats 1000000 in
theorem imMatchingsWith_any (n : Int) (b o m c : Nat) (es : List (Int × Int)) (x : Int) (w : World) (h : Eds w b o m es) (hm : m ≤ 1048576) (hT : TabAt 0 Lib.deBruijn64tab w) (h0 : 0 < w.heap.size) :
    Calls Tryd.prog 8 #[.agg #[.int .i64 n, .slice (some ⟨b, o, none⟩) m c], .int .i64 x] w (Ret (.tuple #[.int .i64 (mwV n es x), .int .i64 (mwC n es x)]) w) := by
  have KC := cell_rg
  have hbx := Box2.made w (.int .i64 n) (.slice (some ⟨b, o, none⟩) m c) 30
  have hbb := (by go_grown : Below w.heap.size w (w.alloc (.cells #[.int .i64 n, .slice (some ⟨b, o, none⟩) m c] 30)))
  have hl := h.len
  have HT := Lib.hid hT
  clear hT
  have hGC : ∀ r : Bool, ∀ k : Int, gcC n es r = k → ∀ d os, Calls Tryd.prog 18 #[.agg #[.int .i64 n, .slice (some ⟨b, o, none⟩) m c], .bool r] (grow (redrawn (w.alloc (.cells #[.int .i64 n, .slice (some ⟨b, o, none⟩) m c] 30)) d) os) fun e w'' => e = .returned (.int .i64 k) ∧ ∃ p : Regrown, w'' = grow (redrawn (w.alloc (.cells #[.int .i64 n, .slice (some ⟨b, o, none⟩) m c] 30)) p.d) p.os := fun r k hk d os =>
    Ret.rg (hk ▸ graphCode_any n _ _ _ _ es r _ ((h.alloc _).below (below_regrown _ _ _)) hm)
  have HGC := Lib.hid hGC
  clear hGC
  obtain ⟨r, hr⟩ : ∃ r, r = inB x 0 ((m : Int) - 1) := ⟨_, rfl⟩
  have hE' := fun W => (hr ▸ isEdge_any n (some ⟨b, o, none⟩) m c x W (by omega) : Calls Tryd.prog 19 #[.agg #[.int .i64 n, .slice (some ⟨b, o, none⟩) m c], .int .i64 x] W (Ret (.bool r) W))
  have HE := Lib.hid hE'
  have HRR := Lib.hid hr
  obtain ⟨k, hk⟩ : ∃ k, k = gcC n es r := ⟨_, rfl⟩
  have HG' := Lib.hid (HGC.out r k hk.symm)
  have HC : Hid (mwC n es x = k) := by show _ = _; rw [hk, hr, mwC, hl]
  by_cases hk0 : k = 0
  · have hG : IsG n es := Classical.byContradiction fun hG => by rw [hk0] at hk; simp [gcC, B_false hG] at hk
    have hrt : r = true := by
      cases hq : r with
      | true => rfl
      | false => rw [hk0, hq] at hk; simp [gcC, B_true hG] at hk
    rw [hr] at hrt
    have hn2 := hG.wf.1
    have hm30 : m ≤ 30 := by have := hG.wf.2.2.2.1; have := hG.wf.2.1; omega
    have hx := inB_iff.1 hrt
    have HG := Lib.hid hG
    have HR : Hid (mwV n es x = ((cntH x (mtAll es n.toNat) (mtAll es n.toNat).length : Nat) : Int)) := by simp [Hid, mwV, B_true hG, hl, hrt]
    have hkb : (k != 0) = false := by simp [hk0]
    clear hG hrt hE' hr hk
    subst hk0
    obtain ⟨N, rfl⟩ : ∃ N : Nat, n = N := ⟨n.toNat, by omega⟩
    obtain ⟨E, rfl⟩ : ∃ E : Nat, x = E := ⟨x.toNat, by omega⟩
    rw [Int.toNat_natCast] at HR
    have hpe := wrap_powD (x := E) (by omega)
    obtain ⟨pe, hpeE⟩ : ∃ pe, pe = (2 : Nat) ^ E := ⟨_, rfl⟩
    have hp64 : pe < 18446744073709551616 := by rw [hpeE]; exact lt_64 (n := 30) (Nat.pow_lt_pow_of_lt (by decide) (by omega)) (by decide)
    have HV : Hid (cM pe 0 (mts es N 10 0) = cntH (E : Int) (mtAll es N) (mtAll es N).length) := by show _ = _; rw [hpeE]; exact cM_cntH
    rw [← hpeE] at hpe
    clear hpeE hl
    go_enter Tryd.func8, Tryd.ntmps8
    go_wp2_with fail
    (refine wp_region_quiet_below (by kernel_rfl) (by kernel_rfl) ?_
     repeat (any_goals (go_big_quiet_step (first | (go_at_call 19; exact Ret.rg (HE.out _)) | (go_at_call 18; exact HG'.out _ _))))
     all_goals (refine wpQuiet_nil ?_; intro wq1 hq1; replace hq1 := below_of_rg hq1))
    have hB1 := hbb.thenB (by simp) hq1
    obtain ⟨s1, p1, q1'⟩ := hbx.below hq1
    have HCW : Hid (∀ W, Below wq1.heap.size wq1 W → Calls Tryd.prog 20 #[.agg #[.int .i64 N, .slice (some ⟨b, o, none⟩) m c], .int .u64 pe] W (Ret (.int .i64 ((cntH (E : Int) (mtAll es N) (mtAll es N).length : Nat) : Int)) W)) := fun W hW => by
      have hB2 := hB1.andB hW
      have := countWith_any (c := c) (wt := pe) W hm HG.out hp64 (h.below hB2) (TabAt.upto HT.out h0 hB2) (Nat.lt_of_lt_of_le h0 hB2.size)
      rw [HV.out] at this; exact this
    obtain ⟨R, hR⟩ : ∃ R, R = cntH (E : Int) (mtAll es N) (mtAll es N).length := ⟨_, rfl⟩
    rw [← hR] at HCW HR
    clear hR hbx hbb hq1
    go_wp2_with fail
    (refine wp_region_quiet_below (by kernel_rfl) (by kernel_rfl) ?_
     repeat (any_goals (go_big_quiet_step (first | (go_at_call 20; exact Ret.rg (HCW.out _ (below_regrown _ _ _))))))
     all_goals (refine wpQuiet_nil ?_; intro wq2 hq2; replace hq2 := below_of_rg hq2))
    go_wp2_with fail
    go_ret2
    exact ⟨ret2 HR.out.symm HC.out.symm, hB1.andB hq2⟩
  · have hkb : (k != 0) = true := by simpa using hk0
    have HR : Hid (mwV n es x = 0) := by
      show _ = _
      by_cases hG : IsG n es
      · cases hq : r with
        | true => rw [hq] at hk; simp [gcC, B_true hG] at hk; exact absurd hk hk0
        | false => rw [hq] at hr; simp [mwV, B_true hG, hl, ← hr]
      · simp [mwV, B_false hG]
    clear hk0 hk hr hE' hl
    go_enter Tryd.func8, Tryd.ntmps8
    go_wp2_with fail
    (refine wp_region_quiet_below (by kernel_rfl) (by kernel_rfl) ?_
     repeat (any_goals (go_big_quiet_step (first | (go_at_call 19; exact Ret.rg (HE.out _)) | (go_at_call 18; exact HG'.out _ _))))
     all_goals (refine wpQuiet_nil ?_; intro wq1 hq1; replace hq1 := below_of_rg hq1))
    go_wp2_with fail
    go_ret2
    exact ⟨ret2 HR.out.symm HC.out.symm, hbb.thenB (by simp) hq1⟩
end Go.Proofs.YtppfplhbfgjjhaaDoor
