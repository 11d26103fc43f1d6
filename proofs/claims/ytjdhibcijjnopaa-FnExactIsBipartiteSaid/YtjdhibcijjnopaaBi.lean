import Derived.Test.YtjdhibcijjnopaaCv
import Derived.Test.YtjdhibcijjnopaaMb
import Derived.Test.YtjdhibcijjnopaaFs
namespace Go.Proofs.Ytjdhibcijjnopaa
open Go.RowKit Go.Sort
/-! ### IsBipartite -/
noncomputable def bdF (n : Int) (es : List (Int × Int)) (e : Nat) (v : Int) : Int := farF es noSk n (leadF es noSk (ea es e)) v
noncomputable def bdP (n : Int) (es : List (Int × Int)) (e : Nat) : Prop := (bdF n es e (ea es e) + bdF n es e (eb es e)) % 2 = 0
noncomputable def bpB (n : Int) (es : List (Int × Int)) (m : Nat) : Bool := B (∀ e, e < m → ¬ bdP n es e)
theorem bd_in {n : Int} {es : List (Int × Int)} (hn : WfP n es) {e : Nat} (he : e < es.length) :
    (0 ≤ leadF es noSk (ea es e) ∧ leadF es noSk (ea es e) ≤ n - 1) ∧ (0 ≤ bdF n es e (ea es e) ∧ bdF n es e (ea es e) ≤ 19) ∧ 0 ≤ bdF n es e (eb es e) ∧ bdF n es e (eb es e) ≤ 19 := by
  have r := hn.2.2.2.2 e he
  have h0 := leadF_nonneg es noSk (ea es e)
  have h1 := leadF_le (es := es) (sk := noSk) (v := ea es e) r.1
  have hr := (leadF_spec (es := es) (sk := noSk) (v := ea es e) r.1).1.symm
  have ha : AdjE es noSk (ea es e) (eb es e) := ⟨e, he, rfl, .inl ⟨rfl, rfl⟩⟩
  have b1 := farF_bd (sk := noSk) hn (a := leadF es noSk (ea es e)) h0 (by omega) (ea es e)
  have b2 := farF_bd (sk := noSk) hn (a := leadF es noSk (ea es e)) h0 (by omega) (eb es e)
  have f1 := (farF_iff (sk := noSk) hn (a := leadF es noSk (ea es e)) h0 (by omega) (ea es e)).2 hr
  have f2 := (farF_iff (sk := noSk) hn (a := leadF es noSk (ea es e)) h0 (by omega) (eb es e)).2 (hr.step ha)
  exact ⟨⟨h0, by omega⟩, ⟨f1, b1.2⟩, f2, b2.2⟩
theorem sdTo_row {es : List (Int × Int)} {sk : Nat → Bool} {N : Nat} : ∀ k j, j < (sdTo es sk N k).length → ∃ v : Nat, v < k ∧ leadF es sk v = v ∧ ra (sdTo es sk N k) j = cmTo es sk v N := by
  intro k
  induction k with
  | zero => intro j hj; simp [sdTo] at hj
  | succ k ih =>
    intro j hj
    by_cases hc : leadF es sk k = k
    · rw [sdTo_yes hc] at hj ⊢
      by_cases hjl : j < (sdTo es sk N k).length
      · obtain ⟨v, hv, h⟩ := ih j hjl
        exact ⟨v, by omega, h.1, by rw [ra_app_lt hjl]; exact h.2⟩
      · obtain rfl : j = (sdTo es sk N k).length := by simp at hj; omega
        exact ⟨k, by omega, hc, ra_app_at⟩
    · rw [sdTo_no hc] at hj ⊢
      obtain ⟨v, hv, h⟩ := ih j hj
      exact ⟨v, by omega, h⟩
theorem sdTo_all {es : List (Int × Int)} {sk : Nat → Bool} {N : Nat} : ∀ k (v : Nat), v < k → leadF es sk v = v → ∃ j, j < (sdTo es sk N k).length ∧ ra (sdTo es sk N k) j = cmTo es sk v N := by
  intro k
  induction k with
  | zero => intro v hv; omega
  | succ k ih =>
    intro v hv hl
    by_cases e : v = k
    · subst e
      rw [sdTo_yes hl]
      exact ⟨(sdTo es sk N v).length, by simp, ra_app_at⟩
    · obtain ⟨j, hj, h⟩ := ih v (by omega) hl
      by_cases hc : leadF es sk k = k
      · rw [sdTo_yes hc]; exact ⟨j, by simp; omega, by rw [ra_app_lt hj]; exact h⟩
      · rw [sdTo_no hc]; exact ⟨j, hj, h⟩
/-- The first of a part is its leader. -/
theorem cmTo_first {es : List (Int × Int)} {sk : Nat → Bool} {v : Nat} (h : leadF es sk v = v) : ∀ k, v < k → 1 ≤ (cmTo es sk v k).length ∧ ia (cmTo es sk v k) 0 = v := by
  intro k
  induction k with
  | zero => intro hk; omega
  | succ k ih =>
    intro hk
    by_cases e : v = k
    · subst e
      rw [cmTo_yes (Rch.refl _ _ _), cmTo_low h]
      exact ⟨by simp, by simp [ia]⟩
    · have := ih (by omega)
      simp only [cmTo, List.length_append]
      exact ⟨by omega, by rw [ia_app (by omega)]; exact this.2⟩
set_option maxRecDepth 100000 in
set_option maxHeartbeats 1600000 in
theorem spIsBipartite_any (n : Int) (b o m c : Nat) (es : List (Int × Int)) (w : World) (h : Eds w b o m es) (hm : m ≤ 1048576) :
    Calls Try.prog 36 #[.agg #[.int .i64 n, .slice (some ⟨b, o, none⟩) m c]] w (Ret (.tuple #[.bool (B (IsG n es) && bpB n es m), .int .i64 (imC n es)]) w) := by
  have KC := cell_rg
  have hbox := Box2.made w (.int .i64 n) (.slice (some ⟨b, o, none⟩) m c) 31
  have hbb := (by go_grown : Below w.heap.size w (w.alloc (.cells #[.int .i64 n, .slice (some ⟨b, o, none⟩) m c] 31)))
  have HSP := Lib.hid (l01Is_any n b o m c es _ (h.alloc (.cells #[.int .i64 n, .slice (some ⟨b, o, none⟩) m c] 31)) hm)
  by_cases hG : IsG n es
  rotate_left
  · have HC : Hid (imC n es = 1) := by simp [Hid, imC, B_false hG]
    have HR : Hid ((B (IsG n es) && bpB n es m) = false) := by simp [Hid, B_false hG]
    rw [B_false hG] at HSP
    clear hG hbox
    go_enter Try.func36, Try.ntmps36
    go_wp2_with fail
    refine HSP.out.mono ?_
    rintro e w1 ⟨rfl, hb1⟩
    have hB1 := hbb.thenB (by simp) hb1
    clear hb1 hbb
    go_wp2_with fail
    go_ret2
    exact ⟨retBC HR.out.symm HC.out.symm, hB1⟩
  have HC : Hid (imC n es = 0) := by simp [Hid, imC, B_true hG]
  have HR : Hid ((B (IsG n es) && bpB n es m) = bpB n es m) := by simp [Hid, B_true hG]
  have HW := Lib.hid hG.wf
  have hl := Lib.hid h.len
  rw [B_true hG] at HSP
  have hn2 := hG.wf.1
  have hn20 := hG.wf.2.1
  obtain ⟨N, rfl⟩ : ∃ N : Nat, n = N := ⟨n.toNat, by omega⟩
  clear hG
  go_enter Try.func36, Try.ntmps36
  go_wp2_with fail
  refine HSP.out.mono ?_
  rintro e w1 ⟨rfl, hb1⟩
  have hB1 := hbb.thenB (by simp) hb1
  have hbx := hbox.below hb1
  obtain ⟨s1, p1, q1⟩ := hbox.below hb1
  clear hb1 hbb hbox
  go_wp2_with (go_at_call 74; refine (leaders_any N b o m c es _ (h.below hB1) hm HW.out.inR (by omega) (by omega)).mono ?_; rintro e w2 ⟨A2, c2, rfl, ho, hb2⟩)
  have hB2 := hB1.andB hb2
  have hbx := hbx.below hb2
  obtain ⟨g2, rfl, hbg, hlg⟩ : ∃ g, A2 = some ⟨g, 0, none⟩ ∧ w1.heap.size ≤ g ∧ g < w2.heap.size := by
    rcases ho.cases with ⟨_, h0, _⟩ | h0
    · rw [lsF_len] at h0; omega
    · exact h0
  rw [lsF_len] at ho ⊢
  clear s1 p1 q1 hb2
  go_loopw [5] (fun ev wr => ∃ e : Nat, e ≤ m ∧ ev = .int .i64 e ∧ Hid (∀ e', e' < e → ¬ bdP N es e') ∧ Below w2.heap.size w2 wr) (fun e _ => m - (intOf e).toNat)
  case atStart => exact ⟨0, Nat.zero_le _, rfl, fun e he => absurd he (by omega), Below.refl _ _⟩
  case round =>
    obtain ⟨e, he, rfl, HP, hb1⟩ := hrel
    have hbr := hB2.andB hb1
    obtain ⟨z1, pp1, qq1⟩ := hbx.below hb1
    have O := ho.below hb1
    by_cases hlt : e < m
    · have r := HW.out.2.2.2.2 e (by rw [hl.out]; exact hlt)
      have bi := bd_in HW.out (by rw [hl.out]; exact hlt : e < es.length)
      have HBD : Hid (bdP N es e ↔ (bdF N es e (ea es e) + bdF N es e (eb es e)) % 2 = 0) := Iff.rfl
      unfold bdF at bi HBD
      obtain ⟨x, hx⟩ : ∃ x : Nat, ea es e = x := ⟨(ea es e).toNat, by omega⟩
      obtain ⟨y, hy⟩ : ∃ y : Nat, eb es e = y := ⟨(eb es e).toNat, by omega⟩
      rw [hx, hy] at bi HBD
      obtain ⟨v, hv⟩ : ∃ v : Nat, leadF es noSk x = v := ⟨(leadF es noSk x).toNat, by omega⟩
      rw [hv] at bi HBD
      have hxN : x < N := by omega
      have hyN : y < N := by omega
      have E := h.below hbr
      have d1 := E.ca e hlt
      have d2 := E.cb e hlt
      have zb := E.blk
      rw [hx] at d1
      rw [hy] at d2
      have l1 := O.cell hxN
      rw [lsF_at _ hxN, hv] at l1
      have zg := (O.blk g2 rfl).2
      have HFA := Lib.hid (fun W hE => sk_none ▸ Int.toNat_natCast N ▸ l01Far_any N b o m c es v (-1) W hE hm HW.out (by omega) (by omega))
      obtain ⟨fx, hfx⟩ : ∃ fx, farF es noSk N v x = fx := ⟨_, rfl⟩
      obtain ⟨fy, hfy⟩ : ∃ fy, farF es noSk N v y = fy := ⟨_, rfl⟩
      rw [hfx, hfy] at bi HBD
      have HFX := Lib.hid hfx
      have HXE := Lib.hid hx
      have HYE := Lib.hid hy
      have HFY := Lib.hid hfy
      have b1 := bi.2.1.1
      have b2 := bi.2.1.2
      have b3 := bi.2.2.1
      have b4 := bi.2.2.2
      clear r hx hy hv hfx hfy bi
      go_wp2_with fail
      go_still_tail 10, (by kernel_rfl)
      change wpList _ _ _ _ _ wr.drew
      have hbd : Below wr.heap.size wr wr.drew := (Below.refl _ _).drew
      have X := Box2.below ⟨z1, pp1, qq1⟩ hbd
      have E := E.below hbd
      obtain ⟨w4, hw4⟩ : ∃ w4, w4 = wr.drew := ⟨_, rfl⟩
      rw [← hw4] at X E hbd ⊢
      clear hw4 z1 pp1 qq1 d1 d2 zb l1 zg
      go_wp2_with fail
      refine (HFA.out _ E).mono ?_
      rintro _ w5 ⟨g5, rfl, hg5, R, hb5⟩
      obtain ⟨z1, pp1, qq1⟩ := X.below hb5
      have E := E.below hb5
      have d1 := E.ca e hlt
      have d2 := E.cb e hlt
      have zb := E.blk
      have r1 := R.cell hxN
      have r2 := R.cell hyN
      have zg := R.lt
      have hb6 := (hb1.andB hbd).andB hb5
      have hws : IntKind.i64.wrap (fx + fy) = fx + fy := IntWalk.i64_in _ (by omega)
      have hwt : (fx + fy).tmod 2 = (fx + fy) % 2 := Int.tmod_eq_emod_of_nonneg (by omega)
      simp only [HFX.out] at r1
      simp only [HFY.out] at r2
      rw [HXE.out] at d1
      rw [HYE.out] at d2
      by_cases hbad : (fx + fy) % 2 = 0
      · have h1 : ((fx + fy) % 2 == 0) = true := by simp [hbad]
        have HV : Hid (bpB N es m = false) := B_false fun hh => hh e hlt (HBD.out.2 hbad)
        clear hbad
        go_wp2_with fail
        (refine wp_region_quiet_below (by kernel_rfl) (by kernel_rfl) ?_
         repeat (any_goals (go_big_quiet_step (first | fail)))
         all_goals (refine wpQuiet_nil ?_; intro wq7 hq7; replace hq7 := below_of_rg hq7))
        go_wp2_with fail
        go_ret2
        exact ⟨retBC (by rw [HR.out, HV.out]) HC.out.symm, (hB2.andB hb6).andB hq7⟩
      · have h1 : ((fx + fy) % 2 == 0) = false := by simp [hbad]
        have HP' : Hid (∀ e', e' < e + 1 → ¬ bdP N es e') := fun e' he' => by
          by_cases e2 : e' = e
          · subst e2; exact fun hh => hbad (HBD.out.1 hh)
          · exact HP.out e' (by omega)
        clear hbad
        go_wp2_with fail
        (refine wp_region_quiet_below (by kernel_rfl) (by kernel_rfl) ?_
         repeat (any_goals (go_big_quiet_step (first | fail)))
         all_goals (refine wpQuiet_nil ?_; intro wq7 hq7; replace hq7 := below_of_rg hq7))
        go_wp2_with fail
        go_roundw
        case rel => exact ⟨e + 1, by omega, by go_num, HP', hb6.andB hq7⟩
        case measure => simp [intOf]; omega
    · obtain rfl : e = m := by omega
      have HV : Hid (bpB N es e = true) := B_true HP.out
      go_wp2_with fail
      go_ret2
      exact ⟨retBC (by rw [HR.out, HV.out]) HC.out.symm, hbr⟩
set_option maxRecDepth 100000 in
set_option maxHeartbeats 3200000 in
theorem imIsBipartite_any (n : Int) (b o m c : Nat) (es : List (Int × Int)) (w : World) (h : Eds w b o m es) (hm : m ≤ 1048576) :
    Calls Try.prog 37 #[.agg #[.int .i64 n, .slice (some ⟨b, o, none⟩) m c]] w (Ret (.tuple #[.bool (B (IsG n es) && bpB n es m), .int .i64 (imC n es)]) w) := by
  have KC := cell_rg
  have hbox := Box2.made w (.int .i64 n) (.slice (some ⟨b, o, none⟩) m c) 31
  have hbb := (by go_grown : Below w.heap.size w (w.alloc (.cells #[.int .i64 n, .slice (some ⟨b, o, none⟩) m c] 31)))
  have HGC := Lib.hid (graphCode_any n b o m c es true _ (h.alloc (.cells #[.int .i64 n, .slice (some ⟨b, o, none⟩) m c] 31)) hm)
  by_cases hG : IsG n es
  rotate_left
  · have HC : Hid (imC n es = 1) := by simp [Hid, imC, B_false hG]
    have HR : Hid ((B (IsG n es) && bpB n es m) = false) := by simp [Hid, B_false hG]
    rw [show gcC n es true = 1 by simp [gcC, B_false hG]] at HGC
    clear hG hbox
    go_enter Try.func37, Try.ntmps37
    go_wp2_with fail
    refine HGC.out.mono ?_
    rintro e w1 ⟨rfl, hb1⟩
    have hB1 := hbb.thenB (by simp) hb1
    clear hb1 hbb
    go_wp2_with fail
    go_ret2
    exact ⟨retBC HR.out.symm HC.out.symm, hB1⟩
  have HC : Hid (imC n es = 0) := by simp [Hid, imC, B_true hG]
  have HR : Hid ((B (IsG n es) && bpB n es m) = bpB n es m) := by simp [Hid, B_true hG]
  have HW := Lib.hid hG.wf
  have hl := Lib.hid h.len
  rw [show gcC n es true = 0 by simp [gcC, B_true hG]] at HGC
  have hn2 := hG.wf.1
  have hn20 := hG.wf.2.1
  obtain ⟨N, rfl⟩ : ∃ N : Nat, n = N := ⟨n.toNat, by omega⟩
  have HS0 := Lib.hid (fun W hE => skS_none ▸ sides_any N b o m c 0 es W hE hm hG.wf (by omega))
  rw [Int.toNat_natCast] at HS0
  clear hG
  go_enter Try.func37, Try.ntmps37
  go_wp2_with fail
  refine HGC.out.mono ?_
  rintro e w1 ⟨rfl, hb1⟩
  have hB1 := hbb.thenB (by simp) hb1
  have hbx := hbox.below hb1
  obtain ⟨s1, p1, q1⟩ := hbox.below hb1
  clear hb1 hbb hbox
  go_wp2_with (go_at_call 58; refine (HS0.out _ (h.below hB1)).mono ?_; rintro e w2 ⟨A2, c2, rfl, ho, hb2⟩)
  have hB2 := hB1.andB hb2
  have hbx := hbx.below hb2
  have HROW := Lib.hid (fun j hj => sdTo_row (es := es) (sk := noSk) (N := N) N j hj)
  have HALL := Lib.hid (fun v hv hl => sdTo_all (es := es) (sk := noSk) (N := N) N v hv hl)
  obtain ⟨rows, hrows⟩ : ∃ rows, sdTo es noSk N N = rows := ⟨_, rfl⟩
  have hlen : rows.length ≤ 20 := by rw [← hrows, sdTo_len]; have := ldCnt_le es noSk N; omega
  rw [hrows] at ho HROW HALL ⊢
  clear s1 p1 q1 hb2 hrows
  go_loopw [18] (fun iv wr => ∃ i : Nat, i ≤ rows.length ∧ iv = .int .i64 i ∧ Hid (∀ i', i' < i → ∀ v : Nat, leadF es noSk v = v → ra rows i' = cmTo es noSk v N → ∀ e, e < m → leadF es noSk (ea es e) = v → ¬ bdP N es e) ∧ Below w2.heap.size w2 wr) (fun i _ => rows.length - (intOf i).toNat)
  case atStart => exact ⟨0, Nat.zero_le _, rfl, fun i hi => absurd hi (by omega), Below.refl _ _⟩
  case round =>
    obtain ⟨w3, rfl⟩ : ∃ w3, w3 = wr := ⟨wr, rfl⟩
    obtain ⟨i, hi, rfl, HP, hb1⟩ := hrel
    have hbr := hB2.andB hb1
    by_cases hlt : i < rows.length
    · obtain ⟨v, hvN, hlv, hrv⟩ := HROW.out i hlt
      have hcf := cmTo_first hlv N hvN
      have hcl := cmTo_len es noSk v N
      obtain ⟨g2, Aj, cj, rfl, hbg, hlg, hcell, hown⟩ := (ho.below hb1).at hlt
      rw [hrv] at hcell hown
      obtain ⟨g4, o4, rfl, I4⟩ := hown.src (by omega)
      have c4 := I4.c 0 (by omega)
      rw [hcf.2, Nat.add_zero] at c4
      have z4 := I4.blk
      obtain ⟨lc, hlc⟩ : ∃ lc, (cmTo es noSk v N).length = lc := ⟨_, rfl⟩
      have hlc1 : 0 < lc := by rw [← hlc]; exact hcf.1
      have hlc2 : lc ≤ N := by rw [← hlc]; exact hcl
      rw [hlc] at hcell
      have E := h.below hbr
      obtain ⟨z1, pp1, qq1⟩ := hbx.below hb1
      have HFA := Lib.hid (fun W hE => skS_none ▸ Int.toNat_natCast N ▸ distances_any N b o m c 0 es v W hE hm HW.out (by omega) (by omega) (by omega))
      have HLV := Lib.hid hlv
      have HRV := Lib.hid hrv
      clear hlv hrv hcf hcl I4 hlc hown
      go_wp2_with fail
      go_still_tail 4, (by kernel_rfl)
      change wpList _ _ _ _ _ w3.drew
      have hbd : Below w3.heap.size w3 w3.drew := (Below.refl _ _).drew
      have X := Box2.below ⟨z1, pp1, qq1⟩ hbd
      have E := E.below hbd
      obtain ⟨w4, hw4⟩ : ∃ w4, w4 = w3.drew := ⟨_, rfl⟩
      rw [← hw4] at X E hbd ⊢
      clear hw4 z1 pp1 qq1 c4 z4 hcell
      go_wp2_with fail
      refine (HFA.out _ E).mono ?_
      rintro _ w5 ⟨g5, rfl, hg5, R, hb5⟩
      have X := X.below hb5
      have E := E.below hb5
      have hb6 := (hb1.andB hbd).andB hb5
      obtain ⟨z1, pp1, qq1⟩ := X
      clear hb5 hbd
      go_wp2_with fail
      go_loopw [30] (fun ev wv => ∃ e : Nat, e ≤ m ∧ ev = .int .i64 e ∧ Hid (∀ e', e' < e → leadF es noSk (ea es e') = v → ¬ bdP N es e') ∧ Below w5.heap.size w5 wv) (fun e _ => m - (intOf e).toNat)
      case atStart => exact ⟨0, Nat.zero_le _, rfl, fun e he => absurd he (by omega), Below.refl _ _⟩
      case round =>
        clear z1 pp1 qq1
        obtain ⟨e, he, rfl, HQ, hb7⟩ := hrel
        have hb8 := hb6.andB hb7
        by_cases hlte : e < m
        · have r := HW.out.2.2.2.2 e (by rw [hl.out]; exact hlte)
          have bi := bd_in HW.out (by rw [hl.out]; exact hlte : e < es.length)
          have hfi := farF_iff (sk := noSk) HW.out (a := v) (by omega) (by omega) (ea es e)
          have hli := lead_is (es := es) (sk := noSk) (v := v) (w := (ea es e).toNat) HLV.out
          have HBD : Hid (bdP N es e ↔ (bdF N es e (ea es e) + bdF N es e (eb es e)) % 2 = 0) := Iff.rfl
          unfold bdF at bi HBD
          obtain ⟨x, hx⟩ : ∃ x : Nat, ea es e = x := ⟨(ea es e).toNat, by omega⟩
          obtain ⟨y, hy⟩ : ∃ y : Nat, eb es e = y := ⟨(eb es e).toNat, by omega⟩
          have hxN : x < N := by omega
          have hyN : y < N := by omega
          have E := E.below hb7
          have d1 := E.ca e hlte
          have d2 := E.cb e hlte
          have R := R.of_block (hb7.block _ R.lt)
          have r1 := R.cell hxN
          have r2 := R.cell hyN
          have zg := R.lt
          rw [hx] at d1
          rw [hy] at d2
          rw [hx] at hfi hli
          rw [hx, hy] at bi HBD
          rw [Int.toNat_natCast] at hli
          obtain ⟨fx, hfx⟩ : ∃ fx, farF es noSk N v x = fx := ⟨_, rfl⟩
          obtain ⟨fy, hfy⟩ : ∃ fy, farF es noSk N v y = fy := ⟨_, rfl⟩
          simp only [hfx] at r1
          rw [hfx] at hfi
          simp only [hfy] at r2
          have hiff : 0 ≤ fx ↔ leadF es noSk x = v := hfi.trans hli.symm
          have HXE := Lib.hid hx
          clear hfi hli hx hy E R r
          by_cases hf : 0 ≤ fx
          · have hlx := hiff.1 hf
            rw [hlx, hfx, hfy] at bi HBD
            have b2 := bi.2.1.2
            have b3 := bi.2.2.1
            have b4 := bi.2.2.2
            have t1 : fx.tmod 2 = fx % 2 := Int.tmod_eq_emod_of_nonneg (by omega)
            have t2 : fy.tmod 2 = fy % 2 := Int.tmod_eq_emod_of_nonneg (by omega)
            have hd1 : decide (0 ≤ fx) = true := by simp [hf]
            by_cases hbad : (fx + fy) % 2 = 0
            · have hm1 : (fx % 2 == fy % 2) = true := by simp; omega
              have HV : Hid (bpB N es m = false) := B_false fun hh => hh e hlte (HBD.out.2 hbad)
              clear hbad hiff hlx bi hfx hfy
              go_wp2_with fail
              have Y := Box2.made wr (.int .i64 x) (.int .i64 y) 63
              have hba : Below wr.heap.size wr (wr.alloc (.cells #[.int .i64 x, .int .i64 y] 63)) := (Below.refl _ _).alloc (Nat.le_refl _) _
              have r1 := (bcell hba).1 _ _ zg ▸ r1
              have r2 := (bcell hba).1 _ _ zg ▸ r2
              have zg := bsz hba _ zg
              obtain ⟨w7, hw7⟩ : ∃ w7, w7 = wr.alloc (.cells #[.int .i64 x, .int .i64 y] 63) := ⟨_, rfl⟩
              rw [← hw7] at Y hba r1 r2 zg ⊢
              obtain ⟨y1, y2, y3⟩ := Y
              clear hw7 d1 d2
              (refine wp_region_quiet_below (by kernel_rfl) (by kernel_rfl) ?_
               repeat (any_goals (go_big_quiet_step (first | fail)))
               all_goals (refine wpQuiet_nil ?_; intro wq9 hq9; replace hq9 := below_of_rg hq9))
              go_wp2_with fail
              go_ret2
              exact ⟨retBC (by rw [HR.out, HV.out]) HC.out.symm, ((hB2.andB hb8).andB hba).andB hq9⟩
            · have hm1 : (fx % 2 == fy % 2) = false := by simp; omega
              have HQ' : Hid (∀ e', e' < e + 1 → leadF es noSk (ea es e') = v → ¬ bdP N es e') := fun e' he' hl' => by
                by_cases e2 : e' = e
                · subst e2; exact fun hh => hbad (HBD.out.1 hh)
                · exact HQ.out e' (by omega) hl'
              clear hbad hiff hlx bi hfx hfy
              go_wp2_with fail
              have Y := Box2.made wr (.int .i64 x) (.int .i64 y) 63
              have hba : Below wr.heap.size wr (wr.alloc (.cells #[.int .i64 x, .int .i64 y] 63)) := (Below.refl _ _).alloc (Nat.le_refl _) _
              have r1 := (bcell hba).1 _ _ zg ▸ r1
              have r2 := (bcell hba).1 _ _ zg ▸ r2
              have zg := bsz hba _ zg
              obtain ⟨w7, hw7⟩ : ∃ w7, w7 = wr.alloc (.cells #[.int .i64 x, .int .i64 y] 63) := ⟨_, rfl⟩
              rw [← hw7] at Y hba r1 r2 zg ⊢
              obtain ⟨y1, y2, y3⟩ := Y
              clear hw7 d1 d2
              (refine wp_region_quiet_below (by kernel_rfl) (by kernel_rfl) ?_
               repeat (any_goals (go_big_quiet_step (first | fail)))
               all_goals (refine wpQuiet_nil ?_; intro wq9 hq9; replace hq9 := below_of_rg hq9))
              go_wp2_with fail
              go_roundw
              case rel => exact ⟨e + 1, by omega, by go_num, HQ', (hb7.andB hba).andB hq9⟩
              case measure => simp [intOf]; omega
          · have hlx : ¬ leadF es noSk x = v := fun hh => hf (hiff.2 hh)
            have hd1 : decide (0 ≤ fx) = false := by simp; omega
            have HQ' : Hid (∀ e', e' < e + 1 → leadF es noSk (ea es e') = v → ¬ bdP N es e') := fun e' he' hl' => by
              by_cases e2 : e' = e
              · subst e2; rw [HXE.out] at hl'; exact absurd hl' hlx
              · exact HQ.out e' (by omega) hl'
            clear hiff hlx bi hfx hfy hf
            go_wp2_with fail
            have Y := Box2.made wr (.int .i64 x) (.int .i64 y) 63
            have hba : Below wr.heap.size wr (wr.alloc (.cells #[.int .i64 x, .int .i64 y] 63)) := (Below.refl _ _).alloc (Nat.le_refl _) _
            have r1 := (bcell hba).1 _ _ zg ▸ r1
            have r2 := (bcell hba).1 _ _ zg ▸ r2
            have zg := bsz hba _ zg
            obtain ⟨w7, hw7⟩ : ∃ w7, w7 = wr.alloc (.cells #[.int .i64 x, .int .i64 y] 63) := ⟨_, rfl⟩
            rw [← hw7] at Y hba r1 r2 zg ⊢
            obtain ⟨y1, y2, y3⟩ := Y
            clear hw7 d1 d2
            (refine wp_region_quiet_below (by kernel_rfl) (by kernel_rfl) ?_
             repeat (any_goals (go_big_quiet_step (first | fail)))
             all_goals (refine wpQuiet_nil ?_; intro wq9 hq9; replace hq9 := below_of_rg hq9))
            go_wp2_with fail
            go_roundw
            case rel => exact ⟨e + 1, by omega, by go_num, HQ', (hb7.andB hba).andB hq9⟩
            case measure => simp [intOf]; omega
        · obtain rfl : e = m := by omega
          have HP' : Hid (∀ i', i' < i + 1 → ∀ v : Nat, leadF es noSk v = v → ra rows i' = cmTo es noSk v N → ∀ e', e' < e → leadF es noSk (ea es e') = v → ¬ bdP N es e') := fun i' hi' v' hv' hr' e' he' hl' => by
            by_cases e2 : i' = i
            · subst e2
              refine HQ.out e' he' ?_
              rw [hl']
              have hv'N : v' < N := by
                have r := HW.out.2.2.2.2 e' (by rw [hl.out]; exact he')
                have := leadF_le (es := es) (sk := noSk) (v := ea es e') r.1
                omega
              have a1 := (cmTo_first HLV.out N hvN).2
              have a2 := (cmTo_first hv' N hv'N).2
              rw [← HRV.out, hr', a2] at a1
              exact a1
            · exact HP.out i' (by omega) v' hv' hr' e' he' hl'
          go_wp2_with fail
          go_roundw
          case rel => exact ⟨i + 1, by omega, by go_num, HP', hb8⟩
          case measure => simp [intOf]; omega
    · obtain rfl : i = rows.length := by omega
      have HV : Hid (bpB N es m = true) := B_true fun e he => by
        have r := HW.out.2.2.2.2 e (by rw [hl.out]; exact he)
        have h0 := leadF_nonneg es noSk (ea es e)
        have h1 := leadF_le (es := es) (sk := noSk) (v := ea es e) r.1
        have h2 := leadF_lead (es := es) (sk := noSk) (v := ea es e) r.1
        obtain ⟨v, hv⟩ : ∃ v : Nat, leadF es noSk (ea es e) = v := ⟨(leadF es noSk (ea es e)).toNat, by omega⟩
        rw [hv] at h2
        obtain ⟨j, hj, hr⟩ := HALL.out v (by omega) h2
        exact HP.out j hj v h2 hr e he hv
      go_wp2_with fail
      go_ret2
      exact ⟨retBC (by rw [HR.out, HV.out]) HC.out.symm, hbr⟩
end Go.Proofs.Ytjdhibcijjnopaa
