import Derived.Test.YtccinfmphkihoaaCx
import Derived.Test.YtccinfmphkihoaaDm
namespace Go.Proofs.Ytccinfmphkihoaa
open Go.RowKit Go.Sort
/-! ### CyclicConnectivity -/
noncomputable def cyK (n : Int) (es : List (Int × Int)) (k : Nat) : Bool := anyG (fun s => cyB n es (skS s)) es.length k 0 0
def ctK (p : Nat → Bool) : Nat := if p 1 then 1 else if p 2 then 2 else if p 3 then 3 else if p 4 then 4 else 0
theorem ctK_no {p : Nat → Bool} (h : ∀ k, 1 ≤ k → k < 5 → p k = false) : ctK p = 0 := by
  simp [ctK, h 1 (by omega) (by omega), h 2 (by omega) (by omega), h 3 (by omega) (by omega), h 4 (by omega) (by omega)]
theorem ctK_at {p : Nat → Bool} {k : Nat} (h1 : 1 ≤ k) (h2 : k < 5) (h : p k = true) (hl : ∀ j, 1 ≤ j → j < k → p j = false) : ctK p = k := by
  rcases (show k = 1 ∨ k = 2 ∨ k = 3 ∨ k = 4 by omega) with rfl | rfl | rfl | rfl
  · simp [ctK, h]
  · simp [ctK, h, hl 1 (by omega) (by omega)]
  · simp [ctK, h, hl 1 (by omega) (by omega), hl 2 (by omega) (by omega)]
  · simp [ctK, h, hl 1 (by omega) (by omega), hl 2 (by omega) (by omega), hl 3 (by omega) (by omega)]
noncomputable def ctV (n : Int) (es : List (Int × Int)) : Int := if ccC n es = 0 then (ctK (cyK n es) : Nat) else 0
noncomputable def ctC (n : Int) (es : List (Int × Int)) : Int := if ccC n es = 0 then (if ctK (cyK n es) = 0 then 4 else 0) else ccC n es
noncomputable def ctT (n : Int) (es : List (Int × Int)) : Value := .tuple #[.int .i64 (ctV n es), .int .i64 (ctC n es)]
theorem ctT_no {n : Int} {es : List (Int × Int)} (h0 : ccC n es = 0) (h : ∀ k, 1 ≤ k → k < 5 → cyK n es k = false) : ctT n es = .tuple #[.int .i64 0, .int .i64 4] := by
  simp [ctT, ctV, ctC, h0, ctK_no h]
theorem ctT_at {n : Int} {es : List (Int × Int)} {k : Nat} (h0 : ccC n es = 0) (h1 : 1 ≤ k) (h2 : k < 5) (h : cyK n es k = true) (hl : ∀ j, 1 ≤ j → j < k → cyK n es j = false) : ctT n es = .tuple #[.int .i64 k, .int .i64 0] := by
  have hne : k ≠ 0 := by omega
  simp [ctT, ctV, ctC, h0, ctK_at h1 h2 h hl, hne]
theorem ctT_n {n : Int} {es : List (Int × Int)} (h0 : ccC n es ≠ 0) : ctT n es = .tuple #[.int .i64 0, .int .i64 (ccC n es)] := by simp [ctT, ctV, ctC, h0]
theorem enCy : Enters 76 := fun args w => by kernel_rfl
set_option maxRecDepth 100000 in
set_option maxHeartbeats 2000000 in
theorem imCyclicConnectivity_any (n : Int) (b o m c : Nat) (es : List (Int × Int)) (w : World) (h : Eds w b o m es) (hm : m ≤ 1048576) :
    Calls Try.prog 45 #[.agg #[.int .i64 n, .slice (some ⟨b, o, none⟩) m c]] w (Ret (ctT n es) w) := by
  have KC := cell_rg
  have hbox := Box2.made w (.int .i64 n) (.slice (some ⟨b, o, none⟩) m c) 30
  have hbb := (by go_grown : Below w.heap.size w (w.alloc (.cells #[.int .i64 n, .slice (some ⟨b, o, none⟩) m c] 30)))
  have HGC := Lib.hid (connectedCode_any n b o m c es _ (h.alloc (.cells #[.int .i64 n, .slice (some ⟨b, o, none⟩) m c] 30)) hm)
  rcases (show ccC n es = 0 ∨ ccC n es ≠ 0 from Classical.em _) with h0 | h0
  rotate_left
  · have HT := Lib.hid (ctT_n h0)
    obtain ⟨K, hK⟩ : ∃ K, ccC n es = K := ⟨_, rfl⟩
    rw [hK] at HGC HT h0
    rw [HT.out]
    have hkb : (K != 0) = true := by simpa using h0
    clear hK h0
    go_enter Try.func45, Try.ntmps45
    go_wp2_with fail
    refine HGC.out.mono ?_
    rintro e w1 ⟨rfl, hb1⟩
    have hB1 := hbb.thenB (by simp) hb1
    clear hb1 hbb hbox
    go_wp2_with fail
    go_ret2
    exact ⟨rfl, hB1⟩
  have hG : IsG n es := by
    rcases dm_cases n es with ⟨hG, h1, h2⟩ | ⟨hG, hq, h1, h2⟩ | ⟨hG, hq, h1, h2⟩
    · rw [h0] at h1; cases h1
    · rw [h0] at h1; cases h1
    · exact hG
  have hm30 : m ≤ 30 := by have := hG.wf.2.2.2.1; have := hG.wf.2.1; have := h.len; omega
  have HNO := Lib.hid (fun (x : ∀ k, 1 ≤ k → k < 5 → cyK n es k = false) => ctT_no h0 x)
  have HAT := Lib.hid (fun (k : Nat) (h1 : 1 ≤ k) (h2 : k < 5) (x : cyK n es k = true) (y : ∀ j, 1 ≤ j → j < k → cyK n es j = false) => ctT_at h0 h1 h2 x y)
  rw [h0] at HGC
  have HCH : Hid (∀ (k : Nat) W, k ≤ 4 → Eds W b o m es → Calls Try.prog 58 #[.int .i64 m, .int .i64 k, .func (.func 76) #[.agg #[.int .i64 n, .slice (some ⟨b, o, none⟩) m c]] #[]] W (Ret (.bool (cyK n es k)) W)) := fun k W hk E => by
    have e : es.length = m := h.len
    have := choose_any 76 (.agg #[.int .i64 n, .slice (some ⟨b, o, none⟩) m c]) (fun s => cyB n es (skS s)) m k W enCy hm30 hk (fun s hs W' hW => isCyclic_any n b o m c s es W' (E.below hW) hm hG.wf (by have := pow30 hm30; omega))
    unfold cyK; rw [e]; exact this
  clear h0 hG
  go_enter Try.func45, Try.ntmps45
  go_wp2_with fail
  refine HGC.out.mono ?_
  rintro e w1 ⟨rfl, hb1⟩
  have hB1 := hbb.thenB (by simp) hb1
  obtain ⟨s1, p1, q1⟩ := hbox.below hb1
  clear hb1 hbb hbox HGC
  go_wp2_with fail
  go_loopw [5] (fun kv wr => ∃ k : Nat, 1 ≤ k ∧ k ≤ 5 ∧ kv = .int .i64 k ∧ Hid (∀ j, 1 ≤ j → j < k → cyK n es j = false) ∧ Below w1.heap.size w1 wr) (fun k _ => 5 - (intOf k).toNat)
  case atStart => exact ⟨1, Nat.le_refl _, by omega, rfl, (fun j h1 h2 => absurd h2 (by omega)), Below.refl _ _⟩
  case round =>
    obtain ⟨k, hk1, hk5, rfl, HP, hbr⟩ := hrel
    obtain ⟨s2, p2, q2⟩ := Box2.below ⟨s1, p1, q1⟩ hbr
    have hB := hB1.andB hbr
    by_cases hlt : k < 5
    · obtain ⟨r, hr⟩ : ∃ r, r = cyK n es k := ⟨_, rfl⟩
      have hC : ∀ d oz, Calls Try.prog 58 #[.int .i64 m, .int .i64 k, .func (.func 76) #[.agg #[.int .i64 n, .slice (some ⟨b, o, none⟩) m c]] #[]] (grow (redrawn wr d) oz) fun e w'' => e = .returned (.bool r) ∧ ∃ p : Regrown, w'' = grow (redrawn wr p.d) p.os := fun d oz =>
        Ret.rg (hr ▸ HCH.out k _ (by omega) ((h.below hB).below (below_regrown _ _ _)))
      have HC := Lib.hid hC
      clear hC s1 p1 q1
      cases r with
      | true =>
        have HT := Lib.hid (HAT.out k hk1 hlt hr.symm HP.out)
        clear hr
        go_wp2_with fail
        (refine wp_region_quiet_below (by kernel_rfl) (by kernel_rfl) ?_
         repeat (any_goals (go_big_quiet_step (first | (go_at_call 59; exact Is.rg (lengthE_any _ _ _ _ (by omega))) | (go_at_call 58; exact HC.out _ _))))
         all_goals (refine wpQuiet_nil ?_; intro wq2 hq2; replace hq2 := below_of_rg hq2))
        go_wp2_with fail
        go_ret2
        exact ⟨by rw [HT.out] <;> rfl, hB.andB hq2⟩
      | false =>
        have HP2 : Hid (∀ j, 1 ≤ j → j < k + 1 → cyK n es j = false) := fun j h1 h2 => by
          by_cases e : j = k
          · subst e; exact hr.symm
          · exact HP.out j h1 (by omega)
        clear hr
        go_wp2_with fail
        (refine wp_region_quiet_below (by kernel_rfl) (by kernel_rfl) ?_
         repeat (any_goals (go_big_quiet_step (first | (go_at_call 59; exact Is.rg (lengthE_any _ _ _ _ (by omega))) | (go_at_call 58; exact HC.out _ _))))
         all_goals (refine wpQuiet_nil ?_; intro wq2 hq2; replace hq2 := below_of_rg hq2))
        go_wp2_with fail
        go_roundw
        case rel => exact ⟨k + 1, by omega, by omega, by go_num, HP2, hbr.andB hq2⟩
        case measure => simp [intOf]; omega
    · obtain rfl : k = 5 := by omega
      have HT := Lib.hid (HNO.out (fun j h1 h2 => HP.out j h1 h2))
      go_wp2_with fail
      go_ret2
      exact ⟨by rw [HT.out] <;> rfl, hB⟩
end Go.Proofs.Ytccinfmphkihoaa
namespace Go.Proofs.Ytccinfmphkihoaa
open Go.RowKit Go.Sort
/-! ### CyclicConnectivity, the reference -/
theorem cyK_iff (n : Int) (es : List (Int × Int)) (k : Nat) : cyK n es k = true ↔ ∃ j, j < (setsL es.length k 0).length ∧ cyB n es (skS (setN (ia (ra (setsL es.length k 0) j)) (ra (setsL es.length k 0) j).length)) = true := by
  unfold cyK
  rw [anyG_iff _ _ _ _ _ (Nat.zero_le _)]
  constructor
  · rintro ⟨x, hx, h⟩
    obtain ⟨j, hj, e⟩ := List.mem_iff_getElem.1 hx
    have : ra (setsL es.length k 0) j = x := by simp [ra, hj, e]
    exact ⟨j, hj, by rw [this]; rw [Nat.zero_or] at h; exact h⟩
  · rintro ⟨j, hj, h⟩
    have : ra (setsL es.length k 0) j ∈ setsL es.length k 0 := by simp [ra, hj]
    exact ⟨_, this, by rw [Nat.zero_or]; exact h⟩
theorem ra_mem {rows : List (List Int)} {j : Nat} (h : j < rows.length) : ra rows j ∈ rows := by simp [ra, h]
set_option maxRecDepth 100000 in
set_option maxHeartbeats 2000000 in
theorem spCyclicConnectivity_any (n : Int) (b o m c : Nat) (es : List (Int × Int)) (w : World) (h : Eds w b o m es) (hm : m ≤ 1048576) :
    Calls Try.prog 44 #[.agg #[.int .i64 n, .slice (some ⟨b, o, none⟩) m c]] w (Ret (ctT n es) w) := by
  have KC := cell_rg
  have hbox := Box2.made w (.int .i64 n) (.slice (some ⟨b, o, none⟩) m c) 30
  have hbb := (by go_grown : Below w.heap.size w (w.alloc (.cells #[.int .i64 n, .slice (some ⟨b, o, none⟩) m c] 30)))
  have HSP := Lib.hid (l01Is_any n b o m c es _ (h.alloc (.cells #[.int .i64 n, .slice (some ⟨b, o, none⟩) m c] 30)) hm)
  rcases dm_cases n es with ⟨hG, h1, _⟩ | ⟨hG, hq, h1, _⟩ | ⟨hG, hq, h1, _⟩
  · have HT := Lib.hid (ctT_n (n := n) (es := es) (by rw [h1]; decide))
    rw [h1] at HT
    rw [HT.out]
    rw [B_false hG] at HSP
    clear hG h1
    go_enter Try.func44, Try.ntmps44
    go_wp2_with fail
    refine HSP.out.mono ?_
    rintro e w1 ⟨rfl, hb1⟩
    have hB1 := hbb.thenB (by simp) hb1
    clear hb1 hbb hbox
    go_wp2_with fail
    go_ret2
    exact ⟨rfl, hB1⟩
  · have HT := Lib.hid (ctT_n (n := n) (es := es) (by rw [h1]; decide))
    rw [h1] at HT
    rw [HT.out]
    rw [B_true hG] at HSP
    have HIC := Lib.hid (fun W hE => hq ▸ l01Connected_any n b o m c es W hE hm hG.wf)
    clear hG h1 hq
    go_enter Try.func44, Try.ntmps44
    go_wp2_with fail
    refine HSP.out.mono ?_
    rintro e w1 ⟨rfl, hb1⟩
    have hB1 := hbb.thenB (by simp) hb1
    obtain ⟨s1, p1, q1⟩ := hbox.below hb1
    clear hb1 hbb hbox
    go_wp2_with fail
    refine (HIC.out _ (h.below hB1)).mono ?_
    rintro e w2 ⟨rfl, hb2⟩
    go_wp2_with fail
    go_ret2
    exact ⟨rfl, hB1.andB hb2⟩
  have hm30 : m ≤ 30 := by have := hG.wf.2.2.2.1; have := hG.wf.2.1; have := h.len; omega
  have hl : es.length = m := h.len
  have HNO := Lib.hid (fun (x : ∀ k, 1 ≤ k → k < 5 → cyK n es k = false) => ctT_no h1 x)
  have HAT := Lib.hid (fun (k : Nat) (h1' : 1 ≤ k) (h2 : k < 5) (x : cyK n es k = true) (y : ∀ j, 1 ≤ j → j < k → cyK n es j = false) => ctT_at h1 h1' h2 x y)
  have HIF := Lib.hid (fun k => cyK_iff n es k)
  rw [hl] at HIF
  have HG := Lib.hid hG.wf
  rw [B_true hG] at HSP
  have HIC := Lib.hid (fun W hE => hq ▸ l01Connected_any n b o m c es W hE hm hG.wf)
  have HST := Lib.hid (fun (k : Nat) W (hk : k ≤ 4) => l03Sets_any m hm30 k 0 W hk (Nat.zero_le _))
  clear hG h1 hq hl
  go_enter Try.func44, Try.ntmps44
  go_wp2_with fail
  refine HSP.out.mono ?_
  rintro e w1 ⟨rfl, hb1⟩
  have hB1 := hbb.thenB (by simp) hb1
  have hbx := hbox.below hb1
  obtain ⟨s1, p1, q1⟩ := hbox.below hb1
  clear hb1 hbb hbox
  go_wp2_with fail
  refine (HIC.out _ (h.below hB1)).mono ?_
  rintro e w2 ⟨rfl, hb2⟩
  have hB2 := hB1.andB hb2
  obtain ⟨s1, p1, q1⟩ := hbx.below hb2
  clear hb2 hB1 HIC HSP hbx
  go_wp2_with fail
  go_loopw [4] (fun kv wr => ∃ k : Nat, 1 ≤ k ∧ k ≤ 5 ∧ kv = .int .i64 k ∧ Hid (∀ j, 1 ≤ j → j < k → cyK n es j = false) ∧ Below w2.heap.size w2 wr) (fun k _ => 5 - (intOf k).toNat)
  case atStart => exact ⟨1, Nat.le_refl _, by omega, rfl, (fun j h1 h2 => absurd h2 (by omega)), Below.refl _ _⟩
  case round =>
    obtain ⟨k, hk1, hk5, rfl, HP, hbr⟩ := hrel
    obtain ⟨s2, p2, q2⟩ := Box2.below ⟨s1, p1, q1⟩ hbr
    have hB := hB2.andB hbr
    by_cases hlt : k < 5
    · have hST : Hid (Calls Try.prog 53 #[.int .i64 m, .int .i64 k, .int .i64 0] wr (RetLL (setsL m k 0) wr)) := HST.out k wr (by omega)
      have hIF := Lib.hid (HIF.out k)
      have hRM : Hid (∀ j, j < (setsL m k 0).length → (ra (setsL m k 0) j).length = k ∧ SetP (ia (ra (setsL m k 0) j)) (ra (setsL m k 0) j).length ((m : Int) - 1)) := fun j hj => by
        have hx := ra_mem hj
        refine ⟨(setsL_room (Nat.zero_le _) hx).2, fun t ht => ?_⟩
        have := setsL_asc (Nat.zero_le _) hx t ht
        exact ⟨⟨by omega, by omega⟩, this.2⟩
      have hlen : (setsL m k 0).length ≤ 1048576 := Nat.le_trans (setsL_len hm30 k 0) (Nat.pow_le_pow_right (n := 32) (by decide) (by omega : k ≤ 4))
      have hHAT := Lib.hid (fun x => HAT.out k hk1 hlt x HP.out)
      obtain ⟨rows, hrows⟩ : ∃ rows, rows = setsL m k 0 := ⟨_, rfl⟩
      rw [← hrows] at hST hIF hRM hlen
      clear hrows
      go_wp2_with fail
      refine hST.out.mono ?_
      rintro e w3 ⟨AR, cR, rfl, OR, hb3⟩
      have hB3 := hB.andB hb3
      obtain ⟨s3, p3, q3⟩ := Box2.below ⟨s2, p2, q2⟩ hb3
      have hb23 := hbr.andB hb3
      clear hST s1 p1 q1 s2 p2 q2 hbr hb3 hB
      go_wp2_with fail
      obtain ⟨w9, rfl⟩ : ∃ w9, w9 = wr := ⟨wr, rfl⟩
      go_loopw [6] (fun jv wv => ∃ j : Nat, j ≤ rows.length ∧ jv = .int .i64 j ∧ Hid (∀ i, i < j → cyB n es (skS (setN (ia (ra rows i)) (ra rows i).length)) = false) ∧ Below w3.heap.size w3 wv) (fun j _ => rows.length - (intOf j).toNat)
      case atStart => exact ⟨0, Nat.zero_le _, rfl, (fun i hi => absurd hi (by omega)), Below.refl _ _⟩
      case round =>
        obtain ⟨j, hj, rfl, HQ, hbv⟩ := hrel
        obtain ⟨s4, p4, q4⟩ := Box2.below ⟨s3, p3, q3⟩ hbv
        have hBv := hB3.andB hbv
        by_cases hltj : j < rows.length
        · obtain ⟨g, Aj, cj, rfl, hg1, hg2, ca, ho⟩ := (OR.below hbv).at hltj
          obtain ⟨r1, r2⟩ := hRM.out j hltj
          obtain ⟨gj, oj, rfl, I⟩ := ho.src (by omega)
          obtain ⟨r, hr⟩ : ∃ r, r = cyB n es (skS (setN (ia (ra rows j)) (ra rows j).length)) := ⟨_, rfl⟩
          obtain ⟨xs, hxs⟩ : ∃ xs, xs = ra rows j := ⟨_, rfl⟩
          have hr' : r = cyB n es (skS (setN (ia xs) xs.length)) := by rw [hxs]; exact hr
          rw [← hxs] at ca I r1 r2
          have hC : ∀ d oz, Calls Try.prog 75 #[.agg #[.int .i64 n, .slice (some ⟨b, o, none⟩) m c], .slice (some ⟨gj, oj, none⟩) xs.length cj] (grow (redrawn wr d) oz) fun e w'' => e = .returned (.bool r) ∧ ∃ p : Regrown, w'' = grow (redrawn wr p.d) p.os := fun d oz =>
            Ret.rg (hr' ▸ l03Cyclic_any n b o m c gj oj xs.length cj es (ia xs) ((m : Int) - 1) _ ((h.below hBv).below (below_regrown _ _ _)) hm HG.out (I.below (below_regrown _ _ _)) (by omega) r2)
          have HC := Lib.hid hC
          have HR := Lib.hid hr
          clear hC hr hr' hxs ho I r1 r2 s3 p3 q3
          cases r with
          | true =>
            have HT := Lib.hid (hHAT.out (hIF.out.2 ⟨j, hltj, HR.out.symm⟩))
            go_wp2_with fail
            (refine wp_region_quiet_below (by kernel_rfl) (by kernel_rfl) ?_
             repeat (any_goals (go_big_quiet_step (first | (go_at_call 75; exact HC.out _ _))))
             all_goals (refine wpQuiet_nil ?_; intro wq2 hq2; replace hq2 := below_of_rg hq2))
            go_wp2_with fail
            go_ret2
            exact ⟨by rw [HT.out] <;> rfl, hBv.andB hq2⟩
          | false =>
            have HQ2 : Hid (∀ i, i < j + 1 → cyB n es (skS (setN (ia (ra rows i)) (ra rows i).length)) = false) := fun i hi => by
              by_cases e : i = j
              · subst e; exact HR.out.symm
              · exact HQ.out i (by omega)
            go_wp2_with fail
            (refine wp_region_quiet_below (by kernel_rfl) (by kernel_rfl) ?_
             repeat (any_goals (go_big_quiet_step (first | (go_at_call 75; exact HC.out _ _))))
             all_goals (refine wpQuiet_nil ?_; intro wq2 hq2; replace hq2 := below_of_rg hq2))
            go_wp2_with fail
            go_roundw
            case rel => exact ⟨j + 1, by omega, by go_num, HQ2, hbv.andB hq2⟩
            case measure => simp [intOf]; omega
        · obtain rfl : j = rows.length := by omega
          have hkf : Hid (cyK n es k = false) := by
            show _ = _
            cases hx : cyK n es k with
            | false => rfl
            | true =>
              obtain ⟨i, hi, h2⟩ := hIF.out.1 hx
              rw [HQ.out i hi] at h2; cases h2
          have HP2 : Hid (∀ j, 1 ≤ j → j < k + 1 → cyK n es j = false) := fun j h1 h2 => by
            by_cases e : j = k
            · subst e; exact hkf.out
            · exact HP.out j h1 (by omega)
          clear hkf
          go_wp2_with fail
          go_roundw
          case rel => exact ⟨k + 1, by omega, by omega, by go_num, HP2, hb23.andB hbv⟩
          case measure => simp [intOf]; omega
    · obtain rfl : k = 5 := by omega
      have HT := Lib.hid (HNO.out (fun j h1 h2 => HP.out j h1 h2))
      go_wp2_with fail
      go_ret2
      exact ⟨by rw [HT.out] <;> rfl, hB⟩
end Go.Proofs.Ytccinfmphkihoaa
namespace Go.Proofs.Ytccinfmphkihoaa
open Go.RowKit Go.Sort
theorem spCyclicConnectivity_t (n : Int) (b o m c : Nat) (es : List (Int × Int)) (w : World) (h : Eds w b o m es) (hm : m ≤ 1048576) :
    Calls Try.prog 44 #[.agg #[.int .i64 n, .slice (some ⟨b, o, none⟩) m c]] w (Ret (.tuple #[.int .i64 (ctV n es), .int .i64 (ctC n es)]) w) := spCyclicConnectivity_any n b o m c es w h hm
theorem imCyclicConnectivity_t (n : Int) (b o m c : Nat) (es : List (Int × Int)) (w : World) (h : Eds w b o m es) (hm : m ≤ 1048576) :
    Calls Try.prog 45 #[.agg #[.int .i64 n, .slice (some ⟨b, o, none⟩) m c]] w (Ret (.tuple #[.int .i64 (ctV n es), .int .i64 (ctC n es)]) w) := imCyclicConnectivity_any n b o m c es w h hm
end Go.Proofs.Ytccinfmphkihoaa
