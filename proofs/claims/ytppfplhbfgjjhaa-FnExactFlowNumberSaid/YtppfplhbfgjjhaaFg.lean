import Derived.Test.YtppfplhbfgjjhaaM8
namespace Go.Proofs.Ytppfplhbfgjjhaa
open Go.RowKit Go.Sort
set_option maxRecDepth 100000 in
set_option maxHeartbeats 2000000 in
theorem l02FitsX_any (n : Int) (b o m c b2 o2 l c2 e : Nat) (es : List (Int × Int)) (cs0 cs : Nat → Int) (w : World) (h : Eds w b o m es) (hm : m ≤ 1048576) (hG : IsG n es) (h2 : Ints w b2 o2 l cs0) (he : e < m) (hel : e ≤ l) (hc0 : ∀ f, f < e → cs0 f = cs f) :
    Calls Try.prog 113 #[.agg #[.int .i64 n, .slice (some ⟨b, o, none⟩) m c], .slice (some ⟨b2, o2, none⟩) l c2, .int .i64 e, .int .i64 (cs e)] w (Ret (.bool (B (FitP es cs e))) w) := by
  have hl := Lib.hid h.len
  have HG := Lib.hid hG
  have hbx := Box2.made w (.int .i64 n) (.slice (some ⟨b, o, none⟩) m c) 30
  have hbb := (by go_grown : Below w.heap.size w (w.alloc (.cells #[.int .i64 n, .slice (some ⟨b, o, none⟩) m c] 30)))
  have HC0 := Lib.hid hc0
  clear hG hc0
  go_enter Try.func113, Try.ntmps113
  go_wp2_with fail
  obtain ⟨w1, hw1⟩ : ∃ w1, w1 = w.alloc (Obj.cells #[Value.int IntKind.i64 n, Value.slice (some ⟨b, o, none⟩) m c] 30) := ⟨_, rfl⟩
  rw [← hw1] at hbx hbb ⊢
  clear hw1
  have E1 := h.below hbb
  have I1 := h2.below hbb
  obtain ⟨s1, p1, q1⟩ := hbx
  go_loopw [9] (fun kv wv => ∃ k : Nat, k ≤ 2 ∧ kv = .int .i64 k ∧ Hid (∀ k', k' < k → FitK es cs e k') ∧ Below w1.heap.size w1 wv) (fun k _ => 2 - (intOf k).toNat)
  case atStart => exact ⟨0, by omega, rfl, fun k hk => absurd hk (by omega), Below.refl _ _⟩
  case round =>
    obtain ⟨k, hk, rfl, HF, hbr⟩ := hrel
    have hsz := hbr.size
    by_cases hk2 : k < 2
    · have E := E1.below hbr
      have k1 := (hbr.cell (p := ⟨w.heap.size, 0, none⟩) s1).trans p1
      have k2 := (hbr.cell (p := ⟨w.heap.size, 1, none⟩) s1).trans q1
      have s2 : w.heap.size < wr.heap.size := by omega
      have ce := vE_cell E he hk2
      have hv := vE_in HG.out.wf (2 * e + k) (by rw [hl.out]; omega)
      obtain ⟨L, hL⟩ : ∃ L, L = atL es (vE es (2 * e + k)) := ⟨_, rfl⟩
      have hL3 : L.length = 3 := by rw [hL]; exact atL_3 HG.out hv.1 hv.2
      have HL3 := Lib.hid hL3
      have HLm := Lib.hid (show ∀ i, i < 3 → 0 ≤ ia L i ∧ ia L i < m from fun i hi => by
        obtain ⟨f, hf, e1, _⟩ := mem_atTo.1 (show ia L i ∈ atTo es (vE es (2 * e + k)) es.length by have := ia_mem (xs := L) (i := i) (by omega); rw [hL] at this ⊢; exact this)
        rw [hl.out] at hf
        omega)
      have HAT := Lib.hid (fitK_at (cs := cs) (e := e) (k := k) (by rw [hl.out]; exact he : e < es.length))
      have HRL := Lib.hid (show ∀ W, Below wr.heap.size wr W → Calls Try.prog 112 #[.agg #[.int .i64 n, .slice (some ⟨b, o, none⟩) m c], .int .i64 (vE es (2 * e + k))] W (RetL L W) from fun W hW => by rw [hL]; exact l01At_any n b o m c es _ W (E.below hW) hm)
      rw [← hL] at HAT
      clear hL hL3 hv
      go_wp2_with fail
      refine wp_region_facts (fun i v W => match i with
        | 0 => v = .agg #[.int .i64 n, .slice (some ⟨b, o, none⟩) m c]
        | 1 => v = .pointer (some ⟨w.heap.size, 1, none⟩)
        | 2 => v = .slice (some ⟨b, o, none⟩) m c
        | 3 => v = .int .i64 e
        | 4 => v = .int .i64 k
        | 5 => v = .pointer (some ⟨b, o + e * 2, none⟩)
        | 6 => v = .pointer (some ⟨b, o + e * 2 + k, none⟩)
        | 7 => v = .int .i64 (vE es (2 * e + k))
        | _ => NewL wr.heap.size L v W) (by kernel_rfl) (by kernel_rfl) ?_ ?_ ?_
      · intro i v W W' hf hb
        match i, hf with
        | 0, hf => exact hf
        | 1, hf => exact hf
        | 2, hf => exact hf
        | 3, hf => exact hf
        | 4, hf => exact hf
        | 5, hf => exact hf
        | 6, hf => exact hf
        | 7, hf => exact hf
        | (i + 8), hf => exact NewL.below hf hb
      · refine ⟨?_, ?_, ?_, ?_, ?_, ?_, ?_, ?_, ?_, ?_, trivial⟩
        · intro a W hW hs hd
          have e5 : a.tmps[4]?.getD undef = .pointer (some ⟨w.heap.size, 0, none⟩) := hs 4 (by kernel_rfl)
          have k0 := (hW.cell (p := ⟨w.heap.size, 0, none⟩) s2).trans k1
          have k1 := (hW.cell (p := ⟨w.heap.size, 1, none⟩) s2).trans k2
          clear hs hd
          unfold Grows
          go_simp
          exact Below.refl _ _
        · intro a W hW hs hd
          have e5 : a.tmps[4]?.getD undef = .pointer (some ⟨w.heap.size, 0, none⟩) := hs 4 (by kernel_rfl)
          have k0 := (hW.cell (p := ⟨w.heap.size, 0, none⟩) s2).trans k1
          have k1 := (hW.cell (p := ⟨w.heap.size, 1, none⟩) s2).trans k2
          clear hs hd
          unfold Grows
          go_simp
          exact Below.refl _ _
        · intro a W hW hs hd
          have e5 : a.tmps[17]?.getD undef = .pointer (some ⟨w.heap.size, 1, none⟩) := hd 1 17 (by kernel_rfl) (by kernel_rfl)
          have k1 := (hW.cell (p := ⟨w.heap.size, 1, none⟩) s2).trans k2
          clear hs hd
          unfold Grows
          go_simp
          exact Below.refl _ _
        · intro a W hW hs hd
          have e5 : a.tmps[2]?.getD undef = .int .i64 e := hs 2 (by kernel_rfl)
          clear hs hd
          unfold Grows
          go_simp
          exact Below.refl _ _
        · intro a W hW hs hd
          have e5 : a.tmps[9]?.getD undef = .int .i64 k := hs 9 (by kernel_rfl)
          clear hs hd
          unfold Grows
          go_simp
          exact Below.refl _ _
        · intro a W hW hs hd
          have e5 : a.tmps[18]?.getD undef = .slice (some ⟨b, o, none⟩) m c := hd 2 18 (by kernel_rfl) (by kernel_rfl)
          have e6 : a.tmps[19]?.getD undef = .int .i64 e := hd 3 19 (by kernel_rfl) (by kernel_rfl)
          have EW := E.below hW
          have d1 := EW.ca e he
          have d2 := EW.cb e he
          clear hs hd EW
          unfold Grows
          go_simp
          exact Below.refl _ _
        · intro a W hW hs hd
          have e5 : a.tmps[21]?.getD undef = .pointer (some ⟨b, o + e * 2, none⟩) := hd 5 21 (by kernel_rfl) (by kernel_rfl)
          have e6 : a.tmps[20]?.getD undef = .int .i64 k := hd 4 20 (by kernel_rfl) (by kernel_rfl)
          clear hs hd
          unfold Grows
          go_simp
          exact Below.refl _ _
        · intro a W hW hs hd
          have e5 : a.tmps[22]?.getD undef = .pointer (some ⟨b, o + e * 2 + k, none⟩) := hd 6 22 (by kernel_rfl) (by kernel_rfl)
          have d1 := vE_cell (E.below hW) he hk2
          clear hs hd
          unfold Grows
          go_simp
          exact Below.refl _ _
        · intro a W hW hs hd
          have e16 : a.tmps[16]?.getD undef = .agg #[.int .i64 n, .slice (some ⟨b, o, none⟩) m c] := hd 0 16 (by kernel_rfl) (by kernel_rfl)
          have e18 : a.tmps[23]?.getD undef = .int .i64 (vE es (2 * e + k)) := hd 7 23 (by kernel_rfl) (by kernel_rfl)
          clear hs hd
          unfold Grows
          go_simp
          refine ⟨Below.refl _ _, (HRL.out W hW).mono ?_⟩
          rintro e w6 ⟨A, c', rfl, ho, hb6⟩
          exact ⟨_, rfl, hb6, A, c', rfl, ho.mono hW.size⟩
        · intro a W hW hs hd
          have e19 : NewL wr.heap.size L (a.tmps[24]?.getD undef) W := hd 8 24 (by kernel_rfl) (by kernel_rfl)
          obtain ⟨A, c', e19, ho⟩ := e19
          clear hs hd
          unfold Grows
          go_simp
          exact ⟨Below.refl _ _, A, c', rfl, ho⟩
      intro vs W hW hf
      have f10 : NewL wr.heap.size L (vs 10) W := hf 9 10 (by kernel_rfl)
      obtain ⟨A, c', f10, ho⟩ := f10
      obtain ⟨b3, o3, rfl, I3⟩ := ho.src (by rw [HL3.out]; decide)
      rw [HL3.out] at f10 I3
      have I2 := (I1.below hbr).below hW
      have s3 := I3.blk
      have s4 := I2.blk
      simp only [dsts, List.filterMap_cons, List.filterMap_nil, List.foldl_cons, List.foldl_nil, Act.put, List.setIfInBounds_toArray, List.set_cons_succ, List.set_cons_zero, f10]
      clear hf f10 ho E ce k1 k2 HRL
      have hbW := hbr.andB hW
      clear hW
      go_wp2_with fail
      go_loop [11] (fun iv => ∃ i : Nat, i ≤ 3 ∧ iv = .int .i64 i ∧ Hid (∀ i', i' < i → ia L i' < e → cs (ia L i').toNat ≠ cs e)) (fun i => 3 - (intOf i).toNat)
      case atStart => exact ⟨0, by omega, rfl, fun i hi => absurd hi (by omega)⟩
      case round =>
        obtain ⟨i, hi, rfl, HI⟩ := hrel
        by_cases hi3 : i < 3
        · have c1 := I3.c i hi3
          have hx := HLm.out i hi3
          obtain ⟨x, hxe⟩ : ∃ x : Nat, ia L i = x := ⟨(ia L i).toNat, by omega⟩
          have hxm : x < m := by omega
          rw [hxe] at c1
          have HX := Lib.hid hxe
          clear hxe hx
          by_cases hlt : x < e
          · have c2 := I2.c x (by omega)
            rw [HC0.out x hlt] at c2
            have hxl : x < l := by omega
            by_cases hcs : cs x = cs e
            · have HV : Hid (B (FitP es cs e) = false) := B_false fun hf => HAT.out.1 (hf k hk2) i (by rw [HL3.out]; exact hi3) (by rw [HX.out]; omega) (by rw [HX.out, Int.toNat_natCast]; exact hcs)
              go_wp2_with fail
              go_ret
              exact ⟨ret_bool HV.out.symm, hbb.andB hbW⟩
            · have HI' : Hid (∀ i', i' < i + 1 → ia L i' < e → cs (ia L i').toNat ≠ cs e) := fun u hu hul => by
                by_cases hui : u = i
                · subst hui; rw [HX.out, Int.toNat_natCast]; exact hcs
                · exact HI.out u (by omega) hul
              go_wp2_with fail
              go_round
              case rel => exact ⟨i + 1, by omega, by go_num, HI'⟩
              case measure => simp [intOf]; omega
          · have HI' : Hid (∀ i', i' < i + 1 → ia L i' < e → cs (ia L i').toNat ≠ cs e) := fun u hu hul => by
              by_cases hui : u = i
              · subst hui; rw [HX.out] at hul; omega
              · exact HI.out u (by omega) hul
            go_wp2_with fail
            go_round
            case rel => exact ⟨i + 1, by omega, by go_num, HI'⟩
            case measure => simp [intOf]; omega
        · obtain rfl : i = 3 := by omega
          have HF' : Hid (∀ k', k' < k + 1 → FitK es cs e k') := fun u hu => by
            by_cases huk : u = k
            · subst huk; exact HAT.out.2 fun i hi => HI.out i (by rw [HL3.out] at hi; exact hi)
            · exact HF.out u (by omega)
          go_wp2_with fail
          go_roundw
          case rel => exact ⟨k + 1, by omega, by go_num, HF', hbW⟩
          case measure => simp [intOf]; omega
    · obtain rfl : k = 2 := by omega
      have HV : Hid (B (FitP es cs e) = true) := B_true fun k hk => HF.out k hk
      go_wp2_with fail
      go_ret
      exact ⟨ret_bool HV.out.symm, hbb.andB hbr⟩
end Go.Proofs.Ytppfplhbfgjjhaa
