import Derived.Test.YtccinfmphkihoaaCy
import Derived.Test.YtccinfmphkihoaaFd
namespace Go.Proofs.Ytccinfmphkihoaa
open Go.RowKit Go.Sort
/-! ### Sides with a cycle, the program -/
theorem sd_row {es : List (Int × Int)} {sk : Nat → Bool} {N : Nat} : ∀ {k : Nat}, k ≤ N → ∀ j, j < (sdTo es sk N k).length → ∃ v : Nat, v < N ∧ leadF es sk v = v ∧ ra (sdTo es sk N k) j = cmTo es sk v N := by
  intro k
  induction k with
  | zero => intro _ j hj; simp [sdTo] at hj
  | succ k ih =>
    intro hk j hj
    by_cases h : leadF es sk k = k
    · rw [sdTo_yes h] at hj ⊢
      by_cases hjl : j < (sdTo es sk N k).length
      · rw [ra_app_lt hjl]; exact ih (by omega) j hjl
      · have : j = (sdTo es sk N k).length := by simp at hj; omega
        subst this
        exact ⟨k, by omega, h, ra_app_at⟩
    · rw [sdTo_no h] at hj ⊢; exact ih (by omega) j hj
theorem cm_pos {es : List (Int × Int)} {sk : Nat → Bool} {N v : Nat} (hv : v < N) : 0 < (cmTo es sk v N).length := List.length_pos_of_mem (mem_cmTo.2 ⟨v, hv, rfl, Rch.refl _ _ _⟩)
theorem cm_rng {es : List (Int × Int)} {sk : Nat → Bool} {N v j : Nat} (hj : j < (cmTo es sk v N).length) : 0 ≤ ia (cmTo es sk v N) j ∧ ia (cmTo es sk v N) j < N := by
  obtain ⟨u, hu, e, _⟩ := mem_cmTo.1 (iaMem hj)
  omega
theorem joF_yes {es : List (Int × Int)} {sk : Nat → Bool} {xs : List Int} {i : Nat} (h : (hasL xs (ea es i) && hasL xs (eb es i) && !sk i) = true) : joF es sk xs (i + 1) = joF es sk xs i + 1 := cntTo_yes h
theorem joF_no {es : List (Int × Int)} {sk : Nat → Bool} {xs : List Int} {i : Nat} (h : (hasL xs (ea es i) && hasL xs (eb es i) && !sk i) = false) : joF es sk xs (i + 1) = joF es sk xs i := cntTo_no h
set_option maxRecDepth 100000 in
set_option maxHeartbeats 4000000 in
theorem sidesWithCycle_any (n : Int) (b o m c s : Nat) (es : List (Int × Int)) (w : World) (h : Eds w b o m es) (hm : m ≤ 1048576) (hn : WfP n es) (hs : s < 18446744073709551616) :
    Calls Try.prog 70 #[.agg #[.int .i64 n, .slice (some ⟨b, o, none⟩) m c], .int .u64 s] w (Ret (.tuple #[.int .i64 (ldCnt es (skS s) n.toNat), .int .i64 (cyT es (skS s) n.toNat n.toNat)]) w) := by
  have KC := cell_rg
  have hbox := Box2.made w (.int .i64 n) (.slice (some ⟨b, o, none⟩) m c) 30
  have hbb := (by go_grown : Below w.heap.size w (w.alloc (.cells #[.int .i64 n, .slice (some ⟨b, o, none⟩) m c] 30)))
  have hl := Lib.hid h.len
  have HW := Lib.hid hn
  have hn2 := hn.1
  have hn20 := hn.2.1
  have hm30 : m ≤ 30 := by have := hn.2.2.2.1; have := hl.out; omega
  have HSD := Lib.hid (sides_any n b o m c s es _ (h.below hbb) hm hn hs)
  obtain ⟨N, rfl⟩ : ∃ N : Nat, n = N := ⟨n.toNat, by omega⟩
  rw [Int.toNat_natCast] at HSD ⊢
  obtain ⟨rows, hrw⟩ : ∃ rows, rows = sdTo es (skS s) N N := ⟨_, rfl⟩
  have hlr : rows.length = ldCnt es (skS s) N := by rw [hrw]; exact sdTo_len _ _ _ _
  have hlr20 : rows.length ≤ 20 := by have := ldCnt_le es (skS s) N; omega
  have HCN : Hid (cntTo (fun j => rowC es (skS s) (ra rows j)) rows.length = cyT es (skS s) N N) := by rw [hrw]; exact rows_cnt hn rfl N
  have HRW : Hid (∀ j, j < rows.length → 0 < (ra rows j).length ∧ (ra rows j).length ≤ 20 ∧ ∀ i, i < (ra rows j).length → 0 ≤ ia (ra rows j) i ∧ ia (ra rows j) i ≤ 63) := fun j hj => by
    rw [hrw] at hj ⊢
    obtain ⟨v, hv, _, e⟩ := sd_row (Nat.le_refl N) j hj
    rw [e]
    exact ⟨cm_pos hv, by have := cmTo_len es (skS s) v N; omega, fun i hi => by have := cm_rng hi; omega⟩
  rw [← hrw] at HSD
  have HLR := Lib.hid hlr
  clear hn hrw hlr
  go_enter Try.func70, Try.ntmps70
  go_wp2_with fail
  refine HSD.out.mono ?_
  rintro e w1 ⟨A, c1, rfl, O, hb1⟩
  have hB1 := hbb.thenB (by simp) hb1
  obtain ⟨s1, p1, q1⟩ := hbox.below hb1
  have hE := h.below hB1
  clear hb1 hbb hbox HSD
  go_wp2_with fail
  go_loopw [7, 19] (fun mv i wr => ∃ j : Nat, j ≤ rows.length ∧ i = .int .i64 j ∧ mv = .int .i64 (cntTo (fun j => rowC es (skS s) (ra rows j)) j : Nat) ∧ Below w1.heap.size w1 wr) (fun _ i _ => rows.length - (intOf i).toNat)
  case atStart => exact ⟨0, Nat.zero_le _, rfl, rfl, Below.refl _ _⟩
  case round =>
    obtain ⟨j, hj, rfl, rfl, hbr⟩ := hrel
    have hcl := cntTo_le (fun j => rowC es (skS s) (ra rows j)) j
    by_cases hlt : j < rows.length
    · obtain ⟨g, Aj, cj, rfl, hg1, hg2, ca, ho⟩ := O.at hlt
      obtain ⟨r1, r2, r3⟩ := HRW.out j hlt
      obtain ⟨gj, rfl, hj1, hj2⟩ : ∃ g', Aj = some ⟨g', 0, none⟩ ∧ _ ∧ g' < w1.heap.size := by
        rcases ho.cases with ⟨_, h0, _⟩ | ⟨g', h1, h2, h3⟩
        · omega
        · exact ⟨g', h1, h2, h3⟩
      have c2 := (hbr.cell (p := ⟨g, j, none⟩) hg2).trans ca
      have s2 : g < wr.heap.size := Nat.lt_of_lt_of_le hg2 hbr.size
      have I : Ints wr gj 0 (ra rows j).length (ia (ra rows j)) := by
        obtain ⟨g9, o9, e9, I9⟩ := ho.src (by omega)
        obtain ⟨rfl, rfl⟩ : g9 = gj ∧ o9 = 0 := by injection e9 with e9; injection e9 with e1 e2; exact ⟨e1.symm, e2.symm⟩
        exact Ints.below I9 hbr
      have HC : Hid (∀ b, rowC es (skS s) (ra rows j) = b → cntTo (fun j => rowC es (skS s) (ra rows j)) (j + 1) = cntTo (fun j => rowC es (skS s) (ra rows j)) j + b.toNat) := fun b hb => cntTo_s hb
      obtain ⟨q, hq⟩ : ∃ q, cntTo (fun j => rowC es (skS s) (ra rows j)) j = q := ⟨_, rfl⟩
      rw [hq] at hcl HC
      have HQ := Lib.hid hq
      rw [hq]
      obtain ⟨xs, hxs⟩ : ∃ xs, xs = ra rows j := ⟨_, rfl⟩
      rw [← hxs] at c2 I r1 r2 r3 HC
      have hS64 : setN (ia xs) xs.length < 18446744073709551616 := setN_lt (fun i hi => (r3 i hi).2)
      have HV := Lib.hid r3
      have hEr := hE.below hbr
      have s3 : w.heap.size < wr.heap.size := Nat.lt_of_lt_of_le s1 hbr.size
      have p2 := (hbr.cell (p := ⟨w.heap.size, 0, none⟩) s1).trans p1
      have q2 := (hbr.cell (p := ⟨w.heap.size, 1, none⟩) s1).trans q1
      clear hq ho ca r3 hxs
      go_wp2_with (go_at_call 71; refine (setOf_any gj 0 xs.length cj (ia xs) _ I (by omega) HV.out).mono ?_; rintro e w' ⟨rfl, rfl⟩)
      obtain ⟨S, hS⟩ : ∃ S, S = setN (ia xs) xs.length := ⟨_, rfl⟩
      rw [← hS] at hS64 ⊢
      have HSS : Hid (∀ x, hasL xs x = hasB S x) := fun x => by rw [hS]; rfl
      clear hS c2 I
      obtain ⟨w9, rfl⟩ : ∃ w9, w9 = wr := ⟨wr, rfl⟩
      go_loopw [11, 28] (fun jv i wv => ∃ k : Nat, k ≤ m ∧ i = .int .i64 k ∧ jv = .int .i64 (joF es (skS s) xs k : Nat) ∧ Below w9.heap.size w9 wv) (fun _ i _ => m - (intOf i).toNat)
      case atStart => exact ⟨0, Nat.zero_le _, rfl, rfl, Below.refl _ _⟩
      case round =>
        obtain ⟨k, hk, rfl, rfl, hbv⟩ := hrel
        have hjl : joF es (skS s) xs k ≤ k := cntTo_le _ _
        have s4 : w.heap.size < wr.heap.size := Nat.lt_of_lt_of_le s3 hbv.size
        by_cases hltk : k < m
        · have E := hEr.below hbv
          have d1 := E.ca k hltk
          have d2 := E.cb k hltk
          have d3 := E.blk
          have hx := Lib.hid (HW.out.2.2.2.2 k (by rw [hl.out]; exact hltk))
          have e1 := Lib.hid (joF_yes (es := es) (sk := skS s) (xs := xs) (i := k))
          have e2 := Lib.hid (joF_no (es := es) (sk := skS s) (xs := xs) (i := k))
          rw [HSS.out, HSS.out] at e1 e2
          rw [show skS s k = hasB s (k : Int) from rfl] at e1 e2
          clear E
          go_wp2_with fail
          have X := Box2.made wr (.int .i64 (ea es k)) (.int .i64 (eb es k)) 65
          have hb3 : Below wr.heap.size wr (wr.alloc (.cells #[.int .i64 (ea es k), .int .i64 (eb es k)] 65)) := (Below.refl _ _).alloc (Nat.le_refl _) _
          obtain ⟨w5, hw5⟩ : ∃ w5, w5 = wr.alloc (.cells #[.int .i64 (ea es k), .int .i64 (eb es k)] 65) := ⟨_, rfl⟩
          rw [← hw5] at X hb3 ⊢
          clear hw5 d1 d2
          obtain ⟨t1, t2, t3⟩ := X
          cases hA : hasB S (ea es k) with
          | false =>
            have e := Lib.hid (e2.out (by rw [hA]; rfl))
            clear e1 e2
            go_wp2_with (go_at_call 93; refine (has_any _ _ _ (by assumption) (by have := hx.out; omega) (by have := hx.out; omega)).mono ?_; rintro e w' ⟨rfl, rfl⟩)
            go_roundw
            case rel => exact ⟨k + 1, by omega, by go_num, by rw [e.out], hbv.andB hb3⟩
            case measure => simp [intOf]; omega
          | true =>
            cases hBb : hasB S (eb es k) with
            | false =>
              have e := Lib.hid (e2.out (by rw [hA, hBb]; rfl))
              clear e1 e2
              go_wp2_with (go_at_call 93; refine (has_any _ _ _ (by assumption) (by have := hx.out; omega) (by have := hx.out; omega)).mono ?_; rintro e w' ⟨rfl, rfl⟩)
              go_roundw
              case rel => exact ⟨k + 1, by omega, by go_num, by rw [e.out], hbv.andB hb3⟩
              case measure => simp [intOf]; omega
            | true =>
              cases hD : hasB s (k : Int) with
              | true =>
                have e := Lib.hid (e2.out (by rw [hA, hBb, hD]; rfl))
                clear e1 e2
                go_wp2_with (go_at_call 93; refine (has_any _ _ _ (by assumption) (by have := hx.out; omega) (by have := hx.out; omega)).mono ?_; rintro e w' ⟨rfl, rfl⟩)
                go_roundw
                case rel => exact ⟨k + 1, by omega, by go_num, by rw [e.out], hbv.andB hb3⟩
                case measure => simp [intOf]; omega
              | false =>
                have e := Lib.hid (e1.out (by rw [hA, hBb, hD]; rfl))
                clear e1 e2
                go_wp2_with (go_at_call 93; refine (has_any _ _ _ (by assumption) (by have := hx.out; omega) (by have := hx.out; omega)).mono ?_; rintro e w' ⟨rfl, rfl⟩)
                go_roundw
                case rel => exact ⟨k + 1, by omega, by go_num, by rw [e.out]; go_num, hbv.andB hb3⟩
                case measure => simp [intOf]; omega
        · obtain rfl : k = m := by omega
          by_cases hle : xs.length ≤ joF es (skS s) xs k
          · have e : Hid (cntTo (fun j => rowC es (skS s) (ra rows j)) (j + 1) = q + 1) := HC.out true (by unfold rowC; rw [hl.out]; simpa using hle)
            have hle' : (xs.length : Int) ≤ (joF es (skS s) xs k : Nat) := by omega
            clear hle
            go_wp2_with fail
            go_roundw
            case rel => exact ⟨j + 1, by omega, by go_num, by rw [e.out]; go_num, hbr.andB hbv⟩
            case measure => simp [intOf]; omega
          · have e : Hid (cntTo (fun j => rowC es (skS s) (ra rows j)) (j + 1) = q) := HC.out false (by unfold rowC; rw [hl.out]; simpa using hle)
            have hle' : ¬ (xs.length : Int) ≤ (joF es (skS s) xs k : Nat) := by omega
            clear hle
            go_wp2_with fail
            go_roundw
            case rel => exact ⟨j + 1, by omega, by go_num, by rw [e.out], hbr.andB hbv⟩
            case measure => simp [intOf]; omega
    · obtain rfl : j = rows.length := by omega
      go_wp2_with (go_at_call 97; refine (lengthLL_any _ _ _ _).mono ?_; rintro e w' ⟨rfl, rfl⟩)
      go_ret2
      have e2 := HCN.out
      rw [HLR.out] at e2
      exact ⟨by rw [HLR.out, e2] <;> rfl, hB1.andB hbr⟩
end Go.Proofs.Ytccinfmphkihoaa
