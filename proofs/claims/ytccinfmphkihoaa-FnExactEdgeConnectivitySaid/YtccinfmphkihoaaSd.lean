import Derived.Test.YtccinfmphkihoaaLl
import Derived.Test.YtccinfmphkihoaaFi
import Derived.Test.YtccinfmphkihoaaMb
namespace Go.Proofs.Ytccinfmphkihoaa
open Go.RowKit Go.Sort
/-! ### The program's sides -/
theorem cmTo_yes {es : List (Int × Int)} {sk : Nat → Bool} {v : Int} {k : Nat} (h : Rch es sk v k) : cmTo es sk v (k + 1) = cmTo es sk v k ++ [(k : Int)] := by simp only [cmTo]; rw [if_pos (B_true h)]
theorem cmTo_no {es : List (Int × Int)} {sk : Nat → Bool} {v : Int} {k : Nat} (h : ¬ Rch es sk v k) : cmTo es sk v (k + 1) = cmTo es sk v k := by simp only [cmTo]; rw [if_neg (by rw [B_false h]; decide), List.append_nil]
theorem sdTo_yes {es : List (Int × Int)} {sk : Nat → Bool} {N k : Nat} (h : leadF es sk k = k) : sdTo es sk N (k + 1) = sdTo es sk N k ++ [cmTo es sk k N] := by simp only [sdTo]; rw [if_pos h]
theorem sdTo_no {es : List (Int × Int)} {sk : Nat → Bool} {N k : Nat} (h : ¬ leadF es sk k = k) : sdTo es sk N (k + 1) = sdTo es sk N k := by simp only [sdTo]; rw [if_neg h, List.append_nil]
theorem hasB_or (s u x : Nat) : hasB (s ||| 2 ^ u) (x : Int) = if x = u then true else hasB s (x : Int) := by
  simp only [hasB, Nat.testBit_or, Nat.testBit_two_pow, Int.toNat_natCast]
  by_cases h : x = u
  · simp [h]
  · rw [if_neg h, decide_eq_false (fun e => h e.symm), Bool.or_false]
/-- Which vertices are seen when so many have been asked. -/
def SeenP (es : List (Int × Int)) (sk : Nat → Bool) (N v s : Nat) : Prop := s < 18446744073709551616 ∧ ∀ u : Nat, u < N → (hasB s (u : Int) = true ↔ leadF es sk u < v)
def SeenI (es : List (Int × Int)) (sk : Nat → Bool) (N v k s : Nat) : Prop := s < 18446744073709551616 ∧ ∀ u : Nat, u < N → (hasB s (u : Int) = true ↔ (leadF es sk u < v ∨ (u < k ∧ Rch es sk v u)))
theorem SeenP.at {es : List (Int × Int)} {sk : Nat → Bool} {N v s : Nat} (h : SeenP es sk N v s) (hv : v < N) : hasB s (v : Int) = true ↔ ¬ leadF es sk v = v := by
  rw [h.2 v hv]
  have := leadF_le (es := es) (sk := sk) (v := v) (by omega)
  omega
theorem SeenP.skip {es : List (Int × Int)} {sk : Nat → Bool} {N v s : Nat} (h : SeenP es sk N v s) (hl : ¬ leadF es sk v = v) : SeenP es sk N (v + 1) s := by
  refine ⟨h.1, fun u hu => (h.2 u hu).trans ⟨fun h => by omega, fun hlt => ?_⟩⟩
  have hne : leadF es sk u ≠ v := fun e => hl (by
    have := leadF_lead (es := es) (sk := sk) (v := u) (by omega)
    rwa [e] at this)
  omega
theorem SeenI.done {es : List (Int × Int)} {sk : Nat → Bool} {N v s : Nat} (h : SeenI es sk N v N s) (hl : leadF es sk v = v) : SeenP es sk N (v + 1) s := by
  refine ⟨h.1, fun u hu => (h.2 u hu).trans ?_⟩
  have hli := lead_is (es := es) (sk := sk) (v := v) (w := u) hl
  constructor
  · rintro (h1 | ⟨_, h1⟩)
    · omega
    · have := hli.2 h1; omega
  · intro h1
    by_cases e : leadF es sk u = v
    · exact .inr ⟨hu, hli.1 e⟩
    · left; omega
theorem SeenI.no {es : List (Int × Int)} {sk : Nat → Bool} {N v k s : Nat} (h : SeenI es sk N v k s) (hr : ¬ Rch es sk v k) : SeenI es sk N v (k + 1) s := by
  refine ⟨h.1, fun u hu => (h.2 u hu).trans ?_⟩
  constructor
  · rintro (h1 | ⟨h1, h2⟩)
    · exact .inl h1
    · exact .inr ⟨by omega, h2⟩
  · rintro (h1 | ⟨h1, h2⟩)
    · exact .inl h1
    · by_cases e : u = k
      · subst e; exact absurd h2 hr
      · exact .inr ⟨by omega, h2⟩
theorem SeenI.yes {es : List (Int × Int)} {sk : Nat → Bool} {N v k s : Nat} (h : SeenI es sk N v k s) (hk : k ≤ 63) (hr : Rch es sk v k) : SeenI es sk N v (k + 1) (s ||| 2 ^ k) := by
  refine ⟨Nat.or_lt_two_pow (n := 64) h.1 (pow64 hk), fun u hu => ?_⟩
  rw [hasB_or]
  by_cases e : u = k
  · subst e; rw [if_pos rfl]; exact ⟨fun _ => .inr ⟨by omega, hr⟩, fun _ => rfl⟩
  · rw [if_neg e, h.2 u hu]
    constructor
    · rintro (h1 | ⟨h1, h2⟩)
      · exact .inl h1
      · exact .inr ⟨by omega, h2⟩
    · rintro (h1 | ⟨h1, h2⟩)
      · exact .inl h1
      · exact .inr ⟨by omega, h2⟩
set_option maxRecDepth 100000 in
set_option maxHeartbeats 1600000 in
theorem sides_any (n : Int) (b o m c s : Nat) (es : List (Int × Int)) (w : World) (h : Eds w b o m es) (hm : m ≤ 1048576) (hn : WfP n es) (hs : s < 18446744073709551616) :
    Calls Try.prog 66 #[.agg #[.int .i64 n, .slice (some ⟨b, o, none⟩) m c], .int .u64 s] w (RetLL (sdTo es (skS s) n.toNat n.toNat) w) := by
  have hl := Lib.hid h.len
  have HW := Lib.hid hn
  have hn2 := hn.1
  have hn20 := hn.2.1
  have HD := Lib.hid (fun (v : Nat) (hv : (v : Int) ≤ n - 1) W hE => distances_any n b o m c s es v W hE hm hn (by omega) hv hs)
  have HFI := Lib.hid (fun (v : Nat) (hv : (v : Int) ≤ n - 1) u => farF_iff (sk := skS s) hn (a := v) (by omega) hv u)
  obtain ⟨N, rfl⟩ : ∃ N : Nat, n = N := ⟨n.toNat, by omega⟩
  rw [Int.toNat_natCast] at HD ⊢
  clear hn
  go_enter Try.func66, Try.ntmps66
  go_wp2_with fail
  have hbb := (by go_grown : Below w.heap.size w (w.alloc (.cells #[.int .i64 N, .slice (some ⟨b, o, none⟩) m c] 30)))
  have hbx := Box2.made w (.int .i64 N) (.slice (some ⟨b, o, none⟩) m c) 30
  obtain ⟨w1, hw1⟩ : ∃ w1, w1 = w.alloc (Obj.cells #[Value.int IntKind.i64 N, Value.slice (some ⟨b, o, none⟩) m c] 30) := ⟨_, rfl⟩
  rw [← hw1] at hbb hbx ⊢
  clear hw1
  have O0 := OwnLL.nil w1.heap.size w1
  have hX := hbx.lt
  go_loopw [5, 6, 13] (fun lv sv iv wr => ∃ (v s' : Nat) (A : Option Addr) (c' : Nat), v ≤ N ∧ iv = .int .i64 v ∧ sv = .int .u64 s' ∧ lv = .slice A (sdTo es (skS s) N v).length c' ∧ Hid (SeenP es (skS s) N v s') ∧ OwnLL w1.heap.size wr.heap.size wr A (sdTo es (skS s) N v).length c' (sdTo es (skS s) N v) ∧ Below w1.heap.size w1 wr) (fun _ _ i _ => N - (intOf i).toNat)
  case atStart => exact ⟨0, 0, _, _, Nat.zero_le _, rfl, rfl, rfl, ⟨by omega, fun u _ => by have := leadF_nonneg es (skS s) u; simp [hasB]; omega⟩, O0, Below.refl _ _⟩
  case round =>
    clear O0
    obtain ⟨v, s', A, c', hv, rfl, rfl, rfl, HS, O, hb1⟩ := hrel
    have X := hbx.below hb1
    have hbr := hbb.andB hb1
    have hln : (sdTo es (skS s) N v).length ≤ v := by rw [sdTo_len]; exact ldCnt_le es (skS s) v
    have hO := O.2.1
    have hbase : w1.heap.size ≤ wr.heap.size := hb1.size
    by_cases hlt : v < N
    · have HA := Lib.hid (HS.out.at hlt)
      have hHA : ∀ W, Calls Try.prog 93 #[.int .u64 s', .int .i64 v] W (Is (.bool (hasB s' v)) W) := fun W => has_any s' v W HS.out.1 (by omega) (by omega)
      cases hh : hasB s' (v : Int) with
      | true =>
        have e := sdTo_no (N := N) (HA.out.1 hh)
        have HE := Lib.hid e
        rw [hh] at hHA
        have HH := Lib.hid hHA
        have HS2 := Lib.hid (HS.out.skip (HA.out.1 hh))
        clear hHA hh e
        go_wp2_with (go_at_call 93; refine (HH.out _).mono ?_; rintro e w' ⟨rfl, rfl⟩)
        go_roundw
        case rel => exact ⟨v + 1, s', A, c', by omega, by go_num, rfl, by rw [HE.out], HS2.out, by rw [HE.out]; exact O, hb1⟩
        case measure => simp [intOf]; omega
      | false =>
        have hlead : leadF es (skS s) v = v := by
          refine Classical.byContradiction fun hc => ?_
          have := HA.out.2 hc
          rw [hh] at this; cases this
        have HLD := Lib.hid hlead
        have HE := Lib.hid (sdTo_yes (N := N) hlead)
        rw [hh] at hHA
        have HH := Lib.hid hHA
        obtain ⟨s1, p1, q1⟩ := X
        have E := h.below hbr
        clear hHA hh hlead
        go_wp2_with (first
          | (go_at_call 93; refine (HH.out _).mono ?_; rintro e w' ⟨rfl, rfl⟩)
          | (go_at_call 94; refine (HD.out v (by omega) _ E).mono ?_; rintro e w2 ⟨g2, rfl, hg2, R, hb2⟩))
        have O := O.below hb2
        have hb3 := hb1.andB hb2
        have hz2 := hb2.size
        clear hb2 s1 p1 q1 E
        obtain ⟨w4, rfl⟩ : ∃ w4, w4 = wr := ⟨wr, rfl⟩
        go_loopw [6, 8, 24] (fun sv lv kv wv => ∃ (k s2 : Nat) (A2 : Option Addr) (c2 : Nat), k ≤ N ∧ kv = .int .i64 k ∧ sv = .int .u64 s2 ∧ lv = .slice A2 (cmTo es (skS s) v k).length c2 ∧ Hid (SeenI es (skS s) N v k s2) ∧ OwnL w2.heap.size wv A2 (cmTo es (skS s) v k).length c2 (cmTo es (skS s) v k) ∧ Below w2.heap.size w2 wv) (fun _ _ k _ => N - (intOf k).toNat)
        case atStart => exact ⟨0, s', _, _, Nat.zero_le _, rfl, rfl, rfl, ⟨HS.out.1, fun u hu => (HS.out.2 u hu).trans ⟨.inl, fun h => h.elim id (fun h => absurd h.1 (by omega))⟩⟩, OwnL.nil _ _, Below.refl _ _⟩
        case round =>
          obtain ⟨k, s2, A2, c2, hk, rfl, rfl, rfl, HI, ho, hbk⟩ := hrel
          have hcl := cmTo_len es (skS s) v k
          have hsz := hbk.size
          by_cases hlt2 : k < N
          · have r1 := (R.of_block (hbk.block _ R.lt)).cell hlt2
            have HF := Lib.hid (HFI.out v (by omega) k)
            by_cases hf : 0 ≤ farF es (skS s) N v k
            · have e := cmTo_yes (HF.out.1 hf)
              have e2 : (cmTo es (skS s) v (k + 1)).length = (cmTo es (skS s) v k).length + 1 := by rw [e]; simp
              have HE1 := Lib.hid e
              have HE2 := Lib.hid e2
              have HI2 := HI.out.yes (k := k) (by omega) (HF.out.1 hf)
              have hX := wrap_pow (x := k) (by omega)
              have hX2 := pow64 (x := k) (by omega)
              obtain ⟨pc, hpc⟩ : ∃ pc : Nat, pc = 2 ^ k := ⟨_, rfl⟩
              rw [← hpc] at hX hX2 HI2
              have hor := u64_or_nat s2 pc HI.out.1 hX2
              have HI3 := Lib.hid HI2
              clear hpc hX2 HI2 e e2
              go_wp2_with (first
                | (at_builtin; refine wp_appL1 rfl rfl rfl rfl rfl ho (by omega) (by omega) ?_; intro A3 c3 w5 ho3 hg5 hat5))
              have hb5 := hbk.grown hg5 hsz (fun y hy => (ho.blk y hy).1)
              go_roundw
              case rel => exact ⟨k + 1, _, A3, c3, by omega, by go_num, rfl, by rw [HE2.out], HI3.out, by rw [HE2.out, HE1.out]; exact ho3, hb5⟩
              case measure => simp [intOf]; omega
            · have HE1 := Lib.hid (cmTo_no (fun x => hf (HF.out.2 x)))
              have HI3 := Lib.hid (HI.out.no (fun x => hf (HF.out.2 x)))
              go_wp2_with fail
              go_roundw
              case rel => exact ⟨k + 1, _, A2, c2, by omega, by go_num, rfl, by rw [HE1.out], HI3.out, by rw [HE1.out]; exact ho, hbk⟩
              case measure => simp [intOf]; omega
          · obtain rfl : k = N := by omega
            have HS3 := Lib.hid (HI.out.done HLD.out)
            have O := O.below hbk
            have hb4 := hb3.andB hbk
            have e2 : (sdTo es (skS s) k (v + 1)).length = (sdTo es (skS s) k v).length + 1 := by rw [HE.out]; simp
            have HE2 := Lib.hid e2
            have ho' := ho.mono (show w1.heap.size ≤ w2.heap.size by omega)
            have hnew : ∀ g, blkOf A2 = some g → w4.heap.size ≤ g := fun g hg => by have := (ho.blk g hg).1; omega
            clear e2 ho R
            go_wp2_with (first
              | (at_builtin; refine wp_appR1 rfl rfl rfl rfl rfl rfl O ho' hnew (by omega) (by omega) ?_; intro A3 c3 w5 O5 hg5 _))
            have hb5 := hb4.grown hg5 hb4.size (fun y hy => (O.blk y hy).1)
            go_roundw
            case rel => exact ⟨v + 1, _, A3, c3, by omega, by go_num, rfl, by rw [HE2.out], HS3.out, by rw [HE2.out, HE.out]; exact O5, hb5⟩
            case measure => simp [intOf]; omega
    · obtain rfl : v = N := by omega
      go_wp2_with fail
      go_ret
      exact ⟨A, c', rfl, O.mono (by omega), hbr⟩
end Go.Proofs.Ytccinfmphkihoaa
