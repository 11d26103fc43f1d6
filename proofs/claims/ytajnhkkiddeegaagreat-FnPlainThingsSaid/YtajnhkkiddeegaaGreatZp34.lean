import Derived.Test.YtajnhkkiddeegaaGreatZp24
set_option linter.unusedVariables false
set_option linter.unusedSimpArgs false
namespace Go.Proofs.YtajnhkkiddeegaaGreat
open Go.RowKit Go.Sort
def mxF (f : Int → Int) : Nat → Int → Int
  | 0, a => a
  | k + 1, a => max (mxF f k a) (f k)
theorem mxF_max (f : Int → Int) (k : Nat) (a b : Int) : mxF f k (max a b) = max a (mxF f k b) := by
  induction k with
  | zero => rfl
  | succ k ih => simp only [mxF, ih]; omega
theorem mxF_has (f : Int → Int) (k : Nat) (a : Int) (hk : 1 ≤ k) : f 0 ≤ mxF f k a := by
  induction k with
  | zero => omega
  | succ k ih =>
    simp only [mxF]
    rcases Nat.eq_zero_or_pos k with h | h
    · subst h; show f 0 ≤ max a (f ((0 : Nat) : Int)); rw [show ((0 : Nat) : Int) = 0 from rfl]; omega
    · have := ih h; omega
theorem mxF_first (f : Int → Int) (k : Nat) (a : Int) (hk : 1 ≤ k) : max a (mxF f k (f 0)) = mxF f k a := by
  have h1 := mxF_max f k a (f 0)
  have h2 := mxF_max f k (f 0) a
  have h3 := mxF_has f k a hk
  rw [← h1, Int.max_comm a (f 0), h2]; omega
theorem mxF_bd {f : Int → Int} {lo hi : Int} (hf : ∀ v, lo ≤ f v ∧ f v ≤ hi) (k : Nat) (a : Int) (h1 : lo ≤ a) (h2 : a ≤ hi) : lo ≤ mxF f k a ∧ mxF f k a ≤ hi := by
  induction k with
  | zero => exact ⟨h1, h2⟩
  | succ k ih => have := hf k; simp only [mxF]; omega
set_option maxHeartbeats 400000 in
theorem sMax_any (b o m c : Nat) (f : Int → Int) (w : World) (h : Ints w b o m (fun v => f v)) (hm : m ≤ 1048576) (h1 : 1 ≤ m) :
    Calls Tryz.prog 95 #[.slice (some ⟨b, o, none⟩) m c] w (Is (.int .i64 (mxF f m (f 0))) w) := by
  have c0 := h.c 0 (by omega)
  rw [Nat.add_zero, show ((0 : Nat) : Int) = 0 from rfl] at c0
  go_enter Tryz.func95, Tryz.ntmps95
  go_wp2_with fail
  go_loop [3, 4] (fun mv kv => ∃ k : Nat, 1 ≤ k ∧ k ≤ m ∧ kv = .int .i64 k ∧ mv = .int .i64 (mxF f k (f 0))) (fun _ k => m - (intOf k).toNat)
  case atStart => exact ⟨1, Nat.le_refl _, h1, rfl, by show _ = Value.int .i64 (max (f 0) (f ((0 : Nat) : Int))); rw [show ((0 : Nat) : Int) = 0 from rfl, Int.max_self]⟩
  case round =>
    obtain ⟨k, hk1, hk, rfl, rfl⟩ := hrel
    clear c0
    by_cases hlt : k < m
    · have c1 := h.c k hlt
      obtain ⟨x, hx⟩ : ∃ x, f k = x := ⟨_, rfl⟩
      have HST : Hid (mxF f (k + 1) (f 0) = max (mxF f k (f 0)) x) := by show max _ _ = _; rw [hx]
      rw [hx] at c1
      obtain ⟨y, hy⟩ : ∃ y, mxF f k (f 0) = y := ⟨_, rfl⟩
      rw [hy] at HST ⊢
      clear hx hy
      by_cases hxy : y < x
      all_goals
        go_wp2_with fail
        go_round
        case rel => exact ⟨k + 1, by omega, by omega, by go_num, by rw [HST.out]; congr 1; omega⟩
        case measure => simp [intOf]; omega
    · obtain rfl : k = m := by omega
      go_wp2_with fail
      go_ret
      exact ⟨rfl, rfl⟩
noncomputable def ccC (n : Int) (es : List (Int × Int)) : Int := if B (IsG n es) then (if cnB' n es then 0 else 5) else 1
set_option maxHeartbeats 400000 in
theorem connectedCode_any (n : Int) (b o m c : Nat) (es : List (Int × Int)) (w : World) (h : Eds w b o m es) (hm : m ≤ 1048576) :
    Calls Tryz.prog 94 #[.agg #[.int .i64 n, .slice (some ⟨b, o, none⟩) m c]] w (Ret (.int .i64 (ccC n es)) w) := by
  have hbox := Box2.made w (.int .i64 n) (.slice (some ⟨b, o, none⟩) m c) 26
  have hbb := (by go_grown : Below w.heap.size w (w.alloc (.cells #[.int .i64 n, .slice (some ⟨b, o, none⟩) m c] 26)))
  have HGC := Lib.hid (graphCode_any n b o m c es true _ (h.alloc (.cells #[.int .i64 n, .slice (some ⟨b, o, none⟩) m c] 26)) hm)
  by_cases hG : IsG n es
  · have HG := Lib.hid hG
    rw [show gcC n es true = 0 by simp [gcC, B_true hG]] at HGC
    have HIC := Lib.hid (fun W hE => isConnected_any n b o m c es W hE hm hG.wf)
    cases hq : cnB' n es with
    | false =>
      have HC : Hid (ccC n es = 5) := by simp [Hid, ccC, B_true hG, hq]
      rw [hq] at HIC
      clear hG hq
      go_enter Tryz.func94, Tryz.ntmps94
      go_wp2_with fail
      refine HGC.out.mono ?_
      rintro e w1 ⟨rfl, hb1⟩
      have hB1 := hbb.thenB (by simp) hb1
      obtain ⟨s1, p1, q1⟩ := hbox.below hb1
      clear hb1 hbb hbox
      go_wp2_with fail
      refine (HIC.out _ (h.below hB1)).mono ?_
      rintro e w2 ⟨rfl, hb2⟩
      go_wp2_with fail
      go_ret
      exact ⟨ret_int HC.out.symm, hB1.andB hb2⟩
    | true =>
      have HC : Hid (ccC n es = 0) := by simp [Hid, ccC, B_true hG, hq]
      rw [hq] at HIC
      clear hG hq
      go_enter Tryz.func94, Tryz.ntmps94
      go_wp2_with fail
      refine HGC.out.mono ?_
      rintro e w1 ⟨rfl, hb1⟩
      have hB1 := hbb.thenB (by simp) hb1
      obtain ⟨s1, p1, q1⟩ := hbox.below hb1
      clear hb1 hbb hbox
      go_wp2_with fail
      refine (HIC.out _ (h.below hB1)).mono ?_
      rintro e w2 ⟨rfl, hb2⟩
      go_wp2_with fail
      go_ret
      exact ⟨ret_int HC.out.symm, hB1.andB hb2⟩
  · have HC : Hid (ccC n es = 1) := by simp [Hid, ccC, B_false hG]
    rw [show gcC n es true = 1 by simp [gcC, B_false hG]] at HGC
    clear hG hbox
    go_enter Tryz.func94, Tryz.ntmps94
    go_wp2_with fail
    refine HGC.out.mono ?_
    rintro e w1 ⟨rfl, hb1⟩
    have hB1 := hbb.thenB (by simp) hb1
    clear hb1 hbb
    go_wp2_with fail
    go_ret
    exact ⟨ret_int HC.out.symm, hB1⟩
def dmTo (n : Int) (es : List (Int × Int)) (N : Nat) : Nat → Int
  | 0 => 0
  | v + 1 => mxF (farF es noSk n v) N (dmTo n es N v)
theorem dmTo_bd {n : Int} {es : List (Int × Int)} (hn : WfP n es) (N : Nat) (v : Nat) (hv : (v : Int) ≤ n) : -1 ≤ dmTo n es N v ∧ dmTo n es N v ≤ 19 := by
  induction v with
  | zero => simp [dmTo]
  | succ v ih => have := ih (by omega); exact mxF_bd (fun u => farF_bd hn (by omega) (by omega) u) N _ this.1 this.2
noncomputable def dmV (n : Int) (es : List (Int × Int)) : Int := if ccC n es = 0 then dmTo n es n.toNat n.toNat else 0
theorem dm_cases (n : Int) (es : List (Int × Int)) : (¬ IsG n es ∧ ccC n es = 1 ∧ dmV n es = 0) ∨ (IsG n es ∧ cnB' n es = false ∧ ccC n es = 5 ∧ dmV n es = 0) ∨ (IsG n es ∧ cnB' n es = true ∧ ccC n es = 0 ∧ dmV n es = dmTo n es n.toNat n.toNat) := by
  by_cases hG : IsG n es
  · cases hq : cnB' n es with
    | false => right; left; exact ⟨hG, rfl, by simp [ccC, B_true hG, hq], by simp [dmV, ccC, B_true hG, hq]⟩
    | true => right; right; exact ⟨hG, rfl, by simp [ccC, B_true hG, hq], by simp [dmV, ccC, B_true hG, hq]⟩
  · left; exact ⟨hG, by simp [ccC, B_false hG], by simp [dmV, ccC, B_false hG]⟩
set_option maxRecDepth 100000 in
set_option maxHeartbeats 1600000 in
theorem spDiameterOf_any (n : Int) (b o m c : Nat) (es : List (Int × Int)) (w : World) (h : Eds w b o m es) (hm : m ≤ 1048576) :
    Calls Tryz.prog 42 #[.agg #[.int .i64 n, .slice (some ⟨b, o, none⟩) m c]] w (Ret (.tuple #[.int .i64 (dmV n es), .int .i64 (ccC n es)]) w) := by
  have hbox := Box2.made w (.int .i64 n) (.slice (some ⟨b, o, none⟩) m c) 26
  have hbb := (by go_grown : Below w.heap.size w (w.alloc (.cells #[.int .i64 n, .slice (some ⟨b, o, none⟩) m c] 26)))
  have HSP := Lib.hid (l01Is_any n b o m c es _ (h.alloc (.cells #[.int .i64 n, .slice (some ⟨b, o, none⟩) m c] 26)) hm)
  rcases dm_cases n es with ⟨hG, h1, h2⟩ | ⟨hG, hq, h1, h2⟩ | ⟨hG, hq, h1, h2⟩
  · rw [h1, h2]
    rw [B_false hG] at HSP
    clear hG h1 h2
    go_enter Tryz.func42, Tryz.ntmps42
    go_wp2_with fail
    refine HSP.out.mono ?_
    rintro e w1 ⟨rfl, hb1⟩
    have hB1 := hbb.thenB (by simp) hb1
    clear hb1 hbb hbox
    go_wp2_with fail
    go_ret2
    exact ⟨rfl, hB1⟩
  · rw [h1, h2]
    rw [B_true hG] at HSP
    have HIC := Lib.hid (fun W hE => hq ▸ l01Connected_any n b o m c es W hE hm hG.wf)
    clear hG h1 h2 hq
    go_enter Tryz.func42, Tryz.ntmps42
    go_wp2_with fail
    refine HSP.out.mono ?_
    rintro e w1 ⟨rfl, hb1⟩
    have hB1 := hbb.thenB (by simp) hb1
    obtain ⟨s1, p1, q1⟩ := hbox.below hb1
    clear hb1 hbb hbox
    go_wp2_with fail
    refine (HIC.out _ (h.below hB1)).mono ?_
    rintro e w2 ⟨rfl, hb2⟩
    go_wp2_with fail
    go_ret2
    exact ⟨rfl, hB1.andB hb2⟩
  · rw [h1, h2]
    rw [B_true hG] at HSP
    have HIC := Lib.hid (fun W hE => hq ▸ l01Connected_any n b o m c es W hE hm hG.wf)
    have HW := Lib.hid hG.wf
    have hn2 := hG.wf.1
    have hn20 := hG.wf.2.1
    obtain ⟨N, rfl⟩ : ∃ N : Nat, n = N := ⟨n.toNat, by omega⟩
    rw [Int.toNat_natCast]
    clear hG h1 h2 hq
    go_enter Tryz.func42, Tryz.ntmps42
    go_wp2_with fail
    refine HSP.out.mono ?_
    rintro e w1 ⟨rfl, hb1⟩
    have hB1 := hbb.thenB (by simp) hb1
    have hbx := hbox.below hb1
    obtain ⟨s1, p1, q1⟩ := hbox.below hb1
    clear hb1 hbb hbox
    go_wp2_with fail
    refine (HIC.out _ (h.below hB1)).mono ?_
    rintro e w2 ⟨rfl, hb2⟩
    have hB2 := hB1.andB hb2
    have hbx := hbx.below hb2
    clear s1 p1 q1 hb2
    go_wp2_with fail
    go_loopw [4, 5] (fun mv vv wr => ∃ v : Nat, v ≤ N ∧ vv = .int .i64 v ∧ mv = .int .i64 (dmTo N es N v) ∧ Below w2.heap.size w2 wr) (fun _ v _ => N - (intOf v).toNat)
    case atStart => exact ⟨0, Nat.zero_le _, rfl, rfl, Below.refl _ _⟩
    case round =>
      obtain ⟨v, hv, rfl, rfl, hb1⟩ := hrel
      have hbr := hB2.andB hb1
      obtain ⟨z1, pp1, qq1⟩ := hbx.below hb1
      by_cases hlt : v < N
      · have E := h.below hbr
        have hdb := dmTo_bd HW.out N v (by omega)
        have HFB := Lib.hid (fun u => farF_bd (sk := noSk) HW.out (a := v) (by omega) (by omega) u)
        have HNX : Hid (dmTo N es N (v + 1) = mxF (farF es noSk N v) N (dmTo N es N v)) := rfl
        obtain ⟨d, hd⟩ : ∃ d, dmTo N es N v = d := ⟨_, rfl⟩
        rw [hd] at HNX hdb ⊢
        clear hd
        go_wp2_with (go_at_call 93; refine (sk_none ▸ Int.toNat_natCast N ▸ l01Far_any N b o m c es v (-1) _ E hm HW.out (by omega) (by omega)).mono ?_; rintro e w3 ⟨g3, rfl, hg3, R, hb3⟩)
        obtain ⟨z2, pp2, qq2⟩ := Box2.below ⟨z1, pp1, qq1⟩ hb3
        clear z1 pp1 qq1 E
        go_loop [4, 7] (fun mv uv => ∃ u : Nat, u ≤ N ∧ uv = .int .i64 u ∧ mv = .int .i64 (mxF (farF es noSk N v) u d)) (fun _ u => N - (intOf u).toNat)
        case atStart => exact ⟨0, Nat.zero_le _, rfl, rfl⟩
        case round =>
          obtain ⟨u, hu, rfl, rfl⟩ := hrel
          by_cases hltu : u < N
          · have r1 := R.cell hltu
            obtain ⟨x, hx⟩ : ∃ x, farF es noSk N v u = x := ⟨_, rfl⟩
            have HST : Hid (mxF (farF es noSk N v) (u + 1) d = max (mxF (farF es noSk N v) u d) x) := by show max _ _ = _; rw [hx]
            rw [hx] at r1
            obtain ⟨y, hy⟩ : ∃ y, mxF (farF es noSk N v) u d = y := ⟨_, rfl⟩
            rw [hy] at HST ⊢
            clear hx hy
            by_cases hxy : y < x
            all_goals
              go_wp2_with fail
              go_round
              case rel => exact ⟨u + 1, by omega, by go_num, by rw [HST.out]; congr 1; omega⟩
              case measure => simp [intOf]; omega
          · obtain rfl : u = N := by omega
            go_wp2_with fail
            go_roundw
            case rel => exact ⟨v + 1, by omega, by go_num, by rw [HNX.out], hb1.andB hb3⟩
            case measure => simp [intOf]; omega
      · obtain rfl : v = N := by omega
        go_wp2_with fail
        go_ret2
        exact ⟨rfl, hbr⟩
set_option maxRecDepth 100000 in
set_option maxHeartbeats 1600000 in
theorem imDiameterOf_any (n : Int) (b o m c : Nat) (es : List (Int × Int)) (w : World) (h : Eds w b o m es) (hm : m ≤ 1048576) :
    Calls Tryz.prog 41 #[.agg #[.int .i64 n, .slice (some ⟨b, o, none⟩) m c]] w (Ret (.tuple #[.int .i64 (dmV n es), .int .i64 (ccC n es)]) w) := by
  have hbox := Box2.made w (.int .i64 n) (.slice (some ⟨b, o, none⟩) m c) 26
  have hbb := (by go_grown : Below w.heap.size w (w.alloc (.cells #[.int .i64 n, .slice (some ⟨b, o, none⟩) m c] 26)))
  have HGC := Lib.hid (connectedCode_any n b o m c es _ (h.alloc (.cells #[.int .i64 n, .slice (some ⟨b, o, none⟩) m c] 26)) hm)
  rcases (show ccC n es = 0 ∨ ccC n es ≠ 0 from Classical.em _) with h0 | h0
  · rcases dm_cases n es with ⟨hG, h1, h2⟩ | ⟨hG, hq, h1, h2⟩ | ⟨hG, hq, h1, h2⟩
    · rw [h0] at h1; cases h1
    · rw [h0] at h1; cases h1
    rw [h2, h0]
    rw [h0] at HGC
    have HW := Lib.hid hG.wf
    have hn2 := hG.wf.1
    have hn20 := hG.wf.2.1
    obtain ⟨N, rfl⟩ : ∃ N : Nat, n = N := ⟨n.toNat, by omega⟩
    rw [Int.toNat_natCast]
    clear hG h1 h2 hq h0
    go_enter Tryz.func41, Tryz.ntmps41
    go_wp2_with fail
    refine HGC.out.mono ?_
    rintro e w1 ⟨rfl, hb1⟩
    have hB1 := hbb.thenB (by simp) hb1
    have hbx := hbox.below hb1
    obtain ⟨s1, p1, q1⟩ := hbox.below hb1
    clear hb1 hbb hbox
    go_wp2_with fail
    go_loopw [5, 14] (fun mv vv wr => ∃ v : Nat, v ≤ N ∧ vv = .int .i64 v ∧ mv = .int .i64 (dmTo N es N v) ∧ Below w1.heap.size w1 wr) (fun _ v _ => N - (intOf v).toNat)
    case atStart => exact ⟨0, Nat.zero_le _, rfl, rfl, Below.refl _ _⟩
    case round =>
      clear s1 p1 q1
      obtain ⟨v, hv, rfl, rfl, hb1⟩ := hrel
      have hbr := hB1.andB hb1
      obtain ⟨z1, pp1, qq1⟩ := hbx.below hb1
      by_cases hlt : v < N
      · have E := h.below hbr
        have hdb := dmTo_bd HW.out N v (by omega)
        have HNX : Hid (dmTo N es N (v + 1) = max (dmTo N es N v) (mxF (farF es noSk N v) N (farF es noSk N v 0))) := by
          show mxF _ _ _ = _; rw [mxF_first _ _ _ (by omega)]
        obtain ⟨d, hd⟩ : ∃ d, dmTo N es N v = d := ⟨_, rfl⟩
        rw [hd] at HNX hdb ⊢
        obtain ⟨x, hx⟩ : ∃ x, mxF (farF es noSk N v) N (farF es noSk N v 0) = x := ⟨_, rfl⟩
        rw [hx] at HNX
        have HMX : Hid (∀ W g, Ints W g 0 N (fun u => farF es noSk N v u) → Calls Tryz.prog 95 #[.slice (some ⟨g, 0, none⟩) N N] W (Is (.int .i64 x) W)) := fun W g hI => by
          rw [← hx]; exact sMax_any g 0 N N (farF es noSk N v) W hI (by omega) (by omega)
        clear hd hx
        go_wp2_with (first
          | (go_at_call 82; refine (skS_none ▸ Int.toNat_natCast N ▸ distances_any N b o m c 0 es v _ E hm HW.out (by omega) (by omega) (by omega)).mono ?_; rintro e w3 ⟨g3, rfl, hg3, R, hb3⟩)
          | (go_at_call 95; refine (HMX.out _ _ (Ints.of_row R)).mono ?_; rintro e w' ⟨rfl, rfl⟩))
        all_goals
          go_roundw
          case rel => exact ⟨v + 1, by omega, by go_num, by rw [HNX.out]; congr 1; omega, hb1.andB hb3⟩
          case measure => simp [intOf]; omega
      · obtain rfl : v = N := by omega
        go_wp2_with fail
        go_ret2
        exact ⟨rfl, hbr⟩
  · have hv : dmV n es = 0 := by simp [dmV, h0]
    rw [hv]
    obtain ⟨K, hK⟩ : ∃ K, ccC n es = K := ⟨_, rfl⟩
    rw [hK] at HGC h0 ⊢
    have hkb : (K != 0) = true := by simpa using h0
    clear hK h0 hv
    go_enter Tryz.func41, Tryz.ntmps41
    go_wp2_with fail
    refine HGC.out.mono ?_
    rintro e w1 ⟨rfl, hb1⟩
    have hB1 := hbb.thenB (by simp) hb1
    clear hb1 hbb hbox
    go_wp2_with fail
    go_ret2
    exact ⟨rfl, hB1⟩
end Go.Proofs.YtajnhkkiddeegaaGreat
