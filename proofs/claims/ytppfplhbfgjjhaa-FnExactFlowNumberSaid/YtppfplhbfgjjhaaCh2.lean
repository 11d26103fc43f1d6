import Derived.Test.YtppfplhbfgjjhaaRc
import Derived.Test.YtppfplhbfgjjhaaM4
import Derived.Test.YtppfplhbfgjjhaaM22
import Derived.Test.YtppfplhbfgjjhaaM14
import Derived.Test.YtppfplhbfgjjhaaKp
namespace Go.Proofs.Ytppfplhbfgjjhaa
open Go.RowKit Go.Sort
/-! ### Searching the edges, plain -/
structure ES where
  o : Nat
  q : List Int
def eStep (T : Nat → Bool) (s : ES) (f : Nat) : ES := if hasB s.o f = false ∧ T f = true then ⟨s.o ||| 2 ^ f, s.q ++ [(f : Int)]⟩ else s
theorem eStep_yes {T : Nat → Bool} {s : ES} {f : Nat} (h1 : hasB s.o f = false) (h2 : T f = true) : eStep T s f = ⟨s.o ||| 2 ^ f, s.q ++ [(f : Int)]⟩ := by rw [eStep, if_pos ⟨h1, h2⟩]
theorem eStep_no {T : Nat → Bool} {s : ES} {f : Nat} (h : ¬ (hasB s.o f = false ∧ T f = true)) : eStep T s f = s := by rw [eStep, if_neg h]
def eVis (T : Nat → Bool) (L : List Int) (s : ES) : Nat → ES
  | 0 => s
  | k + 1 => eStep T (eVis T L s k) (ia L k).toNat
/-- Both ends of an edge, as far as so many of them. -/
def eEnd (es : List (Int × Int)) (vE : Nat → Int) (T : Nat → Bool) (u : Nat) (s : ES) : Nat → ES
  | 0 => s
  | k + 1 => eVis T (atL es (vE (2 * u + k))) (eEnd es vE T u s k) (atL es (vE (2 * u + k))).length
def eBfs (es : List (Int × Int)) (vE : Nat → Int) (T : Nat → Bool) (s : ES) : Nat → ES
  | 0 => s
  | i + 1 => if i < (eBfs es vE T s i).q.length then eEnd es vE T (ia (eBfs es vE T s i).q i).toNat (eBfs es vE T s i) 2 else eBfs es vE T s i
structure EInv (m : Nat) (s : ES) : Prop where
  nd : s.q.Nodup
  rng : ∀ f, f ∈ s.q → 0 ≤ f ∧ f < (m : Int)
  has : ∀ f, f ∈ s.q → hasB s.o f = true
theorem EInv.step {m : Nat} {T : Nat → Bool} {s : ES} {f : Nat} (h : EInv m s) (hf : f < m) : EInv m (eStep T s f) := by
  by_cases hc : hasB s.o f = false ∧ T f = true
  · rw [eStep_yes hc.1 hc.2]
    refine ⟨?_, fun x hx => ?_, fun x hx => ?_⟩
    · show (s.q ++ [(f : Int)]).Nodup
      rw [List.nodup_append]
      refine ⟨h.nd, by simp, fun x hx y hy e => ?_⟩
      obtain rfl : y = f := by simpa using hy
      subst e
      have := h.has _ hx
      rw [hc.1] at this; cases this
    · rcases List.mem_append.1 hx with hx | hx
      · exact h.rng x hx
      · obtain rfl : x = f := by simpa using hx
        omega
    · have hb : ∀ y : Int, hasB (s.o ||| 2 ^ f) y = (hasB s.o y || decide (f = y.toNat)) := fun y => by
        unfold hasB; rw [Nat.testBit_or, Nat.testBit_two_pow]
      show hasB (s.o ||| 2 ^ f) x = true
      rw [hb]
      rcases List.mem_append.1 hx with hx | hx
      · rw [h.has x hx]; rfl
      · obtain rfl : x = f := by simpa using hx
        simp
  · rw [eStep_no hc]; exact h
theorem eStep_q {T : Nat → Bool} {s : ES} {f : Nat} : ∃ ys, (eStep T s f).q = s.q ++ ys := by
  by_cases hc : hasB s.o f = false ∧ T f = true
  · rw [eStep_yes hc.1 hc.2]; exact ⟨_, rfl⟩
  · rw [eStep_no hc]; exact ⟨[], by simp⟩
theorem eVis_q {T : Nat → Bool} {L : List Int} {s : ES} (k : Nat) : ∃ ys, (eVis T L s k).q = s.q ++ ys := by
  induction k with
  | zero => exact ⟨[], by simp [eVis]⟩
  | succ k ih =>
    obtain ⟨ys, h⟩ := ih
    obtain ⟨zs, h2⟩ := eStep_q (T := T) (s := eVis T L s k) (f := (ia L k).toNat)
    exact ⟨ys ++ zs, by simp only [eVis]; rw [h2, h, List.append_assoc]⟩
theorem eEnd_q {es : List (Int × Int)} {vE : Nat → Int} {T : Nat → Bool} {u : Nat} {s : ES} (k : Nat) : ∃ ys, (eEnd es vE T u s k).q = s.q ++ ys := by
  induction k with
  | zero => exact ⟨[], by simp [eEnd]⟩
  | succ k ih =>
    obtain ⟨ys, h⟩ := ih
    obtain ⟨zs, h2⟩ := eVis_q (T := T) (L := atL es (vE (2 * u + k))) (s := eEnd es vE T u s k) (atL es (vE (2 * u + k))).length
    exact ⟨ys ++ zs, by simp only [eEnd]; rw [h2, h, List.append_assoc]⟩
theorem EInv.vis {es : List (Int × Int)} {T : Nat → Bool} {v : Int} {s : ES} (h : EInv es.length s) : ∀ k, k ≤ (atL es v).length → EInv es.length (eVis T (atL es v) s k) := by
  intro k
  induction k with
  | zero => intro _; exact h
  | succ k ih =>
    intro hk
    obtain ⟨f, hf, e, hv⟩ := atL_at (es := es) (u := v) (k := k) (by omega)
    simp only [eVis]
    rw [e, Int.toNat_natCast]
    exact (ih (by omega)).step hf
theorem EInv.ends {es : List (Int × Int)} {vE : Nat → Int} {T : Nat → Bool} {u : Nat} {s : ES} (h : EInv es.length s) : ∀ k, EInv es.length (eEnd es vE T u s k) := by
  intro k
  induction k with
  | zero => exact h
  | succ k ih => exact ih.vis _ (Nat.le_refl _)
theorem EInv.bfs {es : List (Int × Int)} {vE : Nat → Int} {T : Nat → Bool} {s : ES} (h : EInv es.length s) : ∀ i, EInv es.length (eBfs es vE T s i) := by
  intro i
  induction i with
  | zero => exact h
  | succ i ih =>
    rw [eBfs]
    split
    · exact ih.ends 2
    · exact ih
theorem EInv.len {m : Nat} {s : ES} (h : EInv m s) : s.q.length ≤ m := by
  refine inj_le m s.q.length (fun i => (ia s.q i).toNat) (fun i hi => ?_) (fun i j hi hj e => ?_)
  · have := h.rng _ (iaMem hi); omega
  · have h1 := h.rng _ (iaMem hi)
    have h2 := h.rng _ (iaMem hj)
    have e2 : ia s.q i = ia s.q j := by omega
    have hp := List.pairwise_iff_getElem.1 h.nd
    have e3 : s.q[i] = s.q[j] := by simpa [ia, hi, hj] using e2
    rcases Nat.lt_trichotomy i j with hlt | heq | hgt
    · exact absurd e3 (hp i j hi hj hlt)
    · exact heq
    · exact absurd e3.symm (hp j i hj hi hgt)
theorem eBfs_succ {es : List (Int × Int)} {vE : Nat → Int} {T : Nat → Bool} {s : ES} {i : Nat} (h : i < (eBfs es vE T s i).q.length) : eBfs es vE T s (i + 1) = eEnd es vE T (ia (eBfs es vE T s i).q i).toNat (eBfs es vE T s i) 2 := by rw [eBfs, if_pos h]
theorem eBfs_done {es : List (Int × Int)} {vE : Nat → Int} {T : Nat → Bool} {s : ES} {i : Nat} (h : ¬ i < (eBfs es vE T s i).q.length) : ∀ j, i ≤ j → eBfs es vE T s j = eBfs es vE T s i := by
  intro j hj
  induction j with
  | zero => rw [show i = 0 by omega]
  | succ j ih =>
    by_cases e : i = j + 1
    · rw [e]
    · have := ih (by omega)
      rw [eBfs, this, if_neg (by omega)]
/-- Where the search ends. -/
def eFin (es : List (Int × Int)) (vE : Nat → Int) (T : Nat → Bool) (s : ES) : ES := eBfs es vE T s es.length
theorem eFin_at {es : List (Int × Int)} {vE : Nat → Int} {T : Nat → Bool} {s : ES} (hI : EInv es.length s) {i : Nat} (h : ¬ i < (eBfs es vE T s i).q.length) (hi : i ≤ (eBfs es vE T s i).q.length) : eFin es vE T s = eBfs es vE T s i := by
  have := (hI.bfs (vE := vE) (T := T) i).len
  exact eBfs_done h _ (by omega)
theorem EInv.one {m : Nat} {o e : Nat} (h : e < m) (ho : hasB o e = true) : EInv m ⟨o, [(e : Int)]⟩ :=
  ⟨by simp, fun f hf => by simp at hf; omega, fun f hf => by simp at hf; subst hf; exact ho⟩
end Go.Proofs.Ytppfplhbfgjjhaa
namespace Go.Proofs.Ytppfplhbfgjjhaa
open Go.RowKit Go.Sort
/-! ### Chains -/
def chT (cs : Nat → Int) (e : Nat) (bb : Int) (f : Nat) : Bool := decide (cs f = cs e ∨ cs f = bb)
def chS (es : List (Int × Int)) (cs : Nat → Int) (e : Nat) (bb : Int) : Nat := (eFin es (vE es) (chT cs e bb) ⟨2 ^ e, [(e : Int)]⟩).o
theorem hasB_two (e : Nat) : hasB (2 ^ e) (e : Int) = true := by unfold hasB; rw [Nat.testBit_two_pow]; simp
/-- All in the set are edges. -/
theorem eStep_lt {T : Nat → Bool} {s : ES} {f m : Nat} (h : s.o < 2 ^ m) (hf : f < m) : (eStep T s f).o < 2 ^ m := by
  by_cases hc : hasB s.o f = false ∧ T f = true
  · rw [eStep_yes hc.1 hc.2]
    exact Nat.or_lt_two_pow h (Nat.pow_lt_pow_of_lt (by decide) hf)
  · rw [eStep_no hc]; exact h
theorem eVis_lt {es : List (Int × Int)} {T : Nat → Bool} {v : Int} {s : ES} (h : s.o < 2 ^ es.length) : ∀ k, k ≤ (atL es v).length → (eVis T (atL es v) s k).o < 2 ^ es.length := by
  intro k
  induction k with
  | zero => intro _; exact h
  | succ k ih =>
    intro hk
    obtain ⟨f, hf, e, _⟩ := atL_at (es := es) (u := v) (k := k) (by omega)
    simp only [eVis]
    rw [e, Int.toNat_natCast]
    exact eStep_lt (ih (by omega)) hf
theorem eEnd_lt {es : List (Int × Int)} {vE : Nat → Int} {T : Nat → Bool} {u : Nat} {s : ES} (h : s.o < 2 ^ es.length) : ∀ k, (eEnd es vE T u s k).o < 2 ^ es.length := by
  intro k
  induction k with
  | zero => exact h
  | succ k ih => exact eVis_lt ih _ (Nat.le_refl _)
theorem eBfs_lt {es : List (Int × Int)} {vE : Nat → Int} {T : Nat → Bool} {s : ES} (h : s.o < 2 ^ es.length) : ∀ i, (eBfs es vE T s i).o < 2 ^ es.length := by
  intro i
  induction i with
  | zero => exact h
  | succ i ih =>
    rw [eBfs]
    split
    · exact eEnd_lt ih 2
    · exact ih
theorem pow_30 {x m : Nat} (h : x < 2 ^ m) (hm : m ≤ 30) : x < 18446744073709551616 := by
  have : (2 : Nat) ^ m ≤ 2 ^ 30 := Nat.pow_le_pow_right (by decide) hm
  omega
set_option maxRecDepth 100000 in
set_option maxHeartbeats 1000000 in
theorem chain_any (n : Int) (b o m c b2 o2 c2 e : Nat) (es : List (Int × Int)) (cs : Nat → Int) (bb : Int) (w : World) (h : Eds w b o m es) (hm : m ≤ 1048576) (hn : WfP n es) (h2 : Ints w b2 o2 m cs) (he : e < m) :
    Calls Try.prog 81 #[.agg #[.int .i64 n, .slice (some ⟨b, o, none⟩) m c], .slice (some ⟨b2, o2, none⟩) m c2, .int .i64 e, .int .i64 bb] w (Ret (.int .u64 (chS es cs e bb)) w) := by
  have KC := cell_rg
  have hl := Lib.hid h.len
  have HW := Lib.hid hn
  have hm30 : m ≤ 30 := by have := hl.out; have := hn.2.2.2.1; have := hn.2.1; omega
  have hel : e < es.length := by rw [hl.out]; exact he
  have HEI := Lib.hid (EInv.one (m := es.length) hel (hasB_two e))
  have HLT0 : Hid ((2 : Nat) ^ e < 2 ^ es.length) := Nat.pow_lt_pow_of_lt (by decide) hel
  obtain ⟨T, hT⟩ : ∃ T, T = chT cs e bb := ⟨_, rfl⟩
  have HTT := Lib.hid hT
  have HCS : Hid (chS es cs e bb = (eFin es (vE es) T ⟨2 ^ e, [(e : Int)]⟩).o) := by rw [hT]; rfl
  have HBI := Lib.hid (fun i => HEI.out.bfs (vE := vE es) (T := T) i)
  have HBL := Lib.hid (fun i => eBfs_lt (vE := vE es) (T := T) (s := ⟨2 ^ e, [(e : Int)]⟩) HLT0.out i)
  have HAT := Lib.hid (fun i (h1 : ¬ i < (eBfs es (vE es) T ⟨2 ^ e, [(e : Int)]⟩ i).q.length) (h3 : i ≤ (eBfs es (vE es) T ⟨2 ^ e, [(e : Int)]⟩ i).q.length) => eFin_at HEI.out h1 h3)
  obtain ⟨N, rfl⟩ : ∃ N : Nat, n = N := ⟨n.toNat, by have := hn.1; omega⟩
  have hbb := (by go_grown : Below w.heap.size w (w.alloc (.cells #[.int .i64 N, .slice (some ⟨b, o, none⟩) m c] 30)))
  have hbx := Box2.made w (.int .i64 N) (.slice (some ⟨b, o, none⟩) m c) 30
  obtain ⟨w1, hw1⟩ : ∃ w1, w1 = w.alloc (Obj.cells #[Value.int IntKind.i64 N, Value.slice (some ⟨b, o, none⟩) m c] 30) := ⟨_, rfl⟩
  have hs1 : w1.heap.size = w.heap.size + 1 := by rw [hw1]; simp [go_sem]
  rw [← hw1] at hbb hbx
  have hX := wrap_pow (x := e) (by omega)
  have E1 := h.below hbb
  have I1 := h2.below hbb
  obtain ⟨s1, p1, q1⟩ := hbx
  obtain ⟨st0, hst0⟩ : ∃ st0 : ES, st0 = ⟨2 ^ e, [(e : Int)]⟩ := ⟨_, rfl⟩
  have H00 : Hid (eBfs es (vE es) T st0 0 = ⟨2 ^ e, [(e : Int)]⟩) := by rw [hst0]; rfl
  rw [← hst0] at HCS HBI HBL HAT
  obtain ⟨pe, hpe⟩ : ∃ pe : Nat, pe = 2 ^ e := ⟨_, rfl⟩
  rw [← hpe] at hX H00
  clear hn hT hst0 hel HEI HLT0 hpe
  go_enter Try.func81, Try.ntmps81
  go_wp2_with fail
  rw [← hw1]
  go_wp2_with fail
  have Qu : OwnQ w1.heap.size (w1.alloc (.cells #[.int .i64 e] 2)) (some ⟨w.heap.size + 1, 0, none⟩) 1 1 [(e : Int)] := by
    rw [← hs1]
    exact OwnQ.made _ _ _ (Nat.le_refl _)
  have hb0 : Below w1.heap.size w1 (w1.alloc (.cells #[.int .i64 e] 2)) := (Below.refl _ _).alloc (Nat.le_refl _) _
  go_loopg [9, 10] m (fun gk ov lv wr => ∃ (i O : Nat) (q : List Int) (A : Option Addr) (m' c' : Nat), Hid (gk + i = m ∧ m' + i = q.length) ∧ ov = .int .u64 O ∧ lv = .slice A m' c' ∧ Hid (eBfs es (vE es) T st0 i = ⟨O, q⟩) ∧ OwnQ w1.heap.size wr A m' c' (q.drop i) ∧ Below w1.heap.size w1 wr)
  case atStart => exact ⟨0, pe, _, _, _, _, ⟨rfl, rfl⟩, rfl, rfl, H00, Qu, hb0⟩
  case round =>
    clear Qu hb0
    obtain ⟨w4, rfl⟩ : ∃ w4, w4 = wr := ⟨wr, rfl⟩
    obtain ⟨i, O, q, A, m', c', HG, rfl, rfl, HS, Qu, hbr⟩ := hrel
    have HQ : EInv es.length ⟨O, q⟩ := HS.out ▸ HBI.out i
    have hq20 : q.length ≤ m := by have := HQ.len; rw [hl.out] at this; exact this
    cases m' with
    | succ m1 =>
      have hlt : i < q.length := by have := HG.out; omega
      have hur := HQ.rng _ (iaMem (xs := q) (i := i) hlt)
      obtain ⟨u, hu⟩ : ∃ u : Nat, ia q i = u := ⟨(ia q i).toNat, by omega⟩
      have hum : u < m := by have := hl.out; omega
      have HNX : Hid (eBfs es (vE es) T st0 (i + 1) = eEnd es (vE es) T u ⟨O, q⟩ 2) := by
        show _ = _
        rw [eBfs_succ (by rw [HS.out]; exact hlt), HS.out]
        show eEnd es (vE es) T (ia q i).toNat ⟨O, q⟩ 2 = _
        rw [hu, Int.toNat_natCast]
      have HEI2 := Lib.hid (fun k => HQ.ends (vE := vE es) (T := T) (u := u) k)
      have HEL : Hid (∀ k, (eEnd es (vE es) T u ⟨O, q⟩ k).o < 2 ^ es.length) := fun k => eEnd_lt (by have := HBL.out i; rw [HS.out] at this; exact this) k
      obtain ⟨g2, o2', rfl, hg2, hg2', I⟩ := Qu.src
      have c1 := I.c 0 (by omega)
      have hu0 : ia (q.drop i) 0 = u := by rw [← hu]; simp [ia]
      rw [hu0, Nat.add_zero] at c1
      have s4 := Nat.lt_of_lt_of_le s1 hbr.size
      have p4 := (hbr.cell (p := ⟨w.heap.size, 0, none⟩) s1).trans p1
      have q4 := (hbr.cell (p := ⟨w.heap.size, 1, none⟩) s1).trans q1
      have E4 := E1.below hbr
      have d1 := E4.ca u hum
      have d2 := E4.cb u hum
      have zE := E4.blk
      have zI := I.blk
      have HUQ := Lib.hid hu
      have hlen := Qu.le
      clear HQ I hur hu0 hu
      go_wp2_with fail
      (refine wp_region_quiet_below (by kernel_rfl) (by kernel_rfl) ?_
       repeat (any_goals (go_big_quiet_step (first | fail)))
       all_goals (refine wpQuiet_nil ?_; intro wq9 hq9; replace hq9 := below_of_rg hq9))
      have hB := hbr.andB hq9
      have Qu := Qu.below hq9
      have s5 := Nat.lt_of_lt_of_le s4 hq9.size
      clear c1 d1 d2 zE zI E4 p4 q4 hq9 s4
      go_wp2_with fail
      go_loopw [9, 10, 31] (fun ov lv kv wv => ∃ (k O2 : Nat) (q2 : List Int) (A2 : Option Addr) (m2 c3 : Nat), k ≤ 2 ∧ kv = .int .i64 k ∧ Hid (m2 + i = q2.length) ∧ ov = .int .u64 O2 ∧ lv = .slice A2 m2 c3 ∧ Hid (eEnd es (vE es) T u ⟨O, q⟩ k = ⟨O2, q2⟩) ∧ OwnQ w1.heap.size wv A2 m2 c3 (q2.drop i) ∧ Below w1.heap.size w1 wv) (fun _ _ k _ => 2 - (intOf k).toNat)
      case atStart => exact ⟨0, O, q, _, _, _, by omega, rfl, HG.out.2, rfl, rfl, rfl, Qu, hB⟩
      case round =>
        clear Qu hB s5
        obtain ⟨k, O2, q2, A2, m2, c3, hk, rfl, HM, rfl, rfl, HV, Qu, hb⟩ := hrel
        obtain ⟨ys, hys⟩ := eEnd_q (es := es) (vE := vE es) (T := T) (u := u) (s := ⟨O, q⟩) k
        rw [HV.out] at hys
        have hq2l : i < q2.length := by rw [show q2 = q ++ ys from hys]; simp; omega
        have HI2 : EInv es.length ⟨O2, q2⟩ := HV.out ▸ HEI2.out k
        have hq2m : q2.length ≤ m := by have := HI2.len; rw [hl.out] at this; exact this
        have hszb := hb.size
        by_cases hk2 : k < 2
        · obtain ⟨L, hL⟩ : ∃ L, L = atL es (vE es (2 * u + k)) := ⟨_, rfl⟩
          have HSTEP : Hid (eEnd es (vE es) T u ⟨O, q⟩ (k + 1) = eVis T L ⟨O2, q2⟩ L.length) := by
            show _ = _; rw [hL]; show eVis T _ (eEnd es (vE es) T u ⟨O, q⟩ k) _ = _; rw [HV.out]
          have HLk : Hid (∀ k, k < L.length → ∃ f : Nat, f < m ∧ ia L k = f) := fun k hk => by
            rw [hL] at hk ⊢; obtain ⟨f, hf, e, _⟩ := atL_at hk; exact ⟨f, by rw [hl.out] at hf; exact hf, e⟩
          have HIV : Hid (∀ j, j ≤ L.length → EInv es.length (eVis T L ⟨O2, q2⟩ j)) := fun j hj => by rw [hL] at hj ⊢; exact HI2.vis j hj
          have HOL : Hid (∀ j, j ≤ L.length → (eVis T L ⟨O2, q2⟩ j).o < 18446744073709551616) := fun j hj => by
            have h1 : (⟨O2, q2⟩ : ES).o < 2 ^ es.length := by have := HEL.out k; rw [HV.out] at this; exact this
            rw [hL] at hj ⊢
            exact pow_30 (eVis_lt h1 j hj) (by rw [hl.out]; exact hm30)
          have HLl : Hid (L.length ≤ m) := by show _ ≤ _; rw [hL]; have := atTo_len es (vE es (2 * u + k)) es.length; rw [hl.out] at this; exact hl.out ▸ this
          obtain ⟨y, hy⟩ : ∃ y, y = vE es (2 * u + k) := ⟨_, rfl⟩
          have HRL : Hid (∀ W, Eds W b o m es → Calls Try.prog 117 #[.agg #[.int .i64 N, .slice (some ⟨b, o, none⟩) m c], .int .i64 y] W (RetL L W)) := fun W hE => by rw [hL, hy]; exact at_any N b o m c es _ W hE hm
          have hidx : ∀ W, (Instr.index 98 (.agg #[.int .i64 (ea es u), .int .i64 (eb es u)]) (.int .i64 k)).run Try.prog W = .ok (.int .i64 y) W := fun W => by
            rw [hy]
            rcases (show k = 0 ∨ k = 1 by omega) with rfl | rfl
            · rw [Nat.add_zero, vE_0]; kernel_rfl
            · rw [vE_1]; kernel_rfl
          have s5 := Nat.lt_of_lt_of_le s1 hb.size
          have p5 := (hb.cell (p := ⟨w.heap.size, 0, none⟩) s1).trans p1
          have q5 := (hb.cell (p := ⟨w.heap.size, 1, none⟩) s1).trans q1
          have E5 := E1.below hb
          clear hL hy HI2 hys
          obtain ⟨w5, rfl⟩ : ∃ w5, w5 = wr := ⟨wr, rfl⟩
          go_wp2_with fail
          refine (HRL.out _ E5).mono ?_
          rintro ee w6 ⟨A3, c4, rfl, O3, hb6⟩
          have hQb := Qu.blk
          have Qu := Qu.below hb6
          have hb7 := hb.andB hb6
          have NE : blkOf A3 = none ∨ blkOf A3 ≠ blkOf A2 := blk_apart' (s := w5.heap.size) (fun g hg => (O3.blk g hg).1) (fun g hg => (hQb g hg).2)
          clear p5 q5 E5 s5 hb6
          go_wp2_with fail
          go_loopw [9, 10, 38] (fun ov lv jv wv => ∃ (j O4 : Nat) (q4 : List Int) (A4 : Option Addr) (m4 c5 : Nat), j ≤ L.length ∧ jv = .int .i64 j ∧ Hid (m4 + i = q4.length) ∧ ov = .int .u64 O4 ∧ lv = .slice A4 m4 c5 ∧ Hid (eVis T L ⟨O2, q2⟩ j = ⟨O4, q4⟩) ∧ OwnQ w1.heap.size wv A4 m4 c5 (q4.drop i) ∧ OwnL w5.heap.size wv A3 L.length c4 L ∧ (blkOf A3 = none ∨ blkOf A3 ≠ blkOf A4) ∧ Below w1.heap.size w1 wv) (fun _ _ j _ => L.length - (intOf j).toNat)
          case atStart => exact ⟨0, O2, q2, _, _, _, Nat.zero_le _, rfl, HM, rfl, rfl, rfl, Qu, O3, NE, hb7⟩
          case round =>
            clear Qu O3 NE hb7
            obtain ⟨j, O4, q4, A4, m4, c5, hj, rfl, HM4, rfl, rfl, HV4, Qu, O3, NE, hb8⟩ := hrel
            have HI4 : EInv es.length ⟨O4, q4⟩ := HV4.out ▸ HIV.out j hj
            have hq4m : q4.length ≤ m := by have := HI4.len; rw [hl.out] at this; exact this
            have hO4 : O4 < 18446744073709551616 := by have := HOL.out j hj; rw [HV4.out] at this; exact this
            have hLm := HLl.out
            have hsz8 := hb8.size
            by_cases hjl : j < L.length
            · obtain ⟨f, hf, ef⟩ := HLk.out j hjl
              obtain ⟨g3, o3, rfl, I3⟩ := O3.src (by omega)
              have hg3 := (O3.blk g3 rfl)
              have i1 := I3.c j hjl
              rw [ef] at i1
              have z3 := I3.blk
              have I9 := I1.below hb8
              have r1 := I9.c f hf
              have r2 := I9.c e he
              have z9 := I9.blk
              have HST : Hid (eVis T L ⟨O2, q2⟩ (j + 1) = eStep T ⟨O4, q4⟩ f) := by
                show eStep T (eVis T L ⟨O2, q2⟩ j) _ = _; rw [HV4.out, ef, Int.toNat_natCast]
              have HTF : Hid (T f = decide (cs f = cs e ∨ cs f = bb)) := by show _ = _; rw [HTT.out]; rfl
              have hHA : ∀ W, Calls Try.prog 80 #[.int .u64 O4, .int .i64 f] W (Is (.bool (hasB O4 f)) W) := fun W => has_any O4 f W hO4 (by omega) (by omega)
              obtain ⟨cf, hcf⟩ : ∃ cf, cf = cs f := ⟨_, rfl⟩
              obtain ⟨ce, hce⟩ : ∃ ce, ce = cs e := ⟨_, rfl⟩
              rw [← hcf] at r1 HTF
              rw [← hce] at r2 HTF
              clear HI4 I3 I9 ef hcf hce
              have HNO : Hid (¬ (hasB O4 f = false ∧ T f = true) → eVis T L ⟨O2, q2⟩ (j + 1) = ⟨O4, q4⟩) := fun hc => by rw [HST.out, eStep_no hc]
              have HYES : Hid (hasB O4 f = false → T f = true → eVis T L ⟨O2, q2⟩ (j + 1) = ⟨O4 ||| 2 ^ f, q4 ++ [(f : Int)]⟩) := fun h1 h3 => by rw [HST.out, eStep_yes h1 h3]
              cases hh : hasB O4 f with
              | true =>
                rw [hh] at hHA
                have HHA := Lib.hid hHA
                have HE : Hid (eVis T L ⟨O2, q2⟩ (j + 1) = ⟨O4, q4⟩) := HNO.out (fun hc => by rw [hh] at hc; cases hc.1)
                clear hHA hh
                go_wp2_with fail
                (refine wp_region_quiet_below (by kernel_rfl) (by kernel_rfl) ?_
                 repeat (any_goals (go_big_quiet_step (first | (go_at_call 80; exact Is.rg (HHA.out _)))))
                 all_goals (refine wpQuiet_nil ?_; intro wq8 hq8; replace hq8 := below_of_rg hq8))
                have Qu := Qu.below hq8
                have O3 := O3.below hq8
                have hb9 := hb8.andB hq8
                clear i1 r1 r2 hq8
                go_wp2_with fail
                go_roundw
                case rel => exact ⟨j + 1, O4, q4, A4, m4, c5, by omega, by go_num, HM4, rfl, rfl, HE, Qu, O3, NE, hb9⟩
                case measure => simp [intOf]; omega
              | false =>
                rw [hh] at hHA
                have HHA := Lib.hid hHA
                have HH := Lib.hid hh
                clear hHA hh
                cases hTf : T f with
                | false =>
                  have HE : Hid (eVis T L ⟨O2, q2⟩ (j + 1) = ⟨O4, q4⟩) := HNO.out (fun hc => by rw [hTf] at hc; cases hc.2)
                  have hd := of_decide_eq_false (HTF.out.symm.trans hTf)
                  have h1 : (cf == ce) = false := by simp; intro h; exact hd (.inl h)
                  have h3 : (cf == bb) = false := by simp; intro h; exact hd (.inr h)
                  clear hd hTf
                  go_wp2_with fail
                  (refine wp_region_quiet_below (by kernel_rfl) (by kernel_rfl) ?_
                   repeat (any_goals (go_big_quiet_step (first | (go_at_call 80; exact Is.rg (HHA.out _)))))
                   all_goals (refine wpQuiet_nil ?_; intro wq8 hq8; replace hq8 := below_of_rg hq8))
                  have Qu := Qu.below hq8
                  have O3 := O3.below hq8
                  have hb9 := hb8.andB hq8
                  clear i1 r1 r2 hq8
                  go_wp2_with fail
                  go_roundw
                  case rel => exact ⟨j + 1, O4, q4, A4, m4, c5, by omega, by go_num, HM4, rfl, rfl, HE, Qu, O3, NE, hb9⟩
                  case measure => simp [intOf]; omega
                | true =>
                  have HE := Lib.hid (HYES.out HH.out hTf)
                  have hd := of_decide_eq_true (HTF.out.symm.trans hTf)
                  have hX := wrap_pow (x := f) (by omega)
                  have hX2 := pow64 (x := f) (by omega)
                  obtain ⟨pc, hpc⟩ : ∃ pc : Nat, pc = 2 ^ f := ⟨_, rfl⟩
                  rw [← hpc] at hX hX2 HE
                  have hor := u64_or_nat O4 pc hO4 hX2
                  have hm4 : m4 ≤ 30 := by have := HM4.out; omega
                  have hm4p : 1 ≤ m4 := by
                    obtain ⟨ys4, hys4⟩ := eVis_q (T := T) (L := L) (s := ⟨O2, q2⟩) j
                    rw [HV4.out] at hys4
                    have : q4.length = q2.length + ys4.length := by rw [show q4 = q2 ++ ys4 from hys4]; simp
                    have := HM4.out; omega
                  have HM5 : Hid (m4 + 1 + i = (q4 ++ [(f : Int)]).length) := by show _ = _; rw [List.length_append, List.length_singleton, ← HM4.out]; omega
                  have hdrop : (q4 ++ [(f : Int)]).drop i = q4.drop i ++ [(f : Int)] := by rw [List.drop_append_of_le_length (by have := HM4.out; omega)]
                  have HDR := Lib.hid hdrop
                  by_cases h1 : cf = ce
                  · have h1' : (cf == ce) = true := by simp [h1]
                    clear hd hTf h1 hpc hX2 hdrop
                    go_wp2_with fail
                    (refine wp_region_quiet_below (by kernel_rfl) (by kernel_rfl) ?_
                     repeat (any_goals (go_big_quiet_step (first | (go_at_call 80; exact Is.rg (HHA.out _)))))
                     all_goals (refine wpQuiet_nil ?_; intro wq8 hq8; replace hq8 := below_of_rg hq8))
                    have Qu := Qu.below hq8
                    have O3 := O3.below hq8
                    have hb9 := hb8.andB hq8
                    have hszq := hb9.size
                    clear i1 r1 r2 hq8
                    go_wp2_with (first
                      | (at_builtin; refine wp_appQ1 rfl rfl rfl rfl rfl Qu hszq (by omega) ?_; intro A5 c6 w9 Q5 hg9 hat9))
                    have O5 := O3.kept hg9 NE
                    have NE5 := hat9.apart (AX := some ⟨g3, o3, none⟩) (fun g hg => (O3.blk g hg).2) NE
                    have hb10 := hb9.grown hg9 hszq (fun y hy => (Qu.blk y hy).1)
                    have Q6 := Lib.hid (show OwnQ w1.heap.size w9 A5 (m4 + 1) c6 ((q4 ++ [(f : Int)]).drop i) by rw [HDR.out]; exact Q5)
                    go_roundw
                    case rel => exact ⟨j + 1, _, _, A5, m4 + 1, c6, by omega, by go_num, HM5, rfl, rfl, HE, Q6.out, O5, NE5, hb10⟩
                    case measure => simp [intOf]; omega
                  · have h1' : (cf == ce) = false := by simp [h1]
                    have h3' : (cf == bb) = true := by rcases hd with h | h; exact absurd h h1; simp [h]
                    clear hd hTf h1 hpc hX2 hdrop
                    go_wp2_with fail
                    (refine wp_region_quiet_below (by kernel_rfl) (by kernel_rfl) ?_
                     repeat (any_goals (go_big_quiet_step (first | (go_at_call 80; exact Is.rg (HHA.out _)))))
                     all_goals (refine wpQuiet_nil ?_; intro wq8 hq8; replace hq8 := below_of_rg hq8))
                    have Qu := Qu.below hq8
                    have O3 := O3.below hq8
                    have hb9 := hb8.andB hq8
                    have hszq := hb9.size
                    clear i1 r1 r2 hq8
                    go_wp2_with (first
                      | (at_builtin; refine wp_appQ1 rfl rfl rfl rfl rfl Qu hszq (by omega) ?_; intro A5 c6 w9 Q5 hg9 hat9))
                    have O5 := O3.kept hg9 NE
                    have NE5 := hat9.apart (AX := some ⟨g3, o3, none⟩) (fun g hg => (O3.blk g hg).2) NE
                    have hb10 := hb9.grown hg9 hszq (fun y hy => (Qu.blk y hy).1)
                    have Q6 := Lib.hid (show OwnQ w1.heap.size w9 A5 (m4 + 1) c6 ((q4 ++ [(f : Int)]).drop i) by rw [HDR.out]; exact Q5)
                    go_roundw
                    case rel => exact ⟨j + 1, _, _, A5, m4 + 1, c6, by omega, by go_num, HM5, rfl, rfl, HE, Q6.out, O5, NE5, hb10⟩
                    case measure => simp [intOf]; omega
            · obtain rfl : j = L.length := by omega
              have HE : Hid (eEnd es (vE es) T u ⟨O, q⟩ (k + 1) = ⟨O4, q4⟩) := by show _ = _; rw [HSTEP.out, HV4.out]
              go_wp2_with fail
              go_roundw
              case rel => exact ⟨k + 1, O4, q4, A4, m4, c5, by omega, by go_num, HM4, rfl, rfl, HE, Qu, hb8⟩
              case measure => simp [intOf]; omega
        · obtain rfl : k = 2 := by omega
          have HE : Hid (eBfs es (vE es) T st0 (i + 1) = ⟨O2, q2⟩) := by show _ = _; rw [HNX.out, HV.out]
          obtain ⟨m3, rfl⟩ : ∃ m3, m2 = m3 + 1 := ⟨m2 - 1, by have := HM.out; omega⟩
          obtain ⟨g4, o4, rfl, hg4, hg4', I4⟩ := Qu.src
          have hle := Qu.le
          have QT := Lib.hid (show OwnQ w1.heap.size wr (some ⟨g4, if c3 = 1 then o4 else o4 + 1, none⟩) m3 (c3 - 1) (q2.drop (i + 1)) by have := Qu.tail; rwa [List.drop_drop] at this)
          have HG2 : Hid (m - (i + 1) + (i + 1) = m ∧ m3 + (i + 1) = q2.length) := ⟨by omega, by have := HM.out; omega⟩
          have HLT : Hid (m - (i + 1) < gk) := by have := HG.out; show _ < _; omega
          have c22 : ((2 : Nat) : Int) = 2 := rfl
          clear I4 Qu HI2 hys
          by_cases hc1 : c3 = 1
          · subst hc1
            obtain rfl : m3 = 0 := by omega
            rw [if_pos rfl] at QT
            go_wp2_with fail
            go_roundg (m - (i + 1))
            case measure => exact HLT.out
            case rel => exact ⟨i + 1, O2, q2, _, 0, _, HG2, rfl, rfl, HE, QT.out, hb⟩
          · rw [if_neg hc1] at QT
            go_wp2_with fail
            go_roundg (m - (i + 1))
            case measure => exact HLT.out
            case rel => exact ⟨i + 1, O2, q2, _, m3, c3 - 1, HG2, rfl, rfl, HE, QT.out, hb⟩
    | zero =>
      have hlt : i = q.length := by have := HG.out; omega
      subst hlt
      have HE := Lib.hid (HAT.out q.length (by rw [HS.out]; exact Nat.lt_irrefl _) (by rw [HS.out]; exact Nat.le_refl _))
      have HF : Hid (chS es cs e bb = O) := by show _ = _; rw [HCS.out, HE.out, HS.out]
      have hbF := hbb.andB hbr
      go_wp2_with fail
      go_ret
      exact ⟨by rw [HF.out]; rfl, hbF⟩
end Go.Proofs.Ytppfplhbfgjjhaa
