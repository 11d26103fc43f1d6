import Derived.Test.YtajnhkkiddeegaaGreatZc17
set_option linter.unusedVariables false
set_option linter.unusedSimpArgs false
namespace Go.Proofs.YtajnhkkiddeegaaGreat
open Go.RowKit Go.Sort
/-- The given colours of the first so many edges of a list, as bits. -/
def sM (f : Nat → Int) (L : List Int) : Nat → Nat
  | 0 => 0
  | k + 1 => if f (ia L k).toNat = -1 then sM f L k else sM f L k ||| 2 ^ (f (ia L k).toNat).toNat
theorem sM_bit {f : Nat → Int} {L : List Int} {x : Nat} : ∀ {k : Nat}, (sM f L k).testBit x = true → ∃ i, i < k ∧ f (ia L i).toNat ≠ -1 ∧ (f (ia L i).toNat).toNat = x := by
  intro k
  induction k with
  | zero => intro h; simp [sM] at h
  | succ k ih =>
    intro h
    simp only [sM] at h
    split at h
    · obtain ⟨i, hi, h1⟩ := ih h
      exact ⟨i, by omega, h1⟩
    · rw [Nat.testBit_or, Bool.or_eq_true, Nat.testBit_two_pow, decide_eq_true_eq] at h
      rcases h with h | h
      · obtain ⟨i, hi, h1⟩ := ih h
        exact ⟨i, by omega, h1⟩
      · exact ⟨k, by omega, by assumption, h⟩
theorem sM_lt {f : Nat → Int} {L : List Int} (hf : ∀ d, f d ≤ 2) : ∀ k, sM f L k < 8 := by
  intro k
  induction k with
  | zero => simp [sM]
  | succ k ih =>
    simp only [sM]
    split
    · exact ih
    · exact or8 ih (by have := hf (ia L k).toNat; omega)
/-- What is given does not clash. -/
def NoCl (es : List (Int × Int)) (f : Nat → Int) : Prop := ∀ v i j, i < j → j < (atL es v).length → f (ia (atL es v) i).toNat ≠ -1 → f (ia (atL es v) i).toNat ≠ f (ia (atL es v) j).toNat
set_option maxRecDepth 100000 in
set_option maxHeartbeats 4000000 in
theorem start_any {w : World} {S : Nat → Prop} {bp bc bu N m : Nat} {A : Option Addr} {cA : Nat} {L : List Nat} {b o c cc cu : Nat} {es : List (Int × Int)} {fv : Value} (ps : PS w S bp bc bu N m A cA L b o c cc cu es fv) (hn : WfP N es) (hm : m ≤ 1048576)
    (f : Nat → Int) (U : Nat → Nat) (pw : PW w S bc bu N m f U w) (hf : ∀ d, -1 ≤ f d ∧ f d ≤ 2) (hcl : NoCl es f) (R : Ending → World → Prop)
    (hp : ∀ W, Below w.heap.size w W → Calls Tryz.prog 106 #[.pointer (some ⟨bp, 0, none⟩), .int .i64 0] W fun e w' => ∃ r, e = .returned (.bool r) ∧ R (.returned (.bool r)) w') :
    Calls Tryz.prog 58 #[.pointer (some ⟨bp, 0, none⟩)] w R := by
  have hl := Lib.hid ps.E.len
  have HN := Lib.hid hn
  have HP := Lib.hid hp
  have HF := Lib.hid hf
  have HC := Lib.hid hcl
  have HM8 := Lib.hid (fun L k => sM_lt (L := L) (fun d => (hf d).2) k)
  have hn20 := hn.2.1
  clear hn hp hf hcl
  have p0 := ps.p0
  have zp := ps.pl
  go_enter Tryz.func58, Tryz.ntmps58
  go_wp2_with fail
  clear p0
  go_loopw [12] (fun vv wr => ∃ v : Nat, v ≤ N ∧ vv = .int .i64 v ∧ Below w.heap.size w wr) (fun v _ => N - (intOf v).toNat)
  case atStart => exact ⟨0, Nat.zero_le _, rfl, Below.refl _ _⟩
  case round =>
    obtain ⟨v, hv, rfl, hbr⟩ := hrel
    have P := pw.below hbr
    by_cases hlt : v < N
    · have p0 := P.cell ps.pl ps.np 0 ps.p0
      have p1 := P.cell ps.pl ps.np 1 ps.p1
      have E := P.k.eds ps.E ps.nb
      have HAT := Lib.hid (at_any N b o m c es v wr E hm)
      have HK := Lib.hid (fun k (hk : k < (atL es v).length) => atL_at hk)
      have HCV := Lib.hid (HC.out v)
      obtain ⟨L0, hL0⟩ : ∃ L0, L0 = atL es v := ⟨_, rfl⟩
      have hL0l : L0.length ≤ m := by rw [hL0]; have := atTo_len es v es.length; rw [hl.out] at this; exact hl.out ▸ this
      rw [← hL0] at HAT HK HCV
      clear hL0 E
      go_wp2_with fail
      refine HAT.out.mono ?_
      rintro e w2 ⟨A2, c2, rfl, O2, hb2⟩
      have hb3 := hbr.andB hb2
      clear HAT p0 p1
      go_wp2_with fail
      obtain ⟨w4, rfl⟩ : ∃ w4, w4 = wr := ⟨wr, rfl⟩
      go_loopw [4, 22] (fun sv kv wv => ∃ k : Nat, k ≤ L0.length ∧ kv = .int .i64 k ∧ sv = .int .u64 (sM f L0 k) ∧ Below w2.heap.size w2 wv) (fun _ k _ => L0.length - (intOf k).toNat)
      case atStart => exact ⟨0, Nat.zero_le _, rfl, rfl, Below.refl _ _⟩
      case round =>
        obtain ⟨k, hk, rfl, rfl, hbk⟩ := hrel
        by_cases hlk : k < L0.length
        · obtain ⟨d, hd, e, hvd⟩ := HK.out k hlk
          rw [hl.out] at hd
          obtain ⟨g3, o3, rfl, I3⟩ := (O2.below hbk).src (by omega)
          have i1 := I3.c k hlk
          rw [e] at i1
          have hb5 := hb3.andB hbk
          have P5 := pw.below hb5
          have p3 := P5.cell ps.pl ps.np 3 ps.p3
          have r1 := P5.rc.cell hd
          have h8 := HM8.out L0 k
          have hfd := HF.out d
          have HSS : Hid (sM f L0 (k + 1) = if f d = -1 then sM f L0 k else sM f L0 k ||| 2 ^ (f d).toNat) := by
            show _ = _; rw [sM, e, Int.toNat_natCast]
          by_cases hd1 : f d = -1
          · have HS2 : Hid (sM f L0 (k + 1) = sM f L0 k) := by show _ = _; rw [HSS.out, if_pos hd1]
            have hd1' : (f d == -1) = true := by simp [hd1]
            clear hd1 I3 hvd e
            go_wp2_with fail
            go_roundw
            case rel => exact ⟨k + 1, by omega, by go_num, by rw [HS2.out], hbk⟩
            case measure => simp [intOf]; omega
          · have hd1' : (f d == -1) = false := by simp [hd1]
            obtain ⟨x, hx⟩ : ∃ x : Nat, f d = x := ⟨(f d).toNat, by omega⟩
            have hx3 : x ≤ 2 := by omega
            have HS2 : Hid (sM f L0 (k + 1) = sM f L0 k ||| 2 ^ x) := by show _ = _; rw [HSS.out, if_neg hd1, hx, Int.toNat_natCast]
            have hno : (sM f L0 k).testBit x = false := by
              rw [← Bool.not_eq_true]
              intro hb
              obtain ⟨i, hi, h1, h2⟩ := sM_bit hb
              have := HCV.out i k hi hlk h1
              rw [e, Int.toNat_natCast, hx] at this
              have := HF.out (ia L0 i).toNat
              omega
            have hbx : hasB (sM f L0 k) (x : Int) = false := by unfold hasB; rw [Int.toNat_natCast]; exact hno
            have hHA : ∀ W, Calls Tryz.prog 105 #[.int .u64 (sM f L0 k), .int .i64 x] W (Is (.bool false) W) := fun W => hbx ▸ has_any (sM f L0 k) x W (by omega) (by omega) (by omega)
            have HHA := Lib.hid hHA
            have hX := wrap_pow (x := x) (by omega)
            have hX2 := pow64 (x := x) (by omega)
            rw [hx] at r1 hd1'
            obtain ⟨pc, hpc⟩ : ∃ pc : Nat, pc = 2 ^ x := ⟨_, rfl⟩
            rw [← hpc] at hX hX2 HS2
            have hor := u64_or_nat (sM f L0 k) pc (by omega) hX2
            clear hHA hbx hno hx hd1 hX2 hpc I3 hvd e HSS
            go_wp2_with (go_at_call 105; refine (HHA.out _).mono ?_; rintro e w' ⟨rfl, rfl⟩)
            go_roundw
            case rel => exact ⟨k + 1, by omega, by go_num, by rw [HS2.out], hbk⟩
            case measure => simp [intOf]; omega
        · obtain rfl : k = L0.length := by omega
          have hb5 := hb3.andB hbk
          go_wp2_with fail
          go_roundw
          case rel => exact ⟨v + 1, by omega, by go_num, hb5⟩
          case measure => simp [intOf]; omega
    · obtain rfl : v = N := by omega
      go_wp2_with fail
      refine (HP.out _ hbr).mono ?_
      rintro e w9 ⟨r, rfl, hR⟩
      go_wp2_with fail
      exact hR
end Go.Proofs.YtajnhkkiddeegaaGreat
namespace Go.Proofs.YtajnhkkiddeegaaGreat
open Go.RowKit Go.Sort
def EPost (E : World → World → Prop) (G : Value → World → Prop) (w : World) (e : Ending) (w'' : World) : Prop := ∃ v, e = .returned v ∧ E w w'' ∧ G v w''
def GrowsE (P : Program) (o : Oper) (a : Act) (w : World) (E : World → World → Prop) (G : Value → World → Prop) : Prop :=
  match (execOp a.eval o).run P w with
  | .ok (.value v) w' => E w w' ∧ G v w'
  | .ok .skip w' => E w w' ∧ G undef w'
  | .ok (.enter f args) w' => Below w.heap.size w w' ∧ Calls P f args w' (EPost E G w)
  | _ => False
theorem GrowsE.wp {P : Program} {o : Oper} {a : Act} {w : World} {E : World → World → Prop} {G : Value → World → Prop} (h : GrowsE P o a w E G) {K : Act → World → Prop} {Q : Exit → Act → World → Prop}
    (hK : ∀ v w', E w w' → G v w' → K (a.put o.dst v) w') : o.wp P a w K Q := by
  unfold GrowsE at h
  unfold Oper.wp
  generalize (execOp a.eval o).run P w = r at *
  cases r with
  | ok n w' =>
    cases n <;> simp only [Oper.upon] at h ⊢
    case value v => exact hK _ _ h.1 h.2
    case skip => exact hK _ _ h.1 h.2
    case enter f args => exact h.2.mono fun e w'' ⟨v, he, hb, hg⟩ => by subst he; exact hK _ _ hb hg
  | halt x w' => simp only at h
/-- A guarded operation that is left out. -/
def GrowsG (P : Program) (l : List Oper) (o : Oper) (a : Act) (w : World) (E : World → World → Prop) (G : Value → World → Prop) : Prop :=
  if Region.wanted o (yielded l.toArray a.tmps) = true then GrowsE P o a w E G else E w w ∧ G undef w
def endOk (dead : Nat → Option Nat) (j i : Nat) : Bool := dead j == none || dead j == some i
def StepsHE (P : Program) (l : List Oper) (F : Nat → Value → World → Prop) (dead : Nat → Option Nat) (E : Nat → World → World → Prop) (a0 : Act) (w0 : World) : Nat → List Oper → Prop
  | _, [] => True
  | i, o :: r => (∀ a w, Below w0.heap.size w0 w → (∀ t, (dsts l).contains t = false → a.tmps[t]?.getD undef = a0.eval (.tmp t)) →
      (∀ j d, (depsOf o).contains j = true → dstAt l j = some d → endOk dead j i = true → F j (a.tmps[d]?.getD undef) w) → GrowsG P l o a w (E i) (F i)) ∧ StepsHE P l F dead E a0 w0 (i + 1) r
def StepsE (P : Program) (l : List Oper) (F : Nat → Value → World → Prop) (dead : Nat → Option Nat) (E : Nat → World → World → Prop) (a0 : Act) (w0 : World) : Nat → List Oper → Prop
  | _, [] => True
  | i, o :: r => (∀ a w, Below w0.heap.size w0 w → (∀ t, (dsts l).contains t = false → a.tmps.getD t undef = a0.tmps.getD t undef) →
      (∀ e ∈ o.after, Region.binds .any e = true → endOk dead e.on i = true → ∀ (p : Oper) (d : Tmp), l[e.on]? = some p → p.dst = some d → F e.on (a.tmps.getD d undef) w) → GrowsG P l o a w (E i) (F i)) ∧ StepsE P l F dead E a0 w0 (i + 1) r
theorem StepsHE.steps {P : Program} {l : List Oper} {F : Nat → Value → World → Prop} {dead : Nat → Option Nat} {E : Nat → World → World → Prop} {a0 : Act} {w0 : World} : ∀ (r : List Oper) (i : Nat), StepsHE P l F dead E a0 w0 i r → StepsE P l F dead E a0 w0 i r := by
  intro r
  induction r with
  | nil => intro i _; trivial
  | cons o r ih =>
    intro i h
    refine ⟨fun a w hb hs hd => h.1 a w hb (fun t ht => by rw [← Array.getD_eq_getD_getElem?]; exact hs t ht) (fun j d hj hjd hok => ?_), ih _ h.2⟩
    simp only [depsOf, List.contains_iff_mem, List.mem_map, List.mem_filter] at hj
    obtain ⟨e, ⟨he, hb⟩, rfl⟩ := hj
    obtain ⟨p, hp, hpd⟩ := Option.bind_eq_some_iff.1 hjd
    rw [← Array.getD_eq_getD_getElem?]
    exact hd e (by simpa using he) hb hok p d hp hpd
theorem StepsE.at {P : Program} {l : List Oper} {F : Nat → Value → World → Prop} {dead : Nat → Option Nat} {E : Nat → World → World → Prop} {a0 : Act} {w0 : World} : ∀ (r : List Oper) (k : Nat), StepsE P l F dead E a0 w0 k r → ∀ (i : Nat) (o : Oper), r[i]? = some o →
    ∀ a w, Below w0.heap.size w0 w → (∀ t, (dsts l).contains t = false → a.tmps.getD t undef = a0.tmps.getD t undef) →
      (∀ e ∈ o.after, Region.binds .any e = true → endOk dead e.on (k + i) = true → ∀ (p : Oper) (d : Tmp), l[e.on]? = some p → p.dst = some d → F e.on (a.tmps.getD d undef) w) → GrowsG P l o a w (E (k + i)) (F (k + i)) := by
  intro r
  induction r with
  | nil => intro k _ i o h; simp at h
  | cons x r ih =>
    intro k h i o hi
    cases i with
    | zero => simp at hi; subst hi; exact h.1
    | succ i => rw [show k + (i + 1) = (k + 1) + i from by omega]; exact ih (k + 1) h.2 i o (by simpa using hi)
structure FInvE (l : List Oper) (F : Nat → Value → World → Prop) (dead : Nat → Option Nat) (a0 : Act) (w0 : World) (listed : Array Bool) (a : Act) (w : World) : Prop where
  below : Below w0.heap.size w0 w
  lsize : listed.size = l.length
  facts : ∀ (i : Nat) (o : Oper) (d : Tmp), l[i]? = some o → o.dst = some d → listed.getD i false = true → (∀ k, dead i = some k → listed.getD k false = false) → F i (a.tmps.getD d undef) w
  same : ∀ t, (dsts l).contains t = false → a.tmps.getD t undef = a0.tmps.getD t undef
  tsize : a.tmps.size = a0.tmps.size
  defers : a.defers = a0.defers
theorem wpAny_factsE {P : Program} {l : List Oper} {F : Nat → Value → World → Prop} {dead : Nat → Option Nat} {E : Nat → World → World → Prop} {a0 : Act} {w0 : World} {Q : Exit → Act → World → Prop}
    (hdist : ∀ (i j : Nat) (o p : Oper) (d : Tmp), l[i]? = some o → l[j]? = some p → o.dst = some d → p.dst = some d → i = j) (hsz : ∀ (i : Nat) (o : Oper) (d : Tmp), l[i]? = some o → o.dst = some d → d < a0.tmps.size)
    (mono : ∀ i k v w w', i ≠ k → dead i ≠ some k → Below w0.heap.size w0 w → F i v w → E k w w' → F i v w') (hE : ∀ k w w', Below w0.heap.size w0 w → E k w w' → Below w0.heap.size w w') (steps : StepsE P l F dead E a0 w0 0 l)
    (hback : ∀ (i : Nat) (o : Oper), l[i]? = some o → ∀ e ∈ o.after, Region.binds .any e = true → e.on < i)
    (fin : ∀ a w, FInvE l F dead a0 w0 (Array.replicate l.length true) a w → Q .normal a w) :
    ∀ (fuel : Nat) (listed : Array Bool) (a : Act) (w : World), FInvE l F dead a0 w0 listed a w → (listed.toList.filter (· = false)).length ≤ fuel → wpAny P .any l.toArray Q fuel listed a w := by
  have alldone : ∀ listed : Array Bool, listed.size = l.length → Region.ready .any l.toArray listed = [] → listed = Array.replicate l.length true := by
    intro listed hls hr
    refine Classical.byContradiction fun hne => ?_
    have hex : ∃ i, i < l.length ∧ listed.getD i true = false := by
      refine Classical.byContradiction fun hno => hne ?_
      apply Array.ext (by simp [hls])
      intro i h1 h2
      have := fun hh => hno ⟨i, by omega, hh⟩
      simp [h1] at this
      simpa using this
    have hmin : ∃ i, i < l.length ∧ listed.getD i true = false ∧ ∀ j, j < i → listed.getD j true = true := by
      obtain ⟨i, hi, hf⟩ := hex
      have key : ∀ n, ∀ i, i ≤ n → i < l.length → listed.getD i true = false → ∃ i, i < l.length ∧ listed.getD i true = false ∧ ∀ j, j < i → listed.getD j true = true := by
        intro n
        induction n with
        | zero => intro i h0 hi hf; exact ⟨i, hi, hf, fun j hj => absurd hj (by omega)⟩
        | succ n ih =>
          intro i hin hi hf
          by_cases hx : ∃ j, j < i ∧ listed.getD j true = false
          · obtain ⟨j, hj, hjf⟩ := hx; exact ih j (by omega) (by omega) hjf
          · exact ⟨i, hi, hf, fun j hj => by
              cases hq : listed.getD j true with
              | true => rfl
              | false => exact absurd ⟨j, hj, hq⟩ hx⟩
      exact key i i (Nat.le_refl _) hi hf
    obtain ⟨i, hi, hf, hall⟩ := hmin
    have hmem : i ∈ Region.ready .any l.toArray listed := by
      rw [mem_ready]
      refine ⟨hf, l[i], by simp [hi], fun e he hb => ?_⟩
      have hlt := hback i l[i] (by simp [hi]) e he hb
      have := hall e.on hlt
      have hs : e.on < listed.size := by omega
      simpa [hs] using this
    rw [hr] at hmem
    cases hmem
  intro fuel
  induction fuel with
  | zero =>
    intro listed a w inv hf
    have hr : Region.ready .any l.toArray listed = [] := by
      refine List.eq_nil_iff_forall_not_mem.2 fun i hi => ?_
      have h0 := (mem_ready.1 hi).1
      have hmem : false ∈ listed.toList.filter (· = false) := by
        rw [List.mem_filter]
        refine ⟨?_, by simp⟩
        rcases Nat.lt_or_ge i listed.size with h | h
        · simp [h] at h0; rw [← h0]; simp
        · simp [Nat.not_lt.2 h] at h0
      have := List.length_pos_of_mem hmem
      omega
    exact ⟨hr, fin _ _ (by rw [alldone listed inv.lsize hr] at inv; exact inv)⟩
  | succ fuel ih =>
    intro listed a w inv hf
    refine ⟨fun hr => fin _ _ (by rw [alldone listed inv.lsize hr] at inv; exact inv), fun i hi => ?_⟩
    obtain ⟨hun, o, ho, hall⟩ := mem_ready.1 hi
    have ho' : l[i]? = some o := by simpa using ho
    have hil : i < l.length := (List.getElem?_eq_some_iff.1 ho').1
    have hunl : listed.getD i false = false := by
      cases hq : listed.getD i false with
      | false => rfl
      | true =>
        rw [Array.getD_eq_getD_getElem?] at hq hun
        cases hg : listed[i]? with
        | none => rw [hg] at hq; cases hq
        | some b => rw [hg] at hq hun; simp at hq hun; rw [hun] at hq; cases hq
    have hst := StepsE.at l 0 steps i o ho' a w inv.below inv.same (fun e he hb hok p d hp hd => inv.facts e.on p d hp hd (hall e he hb) (fun k hk => by
      rw [Nat.zero_add] at hok
      simp only [endOk, hk, Bool.or_eq_true, beq_iff_eq, reduceCtorEq, Option.some.injEq, false_or] at hok
      subst hok; exact hunl))
    rw [Nat.zero_add] at hst
    have hlisted : ∀ k, dead i = some k → ∀ j, (listed.setIfInBounds i true).getD j false = false → listed.getD j false = false := fun k _ j hj => by
      by_cases hij : i = j
      · subst hij; exact hunl
      · rw [Array.getD_eq_getD_getElem?, Array.getElem?_setIfInBounds, if_neg hij, ← Array.getD_eq_getD_getElem?] at hj; exact hj
    have hset : (listed.setIfInBounds i true).getD i false = true := by
      rw [Array.getD_eq_getD_getElem?, Array.getElem?_setIfInBounds, if_pos rfl, if_pos (by rw [inv.lsize]; exact hil)]; rfl
    suffices hgo : ∀ v w', E i w w' → F i v w' → wpAny P .any l.toArray Q fuel (listed.setIfInBounds i true) (a.put o.dst v) w' by
      unfold wpOp
      rw [ho]
      unfold GrowsG at hst
      simp only
      split
      · rename_i hwant
        rw [if_pos hwant] at hst
        exact .inl (hst.wp hgo)
      · rename_i hwant
        rw [if_neg hwant] at hst
        exact hgo _ _ hst.1 hst.2
    refine fun v w' hb' hF => ih _ _ _ ?_ ?_
    · refine ⟨inv.below.trans (hE i w w' inv.below hb'), by simpa using inv.lsize, fun j p d hp hd hl hdk => ?_, fun t ht => ?_, ?_, ?_⟩
      · have hdj := hsz j p d hp hd
        cases hod : o.dst with
        | none =>
          by_cases hij : i = j
          · subst hij; rw [ho'] at hp; obtain rfl := Option.some.inj hp; rw [hod] at hd; cases hd
          · have hl' : listed.getD j false = true := by rw [Array.getD_eq_getD_getElem?, Array.getElem?_setIfInBounds, if_neg hij, ← Array.getD_eq_getD_getElem?] at hl; exact hl
            exact mono j i _ _ _ (fun e => hij e.symm) (fun hdi => by have := hdk i hdi; rw [hset] at this; cases this) inv.below (inv.facts j p d hp hd hl' (fun k hk => by
              have := hdk k hk
              by_cases hik : i = k
              · subst hik; exact hunl
              · rw [Array.getD_eq_getD_getElem?, Array.getElem?_setIfInBounds, if_neg hik, ← Array.getD_eq_getD_getElem?] at this; exact this)) hb'
        | some d' =>
          rw [put_getD]
          by_cases hij : i = j
          · subst hij; rw [ho'] at hp; obtain rfl := Option.some.inj hp
            rw [hod] at hd; obtain rfl := Option.some.inj hd
            rw [if_pos ⟨rfl, by rw [inv.tsize]; exact hdj⟩]; exact hF
          · have hne : ¬ (d = d' ∧ d' < a.tmps.size) := fun hx => hij (hdist i j o p d ho' hp (by rw [hod, hx.1]) hd)
            rw [if_neg hne]
            have hl' : listed.getD j false = true := by rw [Array.getD_eq_getD_getElem?, Array.getElem?_setIfInBounds, if_neg hij, ← Array.getD_eq_getD_getElem?] at hl; exact hl
            exact mono j i _ _ _ (fun e => hij e.symm) (fun hdi => by have := hdk i hdi; rw [hset] at this; cases this) inv.below (inv.facts j p d hp hd hl' (fun k hk => by
              have := hdk k hk
              by_cases hik : i = k
              · subst hik; exact hunl
              · rw [Array.getD_eq_getD_getElem?, Array.getElem?_setIfInBounds, if_neg hik, ← Array.getD_eq_getD_getElem?] at this; exact this)) hb'
      · cases hod : o.dst with
        | none => exact inv.same t ht
        | some d' =>
          rw [put_getD, if_neg]
          · exact inv.same t ht
          · intro hx
            have : (dsts l).contains t = true := by
              simp only [dsts, List.contains_iff_mem, List.mem_filterMap]
              exact ⟨o, List.mem_of_getElem? ho', by rw [hod, hx.1]⟩
            rw [this] at ht; cases ht
      · cases o.dst <;> simp [Act.put, inv.tsize]
      · cases o.dst <;> simp [Act.put, inv.defers]
    · have hcount : ∀ (xs : List Bool) (i : Nat), xs[i]? = some false → ((xs.set i true).filter (· = false)).length + 1 = (xs.filter (· = false)).length := by
        intro xs
        induction xs with
        | nil => intro i h; simp at h
        | cons x xs ihx =>
          intro i h
          cases i with
          | zero => simp at h; subst h; simp
          | succ i =>
            have := ihx i (by simpa using h)
            cases x <;> simp at this ⊢ <;> omega
      have hlen : i < listed.size := by rw [inv.lsize]; exact hil
      have hget : listed.toList[i]? = some false := by simp [hlen] at hun ⊢; exact hun
      have := hcount listed.toList i hget
      rw [Array.toList_setIfInBounds]
      omega
/-- The check of what is closed. -/
def frBE (l : List Oper) (n : Nat) : Bool :=
  l.all (fun o => (o.dst.all (fun d => decide (d < n)))) && decide ((dsts l).Nodup) && (List.range l.length).all (fun i => (l[i]?).all fun o => o.after.all fun e => !Region.binds .any e || decide (e.on < i))
theorem wp_region_eff {P : Program} {id : Nat} {Q : Exit → Act → World → Prop} {a0 : Act} {w0 : World} {l : List Oper} (F : Nat → Value → World → Prop) (dead : Nat → Option Nat) (E : Nat → World → World → Prop) (hm : P.follows .mixedOrders = true) (hB : frBE l a0.tmps.size = true)
    (mono : ∀ i k v w w', i ≠ k → dead i ≠ some k → Below w0.heap.size w0 w → F i v w → E k w w' → F i v w') (hE : ∀ k w w', Below w0.heap.size w0 w → E k w w' → Below w0.heap.size w w') (steps : StepsHE P l F dead E a0 w0 0 l)
    (fin : ∀ (vs : Tmp → Value) w, Below w0.heap.size w0 w → (∀ (i : Nat) (d : Tmp), dstAt l i = some d → dead i = none → F i (vs d) w) → Q .normal ((dsts l).foldl (fun b d => b.put (some d) (vs d)) a0) w) :
    (Code.region id l.toArray true).wp P Q a0 w0 := by
  simp only [frBE, Bool.and_eq_true, decide_eq_true_eq, List.all_eq_true, List.mem_range] at hB
  obtain ⟨⟨h1, h2⟩, h3⟩ := hB
  have hall : ∀ (i : Nat) (o : Oper), l[i]? = some o → ∀ d, o.dst = some d → d < a0.tmps.size := fun i o ho => by
    have := h1 o (List.mem_of_getElem? ho)
    exact fun d hd => by simpa [hd] using this
  refine wp_region_any hm (wpAny_factsE (F := F) (dead := dead) (E := E) (w0 := w0) (a0 := a0) (dst_inj l h2) (fun i o d ho hd => hall i o ho d hd) mono hE (StepsHE.steps _ _ steps) (fun i o ho e he hb => ?_) (fun a w inv => ?_) _ _ _ _ ?_ ?_)
  · have := h3 i (List.getElem?_eq_some_iff.1 ho).1
    rw [ho] at this
    simp only [Option.all_some, Array.all_eq_true_iff_forall_mem] at this
    have := this e he
    simpa [hb] using this
  · rw [act_of (l := dsts l) inv.tsize inv.defers inv.same]
    refine fin (fun d => a.tmps.getD d undef) w inv.below fun i d hid hdn => ?_
    obtain ⟨o, ho, hd⟩ := Option.bind_eq_some_iff.1 hid
    exact inv.facts i o d ho hd (by
      have := (List.getElem?_eq_some_iff.1 ho).1
      simp [this]) (fun k hk => by rw [hdn] at hk; cases hk)
  · exact ⟨(Below.refl _ _).drew, by simp, fun i o d _ _ hl _ => by simp [Array.getD] at hl, fun _ _ => rfl, rfl, rfl⟩
  · simp
theorem eval_tmp (a : Act) (t : Tmp) : a.eval (.tmp t) = a.tmps[t]?.getD undef := by
  show a.tmps.getD t undef = _
  rw [Array.getD_eq_getD_getElem?]
theorem growsG_none {P : Program} {l : List Oper} {o : Oper} {a : Act} {w : World} {E : World → World → Prop} {G : Value → World → Prop} (hg : o.guard = none) (h : GrowsE P o a w E G) : GrowsG P l o a w E G := by
  unfold GrowsG
  rw [if_pos (by simp [Region.wanted, hg])]
  exact h
theorem yielded_of {l : List Oper} {tmps : Array Value} {j : Nat} {d : Tmp} {b : Bool} (hd : dstAt l j = some d) (e : tmps[d]?.getD undef = .bool b) : yielded l.toArray tmps j = some b := by
  unfold yielded
  have h1 : (l.toArray[j]?).bind (·.dst) = some d := by simpa [dstAt] using hd
  rw [h1]
  cases hq : tmps[d]? with
  | none => rw [hq] at e; cases e
  | some v => rw [hq] at e; simp at e; subst e; simp [hq]
theorem growsG_yes {P : Program} {l : List Oper} {o : Oper} {a : Act} {w : World} {E : World → World → Prop} {G : Value → World → Prop} {j : Nat} {d : Tmp} {b : Bool} (hg : o.guard = some (j, b)) (hd : dstAt l j = some d) (e : a.tmps[d]?.getD undef = .bool b) (h : GrowsE P o a w E G) : GrowsG P l o a w E G := by
  unfold GrowsG
  rw [if_pos (by simp [Region.wanted, hg, yielded_of hd e])]
  exact h
theorem growsG_no {P : Program} {l : List Oper} {o : Oper} {a : Act} {w : World} {E : World → World → Prop} {G : Value → World → Prop} {j : Nat} {d : Tmp} {b b' : Bool} (hg : o.guard = some (j, b')) (hd : dstAt l j = some d) (e : a.tmps[d]?.getD undef = .bool b) (hne : b ≠ b') (hE : E w w) (h : G undef w) : GrowsG P l o a w E G := by
  unfold GrowsG
  rw [if_neg (by simp [Region.wanted, hg, yielded_of hd e, hne])]
  exact ⟨hE, h⟩
end Go.Proofs.YtajnhkkiddeegaaGreat
namespace Go.Proofs.YtajnhkkiddeegaaGreat
open Go.RowKit Go.Sort
def StepsHN (P : Program) (l : List Oper) (F : Nat → Value → World → Prop) (dead : Nat → Option Nat) (E : Nat → World → World → Prop) (C : World → Prop) (n : Nat) (a0 : Act) : Nat → List Oper → Prop
  | _, [] => True
  | i, o :: r => (∀ a w, C w → (∀ t, (dsts (l.take n)).contains t = false → a.tmps[t]?.getD undef = a0.eval (.tmp t)) →
      (∀ j d, (depsOf o).contains j = true → dstAt l j = some d → endOk dead j i = true → F j (a.tmps[d]?.getD undef) w) → GrowsG P l o a w (E i) (F i)) ∧ StepsHN P l F dead E C n a0 (i + 1) r
def StepsN (P : Program) (l : List Oper) (F : Nat → Value → World → Prop) (dead : Nat → Option Nat) (E : Nat → World → World → Prop) (C : World → Prop) (n : Nat) (a0 : Act) : Nat → List Oper → Prop
  | _, [] => True
  | i, o :: r => (∀ a w, C w → (∀ t, (dsts (l.take n)).contains t = false → a.tmps.getD t undef = a0.tmps.getD t undef) →
      (∀ e ∈ o.after, Region.binds .any e = true → endOk dead e.on i = true → ∀ (p : Oper) (d : Tmp), l[e.on]? = some p → p.dst = some d → F e.on (a.tmps.getD d undef) w) → GrowsG P l o a w (E i) (F i)) ∧ StepsN P l F dead E C n a0 (i + 1) r
theorem StepsHN.steps {P : Program} {l : List Oper} {F : Nat → Value → World → Prop} {dead : Nat → Option Nat} {E : Nat → World → World → Prop} {C : World → Prop} {n : Nat} {a0 : Act} : ∀ (r : List Oper) (i : Nat), StepsHN P l F dead E C n a0 i r → StepsN P l F dead E C n a0 i r := by
  intro r
  induction r with
  | nil => intro i _; trivial
  | cons o r ih =>
    intro i h
    refine ⟨fun a w hb hs hd => h.1 a w hb (fun t ht => by rw [← Array.getD_eq_getD_getElem?]; exact hs t ht) (fun j d hj hjd hok => ?_), ih _ h.2⟩
    simp only [depsOf, List.contains_iff_mem, List.mem_map, List.mem_filter] at hj
    obtain ⟨e, ⟨he, hb⟩, rfl⟩ := hj
    obtain ⟨p, hp, hpd⟩ := Option.bind_eq_some_iff.1 hjd
    rw [← Array.getD_eq_getD_getElem?]
    exact hd e (by simpa using he) hb hok p d hp hpd
theorem StepsN.at {P : Program} {l : List Oper} {F : Nat → Value → World → Prop} {dead : Nat → Option Nat} {E : Nat → World → World → Prop} {C : World → Prop} {n : Nat} {a0 : Act} : ∀ (r : List Oper) (k : Nat), StepsN P l F dead E C n a0 k r → ∀ (i : Nat) (o : Oper), r[i]? = some o →
    ∀ a w, C w → (∀ t, (dsts (l.take n)).contains t = false → a.tmps.getD t undef = a0.tmps.getD t undef) →
      (∀ e ∈ o.after, Region.binds .any e = true → endOk dead e.on (k + i) = true → ∀ (p : Oper) (d : Tmp), l[e.on]? = some p → p.dst = some d → F e.on (a.tmps.getD d undef) w) → GrowsG P l o a w (E (k + i)) (F (k + i)) := by
  intro r
  induction r with
  | nil => intro k _ i o h; simp at h
  | cons x r ih =>
    intro k h i o hi
    cases i with
    | zero => simp at hi; subst hi; exact h.1
    | succ i => rw [show k + (i + 1) = (k + 1) + i from by omega]; exact ih (k + 1) h.2 i o (by simpa using hi)
structure FInvN (l : List Oper) (F : Nat → Value → World → Prop) (dead : Nat → Option Nat) (C : World → Prop) (n : Nat) (a0 : Act) (listed : Array Bool) (a : Act) (w : World) : Prop where
  below : C w
  facts : ∀ (i : Nat) (o : Oper) (d : Tmp), i < n → l[i]? = some o → o.dst = some d → listed.getD i false = true → (∀ k, dead i = some k → listed.getD k false = false) → F i (a.tmps.getD d undef) w
  same : ∀ t, (dsts (l.take n)).contains t = false → a.tmps.getD t undef = a0.tmps.getD t undef
  tsize : a.tmps.size = a0.tmps.size
  defers : a.defers = a0.defers
theorem getD_in' {listed : Array Bool} {i : Nat} (h : listed.getD i true = true) (hi : i < listed.size) : listed.getD i false = true := by
  simp [hi] at h ⊢; exact h
/-- How many of the first n are left. -/
def leftN (listed : Array Bool) (n : Nat) : Nat := ((List.range n).filter fun i => !listed.getD i true).length
theorem leftN_zero {listed : Array Bool} {n : Nat} (h : leftN listed n = 0) : ∀ i, i < n → listed.getD i true = true := fun i hi => by
  have h1 : (List.range n).filter (fun i => !listed.getD i true) = [] := List.length_eq_zero_iff.1 h
  have := List.filter_eq_nil_iff.1 h1 i (List.mem_range.2 hi)
  simpa using this
theorem leftN_pos {listed : Array Bool} {n : Nat} (h : leftN listed n ≠ 0) : ∃ i, i < n ∧ listed.getD i true = false := by
  refine Classical.byContradiction fun hno => h ?_
  have : (List.range n).filter (fun i => !listed.getD i true) = [] := List.filter_eq_nil_iff.2 fun i hi => by
    have hi' := List.mem_range.1 hi
    cases hq : listed.getD i true with
    | true => simp
    | false => exact absurd ⟨i, hi', hq⟩ hno
  unfold leftN
  rw [this]; rfl
theorem filter_drop_one {p q : Nat → Bool} {i : Nat} : ∀ (xs : List Nat), xs.Nodup → i ∈ xs → p i = true → q i = false → (∀ j, j ≠ i → q j = p j) → (xs.filter q).length + 1 = (xs.filter p).length := by
  intro xs
  induction xs with
  | nil => intro _ h; simp at h
  | cons x xs ih =>
    intro hn hi hp hq hj
    have hn' := List.nodup_cons.1 hn
    by_cases e : x = i
    · subst e
      have : xs.filter q = xs.filter p := List.filter_congr fun j hjm => hj j (fun ee => hn'.1 (ee ▸ hjm))
      rw [List.filter_cons, List.filter_cons, hp, hq, if_neg (by decide), if_pos rfl, this]; rfl
    · have hi' : i ∈ xs := (List.mem_cons.1 hi).resolve_left (Ne.symm e)
      have := ih hn'.2 hi' hp hq hj
      rw [List.filter_cons, List.filter_cons, hj x e]
      cases p x <;> simp <;> omega
theorem wpAny_head {P : Program} {l : List Oper} {F : Nat → Value → World → Prop} {dead : Nat → Option Nat} {E : Nat → World → World → Prop} {C : World → Prop} {n : Nat} {a0 : Act} {Q : Exit → Act → World → Prop}
    (hn : n < l.length) (hs : Region.sinkB .any l.toArray n = true) (hc : Region.chainB .any l.toArray n = true)
    (hdist : ∀ (i j : Nat) (o p : Oper) (d : Tmp), i < n → j < n → l[i]? = some o → l[j]? = some p → o.dst = some d → p.dst = some d → i = j) (hsz : ∀ (i : Nat) (o : Oper) (d : Tmp), l[i]? = some o → o.dst = some d → d < a0.tmps.size)
    (mono : ∀ i k v w w', i ≠ k → dead i ≠ some k → C w → F i v w → E k w w' → F i v w') (hE : ∀ k w w', C w → E k w w' → C w') (steps : StepsN P l F dead E C n a0 0 (l.take n))
    (hback : ∀ (i : Nat) (o : Oper), l[i]? = some o → ∀ e ∈ o.after, Region.binds .any e = true → e.on < i) {g : Nat}
    (fin : ∀ listed a w, HeadInv .any l.toArray n listed → FInvN l F dead C n a0 listed a w → leftN listed n = 0 → wpAny P .any l.toArray Q g listed a w) :
    ∀ (h : Nat) (listed : Array Bool) (a : Act) (w : World), HeadInv .any l.toArray n listed → FInvN l F dead C n a0 listed a w → leftN listed n = h → wpAny P .any l.toArray Q (h + g) listed a w := by
  intro h
  induction h with
  | zero => intro listed a w hv inv hl; rw [Nat.zero_add]; exact fin listed a w hv inv hl
  | succ h ih =>
    intro listed a w hv inv hl
    obtain ⟨x, hx, hxl⟩ := leftN_pos (listed := listed) (n := n) (by omega)
    have hwait := tail_waits hs hc (by simpa using hn) hv (n - x) x rfl hx hxl
    rw [show h + 1 + g = (h + g) + 1 by omega]
    refine ⟨fun hr => ?_, fun i hi => ?_⟩
    · -- something is always ready: the least that is left
      exfalso
      have hmin : ∀ k x, x ≤ k → x < n → listed.getD x true = false → ∃ y, y < n ∧ listed.getD y true = false ∧ ∀ z, z < y → listed.getD z true = true := by
        intro k
        induction k with
        | zero => intro x h0 hxn hxf; exact ⟨x, hxn, hxf, fun z hz => absurd hz (by omega)⟩
        | succ k ihk =>
          intro x hxk hxn hxf
          by_cases hq : ∃ z, z < x ∧ listed.getD z true = false
          · obtain ⟨z, hz, hzf⟩ := hq; exact ihk z (by omega) (by omega) hzf
          · exact ⟨x, hxn, hxf, fun z hz => by
              cases hqq : listed.getD z true with
              | true => rfl
              | false => exact absurd ⟨z, hz, hqq⟩ hq⟩
      obtain ⟨y, hy, hyf, hall⟩ := hmin x x (Nat.le_refl _) hx hxl
      have : y ∈ Region.ready .any l.toArray listed := by
        rw [mem_ready]
        refine ⟨hyf, l[y], by simp [show y < l.length by omega], fun e he hb => ?_⟩
        have hlt := hback y l[y] (by simp [show y < l.length by omega]) e he hb
        have h1 := hall e.on hlt
        have h2 := hv.size
        have h3 : e.on < listed.size := by rw [h2]; simp; omega
        simpa [h3] using h1
      rw [hr] at this; cases this
    · have hin : i < n := by
        refine Classical.byContradiction fun hge => ?_
        exact hwait i (by omega) hi
      obtain ⟨hun, o, ho, hall⟩ := mem_ready.1 hi
      have ho' : l[i]? = some o := by simpa using ho
      have hil : i < l.length := (List.getElem?_eq_some_iff.1 ho').1
      have hot : (l.take n)[i]? = some o := by rw [List.getElem?_take, if_pos hin]; exact ho'
      have hunl := getD_both hun
      have hst := StepsN.at (l.take n) 0 steps i o hot a w inv.below inv.same (fun e he hb hok p d hp hd => inv.facts e.on p d (by have := hback i o ho' e he hb; omega) hp hd (hall e he hb) (fun k hk => by
        rw [Nat.zero_add] at hok
        simp only [endOk, hk, Bool.or_eq_true, beq_iff_eq, reduceCtorEq, Option.some.injEq, false_or] at hok
        subst hok; exact hunl))
      rw [Nat.zero_add] at hst
      have hset : (listed.setIfInBounds i true).getD i false = true := by
        rw [Array.getD_eq_getD_getElem?, Array.getElem?_setIfInBounds, if_pos rfl, if_pos (by rw [hv.size]; simpa using hil)]; rfl
      suffices hgo : ∀ v w', E i w w' → F i v w' → wpAny P .any l.toArray Q (h + g) (listed.setIfInBounds i true) (a.put o.dst v) w' by
        unfold wpOp
        rw [ho]
        unfold GrowsG at hst
        simp only
        split
        · rename_i hwant
          rw [if_pos hwant] at hst
          exact .inl (hst.wp hgo)
        · rename_i hwant
          rw [if_neg hwant] at hst
          exact hgo _ _ hst.1 hst.2
      intro v w' hb' hF
      refine ih _ _ _ (hv.set hi hin) ⟨hE i w w' inv.below hb', fun j p d hjn hp hd hlj hdk => ?_, fun t ht => ?_, ?_, ?_⟩ ?_
      · have hdj := hsz j p d hp hd
        cases hod : o.dst with
        | none =>
          by_cases hij : i = j
          · subst hij; rw [ho'] at hp; obtain rfl := Option.some.inj hp; rw [hod] at hd; cases hd
          · have hl' : listed.getD j false = true := by rw [Array.getD_eq_getD_getElem?, Array.getElem?_setIfInBounds, if_neg hij, ← Array.getD_eq_getD_getElem?] at hlj; exact hlj
            exact mono j i _ _ _ (fun e => hij e.symm) (fun hdi => by have := hdk i hdi; rw [hset] at this; cases this) inv.below (inv.facts j p d hjn hp hd hl' (fun k hk => by
              have := hdk k hk
              by_cases hik : i = k
              · subst hik; exact hunl
              · rw [Array.getD_eq_getD_getElem?, Array.getElem?_setIfInBounds, if_neg hik, ← Array.getD_eq_getD_getElem?] at this; exact this)) hb'
        | some d' =>
          rw [put_getD]
          by_cases hij : i = j
          · subst hij; rw [ho'] at hp; obtain rfl := Option.some.inj hp
            rw [hod] at hd; obtain rfl := Option.some.inj hd
            rw [if_pos ⟨rfl, by rw [inv.tsize]; exact hdj⟩]; exact hF
          · have hne : ¬ (d = d' ∧ d' < a.tmps.size) := fun hx => hij (hdist i j o p d hin hjn ho' hp (by rw [hod, hx.1]) hd)
            rw [if_neg hne]
            have hl' : listed.getD j false = true := by rw [Array.getD_eq_getD_getElem?, Array.getElem?_setIfInBounds, if_neg hij, ← Array.getD_eq_getD_getElem?] at hlj; exact hlj
            exact mono j i _ _ _ (fun e => hij e.symm) (fun hdi => by have := hdk i hdi; rw [hset] at this; cases this) inv.below (inv.facts j p d hjn hp hd hl' (fun k hk => by
              have := hdk k hk
              by_cases hik : i = k
              · subst hik; exact hunl
              · rw [Array.getD_eq_getD_getElem?, Array.getElem?_setIfInBounds, if_neg hik, ← Array.getD_eq_getD_getElem?] at this; exact this)) hb'
      · cases hod : o.dst with
        | none => exact inv.same t ht
        | some d' =>
          rw [put_getD, if_neg]
          · exact inv.same t ht
          · intro hx
            have : (dsts (l.take n)).contains t = true := by
              simp only [dsts, List.contains_iff_mem, List.mem_filterMap]
              exact ⟨o, List.mem_of_getElem? hot, by rw [hod, hx.1]⟩
            rw [this] at ht; cases ht
      · cases o.dst <;> simp [Act.put, inv.tsize]
      · cases o.dst <;> simp [Act.put, inv.defers]
      · have hsl : ∀ j, j ≠ i → (listed.setIfInBounds i true).getD j true = listed.getD j true := fun j hj => by
          rw [Array.getD_eq_getD_getElem?, Array.getElem?_setIfInBounds, if_neg (Ne.symm hj), ← Array.getD_eq_getD_getElem?]
        have hsi : (listed.setIfInBounds i true).getD i true = true := by
          rw [Array.getD_eq_getD_getElem?, Array.getElem?_setIfInBounds, if_pos rfl, if_pos (by rw [hv.size]; simpa using hil)]; rfl
        have := filter_drop_one (p := fun i => !listed.getD i true) (q := fun j => !(listed.setIfInBounds i true).getD j true) (i := i) (List.range n) List.nodup_range (List.mem_range.2 hin) (by rw [hun]; rfl) (by rw [hsi]; rfl) (fun j hj => by rw [hsl j hj])
        unfold leftN at hl ⊢
        omega
/-- The check of what is closed. -/
def frBN (l : List Oper) (n m : Nat) : Bool :=
  decide (n < l.length) && Region.sinkB .any l.toArray n && Region.chainB .any l.toArray n && Region.seqB .any l.toArray (l.length - n) n (Array.replicate n true ++ Array.replicate (l.length - n) false) &&
  l.all (fun o => (o.dst.all (fun d => decide (d < m)))) && decide ((dsts (l.take n)).Nodup) && (List.range l.length).all (fun i => (l[i]?).all fun o => o.after.all fun e => !Region.binds .any e || decide (e.on < i))
/-- A region that draws its order: its first n operations in whatever order, the rest behind them in theirs. -/
theorem wp_region_then {P : Program} {id : Nat} {Q : Exit → Act → World → Prop} {a0 : Act} {w0 : World} {l : List Oper} (n : Nat) (F : Nat → Value → World → Prop) (dead : Nat → Option Nat) (E : Nat → World → World → Prop) (C : World → Prop) (hm : P.follows .mixedOrders = true) (hB : frBN l n a0.tmps.size = true)
    (h0 : C w0.drew) (mono : ∀ i k v w w', i ≠ k → dead i ≠ some k → C w → F i v w → E k w w' → F i v w') (hE : ∀ k w w', C w → E k w w' → C w') (steps : StepsHN P l F dead E C n a0 0 (l.take n))
    (fin : ∀ (vs : Tmp → Value) w, C w → (∀ (i : Nat) (d : Tmp), i < n → dstAt l i = some d → (∀ k, dead i = some k → n ≤ k) → F i (vs d) w) → wpList P l.toArray Q (l.drop n) ((dsts (l.take n)).foldl (fun b d => b.put (some d) (vs d)) a0) w) :
    (Code.region id l.toArray true).wp P Q a0 w0 := by
  simp only [frBN, Bool.and_eq_true, decide_eq_true_eq] at hB
  obtain ⟨⟨⟨⟨⟨⟨hn, hs⟩, hc⟩, hseq⟩, h1⟩, h2⟩, h3⟩ := hB
  have hsz : ∀ (i : Nat) (o : Oper) (d : Tmp), l[i]? = some o → o.dst = some d → d < a0.tmps.size := fun i o d ho hd => by
    have := List.all_eq_true.1 h1 o (List.mem_of_getElem? ho)
    simpa [hd] using this
  have hback : ∀ (i : Nat) (o : Oper), l[i]? = some o → ∀ e ∈ o.after, Region.binds .any e = true → e.on < i := fun i o ho e he hb => by
    have := List.all_eq_true.1 h3 i (List.mem_range.2 (List.getElem?_eq_some_iff.1 ho).1)
    rw [ho] at this
    simp only [Option.all_some, Array.all_eq_true_iff_forall_mem] at this
    have := this e he
    simpa [hb] using this
  have hdist : ∀ (i j : Nat) (o p : Oper) (d : Tmp), i < n → j < n → l[i]? = some o → l[j]? = some p → o.dst = some d → p.dst = some d → i = j := fun i j o p d hi hj ho hp hod hpd =>
    dst_inj (l.take n) h2 i j o p d (by rw [List.getElem?_take, if_pos hi]; exact ho) (by rw [List.getElem?_take, if_pos hj]; exact hp) hod hpd
  have inv0 : HeadInv .any l.toArray n (Array.replicate l.toArray.size false) :=
    ⟨by simp, fun j oj _ hl => (by rw [getD_replicate_false] at hl; cases hl), fun t _ ht => getD_in (by simpa using ht) (getD_replicate_false _ _)⟩
  have finv0 : FInvN l F dead C n a0 (Array.replicate l.toArray.size false) a0 w0.drew :=
    ⟨h0, fun i o d _ _ _ hl _ => (by rw [getD_replicate_false] at hl; cases hl), fun _ _ => rfl, rfl, rfl⟩
  have hleft : leftN (Array.replicate l.toArray.size false) n = n := by
    unfold leftN
    have : (List.range n).filter (fun i => !(Array.replicate l.toArray.size false).getD i true) = List.range n := List.filter_eq_self.2 fun i hi => by
      have hi' := List.mem_range.1 hi
      have : i < l.length := by omega
      simp [this]
    rw [this, List.length_range]
  refine wp_region_any hm ?_
  have := wpAny_head (F := F) (dead := dead) (E := E) (C := C) (Q := Q) (g := l.length - n) hn hs hc hdist hsz mono hE (StepsHN.steps _ _ steps) hback (fun listed a w hv inv hl => ?_) n _ a0 w0.drew inv0 finv0 hleft
  · have e : n + (l.length - n) = l.toArray.size := by simp; omega
    rw [e] at this
    exact this
  · have hz := leftN_zero hl
    have hlist : listed = Array.replicate n true ++ Array.replicate (l.length - n) false := by
      have hls := hv.size
      apply Array.ext
      · simp at hls ⊢; omega
      · intro i hi1 hi2
        by_cases hin : i < n
        · have := hz i hin
          rw [Array.getElem_append_left (by simpa using hin)]
          simp [hi1] at this ⊢
          exact this
        · rw [Array.getElem_append_right (by simpa using Nat.le_of_not_lt hin)]
          have := hv.tail i (by omega) (by rw [← hls]; exact hi1)
          simp [hi1] at this ⊢
          exact this
    have hseq' : Region.seqB .any l.toArray (l.drop n).length n listed = true := by rw [hlist, List.length_drop]; exact hseq
    have hgo := wpAny_of_seq (md := .any) (Q' := Q) (P := P) (l.drop n) n listed a w (fun j => by simp [List.getElem?_drop]) hseq' (by
      rw [act_of (l := dsts (l.take n)) inv.tsize inv.defers inv.same]
      refine fin (fun d => a.tmps.getD d undef) w inv.below fun i d hi hid hdk => ?_
      obtain ⟨o, ho, hd⟩ := Option.bind_eq_some_iff.1 hid
      refine inv.facts i o d hi ho hd (getD_in' (hz i hi) (by have := hv.size; simp at this; omega)) (fun k hk => ?_)
      have hkn := hdk k hk
      by_cases hkl : k < l.length
      · exact getD_both (hv.tail k hkn (by simpa using hkl))
      · have := hv.size
        simp at this
        simp [show listed.size ≤ k by omega])
    rw [List.length_drop] at hgo
    exact hgo
end Go.Proofs.YtajnhkkiddeegaaGreat
namespace Go.Proofs.YtajnhkkiddeegaaGreat
open Go.RowKit Go.Sort
structure ES where
  o : Nat
  q : List Int
def eStep (T : Nat → Bool) (s : ES) (f : Nat) : ES := if hasB s.o f = false ∧ T f = true then ⟨s.o ||| 2 ^ f, s.q ++ [(f : Int)]⟩ else s
theorem eStep_yes {T : Nat → Bool} {s : ES} {f : Nat} (h1 : hasB s.o f = false) (h2 : T f = true) : eStep T s f = ⟨s.o ||| 2 ^ f, s.q ++ [(f : Int)]⟩ := by rw [eStep, if_pos ⟨h1, h2⟩]
theorem eStep_no {T : Nat → Bool} {s : ES} {f : Nat} (h : ¬ (hasB s.o f = false ∧ T f = true)) : eStep T s f = s := by rw [eStep, if_neg h]
def eVis (T : Nat → Bool) (L : List Int) (s : ES) : Nat → ES
  | 0 => s
  | k + 1 => eStep T (eVis T L s k) (ia L k).toNat
/-- Both ends of an edge, as far as so many of them. -/
def eEnd (es : List (Int × Int)) (vE : Nat → Int) (T : Nat → Bool) (u : Nat) (s : ES) : Nat → ES
  | 0 => s
  | k + 1 => eVis T (atL es (vE (2 * u + k))) (eEnd es vE T u s k) (atL es (vE (2 * u + k))).length
def eBfs (es : List (Int × Int)) (vE : Nat → Int) (T : Nat → Bool) (s : ES) : Nat → ES
  | 0 => s
  | i + 1 => if i < (eBfs es vE T s i).q.length then eEnd es vE T (ia (eBfs es vE T s i).q i).toNat (eBfs es vE T s i) 2 else eBfs es vE T s i
structure EInv (m : Nat) (s : ES) : Prop where
  nd : s.q.Nodup
  rng : ∀ f, f ∈ s.q → 0 ≤ f ∧ f < (m : Int)
  has : ∀ f, f ∈ s.q → hasB s.o f = true
theorem EInv.step {m : Nat} {T : Nat → Bool} {s : ES} {f : Nat} (h : EInv m s) (hf : f < m) : EInv m (eStep T s f) := by
  by_cases hc : hasB s.o f = false ∧ T f = true
  · rw [eStep_yes hc.1 hc.2]
    refine ⟨?_, fun x hx => ?_, fun x hx => ?_⟩
    · show (s.q ++ [(f : Int)]).Nodup
      rw [List.nodup_append]
      refine ⟨h.nd, by simp, fun x hx y hy e => ?_⟩
      obtain rfl : y = f := by simpa using hy
      subst e
      have := h.has _ hx
      rw [hc.1] at this; cases this
    · rcases List.mem_append.1 hx with hx | hx
      · exact h.rng x hx
      · obtain rfl : x = f := by simpa using hx
        omega
    · have hb : ∀ y : Int, hasB (s.o ||| 2 ^ f) y = (hasB s.o y || decide (f = y.toNat)) := fun y => by
        unfold hasB; rw [Nat.testBit_or, Nat.testBit_two_pow]
      show hasB (s.o ||| 2 ^ f) x = true
      rw [hb]
      rcases List.mem_append.1 hx with hx | hx
      · rw [h.has x hx]; rfl
      · obtain rfl : x = f := by simpa using hx
        simp
  · rw [eStep_no hc]; exact h
theorem eStep_q {T : Nat → Bool} {s : ES} {f : Nat} : ∃ ys, (eStep T s f).q = s.q ++ ys := by
  by_cases hc : hasB s.o f = false ∧ T f = true
  · rw [eStep_yes hc.1 hc.2]; exact ⟨_, rfl⟩
  · rw [eStep_no hc]; exact ⟨[], by simp⟩
theorem eVis_q {T : Nat → Bool} {L : List Int} {s : ES} (k : Nat) : ∃ ys, (eVis T L s k).q = s.q ++ ys := by
  induction k with
  | zero => exact ⟨[], by simp [eVis]⟩
  | succ k ih =>
    obtain ⟨ys, h⟩ := ih
    obtain ⟨zs, h2⟩ := eStep_q (T := T) (s := eVis T L s k) (f := (ia L k).toNat)
    exact ⟨ys ++ zs, by simp only [eVis]; rw [h2, h, List.append_assoc]⟩
theorem eEnd_q {es : List (Int × Int)} {vE : Nat → Int} {T : Nat → Bool} {u : Nat} {s : ES} (k : Nat) : ∃ ys, (eEnd es vE T u s k).q = s.q ++ ys := by
  induction k with
  | zero => exact ⟨[], by simp [eEnd]⟩
  | succ k ih =>
    obtain ⟨ys, h⟩ := ih
    obtain ⟨zs, h2⟩ := eVis_q (T := T) (L := atL es (vE (2 * u + k))) (s := eEnd es vE T u s k) (atL es (vE (2 * u + k))).length
    exact ⟨ys ++ zs, by simp only [eEnd]; rw [h2, h, List.append_assoc]⟩
theorem EInv.vis {es : List (Int × Int)} {T : Nat → Bool} {v : Int} {s : ES} (h : EInv es.length s) : ∀ k, k ≤ (atL es v).length → EInv es.length (eVis T (atL es v) s k) := by
  intro k
  induction k with
  | zero => intro _; exact h
  | succ k ih =>
    intro hk
    obtain ⟨f, hf, e, hv⟩ := atL_at (es := es) (u := v) (k := k) (by omega)
    simp only [eVis]
    rw [e, Int.toNat_natCast]
    exact (ih (by omega)).step hf
theorem EInv.ends {es : List (Int × Int)} {vE : Nat → Int} {T : Nat → Bool} {u : Nat} {s : ES} (h : EInv es.length s) : ∀ k, EInv es.length (eEnd es vE T u s k) := by
  intro k
  induction k with
  | zero => exact h
  | succ k ih => exact ih.vis _ (Nat.le_refl _)
theorem EInv.bfs {es : List (Int × Int)} {vE : Nat → Int} {T : Nat → Bool} {s : ES} (h : EInv es.length s) : ∀ i, EInv es.length (eBfs es vE T s i) := by
  intro i
  induction i with
  | zero => exact h
  | succ i ih =>
    rw [eBfs]
    split
    · exact ih.ends 2
    · exact ih
theorem EInv.len {m : Nat} {s : ES} (h : EInv m s) : s.q.length ≤ m := by
  refine inj_le m s.q.length (fun i => (ia s.q i).toNat) (fun i hi => ?_) (fun i j hi hj e => ?_)
  · have := h.rng _ (iaMem hi); omega
  · have h1 := h.rng _ (iaMem hi)
    have h2 := h.rng _ (iaMem hj)
    have e2 : ia s.q i = ia s.q j := by omega
    have hp := List.pairwise_iff_getElem.1 h.nd
    have e3 : s.q[i] = s.q[j] := by simpa [ia, hi, hj] using e2
    rcases Nat.lt_trichotomy i j with hlt | heq | hgt
    · exact absurd e3 (hp i j hi hj hlt)
    · exact heq
    · exact absurd e3.symm (hp j i hj hi hgt)
theorem eBfs_succ {es : List (Int × Int)} {vE : Nat → Int} {T : Nat → Bool} {s : ES} {i : Nat} (h : i < (eBfs es vE T s i).q.length) : eBfs es vE T s (i + 1) = eEnd es vE T (ia (eBfs es vE T s i).q i).toNat (eBfs es vE T s i) 2 := by rw [eBfs, if_pos h]
theorem eBfs_done {es : List (Int × Int)} {vE : Nat → Int} {T : Nat → Bool} {s : ES} {i : Nat} (h : ¬ i < (eBfs es vE T s i).q.length) : ∀ j, i ≤ j → eBfs es vE T s j = eBfs es vE T s i := by
  intro j hj
  induction j with
  | zero => rw [show i = 0 by omega]
  | succ j ih =>
    by_cases e : i = j + 1
    · rw [e]
    · have := ih (by omega)
      rw [eBfs, this, if_neg (by omega)]
/-- Where the search ends. -/
def eFin (es : List (Int × Int)) (vE : Nat → Int) (T : Nat → Bool) (s : ES) : ES := eBfs es vE T s es.length
theorem eFin_at {es : List (Int × Int)} {vE : Nat → Int} {T : Nat → Bool} {s : ES} (hI : EInv es.length s) {i : Nat} (h : ¬ i < (eBfs es vE T s i).q.length) (hi : i ≤ (eBfs es vE T s i).q.length) : eFin es vE T s = eBfs es vE T s i := by
  have := (hI.bfs (vE := vE) (T := T) i).len
  exact eBfs_done h _ (by omega)
theorem EInv.one {m : Nat} {o e : Nat} (h : e < m) (ho : hasB o e = true) : EInv m ⟨o, [(e : Int)]⟩ :=
  ⟨by simp, fun f hf => by simp at hf; omega, fun f hf => by simp at hf; subst hf; exact ho⟩
end Go.Proofs.YtajnhkkiddeegaaGreat
namespace Go.Proofs.YtajnhkkiddeegaaGreat
open Go.RowKit Go.Sort
def chT (cs : Nat → Int) (e : Nat) (bb : Int) (f : Nat) : Bool := decide (cs f = cs e ∨ cs f = bb)
def chS (es : List (Int × Int)) (cs : Nat → Int) (e : Nat) (bb : Int) : Nat := (eFin es (vE es) (chT cs e bb) ⟨2 ^ e, [(e : Int)]⟩).o
theorem hasB_two (e : Nat) : hasB (2 ^ e) (e : Int) = true := by unfold hasB; rw [Nat.testBit_two_pow]; simp
end Go.Proofs.YtajnhkkiddeegaaGreat
namespace Go.Proofs.YtajnhkkiddeegaaGreat
open Go.RowKit Go.Sort
noncomputable def lkC (n : Int) (es : List (Int × Int)) (N : Nat) (cs : Nat → Nat → Int) (ll : Nat → Nat) : Int := if B (IsG n es) then (if B (∀ j, j < N → colB es (cs j) (ll j) = true) then 0 else 2) else 1
set_option maxRecDepth 100000 in
set_option maxHeartbeats 3200000 in
theorem l02Code_any (n : Int) (b o m c : Nat) (es : List (Int × Int)) (w : World) (h : Eds w b o m es) (hm : m ≤ 1048576) (B2 N c2 : Nat) (bs os ll cc : Nat → Nat) (cs : Nat → Nat → Int) (hB2 : B2 < w.heap.size) (hN : N ≤ 1048576)
    (hr : ∀ j, j < N → w.cell? ⟨B2, j, none⟩ = some (.slice (some ⟨bs j, os j, none⟩) (ll j) (cc j))) (hI : ∀ j, j < N → Ints w (bs j) (os j) (ll j) (cs j) ∧ ll j ≤ 1048576) :
    Calls Tryz.prog 68 #[.agg #[.int .i64 n, .slice (some ⟨b, o, none⟩) m c], .slice (some ⟨B2, 0, none⟩) N c2] w (Ret (.int .i64 (lkC n es N cs ll)) w) := by
  have KC := cell_rg
  have HR := Lib.hid hr
  have HI := Lib.hid hI
  clear hr hI
  have hbx := Box2.made w (.int .i64 n) (.slice (some ⟨b, o, none⟩) m c) 26
  have hbb := (by go_grown : Below w.heap.size w (w.alloc (.cells #[.int .i64 n, .slice (some ⟨b, o, none⟩) m c] 26)))
  have HSP := Lib.hid (l01Is_any n b o m c es _ (h.alloc (.cells #[.int .i64 n, .slice (some ⟨b, o, none⟩) m c] 26)) hm)
  by_cases hG : IsG n es
  rotate_left
  · rw [B_false hG] at HSP
    have HC : Hid (lkC n es N cs ll = 1) := by simp [Hid, lkC, B_false hG]
    rw [HC.out]
    clear hG
    go_enter Tryz.func68, Tryz.ntmps68
    go_wp2_with fail
    refine HSP.out.mono ?_
    rintro e w1 ⟨rfl, hb1⟩
    go_wp2_with fail
    go_ret
    exact ⟨rfl, hbb.thenB (by simp) hb1⟩
  rw [B_true hG] at HSP
  have HG := Lib.hid hG
  clear hG
  go_enter Tryz.func68, Tryz.ntmps68
  go_wp2_with fail
  refine HSP.out.mono ?_
  rintro e w1 ⟨rfl, hb1⟩
  have hB1 := hbb.thenB (by simp) hb1
  obtain ⟨s1, p1, q1⟩ := hbx.below hb1
  clear hb1 hbx hbb
  go_wp2_with fail
  go_loopw [5] (fun i wr => ∃ j : Nat, j ≤ N ∧ i = .int .i64 j ∧ Hid (∀ j', j' < j → colB es (cs j') (ll j') = true) ∧ Below w1.heap.size w1 wr) (fun i _ => N - (intOf i).toNat)
  case atStart => exact ⟨0, Nat.zero_le _, rfl, (fun _ hh => absurd hh (by omega)), Below.refl _ _⟩
  case round =>
    obtain ⟨j, hj, rfl, HP, hbr⟩ := hrel
    have hB := hB1.andB hbr
    obtain ⟨s2, p2, q2⟩ := Box2.below ⟨s1, p1, q1⟩ hbr
    by_cases hlt : j < N
    · have c1 := (hB.cell (p := ⟨B2, j, none⟩) hB2).trans (HR.out j hlt)
      have s3 : B2 < wr.heap.size := Nat.lt_of_lt_of_le hB2 hB.size
      cases hx : colB es (cs j) (ll j) with
      | false =>
        have HC : Hid (lkC n es N cs ll = 2) := by
          have : ¬ ∀ j, j < N → colB es (cs j) (ll j) = true := fun x => by have := x j hlt; rw [hx] at this; cases this
          simp only [Hid, lkC, B_true HG.out, B_false this]; rfl
        have hIS : ∀ d oz, Calls Tryz.prog 65 #[.agg #[.int .i64 n, .slice (some ⟨b, o, none⟩) m c], .slice (some ⟨bs j, os j, none⟩) (ll j) (cc j)] (grow (redrawn wr d) oz) fun e w'' => e = .returned (.bool false) ∧ ∃ p : Regrown, w'' = grow (redrawn wr p.d) p.os := fun d oz =>
          Ret.rg (hx ▸ l02Is_any n b o m c (bs j) (os j) (ll j) (cc j) es (cs j) _ ((h.below hB).below (below_regrown _ _ _)) hm HG.out (((HI.out j hlt).1.below hB).below (below_regrown _ _ _)) (HI.out j hlt).2)
        have HIS := Lib.hid hIS
        clear p1 q1 s1 hIS hx
        go_wp2_with fail
        (refine wp_region_quiet_below (by kernel_rfl) (by kernel_rfl) ?_
         repeat (any_goals (go_big_quiet_step (first | (go_at_call 65; exact HIS.out _ _))))
         all_goals (refine wpQuiet_nil ?_; intro wq1 hq1; replace hq1 := below_of_rg hq1))
        go_wp2_with fail
        go_ret
        exact ⟨ret_int HC.out.symm, hB.andB hq1⟩
      | true =>
        have HX := Lib.hid hx
        have hIS : ∀ d oz, Calls Tryz.prog 65 #[.agg #[.int .i64 n, .slice (some ⟨b, o, none⟩) m c], .slice (some ⟨bs j, os j, none⟩) (ll j) (cc j)] (grow (redrawn wr d) oz) fun e w'' => e = .returned (.bool true) ∧ ∃ p : Regrown, w'' = grow (redrawn wr p.d) p.os := fun d oz =>
          Ret.rg (hx ▸ l02Is_any n b o m c (bs j) (os j) (ll j) (cc j) es (cs j) _ ((h.below hB).below (below_regrown _ _ _)) hm HG.out (((HI.out j hlt).1.below hB).below (below_regrown _ _ _)) (HI.out j hlt).2)
        have HIS := Lib.hid hIS
        clear p1 q1 s1 hIS hx
        go_wp2_with fail
        (refine wp_region_quiet_below (by kernel_rfl) (by kernel_rfl) ?_
         repeat (any_goals (go_big_quiet_step (first | (go_at_call 65; exact HIS.out _ _))))
         all_goals (refine wpQuiet_nil ?_; intro wq1 hq1; replace hq1 := below_of_rg hq1))
        go_wp2_with fail
        go_roundw
        case rel =>
          refine ⟨j + 1, by omega, by go_num, ?_, hbr.andB hq1⟩
          intro j' hj'
          by_cases e : j' = j
          · subst e; exact HX.out
          · exact HP.out j' (by omega)
        case measure => simp [intOf]; omega
    · obtain rfl : j = N := by omega
      have HC : Hid (lkC n es j cs ll = 0) := by
        simp only [Hid, lkC, B_true HG.out, B_true HP.out]; rfl
      clear p1 q1 s1
      go_wp2_with fail
      go_ret
      exact ⟨ret_int HC.out.symm, hB⟩
theorem lkC_2 (n : Int) (es : List (Int × Int)) (a b : Nat → Int) (la lb : Nat) : lkC n es 2 (fun j => if j = 0 then a else b) (fun j => if j = 0 then la else lb) = gcC n es (colB es a la && colB es b lb) := by
  have e : B (∀ j, j < 2 → colB es ((fun j => if j = 0 then a else b) j) ((fun j => if j = 0 then la else lb) j) = true) = (colB es a la && colB es b lb) := by
    by_cases h : ∀ j, j < 2 → colB es ((fun j => if j = 0 then a else b) j) ((fun j => if j = 0 then la else lb) j) = true
    · have h0 := h 0 (by omega)
      have h1 := h 1 (by omega)
      have h0' : colB es a la = true := h0
      have h1' : colB es b lb = true := h1
      rw [B_true h, h0', h1']; rfl
    · rw [B_false h]
      cases ha : colB es a la <;> cases hb : colB es b lb <;> try rfl
      refine absurd (fun j hj => ?_) h
      rcases (show j = 0 ∨ j = 1 by omega) with rfl | rfl
      · exact ha
      · exact hb
  unfold lkC gcC
  rw [e]
end Go.Proofs.YtajnhkkiddeegaaGreat
namespace Go.Proofs.YtajnhkkiddeegaaGreat
open Go.RowKit Go.Sort
theorem isColouring_all (n : Int) (b o m c b2 o2 l c2 : Nat) (es : List (Int × Int)) (cs : Nat → Int) (w : World) (h : Eds w b o m es) (hm : m ≤ 1048576) (h2 : Ints w b2 o2 l cs) (hl2 : l ≤ 1048576) :
    Calls Tryz.prog 67 #[.agg #[.int .i64 n, .slice (some ⟨b, o, none⟩) m c], .slice (some ⟨b2, o2, none⟩) l c2] w (Ret (.bool (B (IsG n es) && colB es cs l)) w) := by
  by_cases hG : IsG n es
  · rw [B_true hG, Bool.true_and]
    exact isColouring_any n b o m c b2 o2 l c2 es cs w h hm hG h2 hl2
  · have KC := cell_rg
    have hbb := (by go_grown : Below w.heap.size w (w.alloc (.cells #[.int .i64 n, .slice (some ⟨b, o, none⟩) m c] 26)))
    have hbx := Box2.made w (.int .i64 n) (.slice (some ⟨b, o, none⟩) m c) 26
    have HIM := Lib.hid (implIs_any n b o m c es _ (h.alloc (.cells #[.int .i64 n, .slice (some ⟨b, o, none⟩) m c] 26)) hm)
    rw [B_false hG] at HIM ⊢
    clear hG
    go_enter Tryz.func67, Tryz.ntmps67
    go_wp2_with fail
    refine HIM.out.mono ?_
    rintro e w1 ⟨rfl, hb1⟩
    go_wp2_with fail
    go_ret
    exact ⟨rfl, hbb.thenB (by simp) hb1⟩
end Go.Proofs.YtajnhkkiddeegaaGreat
