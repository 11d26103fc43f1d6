import Derived.Test.YtppfplhbfgjjhaaM23
import Derived.Test.YtppfplhbfgjjhaaM13
import Derived.Test.YtppfplhbfgjjhaaM3
import Derived.Laws.AppendOwnNone
import Derived.Laws.OwnMore
namespace Go.Proofs.Ytppfplhbfgjjhaa
open Go.RowKit Go.Sort
/-! A region that draws its order, with one operation (a call, number n1) that comes behind all that stand ahead of it in whatever order. -/
def dstsTo (l : List Oper) (n1 i : Nat) : List Tmp := if i ≤ n1 then dsts (l.take (n1 + 1)) else dsts l
def StepsHT (P : Program) (l : List Oper) (F : Nat → Value → World → Prop) (dead : Nat → Option Nat) (E : Nat → World → World → Prop) (C : Bool → World → Prop) (n1 : Nat) (a0 : Act) (w0 : World) : Nat → List Oper → Prop
  | _, [] => True
  | i, o :: r => (∀ a w, C (decide (n1 < i)) w → (∀ t, (dstsTo l n1 i).contains t = false → a.tmps[t]?.getD undef = a0.eval (.tmp t)) →
      (∀ j d, (depsOf o).contains j = true → dstAt l j = some d → endOk dead j i = true → F j (a.tmps[d]?.getD undef) w) → GrowsG P l o a w (E i) (F i)) ∧ StepsHT P l F dead E C n1 a0 w0 (i + 1) r
def StepsT (P : Program) (l : List Oper) (F : Nat → Value → World → Prop) (dead : Nat → Option Nat) (E : Nat → World → World → Prop) (C : Bool → World → Prop) (n1 : Nat) (a0 : Act) (w0 : World) : Nat → List Oper → Prop
  | _, [] => True
  | i, o :: r => (∀ a w, C (decide (n1 < i)) w → (∀ t, (dstsTo l n1 i).contains t = false → a.tmps.getD t undef = a0.tmps.getD t undef) →
      (∀ e ∈ o.after, Region.binds .any e = true → endOk dead e.on i = true → ∀ (p : Oper) (d : Tmp), l[e.on]? = some p → p.dst = some d → F e.on (a.tmps.getD d undef) w) → GrowsG P l o a w (E i) (F i)) ∧ StepsT P l F dead E C n1 a0 w0 (i + 1) r
theorem StepsHT.steps {P : Program} {l : List Oper} {F : Nat → Value → World → Prop} {dead : Nat → Option Nat} {E : Nat → World → World → Prop} {C : Bool → World → Prop} {n1 : Nat} {a0 : Act} {w0 : World} : ∀ (r : List Oper) (i : Nat), StepsHT P l F dead E C n1 a0 w0 i r → StepsT P l F dead E C n1 a0 w0 i r := by
  intro r
  induction r with
  | nil => intro i _; trivial
  | cons o r ih =>
    intro i h
    refine ⟨fun a w hb hs hd => h.1 a w hb (fun t ht => by rw [← Array.getD_eq_getD_getElem?]; exact hs t ht) (fun j d hj hjd hok => ?_), ih _ h.2⟩
    simp only [depsOf, List.contains_iff_mem, List.mem_map, List.mem_filter] at hj
    obtain ⟨e, ⟨he, hb⟩, rfl⟩ := hj
    obtain ⟨p, hp, hpd⟩ := Option.bind_eq_some_iff.1 hjd
    rw [← Array.getD_eq_getD_getElem?]
    exact hd e (by simpa using he) hb hok p d hp hpd
theorem StepsT.at {P : Program} {l : List Oper} {F : Nat → Value → World → Prop} {dead : Nat → Option Nat} {E : Nat → World → World → Prop} {C : Bool → World → Prop} {n1 : Nat} {a0 : Act} {w0 : World} : ∀ (r : List Oper) (k : Nat), StepsT P l F dead E C n1 a0 w0 k r → ∀ (i : Nat) (o : Oper), r[i]? = some o →
    ∀ a w, C (decide (n1 < k + i)) w → (∀ t, (dstsTo l n1 (k + i)).contains t = false → a.tmps.getD t undef = a0.tmps.getD t undef) →
      (∀ e ∈ o.after, Region.binds .any e = true → endOk dead e.on (k + i) = true → ∀ (p : Oper) (d : Tmp), l[e.on]? = some p → p.dst = some d → F e.on (a.tmps.getD d undef) w) → GrowsG P l o a w (E (k + i)) (F (k + i)) := by
  intro r
  induction r with
  | nil => intro k _ i o h; simp at h
  | cons x r ih =>
    intro k h i o hi
    cases i with
    | zero => simp at hi; subst hi; exact h.1
    | succ i => rw [show k + (i + 1) = (k + 1) + i from by omega]; exact ih (k + 1) h.2 i o (by simpa using hi)
structure FInvT (l : List Oper) (F : Nat → Value → World → Prop) (dead : Nat → Option Nat) (C : Bool → World → Prop) (n1 : Nat) (a0 : Act) (w0 : World) (listed : Array Bool) (a : Act) (w : World) : Prop where
  cw : C (listed.getD n1 false) w
  closed : ∀ (i : Nat) (o : Oper), l[i]? = some o → listed.getD i false = true → ∀ e ∈ o.after, Region.binds .any e = true → listed.getD e.on false = true
  lsize : listed.size = l.length
  facts : ∀ (i : Nat) (o : Oper) (d : Tmp), l[i]? = some o → o.dst = some d → listed.getD i false = true → (∀ k, dead i = some k → listed.getD k false = false) → F i (a.tmps.getD d undef) w
  same : ∀ t, (dsts l).contains t = false → a.tmps.getD t undef = a0.tmps.getD t undef
  same1 : listed.getD n1 false = false → ∀ t, (dsts (l.take (n1 + 1))).contains t = false → a.tmps.getD t undef = a0.tmps.getD t undef
  tsize : a.tmps.size = a0.tmps.size
  defers : a.defers = a0.defers
theorem wpAny_factsT {P : Program} {l : List Oper} {F : Nat → Value → World → Prop} {dead : Nat → Option Nat} {E : Nat → World → World → Prop} {C : Bool → World → Prop} {n1 : Nat} {a0 : Act} {w0 : World} {Q : Exit → Act → World → Prop}
    (hdist : ∀ (i j : Nat) (o p : Oper) (d : Tmp), l[i]? = some o → l[j]? = some p → o.dst = some d → p.dst = some d → i = j) (hsz : ∀ (i : Nat) (o : Oper) (d : Tmp), l[i]? = some o → o.dst = some d → d < a0.tmps.size)
    (mono : ∀ i k v w w', i ≠ k → dead i ≠ some k → (k = n1 → ∀ k0, dead i = some k0 → n1 < k0) → (k ≤ n1 → i < n1) → C (decide (n1 < k)) w → F i v w → E k w w' → F i v w') (hE : ∀ k w w', C (decide (n1 < k)) w → E k w w' → C (decide (n1 ≤ k)) w') (steps : StepsT P l F dead E C n1 a0 w0 0 l)
    (hlow : ∀ i, i < n1 → ∃ j o, i < j ∧ j ≤ n1 ∧ l[j]? = some o ∧ ∃ e ∈ o.after, Region.binds .any e = true ∧ e.on = i) (hhigh : ∀ i o, n1 < i → l[i]? = some o → ∃ e ∈ o.after, Region.binds .any e = true ∧ n1 ≤ e.on ∧ e.on < i)
    (hback : ∀ (i : Nat) (o : Oper), l[i]? = some o → ∀ e ∈ o.after, Region.binds .any e = true → e.on < i)
    (fin : ∀ a w, FInvT l F dead C n1 a0 w0 (Array.replicate l.length true) a w → Q .normal a w) :
    ∀ (fuel : Nat) (listed : Array Bool) (a : Act) (w : World), FInvT l F dead C n1 a0 w0 listed a w → (listed.toList.filter (· = false)).length ≤ fuel → wpAny P .any l.toArray Q fuel listed a w := by
  have alldone : ∀ listed : Array Bool, listed.size = l.length → Region.ready .any l.toArray listed = [] → listed = Array.replicate l.length true := by
    intro listed hls hr
    refine Classical.byContradiction fun hne => ?_
    have hex : ∃ i, i < l.length ∧ listed.getD i true = false := by
      refine Classical.byContradiction fun hno => hne ?_
      apply Array.ext (by simp [hls])
      intro i h1 h2
      have := fun hh => hno ⟨i, by omega, hh⟩
      simp [h1] at this
      simpa using this
    have hmin : ∃ i, i < l.length ∧ listed.getD i true = false ∧ ∀ j, j < i → listed.getD j true = true := by
      obtain ⟨i, hi, hf⟩ := hex
      have key : ∀ n, ∀ i, i ≤ n → i < l.length → listed.getD i true = false → ∃ i, i < l.length ∧ listed.getD i true = false ∧ ∀ j, j < i → listed.getD j true = true := by
        intro n
        induction n with
        | zero => intro i h0 hi hf; exact ⟨i, hi, hf, fun j hj => absurd hj (by omega)⟩
        | succ n ih =>
          intro i hin hi hf
          by_cases hx : ∃ j, j < i ∧ listed.getD j true = false
          · obtain ⟨j, hj, hjf⟩ := hx; exact ih j (by omega) (by omega) hjf
          · exact ⟨i, hi, hf, fun j hj => by
              cases hq : listed.getD j true with
              | true => rfl
              | false => exact absurd ⟨j, hj, hq⟩ hx⟩
      exact key i i (Nat.le_refl _) hi hf
    obtain ⟨i, hi, hf, hall⟩ := hmin
    have hmem : i ∈ Region.ready .any l.toArray listed := by
      rw [mem_ready]
      refine ⟨hf, l[i], by simp [hi], fun e he hb => ?_⟩
      have hlt := hback i l[i] (by simp [hi]) e he hb
      have := hall e.on hlt
      have hs : e.on < listed.size := by omega
      simpa [hs] using this
    rw [hr] at hmem
    cases hmem
  intro fuel
  induction fuel with
  | zero =>
    intro listed a w inv hf
    have hr : Region.ready .any l.toArray listed = [] := by
      refine List.eq_nil_iff_forall_not_mem.2 fun i hi => ?_
      have h0 := (mem_ready.1 hi).1
      have hmem : false ∈ listed.toList.filter (· = false) := by
        rw [List.mem_filter]
        refine ⟨?_, by simp⟩
        rcases Nat.lt_or_ge i listed.size with h | h
        · simp [h] at h0; rw [← h0]; simp
        · simp [Nat.not_lt.2 h] at h0
      have := List.length_pos_of_mem hmem
      omega
    exact ⟨hr, fin _ _ (by rw [alldone listed inv.lsize hr] at inv; exact inv)⟩
  | succ fuel ih =>
    intro listed a w inv hf
    refine ⟨fun hr => fin _ _ (by rw [alldone listed inv.lsize hr] at inv; exact inv), fun i hi => ?_⟩
    obtain ⟨hun, o, ho, hall⟩ := mem_ready.1 hi
    have ho' : l[i]? = some o := by simpa using ho
    have hil : i < l.length := (List.getElem?_eq_some_iff.1 ho').1
    have hunl : listed.getD i false = false := by
      cases hq : listed.getD i false with
      | false => rfl
      | true =>
        rw [Array.getD_eq_getD_getElem?] at hq hun
        cases hg : listed[i]? with
        | none => rw [hg] at hq; cases hq
        | some b => rw [hg] at hq hun; simp at hq hun; rw [hun] at hq; cases hq
    have hdown : ∀ lst : Array Bool, (∀ (i : Nat) (o : Oper), l[i]? = some o → lst.getD i false = true → ∀ e ∈ o.after, Region.binds .any e = true → lst.getD e.on false = true) → lst.getD n1 false = true → ∀ d i, i + d = n1 → lst.getD i false = true := by
      intro lst hcl hn d
      induction d using Nat.strongRecOn with
      | _ d ihd =>
        intro i hi
        by_cases h0 : d = 0
        · subst h0; rw [show i = n1 by omega]; exact hn
        · obtain ⟨j, oj, hij, hjn, hoj, e, he, hb, heq⟩ := hlow i (by omega)
          have := hcl j oj hoj (ihd (n1 - j) (by omega) j (by omega)) e he hb
          rw [heq] at this; exact this
    have hdown2 : i = n1 → ∀ i', i' < n1 → listed.getD i' false = true := by
      intro hin
      have key : ∀ d i', i' + d = n1 → 0 < d → listed.getD i' false = true := by
        intro d
        induction d using Nat.strongRecOn with
        | _ d ihd =>
          intro i' hi' hd0
          obtain ⟨j, oj, hij, hjn, hoj, e, he, hb, heq⟩ := hlow i' (by omega)
          by_cases hjn1 : j = n1
          · subst hjn1; subst hin
            rw [ho'] at hoj; obtain rfl := Option.some.inj hoj
            have := hall e he hb
            rw [heq] at this; exact this
          · have := inv.closed j oj hoj (ihd (n1 - j) (by omega) j (by omega) (by omega)) e he hb
            rw [heq] at this; exact this
      exact fun i' hi' => key (n1 - i') i' (by omega) (by omega)
    have hup : ∀ lst : Array Bool, (∀ (i : Nat) (o : Oper), l[i]? = some o → lst.getD i false = true → ∀ e ∈ o.after, Region.binds .any e = true → lst.getD e.on false = true) → ∀ j, n1 ≤ j → j < l.length → lst.getD j false = true → lst.getD n1 false = true := by
      intro lst hcl j
      induction j using Nat.strongRecOn with
      | _ j ihj =>
        intro hj hjl hlj
        by_cases h0 : j = n1
        · subst h0; exact hlj
        · obtain ⟨e, he, hb, h1, h2⟩ := hhigh j l[j] (by omega) (by simp [hjl])
          have := hcl j l[j] (by simp [hjl]) hlj e he hb
          exact ihj e.on h2 h1 (by omega) this
    have hstage : listed.getD n1 false = decide (n1 < i) := by
      by_cases hlt : n1 < i
      · rw [decide_eq_true hlt]
        obtain ⟨e, he, hb, h1, h2⟩ := hhigh i o hlt ho'
        exact hup listed inv.closed e.on h1 (by omega) (hall e he hb)
      · rw [decide_eq_false hlt]
        cases hq : listed.getD n1 false with
        | false => rfl
        | true =>
          have := hdown listed inv.closed hq (n1 - i) i (by omega)
          rw [hunl] at this; cases this
    have hcw : C (decide (n1 < i)) w := hstage ▸ inv.cw
    have hst := StepsT.at l 0 steps i o ho' a w (by rw [Nat.zero_add]; exact hcw) (by
      rw [Nat.zero_add]
      intro t ht
      unfold dstsTo at ht
      split at ht
      · exact inv.same1 (by rw [hstage, decide_eq_false (by omega)]) t ht
      · exact inv.same t ht) (fun e he hb hok p d hp hd => inv.facts e.on p d hp hd (hall e he hb) (fun k hk => by
      rw [Nat.zero_add] at hok
      simp only [endOk, hk, Bool.or_eq_true, beq_iff_eq, reduceCtorEq, Option.some.injEq, false_or] at hok
      subst hok; exact hunl))
    rw [Nat.zero_add] at hst
    have hlisted : ∀ k, dead i = some k → ∀ j, (listed.setIfInBounds i true).getD j false = false → listed.getD j false = false := fun k _ j hj => by
      by_cases hij : i = j
      · subst hij; exact hunl
      · rw [Array.getD_eq_getD_getElem?, Array.getElem?_setIfInBounds, if_neg hij, ← Array.getD_eq_getD_getElem?] at hj; exact hj
    have hset : (listed.setIfInBounds i true).getD i false = true := by
      rw [Array.getD_eq_getD_getElem?, Array.getElem?_setIfInBounds, if_pos rfl, if_pos (by rw [inv.lsize]; exact hil)]; rfl
    suffices hgo : ∀ v w', E i w w' → F i v w' → wpAny P .any l.toArray Q fuel (listed.setIfInBounds i true) (a.put o.dst v) w' by
      unfold wpOp
      rw [ho]
      unfold GrowsG at hst
      simp only
      split
      · rename_i hwant
        rw [if_pos hwant] at hst
        exact .inl (hst.wp hgo)
      · rename_i hwant
        rw [if_neg hwant] at hst
        exact hgo _ _ hst.1 hst.2
    refine fun v w' hb' hF => ih _ _ _ ?_ ?_
    · refine ⟨?_, ?_, by simpa using inv.lsize, fun j p d hp hd hl hdk => ?_, fun t ht => ?_, fun hln t ht => ?_, ?_, ?_⟩
      · have hc2 := hE i w w' hcw hb'
        have : (listed.setIfInBounds i true).getD n1 false = decide (n1 ≤ i) := by
          by_cases hin : i = n1
          · subst hin; rw [hset, decide_eq_true (Nat.le_refl _)]
          · rw [Array.getD_eq_getD_getElem?, Array.getElem?_setIfInBounds, if_neg hin, ← Array.getD_eq_getD_getElem?, hstage]
            by_cases h : n1 < i
            · rw [decide_eq_true h, decide_eq_true (by omega)]
            · rw [decide_eq_false h, decide_eq_false (by omega)]
        rw [this]; exact hc2
      · intro j p hp hl e he hb
        by_cases hij : i = j
        · subst hij
          rw [ho'] at hp; obtain rfl := Option.some.inj hp
          have h1 := hall e he hb
          have h2 := hback i o ho' e he hb
          rw [Array.getD_eq_getD_getElem?, Array.getElem?_setIfInBounds, if_neg (by omega), ← Array.getD_eq_getD_getElem?]; exact h1
        · have hl' : listed.getD j false = true := by rw [Array.getD_eq_getD_getElem?, Array.getElem?_setIfInBounds, if_neg hij, ← Array.getD_eq_getD_getElem?] at hl; exact hl
          have h1 := inv.closed j p hp hl' e he hb
          by_cases hie : i = e.on
          · rw [← hie]; exact hset
          · rw [Array.getD_eq_getD_getElem?, Array.getElem?_setIfInBounds, if_neg hie, ← Array.getD_eq_getD_getElem?]; exact h1
      · have hdj := hsz j p d hp hd
        cases hod : o.dst with
        | none =>
          by_cases hij : i = j
          · subst hij; rw [ho'] at hp; obtain rfl := Option.some.inj hp; rw [hod] at hd; cases hd
          · have hl' : listed.getD j false = true := by rw [Array.getD_eq_getD_getElem?, Array.getElem?_setIfInBounds, if_neg hij, ← Array.getD_eq_getD_getElem?] at hl; exact hl
            exact mono j i _ _ _ (fun e => hij e.symm) (fun hdi => by have := hdk i hdi; rw [hset] at this; cases this) (fun hin k0 hk0 => by
              have hk1 := hdk k0 hk0
              have hne : i ≠ k0 := fun e => by subst e; rw [hset] at hk1; cases hk1
              rw [Array.getD_eq_getD_getElem?, Array.getElem?_setIfInBounds, if_neg hne, ← Array.getD_eq_getD_getElem?] at hk1
              refine Classical.byContradiction fun hlt => ?_
              have := hdown2 hin k0 (by omega)
              rw [hk1] at this; cases this) (fun hle => Classical.byContradiction fun hjn => by
              have h1 := hup listed inv.closed j (by omega) (List.getElem?_eq_some_iff.1 hp).1 hl'
              rw [hstage] at h1
              have := of_decide_eq_true h1
              omega) hcw (inv.facts j p d hp hd hl' (fun k hk => by
              have := hdk k hk
              by_cases hik : i = k
              · subst hik; exact hunl
              · rw [Array.getD_eq_getD_getElem?, Array.getElem?_setIfInBounds, if_neg hik, ← Array.getD_eq_getD_getElem?] at this; exact this)) hb'
        | some d' =>
          rw [put_getD]
          by_cases hij : i = j
          · subst hij; rw [ho'] at hp; obtain rfl := Option.some.inj hp
            rw [hod] at hd; obtain rfl := Option.some.inj hd
            rw [if_pos ⟨rfl, by rw [inv.tsize]; exact hdj⟩]; exact hF
          · have hne : ¬ (d = d' ∧ d' < a.tmps.size) := fun hx => hij (hdist i j o p d ho' hp (by rw [hod, hx.1]) hd)
            rw [if_neg hne]
            have hl' : listed.getD j false = true := by rw [Array.getD_eq_getD_getElem?, Array.getElem?_setIfInBounds, if_neg hij, ← Array.getD_eq_getD_getElem?] at hl; exact hl
            exact mono j i _ _ _ (fun e => hij e.symm) (fun hdi => by have := hdk i hdi; rw [hset] at this; cases this) (fun hin k0 hk0 => by
              have hk1 := hdk k0 hk0
              have hne : i ≠ k0 := fun e => by subst e; rw [hset] at hk1; cases hk1
              rw [Array.getD_eq_getD_getElem?, Array.getElem?_setIfInBounds, if_neg hne, ← Array.getD_eq_getD_getElem?] at hk1
              refine Classical.byContradiction fun hlt => ?_
              have := hdown2 hin k0 (by omega)
              rw [hk1] at this; cases this) (fun hle => Classical.byContradiction fun hjn => by
              have h1 := hup listed inv.closed j (by omega) (List.getElem?_eq_some_iff.1 hp).1 hl'
              rw [hstage] at h1
              have := of_decide_eq_true h1
              omega) hcw (inv.facts j p d hp hd hl' (fun k hk => by
              have := hdk k hk
              by_cases hik : i = k
              · subst hik; exact hunl
              · rw [Array.getD_eq_getD_getElem?, Array.getElem?_setIfInBounds, if_neg hik, ← Array.getD_eq_getD_getElem?] at this; exact this)) hb'
      · cases hod : o.dst with
        | none => exact inv.same t ht
        | some d' =>
          rw [put_getD, if_neg]
          · exact inv.same t ht
          · intro hx
            have : (dsts l).contains t = true := by
              simp only [dsts, List.contains_iff_mem, List.mem_filterMap]
              exact ⟨o, List.mem_of_getElem? ho', by rw [hod, hx.1]⟩
            rw [this] at ht; cases ht
      · have hin1 : i < n1 := by
          refine Classical.byContradiction fun hge => ?_
          by_cases hin : i = n1
          · subst hin; rw [hset] at hln; cases hln
          · rw [Array.getD_eq_getD_getElem?, Array.getElem?_setIfInBounds, if_neg hin, ← Array.getD_eq_getD_getElem?, hstage, decide_eq_true (by omega)] at hln
            cases hln
        have hl1 : listed.getD n1 false = false := by rw [hstage, decide_eq_false (by omega)]
        cases hod : o.dst with
        | none => exact inv.same1 hl1 t ht
        | some d' =>
          rw [put_getD, if_neg]
          · exact inv.same1 hl1 t ht
          · intro hx
            have : (dsts (l.take (n1 + 1))).contains t = true := by
              simp only [dsts, List.contains_iff_mem, List.mem_filterMap]
              exact ⟨o, List.mem_of_getElem? (i := i) (by rw [List.getElem?_take, if_pos (by omega)]; exact ho'), by rw [hod, hx.1]⟩
            rw [this] at ht; cases ht
      · cases o.dst <;> simp [Act.put, inv.tsize]
      · cases o.dst <;> simp [Act.put, inv.defers]
    · have hcount : ∀ (xs : List Bool) (i : Nat), xs[i]? = some false → ((xs.set i true).filter (· = false)).length + 1 = (xs.filter (· = false)).length := by
        intro xs
        induction xs with
        | nil => intro i h; simp at h
        | cons x xs ihx =>
          intro i h
          cases i with
          | zero => simp at h; subst h; simp
          | succ i =>
            have := ihx i (by simpa using h)
            cases x <;> simp at this ⊢ <;> omega
      have hlen : i < listed.size := by rw [inv.lsize]; exact hil
      have hget : listed.toList[i]? = some false := by simp [hlen] at hun ⊢; exact hun
      have := hcount listed.toList i hget
      rw [Array.toList_setIfInBounds]
      omega
/-- The check of what is closed. -/
def frBT (l : List Oper) (n1 n : Nat) : Bool :=
  decide (n1 < l.length) && (List.range n1).all (fun i => (List.range l.length).any fun j => decide (i < j) && decide (j ≤ n1) && ((l[j]?).any fun o => o.after.toList.any fun e => Region.binds .any e && decide (e.on = i))) &&
  (List.range l.length).all (fun i => decide (i ≤ n1) || ((l[i]?).any fun o => o.after.toList.any fun e => Region.binds .any e && decide (n1 ≤ e.on) && decide (e.on < i))) && (
    l.all (fun o => (o.dst.all (fun d => decide (d < n)))) && decide ((dsts l).Nodup) && (List.range l.length).all (fun i => (l[i]?).all fun o => o.after.all fun e => !Region.binds .any e || decide (e.on < i)))
theorem wp_region_tail {P : Program} {id : Nat} {Q : Exit → Act → World → Prop} {a0 : Act} {w0 : World} {l : List Oper} (F : Nat → Value → World → Prop) (dead : Nat → Option Nat) (E : Nat → World → World → Prop) (C : Bool → World → Prop) (n1 : Nat) (hm : P.follows .mixedOrders = true) (hB : frBT l n1 a0.tmps.size = true)
    (h0 : C false w0.drew) (mono : ∀ i k v w w', i ≠ k → dead i ≠ some k → (k = n1 → ∀ k0, dead i = some k0 → n1 < k0) → (k ≤ n1 → i < n1) → C (decide (n1 < k)) w → F i v w → E k w w' → F i v w') (hE : ∀ k w w', C (decide (n1 < k)) w → E k w w' → C (decide (n1 ≤ k)) w') (steps : StepsHT P l F dead E C n1 a0 w0 0 l)
    (fin : ∀ (vs : Tmp → Value) w, C true w → (∀ (i : Nat) (d : Tmp), dstAt l i = some d → dead i = none → F i (vs d) w) → Q .normal ((dsts l).foldl (fun b d => b.put (some d) (vs d)) a0) w) :
    (Code.region id l.toArray true).wp P Q a0 w0 := by
  simp only [frBT, Bool.and_eq_true, decide_eq_true_eq, List.all_eq_true, List.mem_range, Bool.or_eq_true, List.any_eq_true, Option.any_eq_true] at hB
  obtain ⟨⟨⟨hn, hlow⟩, hhigh⟩, ⟨h1, h2⟩, h3⟩ := hB
  have hall : ∀ (i : Nat) (o : Oper), l[i]? = some o → ∀ d, o.dst = some d → d < a0.tmps.size := fun i o ho => by
    have := h1 o (List.mem_of_getElem? ho)
    exact fun d hd => by simpa [hd] using this
  refine wp_region_any hm (wpAny_factsT (F := F) (dead := dead) (E := E) (C := C) (n1 := n1) (w0 := w0) (a0 := a0) (dst_inj l h2) (fun i o d ho hd => hall i o ho d hd) mono hE (StepsHT.steps _ _ steps) (fun i hi => ?_) (fun i o hi ho => ?_) (fun i o ho e he hb => ?_) (fun a w inv => ?_) _ _ _ _ ?_ ?_)
  · obtain ⟨j, hj, ⟨hij, hjn⟩, o, ho, e, he, hb, heq⟩ := hlow i hi
    exact ⟨j, o, hij, hjn, ho, e, by simpa using he, hb, heq⟩
  · rcases hhigh i (List.getElem?_eq_some_iff.1 ho).1 with h | ⟨o', ho', e, he, ⟨hb, h1⟩, h2⟩
    · omega
    · rw [ho] at ho'; obtain rfl := Option.some.inj ho'
      exact ⟨e, by simpa using he, hb, h1, h2⟩
  · have := h3 i (List.getElem?_eq_some_iff.1 ho).1
    rw [ho] at this
    simp only [Option.all_some, Array.all_eq_true_iff_forall_mem] at this
    have := this e he
    simpa [hb] using this
  · rw [act_of (l := dsts l) inv.tsize inv.defers inv.same]
    have hC := inv.cw
    have ht : (Array.replicate l.length true).getD n1 false = true := by simp [hn]
    rw [ht] at hC
    refine fin (fun d => a.tmps.getD d undef) w hC fun i d hid hdn => ?_
    obtain ⟨o, ho, hd⟩ := Option.bind_eq_some_iff.1 hid
    exact inv.facts i o d ho hd (by
      have := (List.getElem?_eq_some_iff.1 ho).1
      simp [this]) (fun k hk => by rw [hdn] at hk; cases hk)
  · refine ⟨?_, fun i o _ hl => by simp [Array.getD] at hl, by simp, fun i o d _ _ hl _ => by simp [Array.getD] at hl, fun _ _ => rfl, fun _ _ _ => rfl, rfl, rfl⟩
    have ht : (Array.replicate l.length false).getD n1 false = false := by simp [Array.getD]
    have ht2 : (Array.replicate (l.toArray).size false).getD n1 false = false := by simp [Array.getD]
    first
      | (rw [ht]; exact h0)
      | (rw [ht2]; exact h0)
  · simp
end Go.Proofs.Ytppfplhbfgjjhaa
namespace Go.Proofs.Ytppfplhbfgjjhaa
open Go.RowKit Go.Sort
/-! ### A copy of a list -/
theorem run_app00 (w : World) (ty : TypeId) (g : Nat) (A : Option Addr) (c : Nat) : (Builtin.append_ #[36, 36] ty #[.slice (some ⟨g, 0, none⟩) 0 0, .slice A 0 c]).run Try.prog w = .ok (.slice (some ⟨g, 0, none⟩) 0 0) w := by
  obtain ⟨i0, hi, hz0, hz1, hz2⟩ := info_parts inf2
  cases A with
  | none => simp [Builtin.append_, run_underlying Try.underlying36, sizeOf, typeInfo, hi, Builtin.lenOf, Builtin.firstCells, storeCells]
  | some a => simp [Builtin.append_, run_underlying Try.underlying36, sizeOf, typeInfo, hi, Builtin.lenOf, Builtin.firstCells, storeCells, loadCells, loadCellsFrom, storeCells, Result.andThen]
theorem wp_app0 {ops : Array Oper} {rest : List Oper} {o : Oper} {a : Act} {Q : Exit → Act → World → Prop} {s x : Operand} (hgd : o.guard = none)
    (ho : o.op = .call { callee := .builtin .append, args := #[s, x], argTypes := #[36, 36] })
    {A : Option Addr} {l c : Nat} {ys : List Int} {wr : World} {H : Nat} (hs : a.eval s = .slice (some ⟨H, 0, none⟩) 0 0) (hx : a.eval x = .slice A l c) (hH : wr.heap.size = H)
    (hsrc : SrcI wr A l (ia ys)) (hyl : ys.length = l) (hl : l ≤ 1048576)
    (h : ∀ A' c' w', OwnL wr.heap.size w' A' l c' ys → Below wr.heap.size wr w' → wpList Try.prog ops Q rest (a.put o.dst (.slice A' l c')) w') :
    wpList Try.prog ops Q (o :: rest) a (wr.alloc (.cells #[] 2)) := by
  subst hH
  have hb1 : Below wr.heap.size wr (wr.alloc (.cells #[] 2)) := (Below.refl _ _).alloc (Nat.le_refl _) _
  have O0 : OwnL wr.heap.size (wr.alloc (.cells #[] 2)) (some ⟨wr.heap.size, 0, none⟩) 0 0 [] := OwnL.empty _ _ _ (Nat.le_refl _) (heap_alloc_new wr _)
  by_cases h0 : l = 0
  · subst h0
    have hy : ys = [] := List.length_eq_zero_iff.1 hyl
    subst hy
    refine wpList_plain hgd fun K hK => ?_
    have hrun := run_app00 (wr.alloc (.cells #[] 2)) o.type wr.heap.size A c
    unfold Oper.wp
    simp [execOp, ho, resolve, invoke, builtin, hs, hx, hrun, Result.andThen]
    exact hK _ _ (h _ _ _ O0 hb1)
  · obtain ⟨g, o2, hA, I⟩ := hsrc (by omega)
    subst hA
    have I' := I.below hb1
    obtain ⟨i0, hi, hz0, hz1, hz2⟩ := info_parts inf2
    refine wpList_plain hgd fun K hK => wp_append_lies (wr.alloc (.cells #[] 2)) s x 36 ho wr.heap.size 2 i0 (.int .i64 0) 1 8 Try.underlying36 hi hz0 hz1 hz2 rfl (by decide) (.slice (some ⟨wr.heap.size, 0, none⟩) 0 0) 0 (nums []) hs O0.2
      ⟨g, o2, none⟩ l c (nums ys) hx (by simp [nums, hyl]) (fun j u hj => ?_) (fun u hu => ?_) (by omega) (by unfold maxLen; omega) (by omega) (by simp) _ rfl ?_
    · have hjl : j < ys.length := by
        have := (List.getElem?_eq_some_iff.1 hj).1
        simpa [nums] using this
      rw [Addr.add_lit, I'.c j (by omega), ← hj, nums_at ys j hjl]
    · simp only [nums, List.mem_map] at hu
      obtain ⟨y, _, rfl⟩ := hu
      rfl
    · intro g2 cap w2 hown' hgrow hat _
      rw [Nat.zero_add] at hown'
      have hk := hK _ _ (h (some ⟨g2, 0, none⟩) cap w2 ⟨hyl, by simpa [nums] using hown'⟩ (hb1.grown hgrow (by simp) (fun y hy => by simp [Value.ownBlock] at hy; omega)))
      simpa using hk
set_option maxRecDepth 100000 in
theorem l01Own_any (A : Option Addr) (l c : Nat) (ys : List Int) (w : World) (hsrc : SrcI w A l (ia ys)) (hyl : ys.length = l) (hl : l ≤ 1048576) : Calls Try.prog 114 #[.slice A l c] w (RetL ys w) := by
  have HY := Lib.hid hyl
  have HR : Hid (∀ A' c' w', OwnL w.heap.size w' A' l c' ys → Below w.heap.size w w' → RetL ys w (.returned (.slice A' l c')) w') := fun A' c' w' O hb => by subst hyl; exact ⟨A', c', rfl, O, hb⟩
  clear hyl
  go_enter Try.func114, Try.ntmps114
  go_wp2_with (at_builtin; refine wp_app0 rfl rfl rfl rfl rfl hsrc HY.out hl ?_; intro A' c' w' O hb)
  go_ret
  exact HR.out A' c' w' O hb
end Go.Proofs.Ytppfplhbfgjjhaa
namespace Go.Proofs.Ytppfplhbfgjjhaa
open Go.RowKit Go.Sort
/-! ### An append as a step of a drawn region -/
theorem grows_appL {o : Oper} {a : Act} {W : World} {E : World → World → Prop} {G : Value → World → Prop} {s x : Operand}
    (ho : o.op = .call { callee := .builtin .append, args := #[s, x], argTypes := #[36, 36] })
    {base : Nat} {A : Option Addr} {m c B : Nat} {xs : List Int} {k : Int} (hs : a.eval s = .slice A m c) (hx : a.eval x = .slice (some ⟨B, 0, none⟩) 1 1) (I : Ints W B 0 1 (fun _ => k))
    (hown : OwnL base W A m c xs) (hbase : base ≤ W.heap.size) (hm : m ≤ 1048576)
    (h : ∀ A' c' w', OwnL base w' A' (m + 1) c' (xs ++ [k]) → W.grownBy w' (blkOf A) → E W w' ∧ G (.slice A' (m + 1) c') w') :
    GrowsE Try.prog o a W E G := by
  obtain ⟨i0, hi, hz0, hz1, hz2⟩ := info_parts inf2
  obtain ⟨g, cap, w', hr, h2, h3, h4, h5⟩ := run_append_lies (P := Try.prog) W 36 o.type base 2 i0 (.int .i64 0) 1 8 Try.underlying36 hi hz0 hz1 hz2 rfl (by decide) (.slice A m c) m (nums xs) hown.2
    ⟨B, 0, none⟩ 1 1 [.int .i64 k] rfl (fun j u hj => by
      match j, hj with
      | 0, hj =>
        simp only [List.getElem?_cons_zero, Option.some.injEq] at hj
        subst hj
        rw [Addr.add_lit]; exact I.c 0 (by omega)) (fun u hu => by simp at hu; subst hu; rfl) (by decide) (by unfold maxLen; omega) (by omega) hbase _ rfl
  have e : (Value.slice A m c).ownBlock = blkOf A := by cases A <;> rfl
  rw [e] at h3
  unfold GrowsE execOp
  simp only [ho, resolve, invoke, builtin, Sem.run_bind, Sem.run_pure, Result.andThen_ok, List.map_toArray, List.map_cons, List.map_nil, hs, hx, hr]
  exact h _ cap w' ⟨by simp [hown.1], by rw [nums_append]; exact h2⟩ h3
end Go.Proofs.Ytppfplhbfgjjhaa
