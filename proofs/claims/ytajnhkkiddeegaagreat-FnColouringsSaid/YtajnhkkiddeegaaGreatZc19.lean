import Derived.Laws.AppendOwnNone
import Derived.Laws.OwnMore
import Derived.Test.YtajnhkkiddeegaaGreatZc18
set_option linter.unusedVariables false
set_option linter.unusedSimpArgs false
namespace Go.Proofs.YtajnhkkiddeegaaGreat
open Go.RowKit Go.Sort
def dstsTo (l : List Oper) (n1 i : Nat) : List Tmp := if i ≤ n1 then dsts (l.take (n1 + 1)) else dsts l
def StepsHT (P : Program) (l : List Oper) (F : Nat → Value → World → Prop) (dead : Nat → Option Nat) (E : Nat → World → World → Prop) (C : Bool → World → Prop) (n1 : Nat) (a0 : Act) (w0 : World) : Nat → List Oper → Prop
  | _, [] => True
  | i, o :: r => (∀ a w, C (decide (n1 < i)) w → (∀ t, (dstsTo l n1 i).contains t = false → a.tmps[t]?.getD undef = a0.eval (.tmp t)) →
      (∀ j d, (depsOf o).contains j = true → dstAt l j = some d → endOk dead j i = true → F j (a.tmps[d]?.getD undef) w) → GrowsG P l o a w (E i) (F i)) ∧ StepsHT P l F dead E C n1 a0 w0 (i + 1) r
def StepsT (P : Program) (l : List Oper) (F : Nat → Value → World → Prop) (dead : Nat → Option Nat) (E : Nat → World → World → Prop) (C : Bool → World → Prop) (n1 : Nat) (a0 : Act) (w0 : World) : Nat → List Oper → Prop
  | _, [] => True
  | i, o :: r => (∀ a w, C (decide (n1 < i)) w → (∀ t, (dstsTo l n1 i).contains t = false → a.tmps.getD t undef = a0.tmps.getD t undef) →
      (∀ e ∈ o.after, Region.binds .any e = true → endOk dead e.on i = true → ∀ (p : Oper) (d : Tmp), l[e.on]? = some p → p.dst = some d → F e.on (a.tmps.getD d undef) w) → GrowsG P l o a w (E i) (F i)) ∧ StepsT P l F dead E C n1 a0 w0 (i + 1) r
theorem StepsHT.steps {P : Program} {l : List Oper} {F : Nat → Value → World → Prop} {dead : Nat → Option Nat} {E : Nat → World → World → Prop} {C : Bool → World → Prop} {n1 : Nat} {a0 : Act} {w0 : World} : ∀ (r : List Oper) (i : Nat), StepsHT P l F dead E C n1 a0 w0 i r → StepsT P l F dead E C n1 a0 w0 i r := by
  intro r
  induction r with
  | nil => intro i _; trivial
  | cons o r ih =>
    intro i h
    refine ⟨fun a w hb hs hd => h.1 a w hb (fun t ht => by rw [← Array.getD_eq_getD_getElem?]; exact hs t ht) (fun j d hj hjd hok => ?_), ih _ h.2⟩
    simp only [depsOf, List.contains_iff_mem, List.mem_map, List.mem_filter] at hj
    obtain ⟨e, ⟨he, hb⟩, rfl⟩ := hj
    obtain ⟨p, hp, hpd⟩ := Option.bind_eq_some_iff.1 hjd
    rw [← Array.getD_eq_getD_getElem?]
    exact hd e (by simpa using he) hb hok p d hp hpd
theorem StepsT.at {P : Program} {l : List Oper} {F : Nat → Value → World → Prop} {dead : Nat → Option Nat} {E : Nat → World → World → Prop} {C : Bool → World → Prop} {n1 : Nat} {a0 : Act} {w0 : World} : ∀ (r : List Oper) (k : Nat), StepsT P l F dead E C n1 a0 w0 k r → ∀ (i : Nat) (o : Oper), r[i]? = some o →
    ∀ a w, C (decide (n1 < k + i)) w → (∀ t, (dstsTo l n1 (k + i)).contains t = false → a.tmps.getD t undef = a0.tmps.getD t undef) →
      (∀ e ∈ o.after, Region.binds .any e = true → endOk dead e.on (k + i) = true → ∀ (p : Oper) (d : Tmp), l[e.on]? = some p → p.dst = some d → F e.on (a.tmps.getD d undef) w) → GrowsG P l o a w (E (k + i)) (F (k + i)) := by
  intro r
  induction r with
  | nil => intro k _ i o h; simp at h
  | cons x r ih =>
    intro k h i o hi
    cases i with
    | zero => simp at hi; subst hi; exact h.1
    | succ i => rw [show k + (i + 1) = (k + 1) + i from by omega]; exact ih (k + 1) h.2 i o (by simpa using hi)
structure FInvT (l : List Oper) (F : Nat → Value → World → Prop) (dead : Nat → Option Nat) (C : Bool → World → Prop) (n1 : Nat) (a0 : Act) (w0 : World) (listed : Array Bool) (a : Act) (w : World) : Prop where
  cw : C (listed.getD n1 false) w
  closed : ∀ (i : Nat) (o : Oper), l[i]? = some o → listed.getD i false = true → ∀ e ∈ o.after, Region.binds .any e = true → listed.getD e.on false = true
  lsize : listed.size = l.length
  facts : ∀ (i : Nat) (o : Oper) (d : Tmp), l[i]? = some o → o.dst = some d → listed.getD i false = true → (∀ k, dead i = some k → listed.getD k false = false) → F i (a.tmps.getD d undef) w
  same : ∀ t, (dsts l).contains t = false → a.tmps.getD t undef = a0.tmps.getD t undef
  same1 : listed.getD n1 false = false → ∀ t, (dsts (l.take (n1 + 1))).contains t = false → a.tmps.getD t undef = a0.tmps.getD t undef
  tsize : a.tmps.size = a0.tmps.size
  defers : a.defers = a0.defers
theorem wpAny_factsT {P : Program} {l : List Oper} {F : Nat → Value → World → Prop} {dead : Nat → Option Nat} {E : Nat → World → World → Prop} {C : Bool → World → Prop} {n1 : Nat} {a0 : Act} {w0 : World} {Q : Exit → Act → World → Prop}
    (hdist : ∀ (i j : Nat) (o p : Oper) (d : Tmp), l[i]? = some o → l[j]? = some p → o.dst = some d → p.dst = some d → i = j) (hsz : ∀ (i : Nat) (o : Oper) (d : Tmp), l[i]? = some o → o.dst = some d → d < a0.tmps.size)
    (mono : ∀ i k v w w', i ≠ k → dead i ≠ some k → (k = n1 → ∀ k0, dead i = some k0 → n1 < k0) → (k ≤ n1 → i < n1) → C (decide (n1 < k)) w → F i v w → E k w w' → F i v w') (hE : ∀ k w w', C (decide (n1 < k)) w → E k w w' → C (decide (n1 ≤ k)) w') (steps : StepsT P l F dead E C n1 a0 w0 0 l)
    (hlow : ∀ i, i < n1 → ∃ j o, i < j ∧ j ≤ n1 ∧ l[j]? = some o ∧ ∃ e ∈ o.after, Region.binds .any e = true ∧ e.on = i) (hhigh : ∀ i o, n1 < i → l[i]? = some o → ∃ e ∈ o.after, Region.binds .any e = true ∧ n1 ≤ e.on ∧ e.on < i)
    (hback : ∀ (i : Nat) (o : Oper), l[i]? = some o → ∀ e ∈ o.after, Region.binds .any e = true → e.on < i)
    (fin : ∀ a w, FInvT l F dead C n1 a0 w0 (Array.replicate l.length true) a w → Q .normal a w) :
    ∀ (fuel : Nat) (listed : Array Bool) (a : Act) (w : World), FInvT l F dead C n1 a0 w0 listed a w → (listed.toList.filter (· = false)).length ≤ fuel → wpAny P .any l.toArray Q fuel listed a w := by
  have alldone : ∀ listed : Array Bool, listed.size = l.length → Region.ready .any l.toArray listed = [] → listed = Array.replicate l.length true := by
    intro listed hls hr
    refine Classical.byContradiction fun hne => ?_
    have hex : ∃ i, i < l.length ∧ listed.getD i true = false := by
      refine Classical.byContradiction fun hno => hne ?_
      apply Array.ext (by simp [hls])
      intro i h1 h2
      have := fun hh => hno ⟨i, by omega, hh⟩
      simp [h1] at this
      simpa using this
    have hmin : ∃ i, i < l.length ∧ listed.getD i true = false ∧ ∀ j, j < i → listed.getD j true = true := by
      obtain ⟨i, hi, hf⟩ := hex
      have key : ∀ n, ∀ i, i ≤ n → i < l.length → listed.getD i true = false → ∃ i, i < l.length ∧ listed.getD i true = false ∧ ∀ j, j < i → listed.getD j true = true := by
        intro n
        induction n with
        | zero => intro i h0 hi hf; exact ⟨i, hi, hf, fun j hj => absurd hj (by omega)⟩
        | succ n ih =>
          intro i hin hi hf
          by_cases hx : ∃ j, j < i ∧ listed.getD j true = false
          · obtain ⟨j, hj, hjf⟩ := hx; exact ih j (by omega) (by omega) hjf
          · exact ⟨i, hi, hf, fun j hj => by
              cases hq : listed.getD j true with
              | true => rfl
              | false => exact absurd ⟨j, hj, hq⟩ hx⟩
      exact key i i (Nat.le_refl _) hi hf
    obtain ⟨i, hi, hf, hall⟩ := hmin
    have hmem : i ∈ Region.ready .any l.toArray listed := by
      rw [mem_ready]
      refine ⟨hf, l[i], by simp [hi], fun e he hb => ?_⟩
      have hlt := hback i l[i] (by simp [hi]) e he hb
      have := hall e.on hlt
      have hs : e.on < listed.size := by omega
      simpa [hs] using this
    rw [hr] at hmem
    cases hmem
  intro fuel
  induction fuel with
  | zero =>
    intro listed a w inv hf
    have hr : Region.ready .any l.toArray listed = [] := by
      refine List.eq_nil_iff_forall_not_mem.2 fun i hi => ?_
      have h0 := (mem_ready.1 hi).1
      have hmem : false ∈ listed.toList.filter (· = false) := by
        rw [List.mem_filter]
        refine ⟨?_, by simp⟩
        rcases Nat.lt_or_ge i listed.size with h | h
        · simp [h] at h0; rw [← h0]; simp
        · simp [Nat.not_lt.2 h] at h0
      have := List.length_pos_of_mem hmem
      omega
    exact ⟨hr, fin _ _ (by rw [alldone listed inv.lsize hr] at inv; exact inv)⟩
  | succ fuel ih =>
    intro listed a w inv hf
    refine ⟨fun hr => fin _ _ (by rw [alldone listed inv.lsize hr] at inv; exact inv), fun i hi => ?_⟩
    obtain ⟨hun, o, ho, hall⟩ := mem_ready.1 hi
    have ho' : l[i]? = some o := by simpa using ho
    have hil : i < l.length := (List.getElem?_eq_some_iff.1 ho').1
    have hunl : listed.getD i false = false := by
      cases hq : listed.getD i false with
      | false => rfl
      | true =>
        rw [Array.getD_eq_getD_getElem?] at hq hun
        cases hg : listed[i]? with
        | none => rw [hg] at hq; cases hq
        | some b => rw [hg] at hq hun; simp at hq hun; rw [hun] at hq; cases hq
    have hdown : ∀ lst : Array Bool, (∀ (i : Nat) (o : Oper), l[i]? = some o → lst.getD i false = true → ∀ e ∈ o.after, Region.binds .any e = true → lst.getD e.on false = true) → lst.getD n1 false = true → ∀ d i, i + d = n1 → lst.getD i false = true := by
      intro lst hcl hn d
      induction d using Nat.strongRecOn with
      | _ d ihd =>
        intro i hi
        by_cases h0 : d = 0
        · subst h0; rw [show i = n1 by omega]; exact hn
        · obtain ⟨j, oj, hij, hjn, hoj, e, he, hb, heq⟩ := hlow i (by omega)
          have := hcl j oj hoj (ihd (n1 - j) (by omega) j (by omega)) e he hb
          rw [heq] at this; exact this
    have hdown2 : i = n1 → ∀ i', i' < n1 → listed.getD i' false = true := by
      intro hin
      have key : ∀ d i', i' + d = n1 → 0 < d → listed.getD i' false = true := by
        intro d
        induction d using Nat.strongRecOn with
        | _ d ihd =>
          intro i' hi' hd0
          obtain ⟨j, oj, hij, hjn, hoj, e, he, hb, heq⟩ := hlow i' (by omega)
          by_cases hjn1 : j = n1
          · subst hjn1; subst hin
            rw [ho'] at hoj; obtain rfl := Option.some.inj hoj
            have := hall e he hb
            rw [heq] at this; exact this
          · have := inv.closed j oj hoj (ihd (n1 - j) (by omega) j (by omega) (by omega)) e he hb
            rw [heq] at this; exact this
      exact fun i' hi' => key (n1 - i') i' (by omega) (by omega)
    have hup : ∀ lst : Array Bool, (∀ (i : Nat) (o : Oper), l[i]? = some o → lst.getD i false = true → ∀ e ∈ o.after, Region.binds .any e = true → lst.getD e.on false = true) → ∀ j, n1 ≤ j → j < l.length → lst.getD j false = true → lst.getD n1 false = true := by
      intro lst hcl j
      induction j using Nat.strongRecOn with
      | _ j ihj =>
        intro hj hjl hlj
        by_cases h0 : j = n1
        · subst h0; exact hlj
        · obtain ⟨e, he, hb, h1, h2⟩ := hhigh j l[j] (by omega) (by simp [hjl])
          have := hcl j l[j] (by simp [hjl]) hlj e he hb
          exact ihj e.on h2 h1 (by omega) this
    have hstage : listed.getD n1 false = decide (n1 < i) := by
      by_cases hlt : n1 < i
      · rw [decide_eq_true hlt]
        obtain ⟨e, he, hb, h1, h2⟩ := hhigh i o hlt ho'
        exact hup listed inv.closed e.on h1 (by omega) (hall e he hb)
      · rw [decide_eq_false hlt]
        cases hq : listed.getD n1 false with
        | false => rfl
        | true =>
          have := hdown listed inv.closed hq (n1 - i) i (by omega)
          rw [hunl] at this; cases this
    have hcw : C (decide (n1 < i)) w := hstage ▸ inv.cw
    have hst := StepsT.at l 0 steps i o ho' a w (by rw [Nat.zero_add]; exact hcw) (by
      rw [Nat.zero_add]
      intro t ht
      unfold dstsTo at ht
      split at ht
      · exact inv.same1 (by rw [hstage, decide_eq_false (by omega)]) t ht
      · exact inv.same t ht) (fun e he hb hok p d hp hd => inv.facts e.on p d hp hd (hall e he hb) (fun k hk => by
      rw [Nat.zero_add] at hok
      simp only [endOk, hk, Bool.or_eq_true, beq_iff_eq, reduceCtorEq, Option.some.injEq, false_or] at hok
      subst hok; exact hunl))
    rw [Nat.zero_add] at hst
    have hlisted : ∀ k, dead i = some k → ∀ j, (listed.setIfInBounds i true).getD j false = false → listed.getD j false = false := fun k _ j hj => by
      by_cases hij : i = j
      · subst hij; exact hunl
      · rw [Array.getD_eq_getD_getElem?, Array.getElem?_setIfInBounds, if_neg hij, ← Array.getD_eq_getD_getElem?] at hj; exact hj
    have hset : (listed.setIfInBounds i true).getD i false = true := by
      rw [Array.getD_eq_getD_getElem?, Array.getElem?_setIfInBounds, if_pos rfl, if_pos (by rw [inv.lsize]; exact hil)]; rfl
    suffices hgo : ∀ v w', E i w w' → F i v w' → wpAny P .any l.toArray Q fuel (listed.setIfInBounds i true) (a.put o.dst v) w' by
      unfold wpOp
      rw [ho]
      unfold GrowsG at hst
      simp only
      split
      · rename_i hwant
        rw [if_pos hwant] at hst
        exact .inl (hst.wp hgo)
      · rename_i hwant
        rw [if_neg hwant] at hst
        exact hgo _ _ hst.1 hst.2
    refine fun v w' hb' hF => ih _ _ _ ?_ ?_
    · refine ⟨?_, ?_, by simpa using inv.lsize, fun j p d hp hd hl hdk => ?_, fun t ht => ?_, fun hln t ht => ?_, ?_, ?_⟩
      · have hc2 := hE i w w' hcw hb'
        have : (listed.setIfInBounds i true).getD n1 false = decide (n1 ≤ i) := by
          by_cases hin : i = n1
          · subst hin; rw [hset, decide_eq_true (Nat.le_refl _)]
          · rw [Array.getD_eq_getD_getElem?, Array.getElem?_setIfInBounds, if_neg hin, ← Array.getD_eq_getD_getElem?, hstage]
            by_cases h : n1 < i
            · rw [decide_eq_true h, decide_eq_true (by omega)]
            · rw [decide_eq_false h, decide_eq_false (by omega)]
        rw [this]; exact hc2
      · intro j p hp hl e he hb
        by_cases hij : i = j
        · subst hij
          rw [ho'] at hp; obtain rfl := Option.some.inj hp
          have h1 := hall e he hb
          have h2 := hback i o ho' e he hb
          rw [Array.getD_eq_getD_getElem?, Array.getElem?_setIfInBounds, if_neg (by omega), ← Array.getD_eq_getD_getElem?]; exact h1
        · have hl' : listed.getD j false = true := by rw [Array.getD_eq_getD_getElem?, Array.getElem?_setIfInBounds, if_neg hij, ← Array.getD_eq_getD_getElem?] at hl; exact hl
          have h1 := inv.closed j p hp hl' e he hb
          by_cases hie : i = e.on
          · rw [← hie]; exact hset
          · rw [Array.getD_eq_getD_getElem?, Array.getElem?_setIfInBounds, if_neg hie, ← Array.getD_eq_getD_getElem?]; exact h1
      · have hdj := hsz j p d hp hd
        cases hod : o.dst with
        | none =>
          by_cases hij : i = j
          · subst hij; rw [ho'] at hp; obtain rfl := Option.some.inj hp; rw [hod] at hd; cases hd
          · have hl' : listed.getD j false = true := by rw [Array.getD_eq_getD_getElem?, Array.getElem?_setIfInBounds, if_neg hij, ← Array.getD_eq_getD_getElem?] at hl; exact hl
            exact mono j i _ _ _ (fun e => hij e.symm) (fun hdi => by have := hdk i hdi; rw [hset] at this; cases this) (fun hin k0 hk0 => by
              have hk1 := hdk k0 hk0
              have hne : i ≠ k0 := fun e => by subst e; rw [hset] at hk1; cases hk1
              rw [Array.getD_eq_getD_getElem?, Array.getElem?_setIfInBounds, if_neg hne, ← Array.getD_eq_getD_getElem?] at hk1
              refine Classical.byContradiction fun hlt => ?_
              have := hdown2 hin k0 (by omega)
              rw [hk1] at this; cases this) (fun hle => Classical.byContradiction fun hjn => by
              have h1 := hup listed inv.closed j (by omega) (List.getElem?_eq_some_iff.1 hp).1 hl'
              rw [hstage] at h1
              have := of_decide_eq_true h1
              omega) hcw (inv.facts j p d hp hd hl' (fun k hk => by
              have := hdk k hk
              by_cases hik : i = k
              · subst hik; exact hunl
              · rw [Array.getD_eq_getD_getElem?, Array.getElem?_setIfInBounds, if_neg hik, ← Array.getD_eq_getD_getElem?] at this; exact this)) hb'
        | some d' =>
          rw [put_getD]
          by_cases hij : i = j
          · subst hij; rw [ho'] at hp; obtain rfl := Option.some.inj hp
            rw [hod] at hd; obtain rfl := Option.some.inj hd
            rw [if_pos ⟨rfl, by rw [inv.tsize]; exact hdj⟩]; exact hF
          · have hne : ¬ (d = d' ∧ d' < a.tmps.size) := fun hx => hij (hdist i j o p d ho' hp (by rw [hod, hx.1]) hd)
            rw [if_neg hne]
            have hl' : listed.getD j false = true := by rw [Array.getD_eq_getD_getElem?, Array.getElem?_setIfInBounds, if_neg hij, ← Array.getD_eq_getD_getElem?] at hl; exact hl
            exact mono j i _ _ _ (fun e => hij e.symm) (fun hdi => by have := hdk i hdi; rw [hset] at this; cases this) (fun hin k0 hk0 => by
              have hk1 := hdk k0 hk0
              have hne : i ≠ k0 := fun e => by subst e; rw [hset] at hk1; cases hk1
              rw [Array.getD_eq_getD_getElem?, Array.getElem?_setIfInBounds, if_neg hne, ← Array.getD_eq_getD_getElem?] at hk1
              refine Classical.byContradiction fun hlt => ?_
              have := hdown2 hin k0 (by omega)
              rw [hk1] at this; cases this) (fun hle => Classical.byContradiction fun hjn => by
              have h1 := hup listed inv.closed j (by omega) (List.getElem?_eq_some_iff.1 hp).1 hl'
              rw [hstage] at h1
              have := of_decide_eq_true h1
              omega) hcw (inv.facts j p d hp hd hl' (fun k hk => by
              have := hdk k hk
              by_cases hik : i = k
              · subst hik; exact hunl
              · rw [Array.getD_eq_getD_getElem?, Array.getElem?_setIfInBounds, if_neg hik, ← Array.getD_eq_getD_getElem?] at this; exact this)) hb'
      · cases hod : o.dst with
        | none => exact inv.same t ht
        | some d' =>
          rw [put_getD, if_neg]
          · exact inv.same t ht
          · intro hx
            have : (dsts l).contains t = true := by
              simp only [dsts, List.contains_iff_mem, List.mem_filterMap]
              exact ⟨o, List.mem_of_getElem? ho', by rw [hod, hx.1]⟩
            rw [this] at ht; cases ht
      · have hin1 : i < n1 := by
          refine Classical.byContradiction fun hge => ?_
          by_cases hin : i = n1
          · subst hin; rw [hset] at hln; cases hln
          · rw [Array.getD_eq_getD_getElem?, Array.getElem?_setIfInBounds, if_neg hin, ← Array.getD_eq_getD_getElem?, hstage, decide_eq_true (by omega)] at hln
            cases hln
        have hl1 : listed.getD n1 false = false := by rw [hstage, decide_eq_false (by omega)]
        cases hod : o.dst with
        | none => exact inv.same1 hl1 t ht
        | some d' =>
          rw [put_getD, if_neg]
          · exact inv.same1 hl1 t ht
          · intro hx
            have : (dsts (l.take (n1 + 1))).contains t = true := by
              simp only [dsts, List.contains_iff_mem, List.mem_filterMap]
              exact ⟨o, List.mem_of_getElem? (i := i) (by rw [List.getElem?_take, if_pos (by omega)]; exact ho'), by rw [hod, hx.1]⟩
            rw [this] at ht; cases ht
      · cases o.dst <;> simp [Act.put, inv.tsize]
      · cases o.dst <;> simp [Act.put, inv.defers]
    · have hcount : ∀ (xs : List Bool) (i : Nat), xs[i]? = some false → ((xs.set i true).filter (· = false)).length + 1 = (xs.filter (· = false)).length := by
        intro xs
        induction xs with
        | nil => intro i h; simp at h
        | cons x xs ihx =>
          intro i h
          cases i with
          | zero => simp at h; subst h; simp
          | succ i =>
            have := ihx i (by simpa using h)
            cases x <;> simp at this ⊢ <;> omega
      have hlen : i < listed.size := by rw [inv.lsize]; exact hil
      have hget : listed.toList[i]? = some false := by simp [hlen] at hun ⊢; exact hun
      have := hcount listed.toList i hget
      rw [Array.toList_setIfInBounds]
      omega
/-- The check of what is closed. -/
def frBT (l : List Oper) (n1 n : Nat) : Bool :=
  decide (n1 < l.length) && (List.range n1).all (fun i => (List.range l.length).any fun j => decide (i < j) && decide (j ≤ n1) && ((l[j]?).any fun o => o.after.toList.any fun e => Region.binds .any e && decide (e.on = i))) &&
  (List.range l.length).all (fun i => decide (i ≤ n1) || ((l[i]?).any fun o => o.after.toList.any fun e => Region.binds .any e && decide (n1 ≤ e.on) && decide (e.on < i))) && (
    l.all (fun o => (o.dst.all (fun d => decide (d < n)))) && decide ((dsts l).Nodup) && (List.range l.length).all (fun i => (l[i]?).all fun o => o.after.all fun e => !Region.binds .any e || decide (e.on < i)))
theorem wp_region_tail {P : Program} {id : Nat} {Q : Exit → Act → World → Prop} {a0 : Act} {w0 : World} {l : List Oper} (F : Nat → Value → World → Prop) (dead : Nat → Option Nat) (E : Nat → World → World → Prop) (C : Bool → World → Prop) (n1 : Nat) (hm : P.follows .mixedOrders = true) (hB : frBT l n1 a0.tmps.size = true)
    (h0 : C false w0.drew) (mono : ∀ i k v w w', i ≠ k → dead i ≠ some k → (k = n1 → ∀ k0, dead i = some k0 → n1 < k0) → (k ≤ n1 → i < n1) → C (decide (n1 < k)) w → F i v w → E k w w' → F i v w') (hE : ∀ k w w', C (decide (n1 < k)) w → E k w w' → C (decide (n1 ≤ k)) w') (steps : StepsHT P l F dead E C n1 a0 w0 0 l)
    (fin : ∀ (vs : Tmp → Value) w, C true w → (∀ (i : Nat) (d : Tmp), dstAt l i = some d → dead i = none → F i (vs d) w) → Q .normal ((dsts l).foldl (fun b d => b.put (some d) (vs d)) a0) w) :
    (Code.region id l.toArray true).wp P Q a0 w0 := by
  simp only [frBT, Bool.and_eq_true, decide_eq_true_eq, List.all_eq_true, List.mem_range, Bool.or_eq_true, List.any_eq_true, Option.any_eq_true] at hB
  obtain ⟨⟨⟨hn, hlow⟩, hhigh⟩, ⟨h1, h2⟩, h3⟩ := hB
  have hall : ∀ (i : Nat) (o : Oper), l[i]? = some o → ∀ d, o.dst = some d → d < a0.tmps.size := fun i o ho => by
    have := h1 o (List.mem_of_getElem? ho)
    exact fun d hd => by simpa [hd] using this
  refine wp_region_any hm (wpAny_factsT (F := F) (dead := dead) (E := E) (C := C) (n1 := n1) (w0 := w0) (a0 := a0) (dst_inj l h2) (fun i o d ho hd => hall i o ho d hd) mono hE (StepsHT.steps _ _ steps) (fun i hi => ?_) (fun i o hi ho => ?_) (fun i o ho e he hb => ?_) (fun a w inv => ?_) _ _ _ _ ?_ ?_)
  · obtain ⟨j, hj, ⟨hij, hjn⟩, o, ho, e, he, hb, heq⟩ := hlow i hi
    exact ⟨j, o, hij, hjn, ho, e, by simpa using he, hb, heq⟩
  · rcases hhigh i (List.getElem?_eq_some_iff.1 ho).1 with h | ⟨o', ho', e, he, ⟨hb, h1⟩, h2⟩
    · omega
    · rw [ho] at ho'; obtain rfl := Option.some.inj ho'
      exact ⟨e, by simpa using he, hb, h1, h2⟩
  · have := h3 i (List.getElem?_eq_some_iff.1 ho).1
    rw [ho] at this
    simp only [Option.all_some, Array.all_eq_true_iff_forall_mem] at this
    have := this e he
    simpa [hb] using this
  · rw [act_of (l := dsts l) inv.tsize inv.defers inv.same]
    have hC := inv.cw
    have ht : (Array.replicate l.length true).getD n1 false = true := by simp [hn]
    rw [ht] at hC
    refine fin (fun d => a.tmps.getD d undef) w hC fun i d hid hdn => ?_
    obtain ⟨o, ho, hd⟩ := Option.bind_eq_some_iff.1 hid
    exact inv.facts i o d ho hd (by
      have := (List.getElem?_eq_some_iff.1 ho).1
      simp [this]) (fun k hk => by rw [hdn] at hk; cases hk)
  · refine ⟨?_, fun i o _ hl => by simp [Array.getD] at hl, by simp, fun i o d _ _ hl _ => by simp [Array.getD] at hl, fun _ _ => rfl, fun _ _ _ => rfl, rfl, rfl⟩
    have ht : (Array.replicate l.length false).getD n1 false = false := by simp [Array.getD]
    have ht2 : (Array.replicate (l.toArray).size false).getD n1 false = false := by simp [Array.getD]
    first
      | (rw [ht]; exact h0)
      | (rw [ht2]; exact h0)
  · simp
end Go.Proofs.YtajnhkkiddeegaaGreat
namespace Go.Proofs.YtajnhkkiddeegaaGreat
open Go.RowKit Go.Sort
theorem run_app00 (w : World) (ty : TypeId) (g : Nat) (A : Option Addr) (c : Nat) : (Builtin.append_ #[34, 34] ty #[.slice (some ⟨g, 0, none⟩) 0 0, .slice A 0 c]).run Tryz.prog w = .ok (.slice (some ⟨g, 0, none⟩) 0 0) w := by
  obtain ⟨i0, hi, hz0, hz1, hz2⟩ := info_parts inf2
  cases A with
  | none => simp [Builtin.append_, run_underlying Tryz.underlying34, sizeOf, typeInfo, hi, Builtin.lenOf, Builtin.firstCells, storeCells]
  | some a => simp [Builtin.append_, run_underlying Tryz.underlying34, sizeOf, typeInfo, hi, Builtin.lenOf, Builtin.firstCells, storeCells, loadCells, loadCellsFrom, storeCells, Result.andThen]
theorem wp_app0 {ops : Array Oper} {rest : List Oper} {o : Oper} {a : Act} {Q : Exit → Act → World → Prop} {s x : Operand} (hgd : o.guard = none)
    (ho : o.op = .call { callee := .builtin .append, args := #[s, x], argTypes := #[34, 34] })
    {A : Option Addr} {l c : Nat} {ys : List Int} {wr : World} {H : Nat} (hs : a.eval s = .slice (some ⟨H, 0, none⟩) 0 0) (hx : a.eval x = .slice A l c) (hH : wr.heap.size = H)
    (hsrc : SrcI wr A l (ia ys)) (hyl : ys.length = l) (hl : l ≤ 1048576)
    (h : ∀ A' c' w', OwnL wr.heap.size w' A' l c' ys → Below wr.heap.size wr w' → wpList Tryz.prog ops Q rest (a.put o.dst (.slice A' l c')) w') :
    wpList Tryz.prog ops Q (o :: rest) a (wr.alloc (.cells #[] 2)) := by
  subst hH
  have hb1 : Below wr.heap.size wr (wr.alloc (.cells #[] 2)) := (Below.refl _ _).alloc (Nat.le_refl _) _
  have O0 : OwnL wr.heap.size (wr.alloc (.cells #[] 2)) (some ⟨wr.heap.size, 0, none⟩) 0 0 [] := OwnL.empty _ _ _ (Nat.le_refl _) (heap_alloc_new wr _)
  by_cases h0 : l = 0
  · subst h0
    have hy : ys = [] := List.length_eq_zero_iff.1 hyl
    subst hy
    refine wpList_plain hgd fun K hK => ?_
    have hrun := run_app00 (wr.alloc (.cells #[] 2)) o.type wr.heap.size A c
    unfold Oper.wp
    simp [execOp, ho, resolve, invoke, builtin, hs, hx, hrun, Result.andThen]
    exact hK _ _ (h _ _ _ O0 hb1)
  · obtain ⟨g, o2, hA, I⟩ := hsrc (by omega)
    subst hA
    have I' := I.below hb1
    obtain ⟨i0, hi, hz0, hz1, hz2⟩ := info_parts inf2
    refine wpList_plain hgd fun K hK => wp_append_lies (wr.alloc (.cells #[] 2)) s x 34 ho wr.heap.size 2 i0 (.int .i64 0) 1 8 Tryz.underlying34 hi hz0 hz1 hz2 rfl (by decide) (.slice (some ⟨wr.heap.size, 0, none⟩) 0 0) 0 (nums []) hs O0.2
      ⟨g, o2, none⟩ l c (nums ys) hx (by simp [nums, hyl]) (fun j u hj => ?_) (fun u hu => ?_) (by omega) (by unfold maxLen; omega) (by omega) (by simp) _ rfl ?_
    · have hjl : j < ys.length := by
        have := (List.getElem?_eq_some_iff.1 hj).1
        simpa [nums] using this
      rw [Addr.add_lit, I'.c j (by omega), ← hj, nums_at ys j hjl]
    · simp only [nums, List.mem_map] at hu
      obtain ⟨y, _, rfl⟩ := hu
      rfl
    · intro g2 cap w2 hown' hgrow hat _
      rw [Nat.zero_add] at hown'
      have hk := hK _ _ (h (some ⟨g2, 0, none⟩) cap w2 ⟨hyl, by simpa [nums] using hown'⟩ (hb1.grown hgrow (by simp) (fun y hy => by simp [Value.ownBlock] at hy; omega)))
      simpa using hk
set_option maxRecDepth 100000 in
theorem l01Own_any (A : Option Addr) (l c : Nat) (ys : List Int) (w : World) (hsrc : SrcI w A l (ia ys)) (hyl : ys.length = l) (hl : l ≤ 1048576) : Calls Tryz.prog 114 #[.slice A l c] w (RetL ys w) := by
  have HY := Lib.hid hyl
  have HR : Hid (∀ A' c' w', OwnL w.heap.size w' A' l c' ys → Below w.heap.size w w' → RetL ys w (.returned (.slice A' l c')) w') := fun A' c' w' O hb => by subst hyl; exact ⟨A', c', rfl, O, hb⟩
  clear hyl
  go_enter Tryz.func114, Tryz.ntmps114
  go_wp2_with (at_builtin; refine wp_app0 rfl rfl rfl rfl rfl hsrc HY.out hl ?_; intro A' c' w' O hb)
  go_ret
  exact HR.out A' c' w' O hb
end Go.Proofs.YtajnhkkiddeegaaGreat
namespace Go.Proofs.YtajnhkkiddeegaaGreat
open Go.RowKit Go.Sort
theorem grows_appL {o : Oper} {a : Act} {W : World} {E : World → World → Prop} {G : Value → World → Prop} {s x : Operand}
    (ho : o.op = .call { callee := .builtin .append, args := #[s, x], argTypes := #[34, 34] })
    {base : Nat} {A : Option Addr} {m c B : Nat} {xs : List Int} {k : Int} (hs : a.eval s = .slice A m c) (hx : a.eval x = .slice (some ⟨B, 0, none⟩) 1 1) (I : Ints W B 0 1 (fun _ => k))
    (hown : OwnL base W A m c xs) (hbase : base ≤ W.heap.size) (hm : m ≤ 1048576)
    (h : ∀ A' c' w', OwnL base w' A' (m + 1) c' (xs ++ [k]) → W.grownBy w' (blkOf A) → E W w' ∧ G (.slice A' (m + 1) c') w') :
    GrowsE Tryz.prog o a W E G := by
  obtain ⟨i0, hi, hz0, hz1, hz2⟩ := info_parts inf2
  obtain ⟨g, cap, w', hr, h2, h3, h4, h5⟩ := run_append_lies (P := Tryz.prog) W 34 o.type base 2 i0 (.int .i64 0) 1 8 Tryz.underlying34 hi hz0 hz1 hz2 rfl (by decide) (.slice A m c) m (nums xs) hown.2
    ⟨B, 0, none⟩ 1 1 [.int .i64 k] rfl (fun j u hj => by
      match j, hj with
      | 0, hj =>
        simp only [List.getElem?_cons_zero, Option.some.injEq] at hj
        subst hj
        rw [Addr.add_lit]; exact I.c 0 (by omega)) (fun u hu => by simp at hu; subst hu; rfl) (by decide) (by unfold maxLen; omega) (by omega) hbase _ rfl
  have e : (Value.slice A m c).ownBlock = blkOf A := by cases A <;> rfl
  rw [e] at h3
  unfold GrowsE execOp
  simp only [ho, resolve, invoke, builtin, Sem.run_bind, Sem.run_pure, Result.andThen_ok, List.map_toArray, List.map_cons, List.map_nil, hs, hx, hr]
  exact h _ cap w' ⟨by simp [hown.1], by rw [nums_append]; exact h2⟩ h3
end Go.Proofs.YtajnhkkiddeegaaGreat
namespace Go.Proofs.YtajnhkkiddeegaaGreat
open Go.RowKit Go.Sort
theorem OwnL.one' (w : World) (k : Int) : OwnL w.heap.size (w.alloc (.cells #[.int .i64 k] 2)) (some ⟨w.heap.size, 0, none⟩) 1 1 [k] :=
  ⟨rfl, rfl, .inr ⟨w.heap.size, 1, #[.int .i64 k], rfl, Nat.le_refl _, heap_alloc_new w _, Nat.le_refl _, by unfold maxLen; omega, rfl, rfl⟩⟩
set_option maxRecDepth 100000 in
set_option maxHeartbeats 1000000 in
theorem l02Chain_any (n : Int) (b o m c b2 o2 c2 e : Nat) (es : List (Int × Int)) (cs : Nat → Int) (bb : Int) (w : World) (h : Eds w b o m es) (hm : m ≤ 1048576) (hG : IsG n es) (h2 : Ints w b2 o2 m cs) (he : e < m) :
    Calls Tryz.prog 140 #[.agg #[.int .i64 n, .slice (some ⟨b, o, none⟩) m c], .slice (some ⟨b2, o2, none⟩) m c2, .int .i64 e, .int .i64 bb] w (fun ee w' => ∃ g, ee = .returned (.slice (some ⟨g, 0, none⟩) m m) ∧ w.heap.size ≤ g ∧ w'.rowIs g 4 m (fun f => .bool (hasB (chS es cs e bb) f)) ∧ Below w.heap.size w w') := by
  have KC := cell_rg
  have hl := Lib.hid h.len
  have HG := Lib.hid hG
  have hm30 : m ≤ 30 := by have := hl.out; have := hG.wf.2.2.2.1; have := hG.wf.2.1; omega
  have hn2 := hG.wf.1
  have hel : e < es.length := by rw [hl.out]; exact he
  have HEI := Lib.hid (EInv.one (m := es.length) hel (hasB_two e))
  obtain ⟨T, hT⟩ : ∃ T, T = chT cs e bb := ⟨_, rfl⟩
  have HTT := Lib.hid hT
  have HCS : Hid (chS es cs e bb = (eFin es (vE es) T ⟨2 ^ e, [(e : Int)]⟩).o) := by rw [hT]; rfl
  have HBI := Lib.hid (fun i => HEI.out.bfs (vE := vE es) (T := T) i)
  have HAT := Lib.hid (fun i (h1 : ¬ i < (eBfs es (vE es) T ⟨2 ^ e, [(e : Int)]⟩ i).q.length) (h3 : i ≤ (eBfs es (vE es) T ⟨2 ^ e, [(e : Int)]⟩ i).q.length) => eFin_at HEI.out h1 h3)
  obtain ⟨N, rfl⟩ : ∃ N : Nat, n = N := ⟨n.toNat, by omega⟩
  have hbb := (by go_grown : Below w.heap.size w (w.alloc (.cells #[.int .i64 N, .slice (some ⟨b, o, none⟩) m c] 26)))
  have hbx := Box2.made w (.int .i64 N) (.slice (some ⟨b, o, none⟩) m c) 26
  obtain ⟨w1, hw1⟩ : ∃ w1, w1 = w.alloc (Obj.cells #[Value.int IntKind.i64 N, Value.slice (some ⟨b, o, none⟩) m c] 26) := ⟨_, rfl⟩
  have hs1 : w1.heap.size = w.heap.size + 1 := by rw [hw1]; simp [go_sem]
  rw [← hw1] at hbb hbx
  obtain ⟨s1, p1, q1⟩ := hbx
  obtain ⟨st0, hst0⟩ : ∃ st0 : ES, st0 = ⟨2 ^ e, [(e : Int)]⟩ := ⟨_, rfl⟩
  have H00 : Hid (eBfs es (vE es) T st0 0 = ⟨2 ^ e, [(e : Int)]⟩) := by rw [hst0]; rfl
  rw [← hst0] at HCS HBI HAT
  have hmk := run_make_row' (P := Tryz.prog) 113 4 (.bool false) 1 Tryz.underlying113 infB rfl .i64 .i64 m (by omega) (by omega)
  obtain ⟨wa, hwa⟩ : ∃ wa, wa = w1.alloc (.cells ((madeCells #[.bool false] m).setIfInBounds e (.bool true)) 4) := ⟨_, rfl⟩
  have sa : wa.heap.size = w.heap.size + 1 + 1 := by rw [hwa]; simp [go_sem]; omega
  obtain ⟨w2, hw2⟩ : ∃ w2, w2 = wa.alloc (.cells #[.int .i64 e] 2) := ⟨_, rfl⟩
  have R1 : Hid (w2.rowIs (w.heap.size + 1) 4 m (fun f => .bool (hasB (2 ^ e) f))) := by
    have hsz : ((madeCells #[.bool false] m).setIfInBounds e (.bool true)).size = m := by simp [madeCells]
    have := World.rowIs_alloc w1 ((madeCells #[.bool false] m).setIfInBounds e (.bool true)) 4 (fun f => .bool (hasB (2 ^ e) f)) (fun f hf => by
      rw [hsz] at hf
      rw [Array.getElem?_setIfInBounds]
      by_cases h5 : e = f
      · subst h5; rw [if_pos rfl, if_pos (by simpa [madeCells] using hf), hasB_two]
      · rw [if_neg h5]
        have hb : hasB (2 ^ e) (f : Int) = false := by unfold hasB; rw [Nat.testBit_two_pow]; simp; omega
        rw [hb]
        simp [madeCells, hf, Nat.mod_one])
    rw [hsz, hs1] at this
    rw [hw2, hwa]; exact this.alloc _
  have O1 : OwnL wa.heap.size w2 (some ⟨w.heap.size + 1 + 1, 0, none⟩) 1 1 [(e : Int)] := by rw [hw2, ← sa]; exact OwnL.one' wa e
  have hb2 : Below w1.heap.size w1 w2 := by rw [hw2, hwa]; exact ((Below.refl _ _).alloc (Nat.le_refl _) _).alloc (by simp [go_sem]) _
  have hce : (madeCells #[Value.bool false] m)[e]? = some (.bool false) := by simp [madeCells, he, Nat.mod_one]
  clear hT hst0 hel HEI
  go_enter Tryz.func140, Tryz.ntmps140
  go_wp2_with fail
  rw [← hw1]
  go_wp2_with fail
  clear hce
  rw [← hwa, ← hw2]
  have E1 := h.below hbb
  have I1 := h2.below hbb
  obtain ⟨gl, hgl⟩ : ∃ gl, gl = w.heap.size + 1 := ⟨_, rfl⟩
  have hgl1 : gl = w1.heap.size := by omega
  have hwa1 : wa.heap.size = gl + 1 := by omega
  rw [← hgl] at R1
  rw [hwa1] at O1
  rw [← hgl] at O1
  clear hwa hw2 hmk
  rw [← hgl]
  clear sa hwa1
  have hglw : w.heap.size ≤ gl := by omega
  have hglB : w1.heap.size ≤ gl := by omega
  clear hgl hgl1 hs1
  go_loopw [10, 11] (fun lv iv wr => ∃ (i O : Nat) (q : List Int) (A : Option Addr) (c' : Nat), iv = .int .i64 i ∧ i ≤ q.length ∧ i ≤ m ∧ lv = .slice A q.length c' ∧ Hid (eBfs es (vE es) T st0 i = ⟨O, q⟩) ∧ OwnL (gl + 1) wr A q.length c' q ∧ wr.rowIs gl 4 m (fun f => .bool (hasB O f)) ∧ Below w1.heap.size w1 wr) (fun _ i _ => m + 1 - (intOf i).toNat)
  case atStart => exact ⟨0, 2 ^ e, [(e : Int)], _, _, rfl, Nat.zero_le _, Nat.zero_le _, rfl, H00, O1, R1.out, hb2⟩
  case round =>
    clear O1 R1 hb2
    obtain ⟨i, O, q, A, c', rfl, hiq, him, rfl, HS, OQ, R, hbr⟩ := hrel
    have HQ : EInv es.length ⟨O, q⟩ := HS.out ▸ HBI.out i
    have hq20 : q.length ≤ m := by have := HQ.len; rw [hl.out] at this; exact this
    by_cases hlt : i < q.length
    · have hur := HQ.rng _ (iaMem (xs := q) (i := i) hlt)
      obtain ⟨u, hu⟩ : ∃ u : Nat, ia q i = u := ⟨(ia q i).toNat, by omega⟩
      have hum : u < m := by have := hl.out; omega
      have HNX : Hid (eBfs es (vE es) T st0 (i + 1) = eEnd es (vE es) T u ⟨O, q⟩ 2) := by
        show _ = _
        rw [eBfs_succ (by rw [HS.out]; exact hlt), HS.out]
        show eEnd es (vE es) T (ia q i).toNat ⟨O, q⟩ 2 = _
        rw [hu, Int.toNat_natCast]
      have HEI2 := Lib.hid (fun k => HQ.ends (vE := vE es) (T := T) (u := u) k)
      have HUQ := Lib.hid hu
      clear HQ hur hu
      go_wp2_with fail
      go_loopw [10, 12] (fun lv kv wv => ∃ (k O2 : Nat) (q2 : List Int) (A2 : Option Addr) (c3 : Nat), k ≤ 2 ∧ kv = .int .i64 k ∧ lv = .slice A2 q2.length c3 ∧ Hid (eEnd es (vE es) T u ⟨O, q⟩ k = ⟨O2, q2⟩) ∧ OwnL (gl + 1) wv A2 q2.length c3 q2 ∧ wv.rowIs gl 4 m (fun f => .bool (hasB O2 f)) ∧ Below w1.heap.size w1 wv) (fun _ k _ => 2 - (intOf k).toNat)
      case atStart => exact ⟨0, O, q, _, _, by omega, rfl, rfl, rfl, OQ, R, hbr⟩
      case round =>
        clear OQ R hbr
        obtain ⟨k, O2, q2, A2, cq, hk, rfl, rfl, HV, OQ, R, hb⟩ := hrel
        obtain ⟨ys, hys⟩ := eEnd_q (es := es) (vE := vE es) (T := T) (u := u) (s := ⟨O, q⟩) k
        rw [HV.out] at hys
        have hq2e : q2 = q ++ ys := hys
        have hq2l : i < q2.length := by rw [hq2e]; simp; omega
        have hu2 : ia q2 i = u := by rw [hq2e, ia_app hlt]; exact HUQ.out
        have HI2 : EInv es.length ⟨O2, q2⟩ := HV.out ▸ HEI2.out k
        have hq2m : q2.length ≤ m := by have := HI2.len; rw [hl.out] at this; exact this
        have hszb := hb.size
        clear hys hq2e
        by_cases hk2 : k < 2
        · obtain ⟨L, hL⟩ : ∃ L, L = atL es (vE es (2 * u + k)) := ⟨_, rfl⟩
          have hv := vE_in HG.out.wf (2 * u + k) (by rw [hl.out]; omega)
          have hL3 : L.length = 3 := by rw [hL]; exact atL_3 HG.out hv.1 hv.2
          have HSTEP : Hid (eEnd es (vE es) T u ⟨O, q⟩ (k + 1) = eVis T L ⟨O2, q2⟩ 3) := by
            show _ = _; rw [← hL3, hL]; show eVis T _ (eEnd es (vE es) T u ⟨O, q⟩ k) _ = _; rw [HV.out]
          have HLk : Hid (∀ k, k < 3 → ∃ f : Nat, f < m ∧ ia L k = f) := fun k hk => by
            rw [← hL3, hL] at hk; rw [hL]; obtain ⟨f, hf, e, _⟩ := atL_at hk; exact ⟨f, by rw [hl.out] at hf; exact hf, e⟩
          have HIV : Hid (∀ j, j ≤ 3 → EInv es.length (eVis T L ⟨O2, q2⟩ j)) := fun j hj => by rw [← hL3, hL] at hj; rw [hL]; exact HI2.vis j hj
          obtain ⟨w5, rfl⟩ : ∃ w5, w5 = wr := ⟨wr, rfl⟩
          have E5 := E1.below hb
          have hgl5 := R.lt
          have HRL : Hid (∀ W, Below w5.heap.size w5 W → Calls Tryz.prog 112 #[.agg #[.int .i64 N, .slice (some ⟨b, o, none⟩) m c], .int .i64 (vE es (2 * u + k))] W (RetL L W)) := fun W hW => by rw [hL]; exact l01At_any N b o m c es _ W (E5.below hW) hm
          have s5 := Nat.lt_of_lt_of_le s1 hb.size
          have p5 := (hb.cell (p := ⟨w.heap.size, 0, none⟩) s1).trans p1
          have q5 := (hb.cell (p := ⟨w.heap.size, 1, none⟩) s1).trans q1
          obtain ⟨gq, oq, rfl, IQ⟩ := OQ.src (by omega)
          have cq1 := IQ.c i hq2l
          rw [hu2] at cq1
          have zq := IQ.blk
          have HL3 := Lib.hid hL3
          have HU2 := Lib.hid hu2
          clear hL hL3 hv HI2 IQ hu2
          go_wp2_with fail
          refine wp_region_facts (fun i9 v W => match i9 with
            | 0 => v = .agg #[.int .i64 N, .slice (some ⟨b, o, none⟩) m c]
            | 1 => v = .pointer (some ⟨w.heap.size, 1, none⟩)
            | 2 => v = .slice (some ⟨b, o, none⟩) m c
            | 3 => v = .slice (some ⟨gq, oq, none⟩) q2.length cq
            | 4 => v = .int .i64 i
            | 5 => v = .pointer (some ⟨gq, oq + i, none⟩)
            | 6 => v = .int .i64 u
            | 7 => v = .int .i64 k
            | 8 => v = .pointer (some ⟨b, o + u * 2, none⟩)
            | 9 => v = .pointer (some ⟨b, o + u * 2 + k, none⟩)
            | 10 => v = .int .i64 (vE es (2 * u + k))
            | 11 => NewL w5.heap.size (L) v W
            | _ => NewL w5.heap.size (L) v W) (by kernel_rfl) (by kernel_rfl) ?_ ?_ ?_
          · intro i v W W' hf hb
            match i, hf with
            | 0, hf => exact hf
            | 1, hf => exact hf
            | 2, hf => exact hf
            | 3, hf => exact hf
            | 4, hf => exact hf
            | 5, hf => exact hf
            | 6, hf => exact hf
            | 7, hf => exact hf
            | 8, hf => exact hf
            | 9, hf => exact hf
            | 10, hf => exact hf
            | 11, hf => exact NewL.below hf hb
            | (i + 12), hf => exact NewL.below hf hb
          · refine ⟨?_, ?_, ?_, ?_, ?_, ?_, ?_, ?_, ?_, ?_, ?_, ?_, ?_, trivial⟩
            · intro a W hW hs hd
              have e4 : a.tmps[4]?.getD undef = .pointer (some ⟨w.heap.size, 0, none⟩) := hs 4 (by kernel_rfl)
              have k0 := (hW.cell (p := ⟨w.heap.size, 0, none⟩) (s5)).trans (p5)
              have k1 := (hW.cell (p := ⟨w.heap.size, 1, none⟩) (s5)).trans (q5)
              have k2 := (hW.cell (p := ⟨gq, oq + i, none⟩) (zq)).trans (cq1)
              clear hs hd
              unfold Grows
              go_simp
              exact Below.refl _ _
            · intro a W hW hs hd
              have e4 : a.tmps[4]?.getD undef = .pointer (some ⟨w.heap.size, 0, none⟩) := hs 4 (by kernel_rfl)
              have k0 := (hW.cell (p := ⟨w.heap.size, 0, none⟩) (s5)).trans (p5)
              have k1 := (hW.cell (p := ⟨w.heap.size, 1, none⟩) (s5)).trans (q5)
              have k2 := (hW.cell (p := ⟨gq, oq + i, none⟩) (zq)).trans (cq1)
              clear hs hd
              unfold Grows
              go_simp
              exact Below.refl _ _
            · intro a W hW hs hd
              have e35 : (a.tmps[35]?.getD undef) = .pointer (some ⟨w.heap.size, 1, none⟩) := hd 1 35 (by kernel_rfl) (by kernel_rfl)
              have k0 := (hW.cell (p := ⟨w.heap.size, 0, none⟩) (s5)).trans (p5)
              have k1 := (hW.cell (p := ⟨w.heap.size, 1, none⟩) (s5)).trans (q5)
              have k2 := (hW.cell (p := ⟨gq, oq + i, none⟩) (zq)).trans (cq1)
              clear hs hd
              unfold Grows
              go_simp
              exact Below.refl _ _
            · intro a W hW hs hd
              have e10 : a.tmps[10]?.getD undef = .slice (some ⟨gq, oq, none⟩) q2.length cq := hs 10 (by kernel_rfl)
              clear hs hd
              unfold Grows
              go_simp
              exact Below.refl _ _
            · intro a W hW hs hd
              have e11 : a.tmps[11]?.getD undef = .int .i64 i := hs 11 (by kernel_rfl)
              clear hs hd
              unfold Grows
              go_simp
              exact Below.refl _ _
            · intro a W hW hs hd
              have e37 : (a.tmps[37]?.getD undef) = .slice (some ⟨gq, oq, none⟩) q2.length cq := hd 3 37 (by kernel_rfl) (by kernel_rfl)
              have e38 : (a.tmps[38]?.getD undef) = .int .i64 i := hd 4 38 (by kernel_rfl) (by kernel_rfl)
              have k0 := (hW.cell (p := ⟨w.heap.size, 0, none⟩) (s5)).trans (p5)
              have k1 := (hW.cell (p := ⟨w.heap.size, 1, none⟩) (s5)).trans (q5)
              have k2 := (hW.cell (p := ⟨gq, oq + i, none⟩) (zq)).trans (cq1)
              clear hs hd
              unfold Grows
              go_simp
              exact Below.refl _ _
            · intro a W hW hs hd
              have e39 : (a.tmps[39]?.getD undef) = .pointer (some ⟨gq, oq + i, none⟩) := hd 5 39 (by kernel_rfl) (by kernel_rfl)
              have k0 := (hW.cell (p := ⟨w.heap.size, 0, none⟩) (s5)).trans (p5)
              have k1 := (hW.cell (p := ⟨w.heap.size, 1, none⟩) (s5)).trans (q5)
              have k2 := (hW.cell (p := ⟨gq, oq + i, none⟩) (zq)).trans (cq1)
              clear hs hd
              unfold Grows
              go_simp
              exact Below.refl _ _
            · intro a W hW hs hd
              have e12 : a.tmps[12]?.getD undef = .int .i64 k := hs 12 (by kernel_rfl)
              clear hs hd
              unfold Grows
              go_simp
              exact Below.refl _ _
            · intro a W hW hs hd
              have e36 : (a.tmps[36]?.getD undef) = .slice (some ⟨b, o, none⟩) m c := hd 2 36 (by kernel_rfl) (by kernel_rfl)
              have e40 : (a.tmps[40]?.getD undef) = .int .i64 u := hd 6 40 (by kernel_rfl) (by kernel_rfl)
              have k0 := (hW.cell (p := ⟨w.heap.size, 0, none⟩) (s5)).trans (p5)
              have k1 := (hW.cell (p := ⟨w.heap.size, 1, none⟩) (s5)).trans (q5)
              have k2 := (hW.cell (p := ⟨gq, oq + i, none⟩) (zq)).trans (cq1)
              clear hs hd
              unfold Grows
              go_simp
              exact Below.refl _ _
            · intro a W hW hs hd
              have e42 : (a.tmps[42]?.getD undef) = .pointer (some ⟨b, o + u * 2, none⟩) := hd 8 42 (by kernel_rfl) (by kernel_rfl)
              have e41 : (a.tmps[41]?.getD undef) = .int .i64 k := hd 7 41 (by kernel_rfl) (by kernel_rfl)
              have k0 := (hW.cell (p := ⟨w.heap.size, 0, none⟩) (s5)).trans (p5)
              have k1 := (hW.cell (p := ⟨w.heap.size, 1, none⟩) (s5)).trans (q5)
              have k2 := (hW.cell (p := ⟨gq, oq + i, none⟩) (zq)).trans (cq1)
              clear hs hd
              unfold Grows
              go_simp
              exact Below.refl _ _
            · intro a W hW hs hd
              have e43 : (a.tmps[43]?.getD undef) = .pointer (some ⟨b, o + u * 2 + k, none⟩) := hd 9 43 (by kernel_rfl) (by kernel_rfl)
              have k0 := (hW.cell (p := ⟨w.heap.size, 0, none⟩) (s5)).trans (p5)
              have k1 := (hW.cell (p := ⟨w.heap.size, 1, none⟩) (s5)).trans (q5)
              have k2 := (hW.cell (p := ⟨gq, oq + i, none⟩) (zq)).trans (cq1)
              have d1 := vE_cell (E5.below hW) hum hk2
              clear hs hd
              unfold Grows
              go_simp
              exact Below.refl _ _
            · intro a W hW hs hd
              have e34 : (a.tmps[34]?.getD undef) = .agg #[.int .i64 N, .slice (some ⟨b, o, none⟩) m c] := hd 0 34 (by kernel_rfl) (by kernel_rfl)
              have e44 : (a.tmps[44]?.getD undef) = .int .i64 (vE es (2 * u + k)) := hd 10 44 (by kernel_rfl) (by kernel_rfl)
              clear hs hd
              unfold Grows
              go_simp
              refine ⟨Below.refl _ _, (HRL.out W hW).mono ?_⟩
              rintro e w6 ⟨A6, c6, rfl, ho6, hb6⟩
              exact ⟨_, rfl, hb6, A6, c6, rfl, ho6.mono (hW.size)⟩
            · intro a W hW hs hd
              have e45 : NewL w5.heap.size (L) (a.tmps[45]?.getD undef) W := hd 11 45 (by kernel_rfl) (by kernel_rfl)
              obtain ⟨A45, c45, e45, O45⟩ := e45
              clear hs hd
              unfold Grows
              go_simp
              exact ⟨Below.refl _ _, A45, c45, rfl, O45⟩
          intro vs W hW hf
          have f13 : NewL w5.heap.size (L) (vs 13) W := hf 12 13 (by kernel_rfl)
          obtain ⟨A13, c13, f13, O13⟩ := f13
          simp only [dsts, List.filterMap_cons, List.filterMap_nil, List.foldl_cons, List.foldl_nil, Act.put, List.setIfInBounds_toArray, List.set_cons_succ, List.set_cons_zero, f13]
          clear hf
          rw [HL3.out] at f13 O13
          have OQ := OQ.below hW
          have R := R.of_block (hW.block _ R.lt)
          have hb6 := hb.andB hW
          have NE : blkOf A13 = none ∨ blkOf A13 ≠ blkOf (some (⟨gq, oq, none⟩ : Addr)) := blk_apart' (s := w5.heap.size) (fun g hg => (O13.blk g hg).1) (fun g hg => by simp only [blkOf, Option.map_some, Option.some.injEq] at hg; omega)
          clear p5 q5 s5 cq1 zq E5 HRL
          simp only [f13, HL3.out]
          clear f13
          generalize vs 34 = v34
          generalize vs 35 = v35
          generalize vs 36 = v36
          generalize vs 37 = v37
          generalize vs 38 = v38
          generalize vs 39 = v39
          generalize vs 40 = v40
          generalize vs 41 = v41
          generalize vs 42 = v42
          generalize vs 43 = v43
          generalize vs 44 = v44
          generalize vs 45 = v45
          go_wp2_with fail
          have c33 : ((3 : Nat) : Int) = 3 := rfl
          have hdk : decide ((k : Int) < 2) = true := by simp; omega
          simp only [hdk]
          clear hdk
          go_loopw [10, 14] (fun lv jv wv => ∃ (j O4 : Nat) (q4 : List Int) (A4 : Option Addr) (c5 : Nat), j ≤ 3 ∧ jv = .int .i64 j ∧ lv = .slice A4 q4.length c5 ∧ Hid (eVis T L ⟨O2, q2⟩ j = ⟨O4, q4⟩) ∧ OwnL (gl + 1) wv A4 q4.length c5 q4 ∧ wv.rowIs gl 4 m (fun f => .bool (hasB O4 f)) ∧ OwnL w5.heap.size wv A13 3 c13 L ∧ (blkOf A13 = none ∨ blkOf A13 ≠ blkOf A4) ∧ Below w1.heap.size w1 wv) (fun _ j _ => 3 - (intOf j).toNat)
          case atStart => exact ⟨0, O2, q2, _, _, by omega, rfl, rfl, rfl, OQ, R, O13, NE, hb6⟩
          case round =>
            clear OQ R O13 NE hb6
            obtain ⟨j, O4, q4, A4, c5, hj, rfl, rfl, HV4, OQ, R, O3, NE, hb8⟩ := hrel
            have HI4 : EInv es.length ⟨O4, q4⟩ := HV4.out ▸ HIV.out j hj
            have hq4m : q4.length ≤ m := by have := HI4.len; rw [hl.out] at this; exact this
            have hsz8 := hb8.size
            by_cases hjl : j < 3
            · obtain ⟨f, hf, ef⟩ := HLk.out j hjl
              obtain ⟨g3, o3, rfl, I3⟩ := O3.src (by omega)
              have i1 := I3.c j hjl
              rw [ef] at i1
              have z3 := I3.blk
              have I9 := I1.below hb8
              have r1 := I9.c f hf
              have r2 := I9.c e he
              have z9 := I9.blk
              have r3 := R.cell hf
              have zR := R.lt
              have HST : Hid (eVis T L ⟨O2, q2⟩ (j + 1) = eStep T ⟨O4, q4⟩ f) := by
                show eStep T (eVis T L ⟨O2, q2⟩ j) _ = _; rw [HV4.out, ef, Int.toNat_natCast]
              have HTF : Hid (T f = decide (cs f = cs e ∨ cs f = bb)) := by show _ = _; rw [HTT.out]; rfl
              obtain ⟨cf, hcf⟩ : ∃ cf, cf = cs f := ⟨_, rfl⟩
              obtain ⟨ce, hce⟩ : ∃ ce, ce = cs e := ⟨_, rfl⟩
              rw [← hcf] at r1 HTF
              rw [← hce] at r2 HTF
              have HNO : Hid (¬ (hasB O4 f = false ∧ T f = true) → eVis T L ⟨O2, q2⟩ (j + 1) = ⟨O4, q4⟩) := fun hc => by rw [HST.out, eStep_no hc]
              have HYES : Hid (hasB O4 f = false → T f = true → eVis T L ⟨O2, q2⟩ (j + 1) = ⟨O4 ||| 2 ^ f, q4 ++ [(f : Int)]⟩) := fun h1 h3 => by rw [HST.out, eStep_yes h1 h3]
              clear HI4 I9 ef hcf hce
              cases hh : hasB O4 f with
              | true =>
                have HE : Hid (eVis T L ⟨O2, q2⟩ (j + 1) = ⟨O4, q4⟩) := HNO.out (fun hc => by rw [hh] at hc; cases hc.1)
                rw [hh] at r3
                clear hh
                go_wp2_with fail
                (refine wp_region_quiet_below (by kernel_rfl) (by kernel_rfl) ?_
                 repeat (any_goals (go_big_quiet_step (first | fail)))
                 all_goals (refine wpQuiet_nil ?_; intro wq8 hq8; replace hq8 := below_of_rg hq8))
                have OQ := OQ.below hq8
                have O3 := O3.below hq8
                have R := R.of_block (hq8.block _ R.lt)
                have hb9 := hb8.andB hq8
                clear i1 r1 r2 r3 hq8
                go_wp2_with fail
                go_roundw
                case rel => exact ⟨j + 1, O4, q4, A4, c5, by omega, by go_num, rfl, HE, OQ, R, O3, NE, hb9⟩
                case measure => simp [intOf]; omega
              | false =>
                have HH := Lib.hid hh
                rw [hh] at r3
                clear hh
                cases hTf : T f with
                | false =>
                  have HE : Hid (eVis T L ⟨O2, q2⟩ (j + 1) = ⟨O4, q4⟩) := HNO.out (fun hc => by rw [hTf] at hc; cases hc.2)
                  have hd := of_decide_eq_false (HTF.out.symm.trans hTf)
                  have h1 : (cf == ce) = false := by simp; intro h; exact hd (.inl h)
                  have h3 : (cf == bb) = false := by simp; intro h; exact hd (.inr h)
                  clear hd hTf
                  go_wp2_with fail
                  (refine wp_region_quiet_below (by kernel_rfl) (by kernel_rfl) ?_
                   repeat (any_goals (go_big_quiet_step (first | fail)))
                   all_goals (refine wpQuiet_nil ?_; intro wq8 hq8; replace hq8 := below_of_rg hq8))
                  have OQ := OQ.below hq8
                  have O3 := O3.below hq8
                  have R := R.of_block (hq8.block _ R.lt)
                  have hb9 := hb8.andB hq8
                  clear i1 r1 r2 r3 hq8
                  go_wp2_with fail
                  go_roundw
                  case rel => exact ⟨j + 1, O4, q4, A4, c5, by omega, by go_num, rfl, HE, OQ, R, O3, NE, hb9⟩
                  case measure => simp [intOf]; omega
                | true =>
                  have HE := Lib.hid (HYES.out HH.out hTf)
                  have hd := of_decide_eq_true (HTF.out.symm.trans hTf)
                  have HB : Hid (∀ x : Nat, hasB (O4 ||| 2 ^ f) x = if x = f then true else hasB O4 x) := fun x => hasB_or O4 f x
                  have HQL : Hid ((q4 ++ [(f : Int)]).length = q4.length + 1) := by simp [Hid]
                  by_cases h1 : cf = ce
                  · have h1' : (cf == ce) = true := by simp [h1]
                    clear hd hTf h1
                    go_wp2_with fail
                    (refine wp_region_quiet_below (by kernel_rfl) (by kernel_rfl) ?_
                     repeat (any_goals (go_big_quiet_step (first | fail)))
                     all_goals (refine wpQuiet_nil ?_; intro wq8 hq8; replace hq8 := below_of_rg hq8))
                    have OQ := OQ.below hq8
                    have O3 := O3.below hq8
                    have R := R.of_block (hq8.block _ R.lt)
                    have hb9 := hb8.andB hq8
                    have z3' := Nat.lt_of_lt_of_le z3 hq8.size
                    have i1' := (bcell hq8).1 _ _ z3 ▸ i1
                    have r3' := R.cell hf
                    have f3' := R.frozen f
                    have R9 := Lib.hid ((R.set f (.bool true)).congr (g := fun x => .bool (hasB (O4 ||| 2 ^ f) x)) (fun x _ => by rw [HB.out]; by_cases hx : x = f <;> simp [hx]))
                    have OQ9 := OQ.setOther (a := ⟨gl, f, none⟩) (blk_ne (fun g hg => (OQ.blk g hg).1) (by simp)) (.bool true)
                    have O39 := O3.setOther (a := ⟨gl, f, none⟩) (blk_ne (fun g hg => (O3.blk g hg).1) hgl5) (.bool true)
                    have hb9' := hb9.setCell (p := ⟨gl, f, none⟩) (by simp; omega) (.bool true)
                    have hszq : gl + 1 ≤ (wq8.setCell ⟨gl, f, none⟩ (.bool true)).heap.size := by simp; have := hb9.size; have := R.lt; omega
                    clear i1 r1 r2 r3 OQ O3
                    go_wp2_with (first
                      | (at_builtin; refine wp_appL1 rfl rfl rfl rfl (by simp) OQ9 hszq (by omega) ?_; intro A5 c6 w9 OQ5 hg9 hat9))
                    have O5 := O39.kept hg9 NE
                    have R10 := R9.out.of_block (hg9.block gl (by simp; exact R.lt) (blk_ne (fun g hg => (OQ9.blk g hg).1) (by omega)))
                    have NE5 := hat9.apart (AX := some ⟨g3, o3, none⟩) (fun g hg => (O39.blk g hg).2) NE
                    have hb10 := hb9'.grown hg9 (by simp; have := hb9.size; omega) (fun y hy => by have := (OQ9.blk y hy).1; omega)
                    go_roundw
                    case rel => exact ⟨j + 1, O4 ||| 2 ^ f, q4 ++ [(f : Int)], A5, c6, by omega, by go_num, by rw [HQL.out], HE, by rw [HQL.out]; exact OQ5, R10, O5, NE5, hb10⟩
                    case measure => simp [intOf]; omega
                  · have h1' : (cf == ce) = false := by simp [h1]
                    have h3' : (cf == bb) = true := by rcases hd with h | h; exact absurd h h1; simp [h]
                    clear hd hTf h1
                    go_wp2_with fail
                    (refine wp_region_quiet_below (by kernel_rfl) (by kernel_rfl) ?_
                     repeat (any_goals (go_big_quiet_step (first | fail)))
                     all_goals (refine wpQuiet_nil ?_; intro wq8 hq8; replace hq8 := below_of_rg hq8))
                    have OQ := OQ.below hq8
                    have O3 := O3.below hq8
                    have R := R.of_block (hq8.block _ R.lt)
                    have hb9 := hb8.andB hq8
                    have z3' := Nat.lt_of_lt_of_le z3 hq8.size
                    have i1' := (bcell hq8).1 _ _ z3 ▸ i1
                    have r3' := R.cell hf
                    have f3' := R.frozen f
                    have R9 := Lib.hid ((R.set f (.bool true)).congr (g := fun x => .bool (hasB (O4 ||| 2 ^ f) x)) (fun x _ => by rw [HB.out]; by_cases hx : x = f <;> simp [hx]))
                    have OQ9 := OQ.setOther (a := ⟨gl, f, none⟩) (blk_ne (fun g hg => (OQ.blk g hg).1) (by simp)) (.bool true)
                    have O39 := O3.setOther (a := ⟨gl, f, none⟩) (blk_ne (fun g hg => (O3.blk g hg).1) hgl5) (.bool true)
                    have hb9' := hb9.setCell (p := ⟨gl, f, none⟩) (by simp; omega) (.bool true)
                    have hszq : gl + 1 ≤ (wq8.setCell ⟨gl, f, none⟩ (.bool true)).heap.size := by simp; have := hb9.size; have := R.lt; omega
                    clear i1 r1 r2 r3 OQ O3
                    go_wp2_with (first
                      | (at_builtin; refine wp_appL1 rfl rfl rfl rfl (by simp) OQ9 hszq (by omega) ?_; intro A5 c6 w9 OQ5 hg9 hat9))
                    have O5 := O39.kept hg9 NE
                    have R10 := R9.out.of_block (hg9.block gl (by simp; exact R.lt) (blk_ne (fun g hg => (OQ9.blk g hg).1) (by omega)))
                    have NE5 := hat9.apart (AX := some ⟨g3, o3, none⟩) (fun g hg => (O39.blk g hg).2) NE
                    have hb10 := hb9'.grown hg9 (by simp; have := hb9.size; omega) (fun y hy => by have := (OQ9.blk y hy).1; omega)
                    go_roundw
                    case rel => exact ⟨j + 1, O4 ||| 2 ^ f, q4 ++ [(f : Int)], A5, c6, by omega, by go_num, by rw [HQL.out], HE, by rw [HQL.out]; exact OQ5, R10, O5, NE5, hb10⟩
                    case measure => simp [intOf]; omega
            · obtain rfl : j = 3 := by omega
              have HE : Hid (eEnd es (vE es) T u ⟨O, q⟩ (k + 1) = ⟨O4, q4⟩) := by show _ = _; rw [HSTEP.out, HV4.out]
              go_wp2_with fail
              go_roundw
              case rel => exact ⟨k + 1, O4, q4, A4, c5, by omega, by go_num, rfl, HE, OQ, R, hb8⟩
              case measure => simp [intOf]; omega
        · obtain rfl : k = 2 := by omega
          have HE : Hid (eBfs es (vE es) T st0 (i + 1) = ⟨O2, q2⟩) := by show _ = _; rw [HNX.out, HV.out]
          have c22 : ((2 : Nat) : Int) = 2 := rfl
          clear HI2
          go_wp2_with fail
          go_roundw
          case rel => exact ⟨i + 1, O2, q2, A2, cq, by go_num, by omega, by omega, rfl, HE, OQ, R, hb⟩
          case measure => simp [intOf]; omega
    · obtain rfl : i = q.length := by omega
      have HE := Lib.hid (HAT.out q.length (by rw [HS.out]; exact Nat.lt_irrefl _) (by rw [HS.out]; exact Nat.le_refl _))
      have HF : Hid (chS es cs e bb = O) := by show _ = _; rw [HCS.out, HE.out, HS.out]
      have hbF := hbb.andB hbr
      go_wp2_with fail
      go_ret
      exact ⟨gl, rfl, by omega, R.congr (fun f _ => by rw [HF.out]), hbF⟩
end Go.Proofs.YtajnhkkiddeegaaGreat
