import Derived.Test.YtnoneppmeaeicaaDoorM22
import Derived.Test.YtnoneppmeaeicaaDoorM2
namespace Go.Proofs.YtnoneppmeaeicaaDoor
open Go.RowKit Go.Sort
/-! ### start -/
/-- The given colours of the first so many edges of a list, as bits. -/
def sM (f : Nat → Int) (L : List Int) : Nat → Nat
  | 0 => 0
  | k + 1 => if f (ia L k).toNat = -1 then sM f L k else sM f L k ||| 2 ^ (f (ia L k).toNat).toNat
theorem sM_bit {f : Nat → Int} {L : List Int} {x : Nat} : ∀ {k : Nat}, (sM f L k).testBit x = true → ∃ i, i < k ∧ f (ia L i).toNat ≠ -1 ∧ (f (ia L i).toNat).toNat = x := by
  intro k
  induction k with
  | zero => intro h; simp [sM] at h
  | succ k ih =>
    intro h
    simp only [sM] at h
    split at h
    · obtain ⟨i, hi, h1⟩ := ih h
      exact ⟨i, by omega, h1⟩
    · rw [Nat.testBit_or, Bool.or_eq_true, Nat.testBit_two_pow, decide_eq_true_eq] at h
      rcases h with h | h
      · obtain ⟨i, hi, h1⟩ := ih h
        exact ⟨i, by omega, h1⟩
      · exact ⟨k, by omega, by assumption, h⟩
theorem sM_lt {f : Nat → Int} {L : List Int} (hf : ∀ d, f d ≤ 2) : ∀ k, sM f L k < 8 := by
  intro k
  induction k with
  | zero => simp [sM]
  | succ k ih =>
    simp only [sM]
    split
    · exact ih
    · exact or8 ih (by have := hf (ia L k).toNat; omega)
/-- What is given does not clash. -/
def NoCl (es : List (Int × Int)) (f : Nat → Int) : Prop := ∀ v i j, i < j → j < (atL es v).length → f (ia (atL es v) i).toNat ≠ -1 → f (ia (atL es v) i).toNat ≠ f (ia (atL es v) j).toNat
-- left out in this seat
end Go.Proofs.YtnoneppmeaeicaaDoor
namespace Go.Proofs.YtnoneppmeaeicaaDoor
open Go.RowKit Go.Sort
/-! A region that draws its order; each operation has its own effect on memory, and facts may end at one operation (an append that writes into the row that it is given); operations may be guarded. -/
def EPost (E : World → World → Prop) (G : Value → World → Prop) (w : World) (e : Ending) (w'' : World) : Prop := ∃ v, e = .returned v ∧ E w w'' ∧ G v w''
def GrowsE (P : Program) (o : Oper) (a : Act) (w : World) (E : World → World → Prop) (G : Value → World → Prop) : Prop :=
  match (execOp a.eval o).run P w with
  | .ok (.value v) w' => E w w' ∧ G v w'
  | .ok .skip w' => E w w' ∧ G undef w'
  | .ok (.enter f args) w' => Below w.heap.size w w' ∧ Calls P f args w' (EPost E G w)
  | _ => False
theorem GrowsE.wp {P : Program} {o : Oper} {a : Act} {w : World} {E : World → World → Prop} {G : Value → World → Prop} (h : GrowsE P o a w E G) {K : Act → World → Prop} {Q : Exit → Act → World → Prop}
    (hK : ∀ v w', E w w' → G v w' → K (a.put o.dst v) w') : o.wp P a w K Q := by
  unfold GrowsE at h
  unfold Oper.wp
  generalize (execOp a.eval o).run P w = r at *
  cases r with
  | ok n w' =>
    cases n <;> simp only [Oper.upon] at h ⊢
    case value v => exact hK _ _ h.1 h.2
    case skip => exact hK _ _ h.1 h.2
    case enter f args => exact h.2.mono fun e w'' ⟨v, he, hb, hg⟩ => by subst he; exact hK _ _ hb hg
  | halt x w' => simp only at h
/-- A guarded operation that is left out. -/
def GrowsG (P : Program) (l : List Oper) (o : Oper) (a : Act) (w : World) (E : World → World → Prop) (G : Value → World → Prop) : Prop :=
  if Region.wanted o (yielded l.toArray a.tmps) = true then GrowsE P o a w E G else E w w ∧ G undef w
def endOk (dead : Nat → Option Nat) (j i : Nat) : Bool := dead j == none || dead j == some i
def StepsHE (P : Program) (l : List Oper) (F : Nat → Value → World → Prop) (dead : Nat → Option Nat) (E : Nat → World → World → Prop) (a0 : Act) (w0 : World) : Nat → List Oper → Prop
  | _, [] => True
  | i, o :: r => (∀ a w, Below w0.heap.size w0 w → (∀ t, (dsts l).contains t = false → a.tmps[t]?.getD undef = a0.eval (.tmp t)) →
      (∀ j d, (depsOf o).contains j = true → dstAt l j = some d → endOk dead j i = true → F j (a.tmps[d]?.getD undef) w) → GrowsG P l o a w (E i) (F i)) ∧ StepsHE P l F dead E a0 w0 (i + 1) r
def StepsE (P : Program) (l : List Oper) (F : Nat → Value → World → Prop) (dead : Nat → Option Nat) (E : Nat → World → World → Prop) (a0 : Act) (w0 : World) : Nat → List Oper → Prop
  | _, [] => True
  | i, o :: r => (∀ a w, Below w0.heap.size w0 w → (∀ t, (dsts l).contains t = false → a.tmps.getD t undef = a0.tmps.getD t undef) →
      (∀ e ∈ o.after, Region.binds .any e = true → endOk dead e.on i = true → ∀ (p : Oper) (d : Tmp), l[e.on]? = some p → p.dst = some d → F e.on (a.tmps.getD d undef) w) → GrowsG P l o a w (E i) (F i)) ∧ StepsE P l F dead E a0 w0 (i + 1) r
theorem StepsHE.steps {P : Program} {l : List Oper} {F : Nat → Value → World → Prop} {dead : Nat → Option Nat} {E : Nat → World → World → Prop} {a0 : Act} {w0 : World} : ∀ (r : List Oper) (i : Nat), StepsHE P l F dead E a0 w0 i r → StepsE P l F dead E a0 w0 i r := by
  intro r
  induction r with
  | nil => intro i _; trivial
  | cons o r ih =>
    intro i h
    refine ⟨fun a w hb hs hd => h.1 a w hb (fun t ht => by rw [← Array.getD_eq_getD_getElem?]; exact hs t ht) (fun j d hj hjd hok => ?_), ih _ h.2⟩
    simp only [depsOf, List.contains_iff_mem, List.mem_map, List.mem_filter] at hj
    obtain ⟨e, ⟨he, hb⟩, rfl⟩ := hj
    obtain ⟨p, hp, hpd⟩ := Option.bind_eq_some_iff.1 hjd
    rw [← Array.getD_eq_getD_getElem?]
    exact hd e (by simpa using he) hb hok p d hp hpd
theorem StepsE.at {P : Program} {l : List Oper} {F : Nat → Value → World → Prop} {dead : Nat → Option Nat} {E : Nat → World → World → Prop} {a0 : Act} {w0 : World} : ∀ (r : List Oper) (k : Nat), StepsE P l F dead E a0 w0 k r → ∀ (i : Nat) (o : Oper), r[i]? = some o →
    ∀ a w, Below w0.heap.size w0 w → (∀ t, (dsts l).contains t = false → a.tmps.getD t undef = a0.tmps.getD t undef) →
      (∀ e ∈ o.after, Region.binds .any e = true → endOk dead e.on (k + i) = true → ∀ (p : Oper) (d : Tmp), l[e.on]? = some p → p.dst = some d → F e.on (a.tmps.getD d undef) w) → GrowsG P l o a w (E (k + i)) (F (k + i)) := by
  intro r
  induction r with
  | nil => intro k _ i o h; simp at h
  | cons x r ih =>
    intro k h i o hi
    cases i with
    | zero => simp at hi; subst hi; exact h.1
    | succ i => rw [show k + (i + 1) = (k + 1) + i from by omega]; exact ih (k + 1) h.2 i o (by simpa using hi)
structure FInvE (l : List Oper) (F : Nat → Value → World → Prop) (dead : Nat → Option Nat) (a0 : Act) (w0 : World) (listed : Array Bool) (a : Act) (w : World) : Prop where
  below : Below w0.heap.size w0 w
  lsize : listed.size = l.length
  facts : ∀ (i : Nat) (o : Oper) (d : Tmp), l[i]? = some o → o.dst = some d → listed.getD i false = true → (∀ k, dead i = some k → listed.getD k false = false) → F i (a.tmps.getD d undef) w
  same : ∀ t, (dsts l).contains t = false → a.tmps.getD t undef = a0.tmps.getD t undef
  tsize : a.tmps.size = a0.tmps.size
  defers : a.defers = a0.defers
theorem wpAny_factsE {P : Program} {l : List Oper} {F : Nat → Value → World → Prop} {dead : Nat → Option Nat} {E : Nat → World → World → Prop} {a0 : Act} {w0 : World} {Q : Exit → Act → World → Prop}
    (hdist : ∀ (i j : Nat) (o p : Oper) (d : Tmp), l[i]? = some o → l[j]? = some p → o.dst = some d → p.dst = some d → i = j) (hsz : ∀ (i : Nat) (o : Oper) (d : Tmp), l[i]? = some o → o.dst = some d → d < a0.tmps.size)
    (mono : ∀ i k v w w', i ≠ k → dead i ≠ some k → Below w0.heap.size w0 w → F i v w → E k w w' → F i v w') (hE : ∀ k w w', Below w0.heap.size w0 w → E k w w' → Below w0.heap.size w w') (steps : StepsE P l F dead E a0 w0 0 l)
    (hback : ∀ (i : Nat) (o : Oper), l[i]? = some o → ∀ e ∈ o.after, Region.binds .any e = true → e.on < i)
    (fin : ∀ a w, FInvE l F dead a0 w0 (Array.replicate l.length true) a w → Q .normal a w) :
    ∀ (fuel : Nat) (listed : Array Bool) (a : Act) (w : World), FInvE l F dead a0 w0 listed a w → (listed.toList.filter (· = false)).length ≤ fuel → wpAny P .any l.toArray Q fuel listed a w := by
  have alldone : ∀ listed : Array Bool, listed.size = l.length → Region.ready .any l.toArray listed = [] → listed = Array.replicate l.length true := by
    intro listed hls hr
    refine Classical.byContradiction fun hne => ?_
    have hex : ∃ i, i < l.length ∧ listed.getD i true = false := by
      refine Classical.byContradiction fun hno => hne ?_
      apply Array.ext (by simp [hls])
      intro i h1 h2
      have := fun hh => hno ⟨i, by omega, hh⟩
      simp [h1] at this
      simpa using this
    have hmin : ∃ i, i < l.length ∧ listed.getD i true = false ∧ ∀ j, j < i → listed.getD j true = true := by
      obtain ⟨i, hi, hf⟩ := hex
      have key : ∀ n, ∀ i, i ≤ n → i < l.length → listed.getD i true = false → ∃ i, i < l.length ∧ listed.getD i true = false ∧ ∀ j, j < i → listed.getD j true = true := by
        intro n
        induction n with
        | zero => intro i h0 hi hf; exact ⟨i, hi, hf, fun j hj => absurd hj (by omega)⟩
        | succ n ih =>
          intro i hin hi hf
          by_cases hx : ∃ j, j < i ∧ listed.getD j true = false
          · obtain ⟨j, hj, hjf⟩ := hx; exact ih j (by omega) (by omega) hjf
          · exact ⟨i, hi, hf, fun j hj => by
              cases hq : listed.getD j true with
              | true => rfl
              | false => exact absurd ⟨j, hj, hq⟩ hx⟩
      exact key i i (Nat.le_refl _) hi hf
    obtain ⟨i, hi, hf, hall⟩ := hmin
    have hmem : i ∈ Region.ready .any l.toArray listed := by
      rw [mem_ready]
      refine ⟨hf, l[i], by simp [hi], fun e he hb => ?_⟩
      have hlt := hback i l[i] (by simp [hi]) e he hb
      have := hall e.on hlt
      have hs : e.on < listed.size := by omega
      simpa [hs] using this
    rw [hr] at hmem
    cases hmem
  intro fuel
  induction fuel with
  | zero =>
    intro listed a w inv hf
    have hr : Region.ready .any l.toArray listed = [] := by
      refine List.eq_nil_iff_forall_not_mem.2 fun i hi => ?_
      have h0 := (mem_ready.1 hi).1
      have hmem : false ∈ listed.toList.filter (· = false) := by
        rw [List.mem_filter]
        refine ⟨?_, by simp⟩
        rcases Nat.lt_or_ge i listed.size with h | h
        · simp [h] at h0; rw [← h0]; simp
        · simp [Nat.not_lt.2 h] at h0
      have := List.length_pos_of_mem hmem
      omega
    exact ⟨hr, fin _ _ (by rw [alldone listed inv.lsize hr] at inv; exact inv)⟩
  | succ fuel ih =>
    intro listed a w inv hf
    refine ⟨fun hr => fin _ _ (by rw [alldone listed inv.lsize hr] at inv; exact inv), fun i hi => ?_⟩
    obtain ⟨hun, o, ho, hall⟩ := mem_ready.1 hi
    have ho' : l[i]? = some o := by simpa using ho
    have hil : i < l.length := (List.getElem?_eq_some_iff.1 ho').1
    have hunl : listed.getD i false = false := by
      cases hq : listed.getD i false with
      | false => rfl
      | true =>
        rw [Array.getD_eq_getD_getElem?] at hq hun
        cases hg : listed[i]? with
        | none => rw [hg] at hq; cases hq
        | some b => rw [hg] at hq hun; simp at hq hun; rw [hun] at hq; cases hq
    have hst := StepsE.at l 0 steps i o ho' a w inv.below inv.same (fun e he hb hok p d hp hd => inv.facts e.on p d hp hd (hall e he hb) (fun k hk => by
      rw [Nat.zero_add] at hok
      simp only [endOk, hk, Bool.or_eq_true, beq_iff_eq, reduceCtorEq, Option.some.injEq, false_or] at hok
      subst hok; exact hunl))
    rw [Nat.zero_add] at hst
    have hlisted : ∀ k, dead i = some k → ∀ j, (listed.setIfInBounds i true).getD j false = false → listed.getD j false = false := fun k _ j hj => by
      by_cases hij : i = j
      · subst hij; exact hunl
      · rw [Array.getD_eq_getD_getElem?, Array.getElem?_setIfInBounds, if_neg hij, ← Array.getD_eq_getD_getElem?] at hj; exact hj
    have hset : (listed.setIfInBounds i true).getD i false = true := by
      rw [Array.getD_eq_getD_getElem?, Array.getElem?_setIfInBounds, if_pos rfl, if_pos (by rw [inv.lsize]; exact hil)]; rfl
    suffices hgo : ∀ v w', E i w w' → F i v w' → wpAny P .any l.toArray Q fuel (listed.setIfInBounds i true) (a.put o.dst v) w' by
      unfold wpOp
      rw [ho]
      unfold GrowsG at hst
      simp only
      split
      · rename_i hwant
        rw [if_pos hwant] at hst
        exact .inl (hst.wp hgo)
      · rename_i hwant
        rw [if_neg hwant] at hst
        exact hgo _ _ hst.1 hst.2
    refine fun v w' hb' hF => ih _ _ _ ?_ ?_
    · refine ⟨inv.below.trans (hE i w w' inv.below hb'), by simpa using inv.lsize, fun j p d hp hd hl hdk => ?_, fun t ht => ?_, ?_, ?_⟩
      · have hdj := hsz j p d hp hd
        cases hod : o.dst with
        | none =>
          by_cases hij : i = j
          · subst hij; rw [ho'] at hp; obtain rfl := Option.some.inj hp; rw [hod] at hd; cases hd
          · have hl' : listed.getD j false = true := by rw [Array.getD_eq_getD_getElem?, Array.getElem?_setIfInBounds, if_neg hij, ← Array.getD_eq_getD_getElem?] at hl; exact hl
            exact mono j i _ _ _ (fun e => hij e.symm) (fun hdi => by have := hdk i hdi; rw [hset] at this; cases this) inv.below (inv.facts j p d hp hd hl' (fun k hk => by
              have := hdk k hk
              by_cases hik : i = k
              · subst hik; exact hunl
              · rw [Array.getD_eq_getD_getElem?, Array.getElem?_setIfInBounds, if_neg hik, ← Array.getD_eq_getD_getElem?] at this; exact this)) hb'
        | some d' =>
          rw [put_getD]
          by_cases hij : i = j
          · subst hij; rw [ho'] at hp; obtain rfl := Option.some.inj hp
            rw [hod] at hd; obtain rfl := Option.some.inj hd
            rw [if_pos ⟨rfl, by rw [inv.tsize]; exact hdj⟩]; exact hF
          · have hne : ¬ (d = d' ∧ d' < a.tmps.size) := fun hx => hij (hdist i j o p d ho' hp (by rw [hod, hx.1]) hd)
            rw [if_neg hne]
            have hl' : listed.getD j false = true := by rw [Array.getD_eq_getD_getElem?, Array.getElem?_setIfInBounds, if_neg hij, ← Array.getD_eq_getD_getElem?] at hl; exact hl
            exact mono j i _ _ _ (fun e => hij e.symm) (fun hdi => by have := hdk i hdi; rw [hset] at this; cases this) inv.below (inv.facts j p d hp hd hl' (fun k hk => by
              have := hdk k hk
              by_cases hik : i = k
              · subst hik; exact hunl
              · rw [Array.getD_eq_getD_getElem?, Array.getElem?_setIfInBounds, if_neg hik, ← Array.getD_eq_getD_getElem?] at this; exact this)) hb'
      · cases hod : o.dst with
        | none => exact inv.same t ht
        | some d' =>
          rw [put_getD, if_neg]
          · exact inv.same t ht
          · intro hx
            have : (dsts l).contains t = true := by
              simp only [dsts, List.contains_iff_mem, List.mem_filterMap]
              exact ⟨o, List.mem_of_getElem? ho', by rw [hod, hx.1]⟩
            rw [this] at ht; cases ht
      · cases o.dst <;> simp [Act.put, inv.tsize]
      · cases o.dst <;> simp [Act.put, inv.defers]
    · have hcount : ∀ (xs : List Bool) (i : Nat), xs[i]? = some false → ((xs.set i true).filter (· = false)).length + 1 = (xs.filter (· = false)).length := by
        intro xs
        induction xs with
        | nil => intro i h; simp at h
        | cons x xs ihx =>
          intro i h
          cases i with
          | zero => simp at h; subst h; simp
          | succ i =>
            have := ihx i (by simpa using h)
            cases x <;> simp at this ⊢ <;> omega
      have hlen : i < listed.size := by rw [inv.lsize]; exact hil
      have hget : listed.toList[i]? = some false := by simp [hlen] at hun ⊢; exact hun
      have := hcount listed.toList i hget
      rw [Array.toList_setIfInBounds]
      omega
/-- The check of what is closed. -/
def frBE (l : List Oper) (n : Nat) : Bool :=
  l.all (fun o => (o.dst.all (fun d => decide (d < n)))) && decide ((dsts l).Nodup) && (List.range l.length).all (fun i => (l[i]?).all fun o => o.after.all fun e => !Region.binds .any e || decide (e.on < i))
theorem wp_region_eff {P : Program} {id : Nat} {Q : Exit → Act → World → Prop} {a0 : Act} {w0 : World} {l : List Oper} (F : Nat → Value → World → Prop) (dead : Nat → Option Nat) (E : Nat → World → World → Prop) (hm : P.follows .mixedOrders = true) (hB : frBE l a0.tmps.size = true)
    (mono : ∀ i k v w w', i ≠ k → dead i ≠ some k → Below w0.heap.size w0 w → F i v w → E k w w' → F i v w') (hE : ∀ k w w', Below w0.heap.size w0 w → E k w w' → Below w0.heap.size w w') (steps : StepsHE P l F dead E a0 w0 0 l)
    (fin : ∀ (vs : Tmp → Value) w, Below w0.heap.size w0 w → (∀ (i : Nat) (d : Tmp), dstAt l i = some d → dead i = none → F i (vs d) w) → Q .normal ((dsts l).foldl (fun b d => b.put (some d) (vs d)) a0) w) :
    (Code.region id l.toArray true).wp P Q a0 w0 := by
  simp only [frBE, Bool.and_eq_true, decide_eq_true_eq, List.all_eq_true, List.mem_range] at hB
  obtain ⟨⟨h1, h2⟩, h3⟩ := hB
  have hall : ∀ (i : Nat) (o : Oper), l[i]? = some o → ∀ d, o.dst = some d → d < a0.tmps.size := fun i o ho => by
    have := h1 o (List.mem_of_getElem? ho)
    exact fun d hd => by simpa [hd] using this
  refine wp_region_any hm (wpAny_factsE (F := F) (dead := dead) (E := E) (w0 := w0) (a0 := a0) (dst_inj l h2) (fun i o d ho hd => hall i o ho d hd) mono hE (StepsHE.steps _ _ steps) (fun i o ho e he hb => ?_) (fun a w inv => ?_) _ _ _ _ ?_ ?_)
  · have := h3 i (List.getElem?_eq_some_iff.1 ho).1
    rw [ho] at this
    simp only [Option.all_some, Array.all_eq_true_iff_forall_mem] at this
    have := this e he
    simpa [hb] using this
  · rw [act_of (l := dsts l) inv.tsize inv.defers inv.same]
    refine fin (fun d => a.tmps.getD d undef) w inv.below fun i d hid hdn => ?_
    obtain ⟨o, ho, hd⟩ := Option.bind_eq_some_iff.1 hid
    exact inv.facts i o d ho hd (by
      have := (List.getElem?_eq_some_iff.1 ho).1
      simp [this]) (fun k hk => by rw [hdn] at hk; cases hk)
  · exact ⟨(Below.refl _ _).drew, by simp, fun i o d _ _ hl _ => by simp [Array.getD] at hl, fun _ _ => rfl, rfl, rfl⟩
  · simp
theorem eval_tmp (a : Act) (t : Tmp) : a.eval (.tmp t) = a.tmps[t]?.getD undef := by
  show a.tmps.getD t undef = _
  rw [Array.getD_eq_getD_getElem?]
theorem growsG_none {P : Program} {l : List Oper} {o : Oper} {a : Act} {w : World} {E : World → World → Prop} {G : Value → World → Prop} (hg : o.guard = none) (h : GrowsE P o a w E G) : GrowsG P l o a w E G := by
  unfold GrowsG
  rw [if_pos (by simp [Region.wanted, hg])]
  exact h
theorem yielded_of {l : List Oper} {tmps : Array Value} {j : Nat} {d : Tmp} {b : Bool} (hd : dstAt l j = some d) (e : tmps[d]?.getD undef = .bool b) : yielded l.toArray tmps j = some b := by
  unfold yielded
  have h1 : (l.toArray[j]?).bind (·.dst) = some d := by simpa [dstAt] using hd
  rw [h1]
  cases hq : tmps[d]? with
  | none => rw [hq] at e; cases e
  | some v => rw [hq] at e; simp at e; subst e; simp [hq]
theorem growsG_yes {P : Program} {l : List Oper} {o : Oper} {a : Act} {w : World} {E : World → World → Prop} {G : Value → World → Prop} {j : Nat} {d : Tmp} {b : Bool} (hg : o.guard = some (j, b)) (hd : dstAt l j = some d) (e : a.tmps[d]?.getD undef = .bool b) (h : GrowsE P o a w E G) : GrowsG P l o a w E G := by
  unfold GrowsG
  rw [if_pos (by simp [Region.wanted, hg, yielded_of hd e])]
  exact h
theorem growsG_no {P : Program} {l : List Oper} {o : Oper} {a : Act} {w : World} {E : World → World → Prop} {G : Value → World → Prop} {j : Nat} {d : Tmp} {b b' : Bool} (hg : o.guard = some (j, b')) (hd : dstAt l j = some d) (e : a.tmps[d]?.getD undef = .bool b) (hne : b ≠ b') (hE : E w w) (h : G undef w) : GrowsG P l o a w E G := by
  unfold GrowsG
  rw [if_neg (by simp [Region.wanted, hg, yielded_of hd e, hne])]
  exact ⟨hE, h⟩
end Go.Proofs.YtnoneppmeaeicaaDoor
