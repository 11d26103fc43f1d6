import Derived.Test.YtnoneppmeaeicaaDoorM23
namespace Go.Proofs.YtnoneppmeaeicaaDoor
open Go.RowKit Go.Sort
/-! A region that draws its order, up to operations that come behind all others, in their own order. -/
def StepsHN (P : Program) (l : List Oper) (F : Nat → Value → World → Prop) (dead : Nat → Option Nat) (E : Nat → World → World → Prop) (C : World → Prop) (n : Nat) (a0 : Act) : Nat → List Oper → Prop
  | _, [] => True
  | i, o :: r => (∀ a w, C w → (∀ t, (dsts (l.take n)).contains t = false → a.tmps[t]?.getD undef = a0.eval (.tmp t)) →
      (∀ j d, (depsOf o).contains j = true → dstAt l j = some d → endOk dead j i = true → F j (a.tmps[d]?.getD undef) w) → GrowsG P l o a w (E i) (F i)) ∧ StepsHN P l F dead E C n a0 (i + 1) r
def StepsN (P : Program) (l : List Oper) (F : Nat → Value → World → Prop) (dead : Nat → Option Nat) (E : Nat → World → World → Prop) (C : World → Prop) (n : Nat) (a0 : Act) : Nat → List Oper → Prop
  | _, [] => True
  | i, o :: r => (∀ a w, C w → (∀ t, (dsts (l.take n)).contains t = false → a.tmps.getD t undef = a0.tmps.getD t undef) →
      (∀ e ∈ o.after, Region.binds .any e = true → endOk dead e.on i = true → ∀ (p : Oper) (d : Tmp), l[e.on]? = some p → p.dst = some d → F e.on (a.tmps.getD d undef) w) → GrowsG P l o a w (E i) (F i)) ∧ StepsN P l F dead E C n a0 (i + 1) r
theorem StepsHN.steps {P : Program} {l : List Oper} {F : Nat → Value → World → Prop} {dead : Nat → Option Nat} {E : Nat → World → World → Prop} {C : World → Prop} {n : Nat} {a0 : Act} : ∀ (r : List Oper) (i : Nat), StepsHN P l F dead E C n a0 i r → StepsN P l F dead E C n a0 i r := by
  intro r
  induction r with
  | nil => intro i _; trivial
  | cons o r ih =>
    intro i h
    refine ⟨fun a w hb hs hd => h.1 a w hb (fun t ht => by rw [← Array.getD_eq_getD_getElem?]; exact hs t ht) (fun j d hj hjd hok => ?_), ih _ h.2⟩
    simp only [depsOf, List.contains_iff_mem, List.mem_map, List.mem_filter] at hj
    obtain ⟨e, ⟨he, hb⟩, rfl⟩ := hj
    obtain ⟨p, hp, hpd⟩ := Option.bind_eq_some_iff.1 hjd
    rw [← Array.getD_eq_getD_getElem?]
    exact hd e (by simpa using he) hb hok p d hp hpd
theorem StepsN.at {P : Program} {l : List Oper} {F : Nat → Value → World → Prop} {dead : Nat → Option Nat} {E : Nat → World → World → Prop} {C : World → Prop} {n : Nat} {a0 : Act} : ∀ (r : List Oper) (k : Nat), StepsN P l F dead E C n a0 k r → ∀ (i : Nat) (o : Oper), r[i]? = some o →
    ∀ a w, C w → (∀ t, (dsts (l.take n)).contains t = false → a.tmps.getD t undef = a0.tmps.getD t undef) →
      (∀ e ∈ o.after, Region.binds .any e = true → endOk dead e.on (k + i) = true → ∀ (p : Oper) (d : Tmp), l[e.on]? = some p → p.dst = some d → F e.on (a.tmps.getD d undef) w) → GrowsG P l o a w (E (k + i)) (F (k + i)) := by
  intro r
  induction r with
  | nil => intro k _ i o h; simp at h
  | cons x r ih =>
    intro k h i o hi
    cases i with
    | zero => simp at hi; subst hi; exact h.1
    | succ i => rw [show k + (i + 1) = (k + 1) + i from by omega]; exact ih (k + 1) h.2 i o (by simpa using hi)
structure FInvN (l : List Oper) (F : Nat → Value → World → Prop) (dead : Nat → Option Nat) (C : World → Prop) (n : Nat) (a0 : Act) (listed : Array Bool) (a : Act) (w : World) : Prop where
  below : C w
  facts : ∀ (i : Nat) (o : Oper) (d : Tmp), i < n → l[i]? = some o → o.dst = some d → listed.getD i false = true → (∀ k, dead i = some k → listed.getD k false = false) → F i (a.tmps.getD d undef) w
  same : ∀ t, (dsts (l.take n)).contains t = false → a.tmps.getD t undef = a0.tmps.getD t undef
  tsize : a.tmps.size = a0.tmps.size
  defers : a.defers = a0.defers
theorem getD_in' {listed : Array Bool} {i : Nat} (h : listed.getD i true = true) (hi : i < listed.size) : listed.getD i false = true := by
  simp [hi] at h ⊢; exact h
/-- How many of the first n are left. -/
def leftN (listed : Array Bool) (n : Nat) : Nat := ((List.range n).filter fun i => !listed.getD i true).length
theorem leftN_zero {listed : Array Bool} {n : Nat} (h : leftN listed n = 0) : ∀ i, i < n → listed.getD i true = true := fun i hi => by
  have h1 : (List.range n).filter (fun i => !listed.getD i true) = [] := List.length_eq_zero_iff.1 h
  have := List.filter_eq_nil_iff.1 h1 i (List.mem_range.2 hi)
  simpa using this
theorem leftN_pos {listed : Array Bool} {n : Nat} (h : leftN listed n ≠ 0) : ∃ i, i < n ∧ listed.getD i true = false := by
  refine Classical.byContradiction fun hno => h ?_
  have : (List.range n).filter (fun i => !listed.getD i true) = [] := List.filter_eq_nil_iff.2 fun i hi => by
    have hi' := List.mem_range.1 hi
    cases hq : listed.getD i true with
    | true => simp
    | false => exact absurd ⟨i, hi', hq⟩ hno
  unfold leftN
  rw [this]; rfl
theorem filter_drop_one {p q : Nat → Bool} {i : Nat} : ∀ (xs : List Nat), xs.Nodup → i ∈ xs → p i = true → q i = false → (∀ j, j ≠ i → q j = p j) → (xs.filter q).length + 1 = (xs.filter p).length := by
  intro xs
  induction xs with
  | nil => intro _ h; simp at h
  | cons x xs ih =>
    intro hn hi hp hq hj
    have hn' := List.nodup_cons.1 hn
    by_cases e : x = i
    · subst e
      have : xs.filter q = xs.filter p := List.filter_congr fun j hjm => hj j (fun ee => hn'.1 (ee ▸ hjm))
      rw [List.filter_cons, List.filter_cons, hp, hq, if_neg (by decide), if_pos rfl, this]; rfl
    · have hi' : i ∈ xs := (List.mem_cons.1 hi).resolve_left (Ne.symm e)
      have := ih hn'.2 hi' hp hq hj
      rw [List.filter_cons, List.filter_cons, hj x e]
      cases p x <;> simp <;> omega
theorem wpAny_head {P : Program} {l : List Oper} {F : Nat → Value → World → Prop} {dead : Nat → Option Nat} {E : Nat → World → World → Prop} {C : World → Prop} {n : Nat} {a0 : Act} {Q : Exit → Act → World → Prop}
    (hn : n < l.length) (hs : Region.sinkB .any l.toArray n = true) (hc : Region.chainB .any l.toArray n = true)
    (hdist : ∀ (i j : Nat) (o p : Oper) (d : Tmp), i < n → j < n → l[i]? = some o → l[j]? = some p → o.dst = some d → p.dst = some d → i = j) (hsz : ∀ (i : Nat) (o : Oper) (d : Tmp), l[i]? = some o → o.dst = some d → d < a0.tmps.size)
    (mono : ∀ i k v w w', i ≠ k → dead i ≠ some k → C w → F i v w → E k w w' → F i v w') (hE : ∀ k w w', C w → E k w w' → C w') (steps : StepsN P l F dead E C n a0 0 (l.take n))
    (hback : ∀ (i : Nat) (o : Oper), l[i]? = some o → ∀ e ∈ o.after, Region.binds .any e = true → e.on < i) {g : Nat}
    (fin : ∀ listed a w, HeadInv .any l.toArray n listed → FInvN l F dead C n a0 listed a w → leftN listed n = 0 → wpAny P .any l.toArray Q g listed a w) :
    ∀ (h : Nat) (listed : Array Bool) (a : Act) (w : World), HeadInv .any l.toArray n listed → FInvN l F dead C n a0 listed a w → leftN listed n = h → wpAny P .any l.toArray Q (h + g) listed a w := by
  intro h
  induction h with
  | zero => intro listed a w hv inv hl; rw [Nat.zero_add]; exact fin listed a w hv inv hl
  | succ h ih =>
    intro listed a w hv inv hl
    obtain ⟨x, hx, hxl⟩ := leftN_pos (listed := listed) (n := n) (by omega)
    have hwait := tail_waits hs hc (by simpa using hn) hv (n - x) x rfl hx hxl
    rw [show h + 1 + g = (h + g) + 1 by omega]
    refine ⟨fun hr => ?_, fun i hi => ?_⟩
    · -- something is always ready: the least that is left
      exfalso
      have hmin : ∀ k x, x ≤ k → x < n → listed.getD x true = false → ∃ y, y < n ∧ listed.getD y true = false ∧ ∀ z, z < y → listed.getD z true = true := by
        intro k
        induction k with
        | zero => intro x h0 hxn hxf; exact ⟨x, hxn, hxf, fun z hz => absurd hz (by omega)⟩
        | succ k ihk =>
          intro x hxk hxn hxf
          by_cases hq : ∃ z, z < x ∧ listed.getD z true = false
          · obtain ⟨z, hz, hzf⟩ := hq; exact ihk z (by omega) (by omega) hzf
          · exact ⟨x, hxn, hxf, fun z hz => by
              cases hqq : listed.getD z true with
              | true => rfl
              | false => exact absurd ⟨z, hz, hqq⟩ hq⟩
      obtain ⟨y, hy, hyf, hall⟩ := hmin x x (Nat.le_refl _) hx hxl
      have : y ∈ Region.ready .any l.toArray listed := by
        rw [mem_ready]
        refine ⟨hyf, l[y], by simp [show y < l.length by omega], fun e he hb => ?_⟩
        have hlt := hback y l[y] (by simp [show y < l.length by omega]) e he hb
        have h1 := hall e.on hlt
        have h2 := hv.size
        have h3 : e.on < listed.size := by rw [h2]; simp; omega
        simpa [h3] using h1
      rw [hr] at this; cases this
    · have hin : i < n := by
        refine Classical.byContradiction fun hge => ?_
        exact hwait i (by omega) hi
      obtain ⟨hun, o, ho, hall⟩ := mem_ready.1 hi
      have ho' : l[i]? = some o := by simpa using ho
      have hil : i < l.length := (List.getElem?_eq_some_iff.1 ho').1
      have hot : (l.take n)[i]? = some o := by rw [List.getElem?_take, if_pos hin]; exact ho'
      have hunl := getD_both hun
      have hst := StepsN.at (l.take n) 0 steps i o hot a w inv.below inv.same (fun e he hb hok p d hp hd => inv.facts e.on p d (by have := hback i o ho' e he hb; omega) hp hd (hall e he hb) (fun k hk => by
        rw [Nat.zero_add] at hok
        simp only [endOk, hk, Bool.or_eq_true, beq_iff_eq, reduceCtorEq, Option.some.injEq, false_or] at hok
        subst hok; exact hunl))
      rw [Nat.zero_add] at hst
      have hset : (listed.setIfInBounds i true).getD i false = true := by
        rw [Array.getD_eq_getD_getElem?, Array.getElem?_setIfInBounds, if_pos rfl, if_pos (by rw [hv.size]; simpa using hil)]; rfl
      suffices hgo : ∀ v w', E i w w' → F i v w' → wpAny P .any l.toArray Q (h + g) (listed.setIfInBounds i true) (a.put o.dst v) w' by
        unfold wpOp
        rw [ho]
        unfold GrowsG at hst
        simp only
        split
        · rename_i hwant
          rw [if_pos hwant] at hst
          exact .inl (hst.wp hgo)
        · rename_i hwant
          rw [if_neg hwant] at hst
          exact hgo _ _ hst.1 hst.2
      intro v w' hb' hF
      refine ih _ _ _ (hv.set hi hin) ⟨hE i w w' inv.below hb', fun j p d hjn hp hd hlj hdk => ?_, fun t ht => ?_, ?_, ?_⟩ ?_
      · have hdj := hsz j p d hp hd
        cases hod : o.dst with
        | none =>
          by_cases hij : i = j
          · subst hij; rw [ho'] at hp; obtain rfl := Option.some.inj hp; rw [hod] at hd; cases hd
          · have hl' : listed.getD j false = true := by rw [Array.getD_eq_getD_getElem?, Array.getElem?_setIfInBounds, if_neg hij, ← Array.getD_eq_getD_getElem?] at hlj; exact hlj
            exact mono j i _ _ _ (fun e => hij e.symm) (fun hdi => by have := hdk i hdi; rw [hset] at this; cases this) inv.below (inv.facts j p d hjn hp hd hl' (fun k hk => by
              have := hdk k hk
              by_cases hik : i = k
              · subst hik; exact hunl
              · rw [Array.getD_eq_getD_getElem?, Array.getElem?_setIfInBounds, if_neg hik, ← Array.getD_eq_getD_getElem?] at this; exact this)) hb'
        | some d' =>
          rw [put_getD]
          by_cases hij : i = j
          · subst hij; rw [ho'] at hp; obtain rfl := Option.some.inj hp
            rw [hod] at hd; obtain rfl := Option.some.inj hd
            rw [if_pos ⟨rfl, by rw [inv.tsize]; exact hdj⟩]; exact hF
          · have hne : ¬ (d = d' ∧ d' < a.tmps.size) := fun hx => hij (hdist i j o p d hin hjn ho' hp (by rw [hod, hx.1]) hd)
            rw [if_neg hne]
            have hl' : listed.getD j false = true := by rw [Array.getD_eq_getD_getElem?, Array.getElem?_setIfInBounds, if_neg hij, ← Array.getD_eq_getD_getElem?] at hlj; exact hlj
            exact mono j i _ _ _ (fun e => hij e.symm) (fun hdi => by have := hdk i hdi; rw [hset] at this; cases this) inv.below (inv.facts j p d hjn hp hd hl' (fun k hk => by
              have := hdk k hk
              by_cases hik : i = k
              · subst hik; exact hunl
              · rw [Array.getD_eq_getD_getElem?, Array.getElem?_setIfInBounds, if_neg hik, ← Array.getD_eq_getD_getElem?] at this; exact this)) hb'
      · cases hod : o.dst with
        | none => exact inv.same t ht
        | some d' =>
          rw [put_getD, if_neg]
          · exact inv.same t ht
          · intro hx
            have : (dsts (l.take n)).contains t = true := by
              simp only [dsts, List.contains_iff_mem, List.mem_filterMap]
              exact ⟨o, List.mem_of_getElem? hot, by rw [hod, hx.1]⟩
            rw [this] at ht; cases ht
      · cases o.dst <;> simp [Act.put, inv.tsize]
      · cases o.dst <;> simp [Act.put, inv.defers]
      · have hsl : ∀ j, j ≠ i → (listed.setIfInBounds i true).getD j true = listed.getD j true := fun j hj => by
          rw [Array.getD_eq_getD_getElem?, Array.getElem?_setIfInBounds, if_neg (Ne.symm hj), ← Array.getD_eq_getD_getElem?]
        have hsi : (listed.setIfInBounds i true).getD i true = true := by
          rw [Array.getD_eq_getD_getElem?, Array.getElem?_setIfInBounds, if_pos rfl, if_pos (by rw [hv.size]; simpa using hil)]; rfl
        have := filter_drop_one (p := fun i => !listed.getD i true) (q := fun j => !(listed.setIfInBounds i true).getD j true) (i := i) (List.range n) List.nodup_range (List.mem_range.2 hin) (by rw [hun]; rfl) (by rw [hsi]; rfl) (fun j hj => by rw [hsl j hj])
        unfold leftN at hl ⊢
        omega
/-- The check of what is closed. -/
def frBN (l : List Oper) (n m : Nat) : Bool :=
  decide (n < l.length) && Region.sinkB .any l.toArray n && Region.chainB .any l.toArray n && Region.seqB .any l.toArray (l.length - n) n (Array.replicate n true ++ Array.replicate (l.length - n) false) &&
  l.all (fun o => (o.dst.all (fun d => decide (d < m)))) && decide ((dsts (l.take n)).Nodup) && (List.range l.length).all (fun i => (l[i]?).all fun o => o.after.all fun e => !Region.binds .any e || decide (e.on < i))
/-- A region that draws its order: its first n operations in whatever order, the rest behind them in theirs. -/
theorem wp_region_then {P : Program} {id : Nat} {Q : Exit → Act → World → Prop} {a0 : Act} {w0 : World} {l : List Oper} (n : Nat) (F : Nat → Value → World → Prop) (dead : Nat → Option Nat) (E : Nat → World → World → Prop) (C : World → Prop) (hm : P.follows .mixedOrders = true) (hB : frBN l n a0.tmps.size = true)
    (h0 : C w0.drew) (mono : ∀ i k v w w', i ≠ k → dead i ≠ some k → C w → F i v w → E k w w' → F i v w') (hE : ∀ k w w', C w → E k w w' → C w') (steps : StepsHN P l F dead E C n a0 0 (l.take n))
    (fin : ∀ (vs : Tmp → Value) w, C w → (∀ (i : Nat) (d : Tmp), i < n → dstAt l i = some d → (∀ k, dead i = some k → n ≤ k) → F i (vs d) w) → wpList P l.toArray Q (l.drop n) ((dsts (l.take n)).foldl (fun b d => b.put (some d) (vs d)) a0) w) :
    (Code.region id l.toArray true).wp P Q a0 w0 := by
  simp only [frBN, Bool.and_eq_true, decide_eq_true_eq] at hB
  obtain ⟨⟨⟨⟨⟨⟨hn, hs⟩, hc⟩, hseq⟩, h1⟩, h2⟩, h3⟩ := hB
  have hsz : ∀ (i : Nat) (o : Oper) (d : Tmp), l[i]? = some o → o.dst = some d → d < a0.tmps.size := fun i o d ho hd => by
    have := List.all_eq_true.1 h1 o (List.mem_of_getElem? ho)
    simpa [hd] using this
  have hback : ∀ (i : Nat) (o : Oper), l[i]? = some o → ∀ e ∈ o.after, Region.binds .any e = true → e.on < i := fun i o ho e he hb => by
    have := List.all_eq_true.1 h3 i (List.mem_range.2 (List.getElem?_eq_some_iff.1 ho).1)
    rw [ho] at this
    simp only [Option.all_some, Array.all_eq_true_iff_forall_mem] at this
    have := this e he
    simpa [hb] using this
  have hdist : ∀ (i j : Nat) (o p : Oper) (d : Tmp), i < n → j < n → l[i]? = some o → l[j]? = some p → o.dst = some d → p.dst = some d → i = j := fun i j o p d hi hj ho hp hod hpd =>
    dst_inj (l.take n) h2 i j o p d (by rw [List.getElem?_take, if_pos hi]; exact ho) (by rw [List.getElem?_take, if_pos hj]; exact hp) hod hpd
  have inv0 : HeadInv .any l.toArray n (Array.replicate l.toArray.size false) :=
    ⟨by simp, fun j oj _ hl => (by rw [getD_replicate_false] at hl; cases hl), fun t _ ht => getD_in (by simpa using ht) (getD_replicate_false _ _)⟩
  have finv0 : FInvN l F dead C n a0 (Array.replicate l.toArray.size false) a0 w0.drew :=
    ⟨h0, fun i o d _ _ _ hl _ => (by rw [getD_replicate_false] at hl; cases hl), fun _ _ => rfl, rfl, rfl⟩
  have hleft : leftN (Array.replicate l.toArray.size false) n = n := by
    unfold leftN
    have : (List.range n).filter (fun i => !(Array.replicate l.toArray.size false).getD i true) = List.range n := List.filter_eq_self.2 fun i hi => by
      have hi' := List.mem_range.1 hi
      have : i < l.length := by omega
      simp [this]
    rw [this, List.length_range]
  refine wp_region_any hm ?_
  have := wpAny_head (F := F) (dead := dead) (E := E) (C := C) (Q := Q) (g := l.length - n) hn hs hc hdist hsz mono hE (StepsHN.steps _ _ steps) hback (fun listed a w hv inv hl => ?_) n _ a0 w0.drew inv0 finv0 hleft
  · have e : n + (l.length - n) = l.toArray.size := by simp; omega
    rw [e] at this
    exact this
  · have hz := leftN_zero hl
    have hlist : listed = Array.replicate n true ++ Array.replicate (l.length - n) false := by
      have hls := hv.size
      apply Array.ext
      · simp at hls ⊢; omega
      · intro i hi1 hi2
        by_cases hin : i < n
        · have := hz i hin
          rw [Array.getElem_append_left (by simpa using hin)]
          simp [hi1] at this ⊢
          exact this
        · rw [Array.getElem_append_right (by simpa using Nat.le_of_not_lt hin)]
          have := hv.tail i (by omega) (by rw [← hls]; exact hi1)
          simp [hi1] at this ⊢
          exact this
    have hseq' : Region.seqB .any l.toArray (l.drop n).length n listed = true := by rw [hlist, List.length_drop]; exact hseq
    have hgo := wpAny_of_seq (md := .any) (Q' := Q) (P := P) (l.drop n) n listed a w (fun j => by simp [List.getElem?_drop]) hseq' (by
      rw [act_of (l := dsts (l.take n)) inv.tsize inv.defers inv.same]
      refine fin (fun d => a.tmps.getD d undef) w inv.below fun i d hi hid hdk => ?_
      obtain ⟨o, ho, hd⟩ := Option.bind_eq_some_iff.1 hid
      refine inv.facts i o d hi ho hd (getD_in' (hz i hi) (by have := hv.size; simp at this; omega)) (fun k hk => ?_)
      have hkn := hdk k hk
      by_cases hkl : k < l.length
      · exact getD_both (hv.tail k hkn (by simpa using hkl))
      · have := hv.size
        simp at this
        simp [show listed.size ≤ k by omega])
    rw [List.length_drop] at hgo
    exact hgo
end Go.Proofs.YtnoneppmeaeicaaDoor
