import Derived.Test.YtajnhkkiddeegaaGreatZp1
set_option linter.unusedVariables false
set_option linter.unusedSimpArgs false
namespace Go.Proofs.YtajnhkkiddeegaaGreat
open Go.RowKit Go.Sort
/-- A graph's value. -/
def AGr (n : Int) (es : List (Int × Int)) (v : Value) (W : World) : Prop := ∃ g c, v = .agg #[.int .i64 n, .slice (some ⟨g, 0, none⟩) es.length c] ∧ Eds W g 0 es.length es
theorem AGr.below {n : Int} {es : List (Int × Int)} {v : Value} {W W' : World} (h : AGr n es v W) (hb : Below W.heap.size W W') : AGr n es v W' := let ⟨g, c, e, he⟩ := h; ⟨g, c, e, he.below hb⟩
def GPost (G : Value → World → Prop) (w : World) (e : Ending) (w'' : World) : Prop := ∃ v, e = .returned v ∧ Below w.heap.size w w'' ∧ G v w''
def Grows (P : Program) (o : Oper) (a : Act) (w : World) (G : Value → World → Prop) : Prop :=
  match (execOp a.eval o).run P w with
  | .ok (.value v) w' => Below w.heap.size w w' ∧ G v w'
  | .ok .skip w' => Below w.heap.size w w' ∧ G undef w'
  | .ok (.enter f args) w' => Below w.heap.size w w' ∧ Calls P f args w' (GPost G w)
  | _ => False
theorem Grows.wp {P : Program} {o : Oper} {a : Act} {w : World} {G : Value → World → Prop} (h : Grows P o a w G) {K : Act → World → Prop} {Q : Exit → Act → World → Prop}
    (hK : ∀ v w', Below w.heap.size w w' → G v w' → K (a.put o.dst v) w') : o.wp P a w K Q := by
  unfold Grows at h
  unfold Oper.wp
  generalize (execOp a.eval o).run P w = r at *
  cases r with
  | ok n w' =>
    cases n <;> simp only [Oper.upon] at h ⊢
    case value v => exact hK _ _ h.1 h.2
    case skip => exact hK _ _ h.1 h.2
    case enter f args => exact h.2.mono fun e w'' ⟨v, he, hb, hg⟩ => by subst he; exact hK _ _ hb hg
  | halt x w' => simp only at h
def dsts (l : List Oper) : List Tmp := l.filterMap (·.dst)
def depsOf (o : Oper) : List Nat := (o.after.toList.filter (Region.binds .any ·)).map (·.on)
def dstAt (l : List Oper) (j : Nat) : Option Tmp := (l[j]?).bind (·.dst)
/-- Each step, in whatever world and frame it comes up, in handy words. -/
def StepsH (P : Program) (l : List Oper) (F : Nat → Value → World → Prop) (a0 : Act) (w0 : World) : Nat → List Oper → Prop
  | _, [] => True
  | i, o :: r => (∀ a w, Below w0.heap.size w0 w → (∀ t, (dsts l).contains t = false → a.tmps[t]?.getD undef = a0.eval (.tmp t)) →
      (∀ j d, (depsOf o).contains j = true → dstAt l j = some d → F j (a.tmps[d]?.getD undef) w) → Grows P o a w (F i)) ∧ StepsH P l F a0 w0 (i + 1) r
/-- Each step, in whatever world and frame it comes up. -/
def Steps (P : Program) (l : List Oper) (F : Nat → Value → World → Prop) (a0 : Act) (w0 : World) : Nat → List Oper → Prop
  | _, [] => True
  | i, o :: r => (∀ a w, Below w0.heap.size w0 w → (∀ t, (dsts l).contains t = false → a.tmps.getD t undef = a0.tmps.getD t undef) →
      (∀ e ∈ o.after, Region.binds .any e = true → ∀ (p : Oper) (d : Tmp), l[e.on]? = some p → p.dst = some d → F e.on (a.tmps.getD d undef) w) → Grows P o a w (F i)) ∧ Steps P l F a0 w0 (i + 1) r
theorem StepsH.steps {P : Program} {l : List Oper} {F : Nat → Value → World → Prop} {a0 : Act} {w0 : World} : ∀ (r : List Oper) (i : Nat), StepsH P l F a0 w0 i r → Steps P l F a0 w0 i r := by
  intro r
  induction r with
  | nil => intro i _; trivial
  | cons o r ih =>
    intro i h
    refine ⟨fun a w hb hs hd => h.1 a w hb (fun t ht => by rw [← Array.getD_eq_getD_getElem?]; exact hs t ht) (fun j d hj hjd => ?_), ih _ h.2⟩
    simp only [depsOf, List.contains_iff_mem, List.mem_map, List.mem_filter] at hj
    obtain ⟨e, ⟨he, hb⟩, rfl⟩ := hj
    obtain ⟨p, hp, hpd⟩ := Option.bind_eq_some_iff.1 hjd
    rw [← Array.getD_eq_getD_getElem?]
    exact hd e (by simpa using he) hb p d hp hpd
theorem Steps.at {P : Program} {l : List Oper} {F : Nat → Value → World → Prop} {a0 : Act} {w0 : World} : ∀ (r : List Oper) (k : Nat), Steps P l F a0 w0 k r → ∀ (i : Nat) (o : Oper), r[i]? = some o →
    ∀ a w, Below w0.heap.size w0 w → (∀ t, (dsts l).contains t = false → a.tmps.getD t undef = a0.tmps.getD t undef) →
      (∀ e ∈ o.after, Region.binds .any e = true → ∀ (p : Oper) (d : Tmp), l[e.on]? = some p → p.dst = some d → F e.on (a.tmps.getD d undef) w) → Grows P o a w (F (k + i)) := by
  intro r
  induction r with
  | nil => intro k _ i o h; simp at h
  | cons x r ih =>
    intro k h i o hi
    cases i with
    | zero => simp at hi; subst hi; exact h.1
    | succ i => rw [show k + (i + 1) = (k + 1) + i from by omega]; exact ih (k + 1) h.2 i o (by simpa using hi)
structure FInv (l : List Oper) (F : Nat → Value → World → Prop) (a0 : Act) (w0 : World) (listed : Array Bool) (a : Act) (w : World) : Prop where
  below : Below w0.heap.size w0 w
  lsize : listed.size = l.length
  facts : ∀ (i : Nat) (o : Oper) (d : Tmp), l[i]? = some o → o.dst = some d → listed.getD i false = true → F i (a.tmps.getD d undef) w
  same : ∀ t, (dsts l).contains t = false → a.tmps.getD t undef = a0.tmps.getD t undef
  tsize : a.tmps.size = a0.tmps.size
  defers : a.defers = a0.defers
theorem put_getD (a : Act) (d t : Nat) (v : Value) : (a.put (some d) v).tmps.getD t undef = if t = d ∧ d < a.tmps.size then v else a.tmps.getD t undef := by
  simp only [Act.put, Array.getD_eq_getD_getElem?, Array.getElem?_setIfInBounds]
  by_cases h : t = d
  · subst h
    by_cases h2 : t < a.tmps.size
    · simp [h2]
    · simp [h2]
  · rw [if_neg (fun e => h e.symm), if_neg (fun e => h e.1)]
theorem wpAny_facts {P : Program} {l : List Oper} {F : Nat → Value → World → Prop} {a0 : Act} {w0 : World} {Q : Exit → Act → World → Prop}
    (hguard : ∀ (i : Nat) (o : Oper), l[i]? = some o → o.guard = none) (hdist : ∀ (i j : Nat) (o p : Oper) (d : Tmp), l[i]? = some o → l[j]? = some p → o.dst = some d → p.dst = some d → i = j) (hsz : ∀ (i : Nat) (o : Oper) (d : Tmp), l[i]? = some o → o.dst = some d → d < a0.tmps.size)
    (mono : ∀ i v w w', F i v w → Below w.heap.size w w' → F i v w') (steps : Steps P l F a0 w0 0 l)
    (hback : ∀ (i : Nat) (o : Oper), l[i]? = some o → ∀ e ∈ o.after, Region.binds .any e = true → e.on < i)
    (fin : ∀ a w, FInv l F a0 w0 (Array.replicate l.length true) a w → Q .normal a w) :
    ∀ (fuel : Nat) (listed : Array Bool) (a : Act) (w : World), FInv l F a0 w0 listed a w → (listed.toList.filter (· = false)).length ≤ fuel → wpAny P .any l.toArray Q fuel listed a w := by
  have alldone : ∀ listed : Array Bool, listed.size = l.length → Region.ready .any l.toArray listed = [] → listed = Array.replicate l.length true := by
    intro listed hls hr
    refine Classical.byContradiction fun hne => ?_
    have hex : ∃ i, i < l.length ∧ listed.getD i true = false := by
      refine Classical.byContradiction fun hno => hne ?_
      apply Array.ext (by simp [hls])
      intro i h1 h2
      have := fun hh => hno ⟨i, by omega, hh⟩
      simp [h1] at this
      simpa using this
    have hmin : ∃ i, i < l.length ∧ listed.getD i true = false ∧ ∀ j, j < i → listed.getD j true = true := by
      obtain ⟨i, hi, hf⟩ := hex
      have key : ∀ n, ∀ i, i ≤ n → i < l.length → listed.getD i true = false → ∃ i, i < l.length ∧ listed.getD i true = false ∧ ∀ j, j < i → listed.getD j true = true := by
        intro n
        induction n with
        | zero => intro i h0 hi hf; exact ⟨i, hi, hf, fun j hj => absurd hj (by omega)⟩
        | succ n ih =>
          intro i hin hi hf
          by_cases hx : ∃ j, j < i ∧ listed.getD j true = false
          · obtain ⟨j, hj, hjf⟩ := hx; exact ih j (by omega) (by omega) hjf
          · exact ⟨i, hi, hf, fun j hj => by
              cases hq : listed.getD j true with
              | true => rfl
              | false => exact absurd ⟨j, hj, hq⟩ hx⟩
      exact key i i (Nat.le_refl _) hi hf
    obtain ⟨i, hi, hf, hall⟩ := hmin
    have hmem : i ∈ Region.ready .any l.toArray listed := by
      rw [mem_ready]
      refine ⟨hf, l[i], by simp [hi], fun e he hb => ?_⟩
      have hlt := hback i l[i] (by simp [hi]) e he hb
      have := hall e.on hlt
      have hs : e.on < listed.size := by omega
      simpa [hs] using this
    rw [hr] at hmem
    cases hmem
  intro fuel
  induction fuel with
  | zero =>
    intro listed a w inv hf
    have hr : Region.ready .any l.toArray listed = [] := by
      refine List.eq_nil_iff_forall_not_mem.2 fun i hi => ?_
      have h0 := (mem_ready.1 hi).1
      have hmem : false ∈ listed.toList.filter (· = false) := by
        rw [List.mem_filter]
        refine ⟨?_, by simp⟩
        rcases Nat.lt_or_ge i listed.size with h | h
        · simp [h] at h0; rw [← h0]; simp
        · simp [Nat.not_lt.2 h] at h0
      have := List.length_pos_of_mem hmem
      omega
    exact ⟨hr, fin _ _ (by rw [alldone listed inv.lsize hr] at inv; exact inv)⟩
  | succ fuel ih =>
    intro listed a w inv hf
    refine ⟨fun hr => fin _ _ (by rw [alldone listed inv.lsize hr] at inv; exact inv), fun i hi => ?_⟩
    obtain ⟨hun, o, ho, hall⟩ := mem_ready.1 hi
    have ho' : l[i]? = some o := by simpa using ho
    have hil : i < l.length := (List.getElem?_eq_some_iff.1 ho').1
    have hg := hguard i o ho'
    unfold wpOp
    rw [ho]
    simp only [Region.wanted, hg, if_true]
    refine .inl ?_
    have hst := Steps.at l 0 steps i o ho' a w inv.below inv.same (fun e he hb p d hp hd => inv.facts e.on p d hp hd (hall e he hb))
    rw [Nat.zero_add] at hst
    refine hst.wp fun v w' hb' hF => ih _ _ _ ?_ ?_
    · refine ⟨inv.below.andB hb', by simpa using inv.lsize, fun j p d hp hd hl => ?_, fun t ht => ?_, ?_, ?_⟩
      · have hdj := hsz j p d hp hd
        cases hod : o.dst with
        | none =>
          by_cases hij : i = j
          · subst hij; rw [ho'] at hp; obtain rfl := Option.some.inj hp; rw [hod] at hd; cases hd
          · have hl' : listed.getD j false = true := by rw [Array.getD_eq_getD_getElem?, Array.getElem?_setIfInBounds, if_neg hij, ← Array.getD_eq_getD_getElem?] at hl; exact hl
            exact mono _ _ _ _ (inv.facts j p d hp hd hl') hb'
        | some d' =>
          rw [put_getD]
          by_cases hij : i = j
          · subst hij; rw [ho'] at hp; obtain rfl := Option.some.inj hp
            rw [hod] at hd; obtain rfl := Option.some.inj hd
            rw [if_pos ⟨rfl, by rw [inv.tsize]; exact hdj⟩]; exact hF
          · have hne : ¬ (d = d' ∧ d' < a.tmps.size) := fun hx => hij (hdist i j o p d ho' hp (by rw [hod, hx.1]) hd)
            rw [if_neg hne]
            have hl' : listed.getD j false = true := by rw [Array.getD_eq_getD_getElem?, Array.getElem?_setIfInBounds, if_neg hij, ← Array.getD_eq_getD_getElem?] at hl; exact hl
            exact mono _ _ _ _ (inv.facts j p d hp hd hl') hb'
      · cases hod : o.dst with
        | none => exact inv.same t ht
        | some d' =>
          rw [put_getD, if_neg]
          · exact inv.same t ht
          · intro hx
            have : (dsts l).contains t = true := by
              simp only [dsts, List.contains_iff_mem, List.mem_filterMap]
              exact ⟨o, List.mem_of_getElem? ho', by rw [hod, hx.1]⟩
            rw [this] at ht; cases ht
      · cases o.dst <;> simp [Act.put, inv.tsize]
      · cases o.dst <;> simp [Act.put, inv.defers]
    · have hcount : ∀ (xs : List Bool) (i : Nat), xs[i]? = some false → ((xs.set i true).filter (· = false)).length + 1 = (xs.filter (· = false)).length := by
        intro xs
        induction xs with
        | nil => intro i h; simp at h
        | cons x xs ihx =>
          intro i h
          cases i with
          | zero => simp at h; subst h; simp
          | succ i =>
            have := ihx i (by simpa using h)
            cases x <;> simp at this ⊢ <;> omega
      have hlen : i < listed.size := by rw [inv.lsize]; exact hil
      have hget : listed.toList[i]? = some false := by simp [hlen] at hun ⊢; exact hun
      have := hcount listed.toList i hget
      rw [Array.toList_setIfInBounds]
      omega
/-- The check of what is closed. -/
def frB (l : List Oper) (n : Nat) : Bool :=
  l.all (fun o => o.guard.isNone && (o.dst.all (fun d => decide (d < n)))) && decide ((dsts l).Nodup) && (List.range l.length).all (fun i => (l[i]?).all fun o => o.after.all fun e => !Region.binds .any e || decide (e.on < i))
theorem dst_inj : ∀ (l : List Oper), (dsts l).Nodup → ∀ (i j : Nat) (o p : Oper) (d : Tmp), l[i]? = some o → l[j]? = some p → o.dst = some d → p.dst = some d → i = j := by
  intro l
  induction l with
  | nil => intro _ i j o p d h; simp at h
  | cons x l ih =>
    intro hn i j o p d hi hj ho hp
    have hmem : ∀ (k : Nat) (q : Oper), l[k]? = some q → q.dst = some d → d ∈ dsts l := fun k q hq hd => List.mem_filterMap.2 ⟨q, List.mem_of_getElem? hq, hd⟩
    have htail : (dsts l).Nodup := by
      simp only [dsts, List.filterMap_cons] at hn
      cases hx : x.dst <;> simp only [hx] at hn
      · exact hn
      · exact (List.nodup_cons.1 hn).2
    cases i with
    | zero =>
      cases j with
      | zero => rfl
      | succ j =>
        simp at hi; subst hi
        have h1 := hmem j p (by simpa using hj) hp
        simp only [dsts, List.filterMap_cons, ho] at hn
        exact absurd h1 (List.nodup_cons.1 hn).1
    | succ i =>
      cases j with
      | zero =>
        simp at hj; subst hj
        have h1 := hmem i o (by simpa using hi) ho
        simp only [dsts, List.filterMap_cons, hp] at hn
        exact absurd h1 (List.nodup_cons.1 hn).1
      | succ j => rw [ih htail i j o p d (by simpa using hi) (by simpa using hj) ho hp]
theorem getD_lt (xs : Array Value) (i : Nat) (h : i < xs.size) : xs.getD i undef = xs[i] := by simp [h]
theorem act_of {l : List Tmp} {a a0 : Act} (hs : a.tmps.size = a0.tmps.size) (hd : a.defers = a0.defers) (h : ∀ t, l.contains t = false → a.tmps.getD t undef = a0.tmps.getD t undef) :
    a = l.foldl (fun b d => b.put (some d) (a.tmps.getD d undef)) a0 := by
  have key : ∀ (l : List Tmp) (b : Act), (l.foldl (fun b d => b.put (some d) (a.tmps.getD d undef)) b).tmps.size = b.tmps.size ∧ (l.foldl (fun b d => b.put (some d) (a.tmps.getD d undef)) b).defers = b.defers ∧
      ∀ t, t < b.tmps.size → (l.foldl (fun b d => b.put (some d) (a.tmps.getD d undef)) b).tmps.getD t undef = if l.contains t then a.tmps.getD t undef else b.tmps.getD t undef := by
    intro l
    induction l with
    | nil => intro b; simp
    | cons x l ih =>
      intro b
      obtain ⟨h1, h2, h3⟩ := ih (b.put (some x) (a.tmps.getD x undef))
      refine ⟨by simpa [Act.put] using h1, by simpa [Act.put] using h2, fun t ht => ?_⟩
      rw [List.foldl_cons, h3 t (by simpa [Act.put] using ht), put_getD]
      by_cases hc : l.contains t = true
      · rw [if_pos hc, if_pos (by simp at hc ⊢; exact .inr hc)]
      · rw [if_neg hc]
        by_cases htx : t = x
        · subst htx; rw [if_pos ⟨rfl, ht⟩, if_pos (by simp)]
        · rw [if_neg (fun e => htx e.1), if_neg (by simp at hc ⊢; exact ⟨htx, hc⟩)]
  obtain ⟨k1, k2, k3⟩ := key l a0
  have ht : a.tmps = (l.foldl (fun b d => b.put (some d) (a.tmps.getD d undef)) a0).tmps := by
    apply Array.ext (by rw [k1, hs])
    intro i h1 h2
    have e2 := k3 i (by omega)
    rw [← getD_lt _ i h1, ← getD_lt _ i h2, e2]
    by_cases hc : l.contains i = true
    · rw [if_pos hc]
    · rw [if_neg hc]
      exact h i (by simpa using hc)
  cases a with | mk t d =>
  generalize hb : (l.foldl (fun b d_1 => b.put (some d_1) (({ tmps := t, defers := d } : Act).tmps.getD d_1 undef)) a0) = b at *
  cases b with | mk t' d' =>
  simp only at ht k2 hd
  rw [ht, hd, k2]
theorem wp_region_facts {P : Program} {id : Nat} {Q : Exit → Act → World → Prop} {a0 : Act} {w0 : World} {l : List Oper} (F : Nat → Value → World → Prop) (hm : P.follows .mixedOrders = true) (hB : frB l a0.tmps.size = true)
    (mono : ∀ i v w w', F i v w → Below w.heap.size w w' → F i v w') (steps : StepsH P l F a0 w0 0 l)
    (fin : ∀ (vs : Tmp → Value) w, Below w0.heap.size w0 w → (∀ (i : Nat) (d : Tmp), dstAt l i = some d → F i (vs d) w) → Q .normal ((dsts l).foldl (fun b d => b.put (some d) (vs d)) a0) w) :
    (Code.region id l.toArray true).wp P Q a0 w0 := by
  simp only [frB, Bool.and_eq_true, decide_eq_true_eq, List.all_eq_true, List.mem_range] at hB
  obtain ⟨⟨h1, h2⟩, h3⟩ := hB
  have hall : ∀ (i : Nat) (o : Oper), l[i]? = some o → o.guard = none ∧ ∀ d, o.dst = some d → d < a0.tmps.size := fun i o ho => by
    have := h1 o (List.mem_of_getElem? ho)
    refine ⟨by simpa using this.1, fun d hd => by simpa [hd] using this.2⟩
  refine wp_region_any hm (wpAny_facts (F := F) (w0 := w0) (a0 := a0) (fun i o ho => (hall i o ho).1) (dst_inj l h2) (fun i o d ho hd => (hall i o ho).2 d hd) mono (StepsH.steps _ _ steps) (fun i o ho e he hb => ?_) (fun a w inv => ?_) _ _ _ _ ?_ ?_)
  · have := h3 i (List.getElem?_eq_some_iff.1 ho).1
    rw [ho] at this
    simp only [Option.all_some, Array.all_eq_true_iff_forall_mem] at this
    have := this e he
    simpa [hb] using this
  · rw [act_of (l := dsts l) inv.tsize inv.defers inv.same]
    refine fin (fun d => a.tmps.getD d undef) w inv.below fun i d hid => ?_
    obtain ⟨o, ho, hd⟩ := Option.bind_eq_some_iff.1 hid
    exact inv.facts i o d ho hd (by
      have := (List.getElem?_eq_some_iff.1 ho).1
      simp [this])
  · exact ⟨(Below.refl _ _).drew, by simp, fun i o d _ _ hl => by simp [Array.getD] at hl, fun _ _ => rfl, rfl, rfl⟩
  · simp
end Go.Proofs.YtajnhkkiddeegaaGreat
namespace Go.Proofs.YtajnhkkiddeegaaGreat
open Go.RowKit Go.Sort
-- left out in this seat
end Go.Proofs.YtajnhkkiddeegaaGreat
namespace Go.Proofs.YtajnhkkiddeegaaGreat
open Go.RowKit Go.Sort
theorem within_any (n l h : Int) (w : World) : Calls Tryz.prog 124 #[.int .i64 n, .int .i64 l, .int .i64 h] w (Is (.bool (inB n l h)) w) := by
  go_enter Tryz.func124, Tryz.ntmps124
  go_wp2
  all_goals (go_ret; exact ⟨ret_bool (by simp [inB, *]; try omega), rfl⟩)
def szB (n : Int) : Bool := inB n 2 20 && decide (n % 2 = 0)
theorem szB_iff {n : Int} : szB n = true ↔ 2 ≤ n ∧ n ≤ 20 ∧ n % 2 = 0 := by simp [szB, inB_iff, and_assoc]
theorem isSize_any (n : Int) (w : World) : Calls Tryz.prog 144 #[.int .i64 n] w (Is (.bool (szB n)) w) := by
  cases hA : inB n 2 20 with
  | false =>
    go_enter Tryz.func144, Tryz.ntmps144
    go_wp2_with (go_at_call 124; refine (within_any _ _ _ _).mono ?_; rintro e w' ⟨rfl, rfl⟩)
    go_ret
    exact ⟨ret_bool (by simp [szB, hA]), rfl⟩
  | true =>
    obtain ⟨h1, h2⟩ := inB_iff.1 hA
    go_enter Tryz.func144, Tryz.ntmps144
    go_wp2_with (go_at_call 124; refine (within_any _ _ _ _).mono ?_; rintro e w' ⟨rfl, rfl⟩)
    go_ret
    exact ⟨ret_bool (by rw [Bool.eq_iff_iff]; simp [szB, hA]), rfl⟩
theorem lengthE_any (A : Option Addr) (m c : Nat) (w : World) (_hm : m ≤ 9223372036854775807) : Calls Tryz.prog 72 #[.slice A m c] w (Is (.int .i64 m) w) := by
  go_enter Tryz.func72, Tryz.ntmps72
  go_wp2
  go_ret
  exact ⟨rfl, rfl⟩
def cmpI (a b : Int) : Int := if a < b then -1 else if b < a then 1 else 0
/-- A function value that is called. -/
def Enters (f : FuncId) : Prop := ∀ args w, (callFunc f args).run Tryz.prog w = .ok (.enter f args) w
theorem closE_any (f : FuncId) (caps : Array Value) (bx : Nat) (a b : Int) (r : Bool) (w : World) (he : Enters f) (hc : w.cell? ⟨bx, 0, none⟩ = some (.func (.func f) #[] caps))
    (hf : ∀ w', Below w.heap.size w w' → Calls Tryz.prog f (#[.agg #[.int .i64 a, .int .i64 b]] ++ caps) w' (Ret (.bool r) w')) :
    Calls Tryz.prog 147 #[.agg #[.int .i64 a, .int .i64 b], .pointer (some ⟨bx, 0, none⟩)] w (Ret (.bool (!r)) w) := by
  have hbx : bx < w.heap.size := World.block_lt_of_cell? w _ hc
  have hF := Lib.hid hf
  have he1 := he
  unfold Enters at he1
  clear hf he
  go_enter Tryz.func147, Tryz.ntmps147
  go_wp2_with fail
  refine (hF.out _ (by go_grown)).mono ?_
  rintro e w1 ⟨rfl, hb1⟩
  go_wp2_with fail
  go_ret
  exact ⟨rfl, (by go_grown : Below _ _ (w.alloc _)).thenB (by simp) hb1⟩
noncomputable def fstI (q : Nat → Bool) (m : Nat) : Int := open Classical in if h : ∃ j, j < m ∧ q j = true ∧ ∀ i, i < j → q i = false then ((Classical.choose h : Nat) : Int) else -1
theorem fstI_at {q : Nat → Bool} {m k : Nat} (hk : k < m) (hq : q k = true) (h : ∀ j, j < k → q j = false) : fstI q m = k := by
  have hex : ∃ j, j < m ∧ q j = true ∧ ∀ i, i < j → q i = false := ⟨k, hk, hq, h⟩
  have hc := Classical.choose_spec hex
  rw [fstI, dif_pos hex]
  have : ¬ Classical.choose hex < k := fun hlt => by rw [h _ hlt] at hc; simp at hc
  have : ¬ k < Classical.choose hex := fun hlt => by have := hc.2.2 k hlt; rw [hq] at this; simp at this
  omega
theorem fstI_none {q : Nat → Bool} {m : Nat} (h : ∀ j, j < m → q j = false) : fstI q m = -1 := by
  rw [fstI, dif_neg]
  rintro ⟨j, hj, hq, _⟩
  rw [h j hj] at hq; simp at hq
theorem fstI_cases (q : Nat → Bool) (m : Nat) : (fstI q m = -1 ∧ ∀ j, j < m → q j = false) ∨ (0 ≤ fstI q m ∧ ∃ j, j < m ∧ q j = true) := by
  by_cases h : ∀ j, j < m → q j = false
  · exact .inl ⟨fstI_none h, h⟩
  · right
    have : ∃ j, j < m ∧ q j = true := by
      refine Classical.byContradiction fun hc => h fun j hj => ?_
      cases hq : q j with
      | false => rfl
      | true => exact absurd ⟨j, hj, hq⟩ hc
    obtain ⟨j, hj, hq⟩ := this
    refine ⟨?_, j, hj, hq⟩
    have key : ∀ n, ∀ j, j ≤ n → j < m → q j = true → 0 ≤ fstI q m := by
      intro n
      induction n with
      | zero => intro j h0 hj hq; (obtain rfl : j = 0 := (by omega)); rw [fstI_at hj hq (fun i hi => absurd hi (by omega))]; exact Int.le_refl _
      | succ n ih =>
        intro j hjn hj hq
        by_cases hx : ∃ i, i < j ∧ q i = true
        · obtain ⟨i, hi, hqi⟩ := hx; exact ih i (by omega) (by omega) hqi
        · rw [fstI_at hj hq (fun i hi => by
            cases h : q i with
            | false => rfl
            | true => exact absurd ⟨i, hi, h⟩ hx)]; omega
    exact key j j (Nat.le_refl _) hj hq
theorem indexFuncE_any (f : FuncId) (caps : Array Value) (bx : Nat) (r : Nat → Bool) (b o m c : Nat) (es : List (Int × Int)) (w : World) (h : Eds w b o m es) (hm : m ≤ 1048576) (he : Enters f) (hc : w.cell? ⟨bx, 0, none⟩ = some (.func (.func f) #[] caps))
    (hf : ∀ j, j < m → ∀ w', Below w.heap.size w w' → Calls Tryz.prog f (#[.agg #[.int .i64 (ea es j), .int .i64 (eb es j)]] ++ caps) w' (Ret (.bool (r j)) w')) :
    Calls Tryz.prog 156 #[.slice (some ⟨b, o, none⟩) m c, .func (.func 147) #[] #[.pointer (some ⟨bx, 0, none⟩)]] w (Ret (.int .i64 (fstI (fun j => !(r j)) m)) w) := by
  have hbx : bx < w.heap.size := World.block_lt_of_cell? w _ hc
  have hF := Lib.hid hf
  have hE := Lib.hid he
  have hC := Lib.hid hc
  clear hf he hc
  go_enter Tryz.func156, Tryz.ntmps156
  go_wp2_with fail
  go_loopw [8] (fun i wr => ∃ k : Nat, k ≤ m ∧ i = .int .i64 k ∧ Hid (∀ j, j < k → (!(r j)) = false) ∧ Below w.heap.size w wr) (fun i _ => m - (intOf i).toNat)
  case atStart => exact ⟨0, Nat.zero_le _, rfl, fun j hj => by omega, Below.refl _ _⟩
  case round =>
    obtain ⟨k, hk, rfl, HP, hbw⟩ := hrel
    by_cases hlt : k < m
    · have E := h.below hbw
      have e1 := E.ca k hlt
      have e2 := E.cb k hlt
      cases hq : r k with
      | true =>
        have HP' : Hid (∀ j, j < k + 1 → (!(r j)) = false) := fun j hj => by
          by_cases hjk : j < k
          · exact HP.out j hjk
          · obtain rfl : j = k := by omega
            rw [hq]; rfl
        clear E
        go_wp2_with fail
        refine (closE_any f caps bx _ _ (r k) _ hE.out ((hbw.cell (p := ⟨bx, 0, none⟩) hbx).trans hC.out) (fun w' hw' => hF.out k hlt w' (hbw.andB hw'))).mono ?_
        rintro e w2 ⟨rfl, hb2⟩
        rw [hq]
        go_wp2_with fail
        go_roundw
        case rel => exact ⟨k + 1, by omega, by go_num, HP', hbw.andB hb2⟩
        case measure => simp [intOf]; omega
      | false =>
        clear E
        go_wp2_with fail
        refine (closE_any f caps bx _ _ (r k) _ hE.out ((hbw.cell (p := ⟨bx, 0, none⟩) hbx).trans hC.out) (fun w' hw' => hF.out k hlt w' (hbw.andB hw'))).mono ?_
        rintro e w2 ⟨rfl, hb2⟩
        rw [hq]
        go_wp2_with fail
        go_ret
        exact ⟨ret_int (fstI_at hlt (by rw [hq]; rfl) HP.out).symm, hbw.andB hb2⟩
    · go_wp2_with fail
      go_ret
      exact ⟨ret_int (fstI_none fun j hj => HP.out j (by omega)).symm, hbw⟩
theorem areAllE_any (f : FuncId) (caps : Array Value) (r : Nat → Bool) (b o m c : Nat) (es : List (Int × Int)) (w : World) (h : Eds w b o m es) (hm : m ≤ 1048576) (he : Enters f)
    (hf : ∀ j, j < m → ∀ w', Below w.heap.size w w' → Calls Tryz.prog f (#[.agg #[.int .i64 (ea es j), .int .i64 (eb es j)]] ++ caps) w' (Ret (.bool (r j)) w')) :
    Calls Tryz.prog 128 #[.slice (some ⟨b, o, none⟩) m c, .func (.func f) #[] caps] w (Ret (.bool (allB m r)) w) := by
  have hF := Lib.hid hf
  have hE := Lib.hid he
  have hx := fstI_cases (fun j => !(r j)) m
  have hQ : ∃ t : Bool, allB m r = !t ∧ decide (0 ≤ fstI (fun j => !(r j)) m) = t := by
    rcases hx with ⟨h1, h2⟩ | ⟨h1, j, h2, h3⟩
    · exact ⟨false, B_true (fun j hj => by simpa using h2 j hj), by rw [h1]; rfl⟩
    · exact ⟨true, B_false (fun hh => by rw [hh j h2] at h3; simp at h3), by simp [h1]⟩
  obtain ⟨t, hQ1, hQ2⟩ := hQ
  have HQ := Lib.hid hQ1
  clear hf he hx hQ1
  go_enter Tryz.func128, Tryz.ntmps128
  go_wp2_with fail
  have hin : Calls Tryz.prog 146 #[.slice (some ⟨b, o, none⟩) m c, .func (.func 147) #[] #[.pointer (some ⟨w.heap.size, 0, none⟩)]] (w.alloc (.cells #[.func (.func f) #[] caps] 128)) (Ret (.bool t) (w.alloc (.cells #[.func (.func f) #[] caps] 128))) := by
    go_enter Tryz.func146, Tryz.ntmps146
    go_wp2_with fail
    refine (indexFuncE_any f caps w.heap.size r b o m c es _ (h.alloc _) hm hE.out (by simp) (fun j hj w' hw' => hF.out j hj w' ((by go_grown : Below _ _ (w.alloc _)).thenB (by simp) hw'))).mono ?_
    rintro e w2 ⟨rfl, hb2⟩
    go_wp2_with fail
    go_ret
    exact ⟨rfl, hb2⟩
  refine hin.mono ?_
  rintro e w2 ⟨rfl, hb2⟩
  go_wp2_with fail
  go_ret
  exact ⟨ret_bool HQ.out.symm, (by go_grown : Below _ _ (w.alloc _)).thenB (by simp) hb2⟩
theorem enE1 : Enters 129 := fun args w => by kernel_rfl
theorem enE2 : Enters 145 := fun args w => by kernel_rfl
theorem enE3 : Enters 150 := fun args w => by kernel_rfl
def cmp2 (a b c d : Int) : Int := if cmpI a c = 0 then cmpI b d else cmpI a c
theorem cmp2_lt (a b c d : Int) : cmp2 a b c d < 0 ↔ befB a b c d = true := by
  simp only [cmp2, cmpI, befB_iff]
  repeat' split
  all_goals omega
theorem sCompare2_any (p1 p2 o1 o2 : Nat) (c1 c2 : Nat) (a b c d : Int) (w : World) (h1 : w.cell? ⟨p1, o1, none⟩ = some (.int .i64 a)) (h2 : w.cell? ⟨p1, o1 + 1, none⟩ = some (.int .i64 b)) (h3 : w.cell? ⟨p2, o2, none⟩ = some (.int .i64 c)) (h4 : w.cell? ⟨p2, o2 + 1, none⟩ = some (.int .i64 d)) :
    Calls Tryz.prog 148 #[.slice (some ⟨p1, o1, none⟩) 2 c1, .slice (some ⟨p2, o2, none⟩) 2 c2] w (Is (.int .i64 (cmp2 a b c d)) w) := by
  go_enter Tryz.func148, Tryz.ntmps148
  go_wp2_with fail
  go_rounds 3
  all_goals (go_ret; exact ⟨ret_int (by simp only [cmp2, cmpI]; repeat' split <;> omega), rfl⟩)
theorem compareE_any (a b c d : Int) (w : World) : Calls Tryz.prog 131 #[.agg #[.int .i64 a, .int .i64 b], .agg #[.int .i64 c, .int .i64 d]] w (Ret (.int .i64 (cmp2 a b c d)) w) := by
  have KC := cell_rg
  go_enter Tryz.func131, Tryz.ntmps131
  go_wp2_with fail
  (refine wp_region_quiet_below (by kernel_rfl) (by kernel_rfl) ?_
   repeat (any_goals (go_big_quiet_step (first | (go_at_call 148; exact Is.rg (sCompare2_any _ _ _ _ _ _ a b c d _ (by rw [cell_rg _ _ _ _ _ (by simp; omega)]; simp) (by rw [cell_rg _ _ _ _ _ (by simp; omega)]; simp) (by rw [cell_rg _ _ _ _ _ (by simp)]; simp) (by rw [cell_rg _ _ _ _ _ (by simp)]; simp))))))
   all_goals (refine wpQuiet_nil ?_; intro wq1 hq1; replace hq1 := below_of_rg hq1))
  go_wp2_with fail
  go_ret
  exact ⟨rfl, (by go_grown : Below _ _ ((w.alloc _).alloc _)).thenB (by simp; omega) hq1⟩
def okE (n a b : Int) : Bool := inB a 0 (n - 1) && inB b 0 (n - 1) && (a != b)
theorem areEdges1_any (n a b : Int) (bx : Nat) (w : World) (h0 : 0 ≤ n) (h1 : n ≤ 20) (hc : w.cell? ⟨bx, 0, none⟩ = some (.int .i64 n)) : Calls Tryz.prog 145 #[.agg #[.int .i64 a, .int .i64 b], .pointer (some ⟨bx, 0, none⟩)] w (Ret (.bool (okE n a b)) w) := by
  have KC := cell_rg
  have hbx : bx < w.heap.size := World.block_lt_of_cell? w _ hc
  have hwn : IntKind.i64.wrap (n - 1) = n - 1 := IntWalk.i64_in _ (by omega)
  cases hA : inB a 0 (n - 1) with
  | false =>
    have hr : okE n a b = false := by simp [okE, hA]
    have HR := Lib.hid hr
    clear hr
    go_enter Tryz.func145, Tryz.ntmps145
    go_wp2_with (go_at_call 124; refine (within_any _ _ _ _).mono ?_; rintro e w' ⟨rfl, rfl⟩)
    go_ret
    exact ⟨ret_bool HR.out.symm, by go_grown⟩
  | true =>
    cases hA2 : inB b 0 (n - 1) with
    | false =>
      have hr : okE n a b = false := by simp [okE, hA, hA2]
      have HR := Lib.hid hr
      clear hr
      go_enter Tryz.func145, Tryz.ntmps145
      go_wp2_with (go_at_call 124; refine (within_any _ _ _ _).mono ?_; rintro e w' ⟨rfl, rfl⟩)
      go_ret
      exact ⟨ret_bool HR.out.symm, by go_grown⟩
    | true =>
      have hr : okE n a b = (a != b) := by simp [okE, hA, hA2]
      have HR := Lib.hid hr
      clear hr
      go_enter Tryz.func145, Tryz.ntmps145
      go_wp2_with (go_at_call 124; refine (within_any _ _ _ _).mono ?_; rintro e w' ⟨rfl, rfl⟩)
      go_ret
      exact ⟨ret_bool HR.out.symm, by go_grown⟩
theorem isGraph1_any (a b : Int) (w : World) : Calls Tryz.prog 129 #[.agg #[.int .i64 a, .int .i64 b]] w (Ret (.bool (decide (a < b))) w) := by
  have KC := cell_rg
  go_enter Tryz.func129, Tryz.ntmps129
  go_wp2_with fail
  go_ret
  exact ⟨rfl, by go_grown⟩
end Go.Proofs.YtajnhkkiddeegaaGreat
namespace Go.Proofs.YtajnhkkiddeegaaGreat
open Go.RowKit Go.Sort
/-- A slice of whole numbers in memory. -/
structure Ints (w : World) (b o m : Nat) (g : Nat → Int) : Prop where
  blk : b < w.heap.size
  c : ∀ j, j < m → w.cell? ⟨b, o + j, none⟩ = some (.int .i64 (g j))
theorem Ints.below {w w' : World} {b o m : Nat} {g : Nat → Int} (h : Ints w b o m g) (hb : Below w.heap.size w w') : Ints w' b o m g :=
  ⟨Nat.lt_of_lt_of_le h.blk hb.size, fun j hj => (hb.cell (p := ⟨b, o + j, none⟩) h.blk).trans (h.c j hj)⟩
theorem Ints.alloc {w : World} {b o m : Nat} {g : Nat → Int} (h : Ints w b o m g) (x : Obj) : Ints (w.alloc x) b o m g :=
  h.below ((Below.refl _ _).alloc (Nat.le_refl _) _)
theorem Ints.of_row {w : World} {b m : Nat} {t : TypeId} {g : Nat → Int} (h : w.rowIs b t m (fun v => .int .i64 (g v))) : Ints w b 0 m g :=
  ⟨h.lt, fun j hj => by rw [Nat.zero_add]; exact h.cell hj⟩
theorem closI_any (f : FuncId) (caps : Array Value) (bx : Nat) (a : Int) (r : Bool) (w : World) (he : Enters f) (hc : w.cell? ⟨bx, 0, none⟩ = some (.func (.func f) #[] caps))
    (hf : ∀ w', Below w.heap.size w w' → Calls Tryz.prog f (#[.int .i64 a] ++ caps) w' (Ret (.bool r) w')) :
    Calls Tryz.prog 159 #[.int .i64 a, .pointer (some ⟨bx, 0, none⟩)] w (Ret (.bool (!r)) w) := by
  have hbx : bx < w.heap.size := World.block_lt_of_cell? w _ hc
  have hF := Lib.hid hf
  have he1 := he
  unfold Enters at he1
  clear hf he
  go_enter Tryz.func159, Tryz.ntmps159
  go_wp2_with fail
  refine (hF.out _ (by go_grown)).mono ?_
  rintro e w1 ⟨rfl, hb1⟩
  go_wp2_with fail
  go_ret
  exact ⟨rfl, hb1⟩
theorem indexFuncI_any (f : FuncId) (caps : Array Value) (bx : Nat) (r : Nat → Bool) (b o m c : Nat) (g : Nat → Int) (w : World) (h : Ints w b o m g) (hm : m ≤ 1048576) (he : Enters f) (hc : w.cell? ⟨bx, 0, none⟩ = some (.func (.func f) #[] caps))
    (hf : ∀ j, j < m → ∀ w', Below w.heap.size w w' → Calls Tryz.prog f (#[.int .i64 (g j)] ++ caps) w' (Ret (.bool (r j)) w')) :
    Calls Tryz.prog 171 #[.slice (some ⟨b, o, none⟩) m c, .func (.func 159) #[] #[.pointer (some ⟨bx, 0, none⟩)]] w (Ret (.int .i64 (fstI (fun j => !(r j)) m)) w) := by
  have hbx : bx < w.heap.size := World.block_lt_of_cell? w _ hc
  have hF := Lib.hid hf
  have hE := Lib.hid he
  have hC := Lib.hid hc
  clear hf he hc
  go_enter Tryz.func171, Tryz.ntmps171
  go_wp2_with fail
  go_loopw [8] (fun i wr => ∃ k : Nat, k ≤ m ∧ i = .int .i64 k ∧ Hid (∀ j, j < k → (!(r j)) = false) ∧ Below w.heap.size w wr) (fun i _ => m - (intOf i).toNat)
  case atStart => exact ⟨0, Nat.zero_le _, rfl, fun j hj => by omega, Below.refl _ _⟩
  case round =>
    obtain ⟨k, hk, rfl, HP, hbw⟩ := hrel
    by_cases hlt : k < m
    · have E := h.below hbw
      have e1 := E.c k hlt
      cases hq : r k with
      | true =>
        have HP' : Hid (∀ j, j < k + 1 → (!(r j)) = false) := fun j hj => by
          by_cases hjk : j < k
          · exact HP.out j hjk
          · obtain rfl : j = k := by omega
            rw [hq]; rfl
        clear E
        go_wp2_with fail
        refine (closI_any f caps bx _ (r k) _ hE.out ((hbw.cell (p := ⟨bx, 0, none⟩) hbx).trans hC.out) (fun w' hw' => hF.out k hlt w' (hbw.andB hw'))).mono ?_
        rintro e w2 ⟨rfl, hb2⟩
        rw [hq]
        go_wp2_with fail
        go_roundw
        case rel => exact ⟨k + 1, by omega, by go_num, HP', hbw.andB hb2⟩
        case measure => simp [intOf]; omega
      | false =>
        clear E
        go_wp2_with fail
        refine (closI_any f caps bx _ (r k) _ hE.out ((hbw.cell (p := ⟨bx, 0, none⟩) hbx).trans hC.out) (fun w' hw' => hF.out k hlt w' (hbw.andB hw'))).mono ?_
        rintro e w2 ⟨rfl, hb2⟩
        rw [hq]
        go_wp2_with fail
        go_ret
        exact ⟨ret_int (fstI_at hlt (by rw [hq]; rfl) HP.out).symm, hbw.andB hb2⟩
    · go_wp2_with fail
      go_ret
      exact ⟨ret_int (fstI_none fun j hj => HP.out j (by omega)).symm, hbw⟩
theorem areAllI_any (f : FuncId) (caps : Array Value) (r : Nat → Bool) (b o m c : Nat) (g : Nat → Int) (w : World) (h : Ints w b o m g) (hm : m ≤ 1048576) (he : Enters f)
    (hf : ∀ j, j < m → ∀ w', Below w.heap.size w w' → Calls Tryz.prog f (#[.int .i64 (g j)] ++ caps) w' (Ret (.bool (r j)) w')) :
    Calls Tryz.prog 149 #[.slice (some ⟨b, o, none⟩) m c, .func (.func f) #[] caps] w (Ret (.bool (allB m r)) w) := by
  have hF := Lib.hid hf
  have hE := Lib.hid he
  have hx := fstI_cases (fun j => !(r j)) m
  have hQ : ∃ t : Bool, allB m r = !t ∧ decide (0 ≤ fstI (fun j => !(r j)) m) = t := by
    rcases hx with ⟨h1, h2⟩ | ⟨h1, j, h2, h3⟩
    · exact ⟨false, B_true (fun j hj => by simpa using h2 j hj), by rw [h1]; rfl⟩
    · exact ⟨true, B_false (fun hh => by rw [hh j h2] at h3; simp at h3), by simp [h1]⟩
  obtain ⟨t, hQ1, hQ2⟩ := hQ
  have HQ := Lib.hid hQ1
  clear hf he hx hQ1
  go_enter Tryz.func149, Tryz.ntmps149
  go_wp2_with fail
  have hin : Calls Tryz.prog 158 #[.slice (some ⟨b, o, none⟩) m c, .func (.func 159) #[] #[.pointer (some ⟨w.heap.size, 0, none⟩)]] (w.alloc (.cells #[.func (.func f) #[] caps] 108)) (Ret (.bool t) (w.alloc (.cells #[.func (.func f) #[] caps] 108))) := by
    go_enter Tryz.func158, Tryz.ntmps158
    go_wp2_with fail
    refine (indexFuncI_any f caps w.heap.size r b o m c g _ (h.alloc _) hm hE.out (by simp) (fun j hj w' hw' => hF.out j hj w' ((by go_grown : Below _ _ (w.alloc _)).thenB (by simp) hw'))).mono ?_
    rintro e w2 ⟨rfl, hb2⟩
    go_wp2_with fail
    go_ret
    exact ⟨rfl, hb2⟩
  refine hin.mono ?_
  rintro e w2 ⟨rfl, hb2⟩
  go_wp2_with fail
  go_ret
  exact ⟨ret_bool HQ.out.symm, (by go_grown : Below _ _ (w.alloc _)).thenB (by simp) hb2⟩
theorem isCubic1_any (a : Int) (w : World) : Calls Tryz.prog 150 #[.int .i64 a] w (Is (.bool (a == 3)) w) := by
  go_enter Tryz.func150, Tryz.ntmps150
  go_wp2_with fail
  go_ret
  exact ⟨rfl, rfl⟩
theorem wf_B {n : Int} {m : Nat} {es : List (Int × Int)} (hl : es.length = m) (h1 : szB n = true) (h2 : (m : Int) = 3 * n / 2) : allB m (fun j => okE n (ea es j) (eb es j)) = B (WfP n es) := by
  obtain ⟨a, b, c⟩ := szB_iff.1 h1
  have : (∀ j, j < m → okE n (ea es j) (eb es j) = true) ↔ WfP n es := by
    simp only [okE, Bool.and_eq_true, inB_iff, WfP, hl]
    constructor
    · intro h; exact ⟨a, b, c, h2, fun j hj => by have := h j hj; simp at this; exact ⟨this.1.1.1, this.1.1.2, this.1.2.1, this.1.2.2, this.2⟩⟩
    · intro h j hj; have := h.2.2.2.2 j hj; exact ⟨⟨⟨this.1, this.2.1⟩, this.2.2.1, this.2.2.2.1⟩, by simpa using this.2.2.2.2⟩
  exact B_congr this
theorem areEdges_any (n : Int) (b o m c : Nat) (es : List (Int × Int)) (w : World) (h : Eds w b o m es) (hm : m ≤ 1048576) :
    Calls Tryz.prog 127 #[.int .i64 n, .slice (some ⟨b, o, none⟩) m c] w (Ret (.bool (B (WfP n es))) w) := by
  have KC := cell_rg
  cases hA : szB n with
  | false =>
    have hno : B (WfP n es) = false := B_false fun x => by have := szB_iff.2 ⟨x.1, x.2.1, x.2.2.1⟩; rw [hA] at this; simp at this
    have hS := fun W => (hA ▸ isSize_any n W : Calls Tryz.prog 144 #[.int .i64 n] W (Is (.bool false) W))
    have HR := Lib.hid hno
    clear hno
    go_enter Tryz.func127, Tryz.ntmps127
    go_wp2_with fail
    (refine wp_region_quiet_below (by kernel_rfl) (by kernel_rfl) ?_
     repeat (any_goals (go_big_quiet_step (first | (go_at_call 144; exact Is.rg (hS _)))))
     all_goals (refine wpQuiet_nil ?_; intro wq1 hq1; replace hq1 := below_of_rg hq1))
    go_wp2_with fail
    go_ret
    exact ⟨ret_bool HR.out.symm, (by go_grown : Below _ _ (w.alloc _)).thenB (by simp) hq1⟩
  | true =>
    obtain ⟨h1, h2, h3⟩ := szB_iff.1 hA
    have hS := fun W => (hA ▸ isSize_any n W : Calls Tryz.prog 144 #[.int .i64 n] W (Is (.bool true) W))
    have x1 : IntKind.i64.wrap (3 * n) = 3 * n := IntWalk.i64_in _ (by omega)
    have x2 : (3 * n).tdiv 2 = 3 * n / 2 := by rw [Int.tdiv_eq_ediv_of_nonneg (by omega)]
    have x3 : IntKind.i64.wrap (3 * n / 2) = 3 * n / 2 := IntWalk.i64_in _ (by omega)
    clear h3
    cases hB : ((m : Int) == 3 * n / 2) with
    | false =>
      have hno : B (WfP n es) = false := B_false fun x => by have := x.2.2.2.1; rw [h.len] at this; simp [this] at hB
      have HR := Lib.hid hno
      clear hno
      go_enter Tryz.func127, Tryz.ntmps127
      go_wp2_with fail
      (refine wp_region_quiet_below (by kernel_rfl) (by kernel_rfl) ?_
       repeat (any_goals (go_big_quiet_step (first | (go_at_call 144; exact Is.rg (hS _)) | (go_at_call 72; exact Is.rg (lengthE_any _ _ _ _ (by omega))))))
       all_goals (refine wpQuiet_nil ?_; intro wq1 hq1; replace hq1 := below_of_rg hq1))
      go_wp2_with fail
      go_ret
      exact ⟨ret_bool HR.out.symm, (by go_grown : Below _ _ (w.alloc _)).thenB (by simp) hq1⟩
    | true =>
      have HR := Lib.hid (wf_B h.len hA (by simpa using hB))
      have hAA : ∀ d os, Calls Tryz.prog 128 #[.slice (some ⟨b, o, none⟩) m c, .func (.func 145) #[] #[.pointer (some ⟨w.heap.size, 0, none⟩)]] (grow (redrawn (w.alloc (.cells #[.int .i64 n] 2)) d) os) fun e w'' => e = .returned (.bool (allB m (fun j => okE n (ea es j) (eb es j)))) ∧ ∃ p : Regrown, w'' = grow (redrawn (w.alloc (.cells #[.int .i64 n] 2)) p.d) p.os := fun d os =>
        Ret.rg (areAllE_any 145 #[.pointer (some ⟨w.heap.size, 0, none⟩)] (fun j => okE n (ea es j) (eb es j)) b o m c es _ ((h.alloc _).below (below_regrown _ _ _)) hm enE2 (fun j _ w' hw' =>
          areEdges1_any n _ _ _ _ (by omega) h2 (by rw [(bcell hw').1 _ _ (by simp [grow, redrawn]; omega), cell_rg _ _ _ _ _ (by simp)]; simp)))
      go_enter Tryz.func127, Tryz.ntmps127
      go_wp2_with fail
      (refine wp_region_quiet_below (by kernel_rfl) (by kernel_rfl) ?_
       repeat (any_goals (go_big_quiet_step (first | (go_at_call 144; exact Is.rg (hS _)) | (go_at_call 72; exact Is.rg (lengthE_any _ _ _ _ (by omega))) | (go_at_call 128; exact hAA _ _))))
       all_goals (refine wpQuiet_nil ?_; intro wq1 hq1; replace hq1 := below_of_rg hq1))
      go_wp2_with fail
      go_ret
      exact ⟨ret_bool HR.out, (by go_grown : Below _ _ (w.alloc _)).thenB (by simp) hq1⟩
set_option maxHeartbeats 400000 in
theorem isSortedE_any (b o m c : Nat) (es : List (Int × Int)) (w : World) (h : Eds w b o m es) (hm : m ≤ 1048576) :
    Calls Tryz.prog 130 #[.slice (some ⟨b, o, none⟩) m c, .func (.func 131) #[] #[]] w (Ret (.bool (B (SortP es))) w) := by
  have KC := cell_rg
  have hl := Lib.hid h.len
  cases m with
  | zero =>
    go_enter Tryz.func130, Tryz.ntmps130
    go_wp2_with fail
    go_rounds 1
    go_ret
    exact ⟨ret_bool (B_true fun j hj => by rw [hl.out] at hj; omega).symm, Below.refl _ _⟩
  | succ M =>
    go_enter Tryz.func130, Tryz.ntmps130
    go_wp2_with fail
    go_loopw [5] (fun i wr => ∃ k : Nat, k ≤ M ∧ i = .int .i64 k ∧ Hid (∀ j, k < j → j ≤ M → befB (ea es j) (eb es j) (ea es (j - 1)) (eb es (j - 1)) = false) ∧ Below w.heap.size w wr) (fun i _ => (intOf i).toNat)
    case atStart => exact ⟨M, Nat.le_refl _, by go_num, fun j hj => by omega, Below.refl _ _⟩
    case round =>
      obtain ⟨k, hk, rfl, HP, hbw⟩ := hrel
      cases k with
      | zero =>
        go_wp2_with fail
        go_ret
        refine ⟨ret_bool (B_true fun j hj => ?_).symm, hbw⟩
        rw [hl.out] at hj
        exact befB_not.1 (HP.out (j + 1) (by omega) (by omega))
      | succ k =>
        have E := h.below hbw
        have e1 := E.ca k (by omega)
        have e2 := E.cb k (by omega)
        have e3 := E.ca (k + 1) (by omega)
        have e4 := E.cb (k + 1) (by omega)
        have eb1 := E.blk
        have hw1 : IntKind.i64.wrap (k : Int) = k := IntWalk.i64_in _ (by omega)
        clear E
        cases hq : befB (ea es (k + 1)) (eb es (k + 1)) (ea es k) (eb es k) with
        | true =>
          have hc : cmp2 (ea es (k + 1)) (eb es (k + 1)) (ea es k) (eb es k) < 0 := (cmp2_lt _ _ _ _).2 hq
          go_wp2_with fail
          (refine wp_region_quiet_below (by kernel_rfl) (by kernel_rfl) ?_
           repeat (any_goals (go_big_quiet_step (first | (go_at_call 131; exact Ret.rg (compareE_any _ _ _ _ _)))))
           all_goals (refine wpQuiet_nil ?_; intro wq1 hq1; replace hq1 := below_of_rg hq1))
          go_wp2_with fail
          go_ret
          exact ⟨ret_bool (B_false fun x => x k (by rw [hl.out]; omega) (befB_iff.1 hq)).symm, hbw.andB hq1⟩
        | false =>
          have hc : ¬ cmp2 (ea es (k + 1)) (eb es (k + 1)) (ea es k) (eb es k) < 0 := fun x => by rw [(cmp2_lt _ _ _ _).1 x] at hq; simp at hq
          have HP' : Hid (∀ j, k < j → j ≤ M → befB (ea es j) (eb es j) (ea es (j - 1)) (eb es (j - 1)) = false) := fun j hj hj2 => by
            by_cases hjk : k + 1 < j
            · exact HP.out j hjk hj2
            · obtain rfl : j = k + 1 := by omega
              simpa using hq
          go_wp2_with fail
          (refine wp_region_quiet_below (by kernel_rfl) (by kernel_rfl) ?_
           repeat (any_goals (go_big_quiet_step (first | (go_at_call 131; exact Ret.rg (compareE_any _ _ _ _ _)))))
           all_goals (refine wpQuiet_nil ?_; intro wq1 hq1; replace hq1 := below_of_rg hq1))
          go_wp2_with fail
          go_roundw
          case rel => exact ⟨k, by omega, rfl, HP', hbw.andB hq1⟩
          case measure => simp [intOf]
theorem inf3 : (Tryz.prog.info? 3).map (fun i => (i.zero, i.size, i.bytes)) = some (some (.int .i64 0), 1, 8) := by kernel_rfl
set_option maxHeartbeats 400000 in
theorem isCubic_any (N : Nat) (b o m c : Nat) (es : List (Int × Int)) (w : World) (h : Eds w b o m es) (hm : m ≤ 1048576) (hwf : WfP N es) :
    Calls Tryz.prog 132 #[.int .i64 N, .slice (some ⟨b, o, none⟩) m c] w (Ret (.bool (B (CubP N es))) w) := by
  have hN : N ≤ 20 := by have := hwf.2.1; omega
  have hmk := run_make_row' (P := Tryz.prog) 139 3 (.int .i64 0) 8 Tryz.underlying139 inf3 rfl .i64 .i64 N (by omega) (by omega)
  have hl := Lib.hid h.len
  have HWF : Hid (WfP N es) := hwf
  clear hwf
  go_enter Tryz.func132, Tryz.ntmps132
  go_wp2_with fail
  go_loopw [12] (fun i wr => ∃ k : Nat, k ≤ m ∧ i = .int .i64 k ∧ wr.rowIs w.heap.size 3 N (fun v => .int .i64 (degTo es k v)) ∧ Below w.heap.size w wr) (fun i _ => m - (intOf i).toNat)
  case atStart => exact ⟨0, Nat.zero_le _, rfl, (World.rowIs_made w _ N _).congr (fun _ _ => rfl), (Below.refl _ _).alloc (Nat.le_refl _) _⟩
  case round =>
    obtain ⟨k, hk, rfl, hrow0, hbw⟩ := hrel
    by_cases hlt : k < m
    · have hw4 := HWF.out.2.2.2.2 k (by rw [hl.out]; exact hlt)
      obtain ⟨x, hx⟩ : ∃ x : Nat, ea es k = (x : Int) := ⟨(ea es k).toNat, by omega⟩
      obtain ⟨y, hy⟩ : ∃ y : Nat, eb es k = (y : Int) := ⟨(eb es k).toNat, by omega⟩
      have hxN : x < N := by omega
      have hyN : y < N := by omega
      have hxy : x ≠ y := by omega
      have E := h.upto h.blk hbw
      have e1 := E.ca k hlt
      have e2 := E.cb k hlt
      have d1 := degTo_bound es k x
      have d2 := degTo_bound es k y
      have hsz := hrow0.lt
      have c1 := hrow0.cell hxN
      have f1 := hrow0.frozen x
      have f2 := hrow0.frozen y
      have hrow1 := hrow0.set x (.int .i64 (degTo es k x + 1))
      have c2 := hrow1.cell hyN
      have hrow2 := hrow1.set y (.int .i64 (degTo es k y + 1))
      rw [if_neg (Ne.symm hxy)] at c2
      clear hw4 hl E hrow0 hrow1
      go_wp2_with fail
      go_roundw
      case rel =>
        refine ⟨k + 1, by omega, by go_num, (hrow2.congr ?_).alloc _, ((hbw.setCell (Nat.le_refl _) _).setCell (Nat.le_refl _) _).alloc (by simp; omega) _⟩
        intro v hv
        simp only [degTo, hx, hy]
        by_cases h1 : v = y
        · subst h1
          rw [if_pos rfl, if_neg (by omega), if_pos rfl]; go_num
        · rw [if_neg h1, if_neg (show ¬ (y : Int) = (v : Int) by omega)]
          by_cases h2 : v = x
          · subst h2
            rw [if_pos rfl, if_pos rfl]; go_num
          · rw [if_neg h2, if_neg (show ¬ (x : Int) = (v : Int) by omega)]; go_num
      case measure => simp [intOf]; omega
    · obtain rfl : k = m := by omega
      go_wp2_with fail
      refine (areAllI_any 150 #[] (fun j => degTo es k j == 3) _ 0 N N (fun v => degTo es k v) wr (Ints.of_row hrow0) (by omega) enE3 (fun j _ w' _ => Is.ret (isCubic1_any _ _))).mono ?_
      rintro e w2 ⟨rfl, hb2⟩
      go_wp2_with fail
      go_ret
      refine ⟨ret_bool ?_, hbw.andB hb2⟩
      refine B_congr ?_
      have : (∀ j : Nat, j < N → (degTo es k j == 3) = true) ↔ CubP N es := by
        unfold CubP
        rw [hl.out]
        constructor
        · intro hh v h0 h1
          obtain ⟨u, rfl⟩ := Int.eq_ofNat_of_zero_le h0
          simpa using hh u (by omega)
        · intro hh j hj
          simpa using hh j (by omega) (by omega)
      exact this
theorem implIs_any (n : Int) (b o m c : Nat) (es : List (Int × Int)) (w : World) (h : Eds w b o m es) (hm : m ≤ 1048576) :
    Calls Tryz.prog 86 #[.agg #[.int .i64 n, .slice (some ⟨b, o, none⟩) m c]] w (Ret (.bool (B (IsG n es))) w) := by
  cases hA : B (WfP n es) with
  | false =>
    have HR := Lib.hid (isG_no1 (B_not.1 hA))
    go_enter Tryz.func86, Tryz.ntmps86
    go_wp2_with fail
    refine (areEdges_any _ _ _ _ _ es _ (h.alloc _) hm).mono ?_
    rintro e w1 ⟨rfl, hb1⟩
    go_wp2_with fail
    go_ret
    exact ⟨ret_bool HR.out.symm, (by go_grown : Below _ _ (w.alloc _)).thenB (by simp) hb1⟩
  | true =>
    cases hC : allB m (fun j => decide (ea es j < eb es j)) with
    | false =>
      have HR := Lib.hid (B_false (p := IsG n es) fun x => allB_not.1 hC fun j hj => by
        have h1 := x.2.2.1 j (by rw [h.len]; exact hj)
        have h2 := (x.1.2.2.2.2 j (by rw [h.len]; exact hj)).2.2.2.2
        simp; omega)
      go_enter Tryz.func86, Tryz.ntmps86
      go_wp2_with fail
      refine (areEdges_any _ _ _ _ _ es _ (h.alloc _) hm).mono ?_
      rintro e w1 ⟨rfl, hb1⟩
      have hc1 := (bcell hb1).1
      have s1 := bsz hb1 w.heap.size (by simp)
      have hbA := (by go_grown : Below w.heap.size w (w.alloc (.cells #[.int .i64 n, .slice (some ⟨b, o, none⟩) m c] 26))).thenB (by simp) hb1
      go_wp2_with fail
      refine (areAllE_any 129 #[] (fun j => decide (ea es j < eb es j)) _ _ _ _ es _ (h.below hbA) hm enE1 (fun j _ w' _ => isGraph1_any _ _ _)).mono ?_
      rintro e w2 ⟨rfl, hb2⟩
      go_wp2_with fail
      go_ret
      exact ⟨ret_bool HR.out.symm, hbA.andB hb2⟩
    | true =>
      have hN : ∃ N : Nat, n = N := ⟨n.toNat, by have := (B_iff.1 hA).1; omega⟩
      obtain ⟨N, rfl⟩ := hN
      have HC := Lib.hid hC
      have HA := Lib.hid (B_iff.1 hA)
      have hres : B (IsG N es) = (B (SortP es) && B (CubP N es)) := by
        have : IsG N es ↔ SortP es ∧ CubP N es := ⟨fun x => ⟨x.2.2.2, x.2.1⟩, fun x => ⟨HA.out, x.2, fun j hj => by have := allB_iff.1 hC j (by rw [h.len] at hj; exact hj); simp at this; omega, x.1⟩⟩
        rw [B_congr this, B_and]
      have HR := Lib.hid hres
      clear hres
      cases hS : B (SortP es) with
      | false =>
        go_enter Tryz.func86, Tryz.ntmps86
        go_wp2_with fail
        refine (areEdges_any _ _ _ _ _ es _ (h.alloc _) hm).mono ?_
        rintro e w1 ⟨rfl, hb1⟩
        have hc1 := (bcell hb1).1
        have s1 := bsz hb1 w.heap.size (by simp)
        have hbA := (by go_grown : Below w.heap.size w (w.alloc (.cells #[.int .i64 N, .slice (some ⟨b, o, none⟩) m c] 26))).thenB (by simp) hb1
        go_wp2_with fail
        refine (areAllE_any 129 #[] (fun j => decide (ea es j < eb es j)) _ _ _ _ es _ (h.below hbA) hm enE1 (fun j _ w' _ => isGraph1_any _ _ _)).mono ?_
        rintro e w2 ⟨rfl, hb2⟩
        have hc2 := (bcell hb2).1
        go_wp2_with fail
        refine (isSortedE_any _ _ _ _ es _ (h.below (hbA.andB hb2)) hm).mono ?_
        rintro e w3 ⟨rfl, hb3⟩
        go_wp2_with fail
        go_ret
        exact ⟨ret_bool (by rw [HR.out, hS]; rfl), (hbA.andB hb2).andB hb3⟩
      | true =>
        go_enter Tryz.func86, Tryz.ntmps86
        go_wp2_with fail
        refine (areEdges_any _ _ _ _ _ es _ (h.alloc _) hm).mono ?_
        rintro e w1 ⟨rfl, hb1⟩
        have hc1 := (bcell hb1).1
        have s1 := bsz hb1 w.heap.size (by simp)
        have hbA := (by go_grown : Below w.heap.size w (w.alloc (.cells #[.int .i64 N, .slice (some ⟨b, o, none⟩) m c] 26))).thenB (by simp) hb1
        go_wp2_with fail
        refine (areAllE_any 129 #[] (fun j => decide (ea es j < eb es j)) _ _ _ _ es _ (h.below hbA) hm enE1 (fun j _ w' _ => isGraph1_any _ _ _)).mono ?_
        rintro e w2 ⟨rfl, hb2⟩
        have hc2 := (bcell hb2).1
        have s2 := bsz hb2 _ s1
        go_wp2_with fail
        refine (isSortedE_any _ _ _ _ es _ (h.below (hbA.andB hb2)) hm).mono ?_
        rintro e w3 ⟨rfl, hb3⟩
        have hc3 := (bcell hb3).1
        go_wp2_with fail
        refine (isCubic_any N _ _ _ _ es _ (h.below ((hbA.andB hb2).andB hb3)) hm HA.out).mono ?_
        rintro e w4 ⟨rfl, hb4⟩
        go_wp2_with fail
        go_ret
        exact ⟨ret_bool (by rw [HR.out, hS]; rfl), ((hbA.andB hb2).andB hb3).andB hb4⟩
end Go.Proofs.YtajnhkkiddeegaaGreat
namespace Go.Proofs.YtajnhkkiddeegaaGreat
open Go.RowKit Go.Sort
/-- A slice of whole numbers that came in: maybe nil. -/
def SrcI (w : World) (A : Option Addr) (m : Nat) (g : Nat → Int) : Prop := 0 < m → ∃ b o, A = some ⟨b, o, none⟩ ∧ Ints w b o m g
theorem SrcI.below {w w' : World} {A : Option Addr} {m : Nat} {g : Nat → Int} (h : SrcI w A m g) (hb : Below w.heap.size w w') : SrcI w' A m g :=
  fun hm => let ⟨b, o, e, he⟩ := h hm; ⟨b, o, e, he.below hb⟩
/-- The call returns a new slice of whole numbers. -/
def RetI (m : Nat) (f : Nat → Int) (w : World) (e : Ending) (w' : World) : Prop := ∃ g, e = .returned (.slice (some ⟨g, 0, none⟩) m m) ∧ w.heap.size ≤ g ∧ w'.rowIs g 2 m (fun v => .int .i64 (f v)) ∧ Below w.heap.size w w'
theorem Ints.upto {B : Nat} {w w' : World} {b o m : Nat} {g : Nat → Int} (h : Ints w b o m g) (hB : b < B) (hb : Below B w w') : Ints w' b o m g :=
  ⟨Nat.lt_of_lt_of_le h.blk hb.size, fun j hj => (hb.cell (p := ⟨b, o + j, none⟩) hB).trans (h.c j hj)⟩
end Go.Proofs.YtajnhkkiddeegaaGreat
