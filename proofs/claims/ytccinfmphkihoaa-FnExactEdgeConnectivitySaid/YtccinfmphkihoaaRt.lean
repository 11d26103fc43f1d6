import Derived.Test.YtccinfmphkihoaaFw
import Derived.Test.YtccinfmphkihoaaLd
import Derived.Test.YtccinfmphkihoaaFi
namespace Go.Proofs.Ytccinfmphkihoaa
open Go.RowKit Go.Sort
/-! ### The reference's rest of the edges -/
def atK (ls : Nat → Int) (l : Nat) : Nat → Nat
  | 0 => 0
  | k + 1 => if atK ls l k < l ∧ ls (atK ls l k) = (k : Int) then atK ls l k + 1 else atK ls l k
theorem SetP.lt {ls : Nat → Int} {l : Nat} {u : Int} (h : SetP ls l u) : ∀ {i j : Nat}, i < j → j < l → ls i < ls j := by
  intro i j hij hj
  induction j with
  | zero => omega
  | succ j ih =>
    have h1 := (h (j + 1) hj).2 (by omega)
    simp only [Nat.add_sub_cancel] at h1
    by_cases e : i = j
    · subst e; exact h1
    · exact Int.lt_trans (ih (by omega) (by omega)) h1
theorem atK_inv {ls : Nat → Int} {l : Nat} {u : Int} (h : SetP ls l u) : ∀ k, atK ls l k ≤ l ∧ (∀ j, j < atK ls l k → ls j < k) ∧ ∀ j, atK ls l k ≤ j → j < l → (k : Int) ≤ ls j := by
  intro k
  induction k with
  | zero => exact ⟨Nat.zero_le _, fun j hj => by simp [atK] at hj, fun j _ hj => (h j hj).1.1⟩
  | succ k ih =>
    obtain ⟨h1, h2, h3⟩ := ih
    simp only [atK]
    split
    · rename_i hc
      refine ⟨by omega, fun j hj => ?_, fun j hj hjl => ?_⟩
      · by_cases e : j = atK ls l k
        · rw [e, hc.2]; omega
        · have := h2 j (by omega); omega
      · have := h.lt (i := atK ls l k) (j := j) (by omega) hjl
        rw [hc.2] at this; omega
    · rename_i hc
      refine ⟨h1, fun j hj => by have := h2 j hj; omega, fun j hj hjl => ?_⟩
      have h4 := h3 j hj hjl
      by_cases e : j = atK ls l k
      · have : ls j ≠ k := fun e2 => hc ⟨by omega, by rw [← e]; exact e2⟩
        omega
      · have h5 := h3 (atK ls l k) (Nat.le_refl _) (by omega)
        have := h.lt (i := atK ls l k) (j := j) (by omega) hjl
        omega
theorem atK_skip {ls : Nat → Int} {l : Nat} {u : Int} (h : SetP ls l u) (k : Nat) : (atK ls l k < l ∧ ls (atK ls l k) = k) ↔ skS (setN ls l) k = true := by
  obtain ⟨h1, h2, h3⟩ := atK_inv h k
  simp only [skS, hasB, Int.toNat_natCast]
  rw [setN_bit]
  constructor
  · rintro ⟨a, b⟩; exact ⟨_, a, by rw [b]; simp⟩
  · rintro ⟨j, hj, e⟩
    have h0 := (h j hj).1.1
    have e2 : ls j = k := by omega
    have hge : atK ls l k ≤ j := Nat.le_of_not_lt fun hlt => by have := h2 j hlt; omega
    by_cases e3 : j = atK ls l k
    · rw [← e3]; exact ⟨hj, e2⟩
    · have := h.lt (i := atK ls l k) (j := j) (by omega) hj
      have := h3 (atK ls l k) (Nat.le_refl _) (by omega)
      omega
theorem restTo_yes {es : List (Int × Int)} {sk : Nat → Bool} {k : Nat} (h : sk k = false) : restTo es sk (k + 1) = restTo es sk k ++ [(ea es k, eb es k)] := by simp only [restTo]; rw [h]; rfl
theorem restTo_no {es : List (Int × Int)} {sk : Nat → Bool} {k : Nat} (h : sk k = true) : restTo es sk (k + 1) = restTo es sk k := by simp only [restTo]; rw [h]; exact List.append_nil _
theorem flatE_append (xs ys : List (Int × Int)) : flatE (xs ++ ys) = flatE xs ++ flatE ys := by simp [flatE]
theorem OwnE.empty (base : Nat) (w : World) (g : Nat) (hb : base ≤ g) (h : w.heap[g]? = some (.cells #[] 65 (0, 0))) : OwnE base w g 0 0 [] :=
  ⟨rfl, rfl, .inr ⟨g, 0, #[], rfl, hb, h, Nat.le_refl _, by unfold maxLen; omega, rfl, rfl⟩⟩
/-- One edge more behind edges of the call's own, at the operation. -/
theorem wp_appE {o : Oper} {a : Act} {K : Act → World → Prop} {Q : Exit → Act → World → Prop} {s x : Operand}
    (ho : o.op = .call { callee := .builtin .append, args := #[s, x], argTypes := #[28, 28] })
    {base g m c : Nat} {es : List (Int × Int)} {w1 : World} {B : Nat} {T : TypeId} {fr : Nat × Nat} {p q : Int} (hs : a.eval s = .slice (some ⟨g, 0, none⟩) m c) (hx : a.eval x = .slice (some ⟨B, 0, none⟩) 1 1)
    (hB : w1.heap[B]? = some (.cells #[.int .i64 p, .int .i64 q] T fr))
    (hown : OwnE base w1 g m c es) (hbase : base ≤ w1.heap.size) (hm : m ≤ 1048576)
    (h : ∀ g' c' w', OwnE base w' g' (m + 1) c' (es ++ [(p, q)]) → w1.grownBy w' (some g) → LiesAt (some ⟨g, 0, none⟩) (some ⟨g', 0, none⟩) w1 → K (a.put o.dst (.slice (some ⟨g', 0, none⟩) (m + 1) c')) w') :
    o.wp Try.prog a w1 K Q := by
  obtain ⟨i0, hi, hz0, hz1, hz2⟩ := info_parts infE
  refine wp_append_lies w1 s x 28 ho base 65 i0 (.agg #[.int .i64 0, .int .i64 0]) 2 16 Try.underlying28 hi hz0 hz1 hz2 rfl (by decide) (.slice (some ⟨g, 0, none⟩) m c) m (flatE es) hs hown.2
    ⟨B, 0, none⟩ 1 1 [.int .i64 p, .int .i64 q] hx rfl (World.news_of_block (cs := #[.int .i64 p, .int .i64 q]) hB) (fun u hu => by simp at hu; rcases hu with rfl | rfl <;> rfl) (by decide) (by unfold maxLen; omega) (by omega) hbase _ rfl ?_
  intro g' cap w2 hown' hgrow hat _
  refine h g' cap w2 ⟨by simp [hown.1], by rw [flatE_append]; exact hown'⟩ hgrow ?_
  rcases hat with e | e
  · simp only [Value.ownBlock, Option.some.injEq] at e
    exact .inl (by rw [e])
  · exact .inr ⟨g', rfl, by omega⟩
theorem wp_appE1 {ops : Array Oper} {rest : List Oper} {o : Oper} {a : Act} {Q : Exit → Act → World → Prop} {s x : Operand} (hgd : o.guard = none)
    (ho : o.op = .call { callee := .builtin .append, args := #[s, x], argTypes := #[28, 28] })
    {base g m c : Nat} {es : List (Int × Int)} {wr : World} {T : TypeId} {p q : Int} (hs : a.eval s = .slice (some ⟨g, 0, none⟩) m c) {H : Nat} (hx : a.eval x = .slice (some ⟨H, 0, none⟩) 1 1) (hH : wr.heap.size = H)
    (hown : OwnE base wr g m c es) (hbase : base ≤ wr.heap.size) (hm : m ≤ 1048576)
    (h : ∀ g' c' w', OwnE base w' g' (m + 1) c' (es ++ [(p, q)]) → wr.grownBy w' (some g) → LiesAt (some ⟨g, 0, none⟩) (some ⟨g', 0, none⟩) wr → wpList Try.prog ops Q rest (a.put o.dst (.slice (some ⟨g', 0, none⟩) (m + 1) c')) w') :
    wpList Try.prog ops Q (o :: rest) a (wr.alloc (.cells #[.int .i64 p, .int .i64 q] T)) := by
  subst hH
  exact wpList_plain hgd fun _ hK => wp_appE ho hs hx (heap_alloc_new wr _) (hown.below ((Below.refl _ _).alloc (Nat.le_refl _) _)) (by simp; omega) hm
    fun A' c' w' h1 h2 h3 => hK _ _ (h A' c' w' h1 (grownTrans (below_grownBy ((Below.refl _ _).alloc (Nat.le_refl _) _) _) h2) (h3.low (by simp)))
set_option maxRecDepth 100000 in
set_option maxHeartbeats 1600000 in
theorem rest_any (n : Int) (b o m c b2 o2 l c2 : Nat) (es : List (Int × Int)) (ls : Nat → Int) (u : Int) (w : World) (h : Eds w b o m es) (hm : m ≤ 1048576) (h2 : Ints w b2 o2 l ls) (hl2 : l ≤ 1048576) (hls : SetP ls l u) :
    Calls Try.prog 55 #[.agg #[.int .i64 n, .slice (some ⟨b, o, none⟩) m c], .slice (some ⟨b2, o2, none⟩) l c2] w (RetE (restE es (skS (setN ls l))) w) := by
  have hl := Lib.hid h.len
  have HSK := Lib.hid (fun k => atK_skip hls k)
  have HIN := Lib.hid (fun k => (atK_inv hls k).1)
  go_enter Try.func55, Try.ntmps55
  go_wp2_with fail
  have hbb := (by go_grown : Below w.heap.size w (w.alloc (.cells #[.int .i64 n, .slice (some ⟨b, o, none⟩) m c] 30)))
  have hbx := Box2.made w (.int .i64 n) (.slice (some ⟨b, o, none⟩) m c) 30
  obtain ⟨w1, hw1⟩ : ∃ w1, w1 = w.alloc (Obj.cells #[Value.int IntKind.i64 n, Value.slice (some ⟨b, o, none⟩) m c] 30) := ⟨_, rfl⟩
  have hs1 : w1.heap.size = w.heap.size + 1 := by rw [hw1]; simp [go_sem]
  rw [← hw1] at hbb hbx ⊢
  have O : OwnE w1.heap.size (w1.alloc (.cells #[] 65)) (w.heap.size + 1) 0 0 [] := OwnE.empty _ _ _ (by omega) (by rw [← hs1]; exact heap_alloc_new w1 _)
  have HS1 := Lib.hid hs1
  clear hw1 hs1
  go_loopw [5, 6, 7] (fun ov av kv wr => ∃ (k g c' : Nat), k ≤ m ∧ kv = .int .i64 k ∧ av = .int .i64 (atK ls l k) ∧ ov = .slice (some ⟨g, 0, none⟩) (restTo es (skS (setN ls l)) k).length c' ∧ OwnE w1.heap.size wr g (restTo es (skS (setN ls l)) k).length c' (restTo es (skS (setN ls l)) k) ∧ Below w1.heap.size w1 wr) (fun _ _ k _ => m - (intOf k).toNat)
  case atStart => exact ⟨0, _, _, Nat.zero_le _, rfl, rfl, rfl, O, (Below.refl _ _).alloc (Nat.le_refl _) _⟩
  case round =>
    clear O
    obtain ⟨k, g, c', hk, rfl, rfl, rfl, ho, hb1⟩ := hrel
    have hbr := hbb.andB hb1
    obtain ⟨z1, p1, q1⟩ := hbx.below hb1
    have hln := restTo_len es (skS (setN ls l)) k
    have hsz := hb1.size
    have hak := HIN.out k
    by_cases hlt : k < m
    · have E := h.below hbr
      have d1 := E.ca k hlt
      have d2 := E.cb k hlt
      have zb := E.blk
      have I := h2.below hbr
      cases hsk : skS (setN ls l) k with
      | true =>
        have hc := (HSK.out k).2 hsk
        have c1 := I.c (atK ls l k) hc.1
        have ha1 : atK ls l k < l := hc.1
        have HA : Hid (atK ls l (k + 1) = atK ls l k + 1) := by show (if _ then _ else _) = _; rw [if_pos hc]
        have HE := Lib.hid (restTo_no (es := es) hsk)
        rw [hc.2] at c1
        obtain ⟨ak, hak2⟩ : ∃ ak, atK ls l k = ak := ⟨_, rfl⟩
        rw [hak2] at c1 ha1 hak HA ⊢
        clear hc hsk hak2 E I d1 d2
        go_wp2_with fail
        go_roundw
        case rel => exact ⟨k + 1, g, c', by omega, by go_num, by rw [HA.out]; go_num, by rw [HE.out], by rw [HE.out]; exact ho, hb1⟩
        case measure => simp [intOf]; omega
      | false =>
        have hc : ¬ (atK ls l k < l ∧ ls (atK ls l k) = k) := fun hc => by rw [(HSK.out k).1 hc] at hsk; cases hsk
        have HA : Hid (atK ls l (k + 1) = atK ls l k) := by show (if _ then _ else _) = _; rw [if_neg hc]
        have e := restTo_yes (es := es) hsk
        have HE := Lib.hid e
        have HE2 : Hid ((restTo es (skS (setN ls l)) (k + 1)).length = (restTo es (skS (setN ls l)) k).length + 1) := by show _ = _; rw [e]; simp
        clear hsk e
        by_cases ha1 : atK ls l k < l
        · have c1 := I.c (atK ls l k) ha1
          obtain ⟨v, hv⟩ : ∃ v, ls (atK ls l k) = v := ⟨_, rfl⟩
          have hne : (v == (k : Int)) = false := by
            rw [← hv]; simp; exact fun e => hc ⟨ha1, e⟩
          rw [hv] at c1
          obtain ⟨ak, hak2⟩ : ∃ ak, atK ls l k = ak := ⟨_, rfl⟩
          rw [hak2] at c1 ha1 hak HA ⊢
          clear hc hv hak2 E I
          go_wp2_with (first
            | (at_builtin; refine wp_appE1 rfl rfl rfl rfl rfl ho (by omega) (by omega) ?_; intro g2 c3 w5 ho3 hg5 hat5))
          have hb5 := hb1.grown hg5 hsz (fun y hy => by have := ho.ge.1; simp at hy; omega)
          go_roundw
          case rel => exact ⟨k + 1, g2, c3, by omega, by go_num, by rw [HA.out], by rw [HE2.out], by rw [HE2.out, HE.out]; exact ho3, hb5⟩
          case measure => simp [intOf]; omega
        · obtain ⟨ak, hak2⟩ : ∃ ak, atK ls l k = ak := ⟨_, rfl⟩
          rw [hak2] at ha1 hak HA ⊢
          clear hc hak2 E I
          go_wp2_with (first
            | (at_builtin; refine wp_appE1 rfl rfl rfl rfl rfl ho (by omega) (by omega) ?_; intro g2 c3 w5 ho3 hg5 hat5))
          have hb5 := hb1.grown hg5 hsz (fun y hy => by have := ho.ge.1; simp at hy; omega)
          go_roundw
          case rel => exact ⟨k + 1, g2, c3, by omega, by go_num, by rw [HA.out], by rw [HE2.out], by rw [HE2.out, HE.out]; exact ho3, hb5⟩
          case measure => simp [intOf]; omega
    · obtain rfl : k = m := by omega
      have e : restE es (skS (setN ls l)) = restTo es (skS (setN ls l)) k := by unfold restE; rw [hl.out]
      have HE := Lib.hid e
      clear e
      go_wp2_with fail
      go_ret
      exact ⟨g, c', by rw [HE.out]; rfl, by rw [HE.out]; exact ⟨ho.1, (ho.mono hbb.size).2⟩, hbr⟩
end Go.Proofs.Ytccinfmphkihoaa
