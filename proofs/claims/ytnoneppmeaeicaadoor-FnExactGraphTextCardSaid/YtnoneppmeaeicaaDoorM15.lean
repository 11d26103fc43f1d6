import Derived.Test.YtnoneppmeaeicaaDoorM13
import Derived.Test.YtnoneppmeaeicaaDoorM4
import Derived.Test.YtnoneppmeaeicaaDoorM14
namespace Go.Proofs.YtnoneppmeaeicaaDoor
open Go.RowKit Go.Sort
/-! ### The reference's leaders -/
def lsF (f : Int → Int) (N : Nat) : List Int := (List.range N).map fun v : Nat => f v
theorem lsF_len (f : Int → Int) (N : Nat) : (lsF f N).length = N := by simp [lsF]
theorem lsF_at (f : Int → Int) {N j : Nat} (h : j < N) : ia (lsF f N) j = f j := by simp [ia, lsF, h]
theorem lsF_succ (f : Int → Int) (N : Nat) : lsF f (N + 1) = lsF f N ++ [f N] := by simp [lsF, List.range_succ]
theorem lsF_set (f : Int → Int) (N k : Nat) (x : Int) : (lsF f N).set k x = lsF (upI f k x) N := by
  apply List.ext_getElem
  · simp [lsF]
  · intro j h1 h2
    simp only [lsF, List.getElem_set, List.getElem_map, List.getElem_range, upI]
    by_cases e : k = j
    · subst e; simp
    · rw [if_neg e, if_neg (by omega)]
theorem lsF_congr {f g : Int → Int} {N : Nat} (h : ∀ v : Nat, v < N → f v = g v) : lsF f N = lsF g N := by
  apply List.ext_getElem
  · simp [lsF]
  · intro j h1 h2
    simp only [lsF, List.getElem_map, List.getElem_range]
    exact h j (by simpa [lsF] using h1)
theorem OwnL.store {base : Nat} {w : World} {g m c : Nat} {xs : List Int} (h : OwnL base w (some ⟨g, 0, none⟩) m c xs) (k : Nat) (x : Int) : OwnL base (w.setCell ⟨g, k, none⟩ (.int .i64 x)) (some ⟨g, 0, none⟩) m c (xs.set k x) :=
  ⟨by simp [h.1], by have := (h.2.stored k (.int .i64 x)).1; simpa [nums, List.map_set] using this⟩
theorem OwnL.cell {base : Nat} {w : World} {g m c : Nat} {xs : List Int} (h : OwnL base w (some ⟨g, 0, none⟩) m c xs) {j : Nat} (hj : j < m) : w.cell? ⟨g, j, none⟩ = some (.int .i64 (ia xs j)) := by
  rw [h.2.cellAt j (by omega)]; exact nums_at xs j (by rw [h.1]; exact hj)
-- left out in this seat
-- left out in this seat
end Go.Proofs.YtnoneppmeaeicaaDoor
namespace Go.Proofs.YtnoneppmeaeicaaDoor
open Go.RowKit Go.Sort
/-! ### The reference's rest of the edges -/
def atK (ls : Nat → Int) (l : Nat) : Nat → Nat
  | 0 => 0
  | k + 1 => if atK ls l k < l ∧ ls (atK ls l k) = (k : Int) then atK ls l k + 1 else atK ls l k
theorem SetP.lt {ls : Nat → Int} {l : Nat} {u : Int} (h : SetP ls l u) : ∀ {i j : Nat}, i < j → j < l → ls i < ls j := by
  intro i j hij hj
  induction j with
  | zero => omega
  | succ j ih =>
    have h1 := (h (j + 1) hj).2 (by omega)
    simp only [Nat.add_sub_cancel] at h1
    by_cases e : i = j
    · subst e; exact h1
    · exact Int.lt_trans (ih (by omega) (by omega)) h1
theorem atK_inv {ls : Nat → Int} {l : Nat} {u : Int} (h : SetP ls l u) : ∀ k, atK ls l k ≤ l ∧ (∀ j, j < atK ls l k → ls j < k) ∧ ∀ j, atK ls l k ≤ j → j < l → (k : Int) ≤ ls j := by
  intro k
  induction k with
  | zero => exact ⟨Nat.zero_le _, fun j hj => by simp [atK] at hj, fun j _ hj => (h j hj).1.1⟩
  | succ k ih =>
    obtain ⟨h1, h2, h3⟩ := ih
    simp only [atK]
    split
    · rename_i hc
      refine ⟨by omega, fun j hj => ?_, fun j hj hjl => ?_⟩
      · by_cases e : j = atK ls l k
        · rw [e, hc.2]; omega
        · have := h2 j (by omega); omega
      · have := h.lt (i := atK ls l k) (j := j) (by omega) hjl
        rw [hc.2] at this; omega
    · rename_i hc
      refine ⟨h1, fun j hj => by have := h2 j hj; omega, fun j hj hjl => ?_⟩
      have h4 := h3 j hj hjl
      by_cases e : j = atK ls l k
      · have : ls j ≠ k := fun e2 => hc ⟨by omega, by rw [← e]; exact e2⟩
        omega
      · have h5 := h3 (atK ls l k) (Nat.le_refl _) (by omega)
        have := h.lt (i := atK ls l k) (j := j) (by omega) hjl
        omega
theorem atK_skip {ls : Nat → Int} {l : Nat} {u : Int} (h : SetP ls l u) (k : Nat) : (atK ls l k < l ∧ ls (atK ls l k) = k) ↔ skS (setN ls l) k = true := by
  obtain ⟨h1, h2, h3⟩ := atK_inv h k
  simp only [skS, hasB, Int.toNat_natCast]
  rw [setN_bit]
  constructor
  · rintro ⟨a, b⟩; exact ⟨_, a, by rw [b]; simp⟩
  · rintro ⟨j, hj, e⟩
    have h0 := (h j hj).1.1
    have e2 : ls j = k := by omega
    have hge : atK ls l k ≤ j := Nat.le_of_not_lt fun hlt => by have := h2 j hlt; omega
    by_cases e3 : j = atK ls l k
    · rw [← e3]; exact ⟨hj, e2⟩
    · have := h.lt (i := atK ls l k) (j := j) (by omega) hj
      have := h3 (atK ls l k) (Nat.le_refl _) (by omega)
      omega
theorem restTo_yes {es : List (Int × Int)} {sk : Nat → Bool} {k : Nat} (h : sk k = false) : restTo es sk (k + 1) = restTo es sk k ++ [(ea es k, eb es k)] := by simp only [restTo]; rw [h]; rfl
theorem restTo_no {es : List (Int × Int)} {sk : Nat → Bool} {k : Nat} (h : sk k = true) : restTo es sk (k + 1) = restTo es sk k := by simp only [restTo]; rw [h]; exact List.append_nil _
theorem flatE_append (xs ys : List (Int × Int)) : flatE (xs ++ ys) = flatE xs ++ flatE ys := by simp [flatE]
theorem OwnE.empty (base : Nat) (w : World) (g : Nat) (hb : base ≤ g) (h : w.heap[g]? = some (.cells #[] 44 (0, 0))) : OwnE base w g 0 0 [] :=
  ⟨rfl, rfl, .inr ⟨g, 0, #[], rfl, hb, h, Nat.le_refl _, by unfold maxLen; omega, rfl, rfl⟩⟩
/-- One edge more behind edges of the call's own, at the operation. -/
theorem wp_appE {o : Oper} {a : Act} {K : Act → World → Prop} {Q : Exit → Act → World → Prop} {s x : Operand}
    (ho : o.op = .call { callee := .builtin .append, args := #[s, x], argTypes := #[28, 28] })
    {base g m c : Nat} {es : List (Int × Int)} {w1 : World} {B : Nat} {T : TypeId} {fr : Nat × Nat} {p q : Int} (hs : a.eval s = .slice (some ⟨g, 0, none⟩) m c) (hx : a.eval x = .slice (some ⟨B, 0, none⟩) 1 1)
    (hB : w1.heap[B]? = some (.cells #[.int .i64 p, .int .i64 q] T fr))
    (hown : OwnE base w1 g m c es) (hbase : base ≤ w1.heap.size) (hm : m ≤ 1048576)
    (h : ∀ g' c' w', OwnE base w' g' (m + 1) c' (es ++ [(p, q)]) → w1.grownBy w' (some g) → LiesAt (some ⟨g, 0, none⟩) (some ⟨g', 0, none⟩) w1 → K (a.put o.dst (.slice (some ⟨g', 0, none⟩) (m + 1) c')) w') :
    o.wp Tryd.prog a w1 K Q := by
  obtain ⟨i0, hi, hz0, hz1, hz2⟩ := info_parts infE
  refine wp_append_lies w1 s x 28 ho base 44 i0 (.agg #[.int .i64 0, .int .i64 0]) 2 16 Tryd.underlying28 hi hz0 hz1 hz2 rfl (by decide) (.slice (some ⟨g, 0, none⟩) m c) m (flatE es) hs hown.2
    ⟨B, 0, none⟩ 1 1 [.int .i64 p, .int .i64 q] hx rfl (World.news_of_block (cs := #[.int .i64 p, .int .i64 q]) hB) (fun u hu => by simp at hu; rcases hu with rfl | rfl <;> rfl) (by decide) (by unfold maxLen; omega) (by omega) hbase _ rfl ?_
  intro g' cap w2 hown' hgrow hat _
  refine h g' cap w2 ⟨by simp [hown.1], by rw [flatE_append]; exact hown'⟩ hgrow ?_
  rcases hat with e | e
  · simp only [Value.ownBlock, Option.some.injEq] at e
    exact .inl (by rw [e])
  · exact .inr ⟨g', rfl, by omega⟩
theorem wp_appE1 {ops : Array Oper} {rest : List Oper} {o : Oper} {a : Act} {Q : Exit → Act → World → Prop} {s x : Operand} (hgd : o.guard = none)
    (ho : o.op = .call { callee := .builtin .append, args := #[s, x], argTypes := #[28, 28] })
    {base g m c : Nat} {es : List (Int × Int)} {wr : World} {T : TypeId} {p q : Int} (hs : a.eval s = .slice (some ⟨g, 0, none⟩) m c) {H : Nat} (hx : a.eval x = .slice (some ⟨H, 0, none⟩) 1 1) (hH : wr.heap.size = H)
    (hown : OwnE base wr g m c es) (hbase : base ≤ wr.heap.size) (hm : m ≤ 1048576)
    (h : ∀ g' c' w', OwnE base w' g' (m + 1) c' (es ++ [(p, q)]) → wr.grownBy w' (some g) → LiesAt (some ⟨g, 0, none⟩) (some ⟨g', 0, none⟩) wr → wpList Tryd.prog ops Q rest (a.put o.dst (.slice (some ⟨g', 0, none⟩) (m + 1) c')) w') :
    wpList Tryd.prog ops Q (o :: rest) a (wr.alloc (.cells #[.int .i64 p, .int .i64 q] T)) := by
  subst hH
  exact wpList_plain hgd fun _ hK => wp_appE ho hs hx (heap_alloc_new wr _) (hown.below ((Below.refl _ _).alloc (Nat.le_refl _) _)) (by simp; omega) hm
    fun A' c' w' h1 h2 h3 => hK _ _ (h A' c' w' h1 (grownTrans (below_grownBy ((Below.refl _ _).alloc (Nat.le_refl _) _) _) h2) (h3.low (by simp)))
-- left out in this seat
end Go.Proofs.YtnoneppmeaeicaaDoor
namespace Go.Proofs.YtnoneppmeaeicaaDoor
open Go.RowKit Go.Sort
/-! ### Which edges are left out -/
theorem sk_none : skI (-1) = noSk := by funext e; simp [skI, noSk]
theorem skS_none : skS 0 = noSk := by funext e; simp [skS, noSk, hasB]
theorem skS_one (i : Nat) : skS (2 ^ i) = skI i := by
  funext e
  rw [Bool.eq_iff_iff]
  simp [skS, skI, hasB, Nat.testBit_two_pow]
  omega
end Go.Proofs.YtnoneppmeaeicaaDoor
