import Derived.Test.YtccinfmphkihoaaGm
import Derived.Test.YtccinfmphkihoaaSp2
namespace Go.Proofs.Ytccinfmphkihoaa
open Go.RowKit Go.Sort
theorem nums_append (xs ys : List Int) : nums (xs ++ ys) = nums xs ++ nums ys := by simp [nums]
theorem nums_length (xs : List Int) : (nums xs).length = xs.length := by simp [nums]
theorem OwnL.empty (base : Nat) (w : World) (g : Nat) (hb : base ≤ g) (h : w.heap[g]? = some (.cells #[] 2 (0, 0))) : OwnL base w (some ⟨g, 0, none⟩) 0 0 [] :=
  ⟨rfl, rfl, .inr ⟨g, 0, #[], rfl, hb, h, Nat.le_refl _, by unfold maxLen; omega, rfl, rfl⟩⟩
theorem cell1 (w : World) (x : Value) (t : TypeId) : ∀ j u, [x][j]? = some u → (w.alloc (.cells #[x] t)).cell? ((⟨w.heap.size, 0, none⟩ : Addr).add j) = some u := by
  intro j u hj
  match j, hj with
  | 0, hj =>
    simp only [List.getElem?_cons_zero, Option.some.injEq] at hj
    subst hj
    simp [go_sem, Addr.add]
/-- One number more behind a list of the call's own. -/
theorem wp_app1 {ops : Array Oper} {rest : List Oper} {o : Oper} {a : Act} {Q : Exit → Act → World → Prop} {s x : Operand} (hgd : o.guard = none)
    (ho : o.op = .call { callee := .builtin .append, args := #[s, x], argTypes := #[34, 34] })
    {base : Nat} {A : Option Addr} {m c : Nat} {xs : List Int} {wr : World} {T : TypeId} {k : Int} (hs : a.eval s = .slice A m c) (hx : a.eval x = .slice (some ⟨wr.heap.size, 0, none⟩) 1 1)
    (hown : OwnL base wr A m c xs) (hbase : base ≤ wr.heap.size) (hm : m ≤ 1048576)
    (h : ∀ A' c' w', OwnL base w' A' (m + 1) c' (xs ++ [k]) → (∀ B w0, Below B w0 wr → B ≤ base → Below B w0 w') → wr.grownBy w' (blkOf A) → wpList Try.prog ops Q rest (a.put o.dst (.slice A' (m + 1) c')) w') :
    wpList Try.prog ops Q (o :: rest) a (wr.alloc (.cells #[.int .i64 k] T)) := by
  obtain ⟨i0, hi, hz0, hz1, hz2⟩ := info_parts inf2
  refine wpList_append_own _ hgd s x 34 ho base 2 i0 (.int .i64 0) 1 8 Try.underlying34 hi hz0 hz1 hz2 rfl (by decide) (.slice A m c) m (nums xs) hs ((hown.below ((Below.refl _ _).alloc (Nat.le_refl _) _)).2)
    ⟨wr.heap.size, 0, none⟩ 1 1 [.int .i64 k] hx rfl (cell1 _ _ _) (fun u hu => by simp at hu; subst hu; rfl) (by unfold maxLen; omega) (by omega) (by simp; omega) ?_
  intro v' w1 hown' hgrow _
  have hlt := hown.blk
  have hgr : (wr.grownBy w1 (blkOf A)) := by
    have e : (Value.slice A m c).ownBlock = blkOf A := by cases A <;> rfl
    rw [e] at hgrow
    exact grownTrans (below_grownBy ((Below.refl _ _).alloc (Nat.le_refl _) _) _) hgrow
  obtain ⟨A', c', rfl⟩ : ∃ A' c', v' = .slice A' (m + 1) c' := by
    rcases hown'.2 with ⟨_, h⟩ | ⟨g3, cap3, _, h, _⟩
    · omega
    · exact ⟨_, cap3, h⟩
  refine h A' c' w1 ⟨by simp [hown.1], by rw [nums_append]; exact hown'⟩ (fun B w0 hb hB => hb.grown hgr (by omega) (fun q hq => by have := hlt q hq; omega)) hgr
end Go.Proofs.Ytccinfmphkihoaa
