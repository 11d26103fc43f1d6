import Derived.Test.YtccinfmphkihoaaGm
import Derived.Test.YtccinfmphkihoaaAp
import Derived.Test.YtccinfmphkihoaaLc
namespace Go.Proofs.Ytccinfmphkihoaa
open Go.RowKit Go.Sort
/-! ### Words for laws whose result is a list -/
theorem Box2.kept {w w' : World} {b : Nat} {v0 v1 : Value} {row : Option Nat} (h : Box2 w b v0 v1) (hg : w.grownBy w' row) (hne : some b ≠ row) : Box2 w' b v0 v1 :=
  ⟨Nat.lt_of_lt_of_le h.lt hg.size, (World.cell?_of_block (w := w) (a := ⟨b, 0, none⟩) (hg.block b h.lt hne)).trans h.c0, (World.cell?_of_block (w := w) (a := ⟨b, 1, none⟩) (hg.block b h.lt hne)).trans h.c1⟩
theorem markGraph_any (base g m c : Nat) (n k : Int) (w : World) (h : AnyE base w g m c) (hm : m ≤ 1048576) (hk : 0 ≤ k) (hk2 : k ≤ 1099511627776) :
    Calls Try.prog 23 #[.agg #[.int .i64 n, .slice (some ⟨g, 0, none⟩) m c], .int .i64 k] w fun e w' => e = .returned (.int .i64 (k + 2 * m)) ∧ w.grownBy w' (some g) := by
  have hA : AnyE base (w.alloc (.cells #[.int .i64 n, .slice (some ⟨g, 0, none⟩) m c] 30)) g m c := by
    obtain ⟨es, ho⟩ := h
    exact ⟨es, ho.below ((Below.refl _ _).alloc (Nat.le_refl _) _)⟩
  have hg0 : w.grownBy (w.alloc (.cells #[.int .i64 n, .slice (some ⟨g, 0, none⟩) m c] 30)) (some g) := below_grownBy ((Below.refl _ _).alloc (Nat.le_refl _) _) _
  go_enter Try.func23, Try.ntmps23
  go_wp2_with fail
  refine (markEdgeS_any base g m c k _ hA hm hk hk2).mono ?_
  rintro e w1 ⟨rfl, hg⟩
  go_wp2_with fail
  go_ret
  exact ⟨rfl, grownTrans hg0 hg⟩
theorem OwnL.ofRow {w : World} {g m base : Nat} {f : Nat → Int} (h : w.rowIs g 2 m (fun v => .int .i64 (f v))) (hb : base ≤ g) (hm : m ≤ 1048576) : OwnL base w (some ⟨g, 0, none⟩) m m ((List.range m).map f) := by
  obtain ⟨c, hc, hs, hi⟩ := h
  refine ⟨by simp, by simp [nums], .inr ⟨g, m, c, rfl, hb, hc, Nat.le_refl _, by unfold maxLen; omega, by omega, ?_⟩⟩
  apply List.ext_getElem
  · simp [nums, hs]
  · intro j h1 h2
    have hj : j < m := by simp [nums] at h2; exact h2
    have h3 := hi j hj
    have h4 : c[j]'(by omega) = .int .i64 (f j) := by
      rw [Array.getElem?_eq_getElem (by omega)] at h3
      exact Option.some.inj h3
    simp [nums, List.getElem_take, h4]
theorem blk_apart {A0 A1 : Option Addr} {s : Nat} (h0 : ∀ g, blkOf A0 = some g → g < s) (h1 : ∀ g, blkOf A1 = some g → s ≤ g) : blkOf A0 = none ∨ blkOf A0 ≠ blkOf A1 := by
  cases e : blkOf A0 with
  | none => exact .inl rfl
  | some g => exact .inr (fun e2 => by have := h0 g e; have := h1 g e2.symm; omega)
theorem blk_apart' {A0 A1 : Option Addr} {s : Nat} (h0 : ∀ g, blkOf A0 = some g → s ≤ g) (h1 : ∀ g, blkOf A1 = some g → g < s) : blkOf A0 = none ∨ blkOf A0 ≠ blkOf A1 := by
  cases e : blkOf A0 with
  | none => exact .inl rfl
  | some g => exact .inr (fun e2 => by have := h0 g e; have := h1 g e2.symm; omega)
theorem box_apart {A1 : Option Addr} {b : Nat} (h1 : ∀ g, blkOf A1 = some g → b < g) : some b ≠ blkOf A1 := fun e => by have := h1 b e.symm; omega
end Go.Proofs.Ytccinfmphkihoaa
