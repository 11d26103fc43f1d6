import Derived.Lib.SliceRun
import Derived.Lib.AppendZerosOnto
import Derived.Lib.AppendZeros
import Derived.Test.YtajnhkkiddeegaaGreatZp17
set_option linter.unusedVariables false
set_option linter.unusedSimpArgs false
namespace Go.Proofs.YtajnhkkiddeegaaGreat
open Go.RowKit Go.Sort
theorem eds_lit {wr : World} {cs : Array Value} {T : TypeId} {ys : List (Int × Int)} (h : cs.toList = flatE ys) : Eds (wr.alloc (.cells cs T)) wr.heap.size 0 ys.length ys := by
  have hh := heap_alloc_new wr (.cells cs T)
  have hc : ∀ k : Nat, (wr.alloc (.cells cs T)).cell? ⟨wr.heap.size, k, none⟩ = (flatE ys)[k]? := fun k => by
    unfold World.cell?
    rw [show (wr.alloc (.cells cs T)).heap[(⟨wr.heap.size, k, none⟩ : Addr).block]? = some (.cells cs T) from hh, ← h]
    simp
  refine ⟨rfl, by simp, fun j hj => ?_, fun j hj => ?_⟩
  · rw [Nat.zero_add, hc]; exact (flatE_at ys j hj).1
  · rw [Nat.zero_add, hc]; exact (flatE_at ys j hj).2
theorem wp_appX {ops : Array Oper} {rest : List Oper} {o : Oper} {a : Act} {Q : Exit → Act → World → Prop} {s x : Operand} (hgd : o.guard = none)
    (ho : o.op = .call { callee := .builtin .append, args := #[s, x], argTypes := #[24, 24] })
    {base : Nat} {A : Option Addr} {m c : Nat} {es ys : List (Int × Int)} {w1 : World} {B o2 l c2 : Nat} (hs : a.eval s = .slice A m c) (hx : a.eval x = .slice (some ⟨B, o2, none⟩) l c2)
    (hE : Eds w1 B o2 l ys) (hl0 : 0 < l) (hl : l ≤ 1048576) (hown : OwnEA base w1 A m c es) (hbase : base ≤ w1.heap.size) (hm : m ≤ 1048576)
    (h : ∀ A' c' w', OwnEA base w' A' (m + l) c' (es ++ ys) → w1.grownBy w' (blkOf A) → wpList Tryz.prog ops Q rest (a.put o.dst (.slice A' (m + l) c')) w') :
    wpList Tryz.prog ops Q (o :: rest) a w1 := by
  obtain ⟨i0, hi, hz0, hz1, hz2⟩ := info_parts infE
  refine wpList_plain hgd fun K hK => wp_append_lies w1 s x 24 ho base 78 i0 (.agg #[.int .i64 0, .int .i64 0]) 2 16 Tryz.underlying24 hi hz0 hz1 hz2 rfl (by decide) (.slice A m c) m (flatE es) hs hown.2
    ⟨B, o2, none⟩ l c2 (flatE ys) hx (by rw [flatE_length, hE.len]) (fun j u hj => ?_) (fun u hu => ?_) hl0 (by unfold maxLen; omega) (by omega) hbase _ rfl ?_
  · have hjl : j < ys.length * 2 := by
      have := (List.getElem?_eq_some_iff.1 hj).1
      rwa [flatE_length] at this
    have h2 := flatE_at ys (j / 2) (by omega)
    have hj2 : j / 2 < l := by have := hE.len; omega
    rw [Addr.add_lit]
    rcases (show j % 2 = 0 ∨ j % 2 = 1 by omega) with h0 | h0
    · have e : j = j / 2 * 2 := by omega
      rw [e] at hj ⊢
      rw [h2.1] at hj
      rw [hE.ca (j / 2) hj2]; exact hj
    · have e : j = j / 2 * 2 + 1 := by omega
      rw [e] at hj ⊢
      rw [h2.2] at hj
      rw [← Nat.add_assoc, hE.cb (j / 2) hj2]; exact hj
  · simp only [flatE, List.mem_flatMap] at hu
    obtain ⟨y, _, hu⟩ := hu
    simp at hu
    rcases hu with rfl | rfl <;> rfl
  · intro g2 cap w2 hown' hgrow hat _
    have e : (Value.slice A m c).ownBlock = blkOf A := by cases A <;> rfl
    rw [e] at hgrow
    exact hK _ _ (h (some ⟨g2, 0, none⟩) cap w2 ⟨by rw [List.length_append, hown.1, hE.len], by rw [flatE_append]; exact hown'⟩ hgrow)
/-- A list of edges that is written out, appended. -/
theorem wp_appB {ops : Array Oper} {rest : List Oper} {o : Oper} {a : Act} {Q : Exit → Act → World → Prop} {s x : Operand} (ys : List (Int × Int)) (hgd : o.guard = none)
    (ho : o.op = .call { callee := .builtin .append, args := #[s, x], argTypes := #[24, 24] })
    {base : Nat} {A : Option Addr} {m c : Nat} {es : List (Int × Int)} {wr : World} {cs : Array Value} {T : TypeId} (hs : a.eval s = .slice A m c) {H l : Nat} (hx : a.eval x = .slice (some ⟨H, 0, none⟩) l l) (hH : wr.heap.size = H) (hcs : cs.toList = flatE ys) (hyl : ys.length = l) (hl0 : 0 < l) (hl : l ≤ 1048576)
    (hown : OwnEA base wr A m c es) (hbase : base ≤ wr.heap.size) (hm : m ≤ 1048576)
    (h : ∀ A' c' w', OwnEA base w' A' (m + l) c' (es ++ ys) → wr.grownBy w' (blkOf A) → wpList Tryz.prog ops Q rest (a.put o.dst (.slice A' (m + l) c')) w') :
    wpList Tryz.prog ops Q (o :: rest) a (wr.alloc (.cells cs T)) := by
  subst hH hyl
  exact wp_appX hgd ho hs hx (eds_lit hcs) hl0 hl (hown.below ((Below.refl _ _).alloc (Nat.le_refl _) _)) (by simp; omega) hm
    fun A' c' w' h1 h2 => h A' c' w' h1 (grownTrans (below_grownBy ((Below.refl _ _).alloc (Nat.le_refl _) _) _) h2)
/-- The call returns a new list of edges. -/
def RetEA (ys : List (Int × Int)) (w : World) (e : Ending) (w' : World) : Prop := ∃ A c, e = .returned (.slice A ys.length c) ∧ OwnEA w.heap.size w' A ys.length c ys ∧ Below w.heap.size w w'
theorem OwnEA.grown {base : Nat} {w w' : World} {A : Option Addr} {m c : Nat} {es : List (Int × Int)} (h : OwnEA base w A m c es) {B : Nat} {w0 : World} (hb : Below B w0 w) (hB : B ≤ base) (hg : w.grownBy w' (blkOf A)) (hB0 : B ≤ w.heap.size) : Below B w0 w' :=
  hb.grown hg hB0 (fun y hy => by have := (h.blk y hy).1; omega)
end Go.Proofs.YtajnhkkiddeegaaGreat
namespace Go.Proofs.YtajnhkkiddeegaaGreat
open Go.RowKit Go.Sort
def cycL (xs : List Int) : List (Int × Int) := (List.range xs.length).map fun i => (ia xs i, ia xs ((i + 1) % xs.length))
def cycT (xs : List Int) (j : Nat) : List (Int × Int) := (List.range j).map fun i => (ia xs i, ia xs ((i + 1) % xs.length))
theorem cyc_step (xs : List Int) (j : Nat) : cycT xs (j + 1) = cycT xs j ++ [(ia xs j, ia xs ((j + 1) % xs.length))] := by
  unfold cycT; rw [List.range_succ, List.map_append]; rfl
end Go.Proofs.YtajnhkkiddeegaaGreat
namespace Go.Proofs.YtajnhkkiddeegaaGreat
open Go.RowKit Go.Sort
def petG (i : Int) : List (Int × Int) := [(i, (i + 1) % 5), (i, i + 5), (i + 5, (i + 2) % 5 + 5)]
def petT : Nat → List (Int × Int)
  | 0 => []
  | k + 1 => petT k ++ petG k
theorem petT_len : ∀ k, (petT k).length = 3 * k := by
  intro k
  induction k with
  | zero => rfl
  | succ k ih => simp only [petT, List.length_append, ih, petG]; simp; omega
/-- The cube's edges up to a vertex and a direction. -/
def cubB (v : Nat) : Nat → List (Int × Int)
  | 0 => []
  | d + 1 => cubB v d ++ (if v.testBit d then [] else [((v : Int), ((v + 2 ^ d : Nat) : Int))])
def cubT : Nat → List (Int × Int)
  | 0 => []
  | v + 1 => cubT v ++ cubB v 3
theorem cubB_len (v : Nat) : ∀ d, (cubB v d).length ≤ d := by
  intro d
  induction d with
  | zero => simp [cubB]
  | succ d ih => simp only [cubB, List.length_append]; split <;> simp <;> omega
theorem cubT_len : ∀ v, (cubT v).length ≤ 3 * v := by
  intro v
  induction v with
  | zero => simp [cubT]
  | succ v ih => simp only [cubT, List.length_append]; have := cubB_len v 3; omega
theorem and8 {v d : Nat} (hv : v < 8) (hd : d < 3) : bits .and .i64 (v : Int) ((2 ^ d : Nat) : Int) = (if v.testBit d then ((2 ^ d : Nat) : Int) else 0) := by
  have key : ∀ v : Fin 8, ∀ d : Fin 3, bits .and .i64 (v.1 : Int) ((2 ^ d.1 : Nat) : Int) = (if v.1.testBit d.1 then ((2 ^ d.1 : Nat) : Int) else 0) := by decide
  exact key ⟨v, hv⟩ ⟨d, hd⟩
end Go.Proofs.YtajnhkkiddeegaaGreat
namespace Go.Proofs.YtajnhkkiddeegaaGreat
open Go.RowKit Go.Sort
theorem RetEA.from {ys : List (Int × Int)} {wr : World} {o : Obj} {e : Ending} {w' : World} (h : RetEA ys (wr.alloc o) e w') : RetEA ys wr e w' := by
  obtain ⟨A, c, e, O, hb⟩ := h
  exact ⟨A, c, e, O.mono (by simp), ((Below.refl _ _).alloc (Nat.le_refl _) _).thenB (by simp) hb⟩
end Go.Proofs.YtajnhkkiddeegaaGreat
namespace Go.Proofs.YtajnhkkiddeegaaGreat
open Go.RowKit Go.Sort
theorem OwnEA.neT {base : Nat} {W : World} {A : Option Addr} {m c p : Nat} {es : List (Int × Int)} {cs : Array Value} (h : OwnEA base W A m c es) (hh : W.heap[p]? = some (.cells cs 2)) : some p ≠ blkOf A := by
  rcases h.2.2 with ⟨e, _⟩ | ⟨g, cap, cur, e, _, hg, _⟩
  · injection e with e1; subst e1; simp [blkOf]
  · injection e with e1; subst e1
    intro he
    simp only [blkOf, Option.map_some, Option.some.injEq] at he
    subst he
    rw [hh] at hg
    cases hg
end Go.Proofs.YtajnhkkiddeegaaGreat
namespace Go.Proofs.YtajnhkkiddeegaaGreat
open Go.RowKit Go.Sort
set_option maxRecDepth 100000 in
set_option maxHeartbeats 1000000 in
theorem l01Cycle_any {base m c b k c0 : Nat} {A0 : Option Addr} {es : List (Int × Int)} {cs : Array Value} (xs : List Int) (w : World) (O0 : OwnEA base w A0 m c es) (hb0 : base ≤ w.heap.size) (hh : w.heap[b]? = some (.cells cs 2)) (hcs : cs.toList = nums xs) (hk : xs.length = k) (hk2 : k ≤ 100) (hm : m ≤ 100) :
    Calls Tryz.prog 143 #[.slice A0 m c, .slice (some ⟨b, 0, none⟩) k c0] w (fun e w' => ∃ A c', e = .returned (.slice A (m + k) c') ∧ OwnEA base w' A (m + k) c' (es ++ cycL xs) ∧ Below base w w') := by
  have HK := Lib.hid hk
  have HCS := Lib.hid hcs
  have HC : Hid (∀ (W : World), W.heap[b]? = some (.cells cs 2) → ∀ j, j < k → W.cell? ⟨b, j, none⟩ = some (.int .i64 (ia xs j))) := fun W hW j hj => by
    unfold World.cell?
    rw [show W.heap[(⟨b, j, none⟩ : Addr).block]? = _ from hW]
    simp only [Option.bind_eq_bind, Option.bind_some]
    have : cs[j]? = some (.int .i64 (ia xs j)) := by
      rw [← Array.getElem?_toList, hcs]
      simp [nums, ia, List.getD_eq_getElem?_getD, show j < xs.length by omega]
    simpa using this
  have HAL : Hid (cycL xs = cycT xs k) := by show _ = _; unfold cycL cycT; rw [hk]
  clear hk hcs
  go_enter Tryz.func143, Tryz.ntmps143
  go_wp2_with fail
  go_loopw [0, 5] (fun lv iv wv => ∃ (j : Nat) (A : Option Addr) (c' : Nat), j ≤ k ∧ iv = .int .i64 j ∧ lv = .slice A (m + j) c' ∧ OwnEA base wv A (m + j) c' (es ++ cycT xs j) ∧ wv.heap[b]? = some (.cells cs 2) ∧ Below base w wv) (fun _ i _ => k - (intOf i).toNat)
  case atStart => exact ⟨0, A0, c, by omega, rfl, rfl, by simpa [cycT] using O0, hh, Below.refl _ _⟩
  case round =>
    clear O0 hh
    obtain ⟨j, A, c', hj, rfl, rfl, O, hH, hb⟩ := hrel
    obtain ⟨w4, rfl⟩ : ∃ w4, w4 = wr := ⟨wr, rfl⟩
    by_cases hlt : j < k
    · have i1 := HC.out w4 hH j hlt
      have hzk : (j + 1) % k < k := Nat.mod_lt _ (by omega)
      have i2 := HC.out w4 hH _ hzk
      have zb : b < w4.heap.size := (Array.getElem?_eq_some_iff.1 hH).1
      have hsz : base ≤ w4.heap.size := Nat.le_trans hb0 hb.size
      have HST : Hid (cycT xs (j + 1) = cycT xs j ++ [(ia xs j, ia xs ((j + 1) % k))]) := by show _ = _; rw [cyc_step, HK.out]
      have HN := Lib.hid (O.neT hH)
      have hw1 : IntKind.i64.wrap ((j : Int) + 1) = ((j + 1 : Nat) : Int) := by rw [IntWalk.i64_in _ (by omega)]; simp
      have hk0 : ((k : Int) == 0) = false := by simp; omega
      have hmd : ((j + 1 : Nat) : Int) % (k : Int) = (((j + 1) % k : Nat) : Int) := by simp
      have hmd2 : ((j : Int) + 1) % (k : Int) = (((j + 1) % k : Nat) : Int) := by simp
      have hkn : ¬ k = 0 := by omega
      have htm : ((j : Int) + 1).tmod (k : Int) = (((j + 1) % k : Nat) : Int) := by rw [Int.tmod_eq_emod_of_nonneg (by omega), hmd2]
      obtain ⟨z, hz⟩ : ∃ z, z = (j + 1) % k := ⟨_, rfl⟩
      rw [← hz] at i2 hmd hmd2 hzk HST htm
      obtain ⟨y, hy⟩ : ∃ y, y = ia xs j := ⟨_, rfl⟩
      obtain ⟨x, hx⟩ : ∃ x, x = ia xs z := ⟨_, rfl⟩
      rw [← hx] at HST i2
      rw [← hy] at i1 HST
      have hjk : (j : Int) < k := by omega
      have hHK := Lib.hid hH
      have HZ := Lib.hid hz
      have hwz : IntKind.i64.wrap (z : Int) = z := IntWalk.i64_in _ (by omega)
      clear hx hy hz hH
      go_wp2_with fail
      refine wp_region_then 15 (fun i9 v W => match i9 with
        | 0 => v = .slice A (m + j) c'
        | 1 => v = .slice (some ⟨b, 0, none⟩) k c0
        | 2 => v = .int .i64 j
        | 3 => v = .pointer (some ⟨b, j, none⟩)
        | 4 => v = .int .i64 y
        | 5 => v = .slice (some ⟨b, 0, none⟩) k c0
        | 6 => v = .int .i64 j
        | 7 => v = .int .i64 ((j + 1 : Nat) : Int)
        | 8 => v = .slice (some ⟨b, 0, none⟩) k c0
        | 9 => v = .int .i64 k
        | 10 => v = .int .i64 ((z : Nat) : Int)
        | 11 => v = .pointer (some ⟨b, z, none⟩)
        | 12 => v = .int .i64 x
        | 13 => v = .agg #[.int .i64 y, .int .i64 x]
        | _ => NewB w4.heap.size y x v W)
        (fun i => match i with
        | _ => none)
        (fun k W W' => Below W.heap.size W W')  (fun W => Below w4.heap.size w4 W) (by kernel_rfl) (by kernel_rfl) ?_ ?_ ?_ ?_ ?_
      · exact (Below.refl _ _).drew
      · intro i k v W W' hne hd hC hf hE
        match i, hf with
        | 0, hf => exact hf
        | 1, hf => exact hf
        | 2, hf => exact hf
        | 3, hf => exact hf
        | 4, hf => exact hf
        | 5, hf => exact hf
        | 6, hf => exact hf
        | 7, hf => exact hf
        | 8, hf => exact hf
        | 9, hf => exact hf
        | 10, hf => exact hf
        | 11, hf => exact hf
        | 12, hf => exact hf
        | 13, hf => exact hf
        | _ + 14, hf => exact NewB.below hf hE
      · intro k W W' hC hE
        exact Below.andB hC hE
      · simp only [List.take_succ_cons, List.take_zero]
        refine ⟨?_, ?_, ?_, ?_, ?_, ?_, ?_, ?_, ?_, ?_, ?_, ?_, ?_, ?_, ?_, trivial⟩
        · intro a W hC hs hd
          have hW : Below w4.heap.size w4 W := hC
          have e0 : a.tmps[0]?.getD undef = .slice A (m + j) c' := hs 0 (by kernel_rfl)
          refine growsG_none (E := fun W W' => Below W.heap.size W W') rfl ?_
          clear hs hd
          unfold GrowsE
          go_simp
          exact Below.refl _ _
        · intro a W hC hs hd
          have hW : Below w4.heap.size w4 W := hC
          have e1 : a.tmps[1]?.getD undef = .slice (some ⟨b, 0, none⟩) k c0 := hs 1 (by kernel_rfl)
          refine growsG_none (E := fun W W' => Below W.heap.size W W') rfl ?_
          clear hs hd
          unfold GrowsE
          go_simp
          exact Below.refl _ _
        · intro a W hC hs hd
          have hW : Below w4.heap.size w4 W := hC
          have e5 : a.tmps[5]?.getD undef = .int .i64 j := hs 5 (by kernel_rfl)
          refine growsG_none (E := fun W W' => Below W.heap.size W W') rfl ?_
          clear hs hd
          unfold GrowsE
          go_simp
          exact Below.refl _ _
        · intro a W hC hs hd
          have hW : Below w4.heap.size w4 W := hC
          have e13 : (a.tmps[13]?.getD undef) = .slice (some ⟨b, 0, none⟩) k c0 := hd 1 13 (by kernel_rfl) (by kernel_rfl) (by kernel_rfl)
          have e14 : (a.tmps[14]?.getD undef) = .int .i64 j := hd 2 14 (by kernel_rfl) (by kernel_rfl) (by kernel_rfl)
          refine growsG_none (E := fun W W' => Below W.heap.size W W') rfl ?_
          have k0 := (hW.cell (p := ⟨b, j, none⟩) (zb)).trans (i1)
          have k1 := (hW.cell (p := ⟨b, z, none⟩) (zb)).trans (i2)
          clear hs hd
          unfold GrowsE
          go_simp
          exact Below.refl _ _
        · intro a W hC hs hd
          have hW : Below w4.heap.size w4 W := hC
          have e15 : (a.tmps[15]?.getD undef) = .pointer (some ⟨b, j, none⟩) := hd 3 15 (by kernel_rfl) (by kernel_rfl) (by kernel_rfl)
          refine growsG_none (E := fun W W' => Below W.heap.size W W') rfl ?_
          have k0 := (hW.cell (p := ⟨b, j, none⟩) (zb)).trans (i1)
          have k1 := (hW.cell (p := ⟨b, z, none⟩) (zb)).trans (i2)
          clear hs hd
          unfold GrowsE
          go_simp
          exact Below.refl _ _
        · intro a W hC hs hd
          have hW : Below w4.heap.size w4 W := hC
          have e1 : a.tmps[1]?.getD undef = .slice (some ⟨b, 0, none⟩) k c0 := hs 1 (by kernel_rfl)
          refine growsG_none (E := fun W W' => Below W.heap.size W W') rfl ?_
          clear hs hd
          unfold GrowsE
          go_simp
          exact Below.refl _ _
        · intro a W hC hs hd
          have hW : Below w4.heap.size w4 W := hC
          have e5 : a.tmps[5]?.getD undef = .int .i64 j := hs 5 (by kernel_rfl)
          refine growsG_none (E := fun W W' => Below W.heap.size W W') rfl ?_
          clear hs hd
          unfold GrowsE
          go_simp
          exact Below.refl _ _
        · intro a W hC hs hd
          have hW : Below w4.heap.size w4 W := hC
          have e18 : (a.tmps[18]?.getD undef) = .int .i64 j := hd 6 18 (by kernel_rfl) (by kernel_rfl) (by kernel_rfl)
          refine growsG_none (E := fun W W' => Below W.heap.size W W') rfl ?_
          clear hs hd
          unfold GrowsE
          go_simp
          exact Below.refl _ _
        · intro a W hC hs hd
          have hW : Below w4.heap.size w4 W := hC
          have e1 : a.tmps[1]?.getD undef = .slice (some ⟨b, 0, none⟩) k c0 := hs 1 (by kernel_rfl)
          refine growsG_none (E := fun W W' => Below W.heap.size W W') rfl ?_
          clear hs hd
          unfold GrowsE
          go_simp
          exact Below.refl _ _
        · intro a W hC hs hd
          have hW : Below w4.heap.size w4 W := hC
          have e20 : (a.tmps[20]?.getD undef) = .slice (some ⟨b, 0, none⟩) k c0 := hd 8 20 (by kernel_rfl) (by kernel_rfl) (by kernel_rfl)
          refine growsG_none (E := fun W W' => Below W.heap.size W W') rfl ?_
          clear hs hd
          unfold GrowsE
          go_simp
          exact Below.refl _ _
        · intro a W hC hs hd
          have hW : Below w4.heap.size w4 W := hC
          have e19 : (a.tmps[19]?.getD undef) = .int .i64 ((j + 1 : Nat) : Int) := hd 7 19 (by kernel_rfl) (by kernel_rfl) (by kernel_rfl)
          have e21 : (a.tmps[21]?.getD undef) = .int .i64 k := hd 9 21 (by kernel_rfl) (by kernel_rfl) (by kernel_rfl)
          refine growsG_none (E := fun W W' => Below W.heap.size W W') rfl ?_
          clear hs hd
          unfold GrowsE
          go_simp
          exact Below.refl _ _
        · intro a W hC hs hd
          have hW : Below w4.heap.size w4 W := hC
          have e17 : (a.tmps[17]?.getD undef) = .slice (some ⟨b, 0, none⟩) k c0 := hd 5 17 (by kernel_rfl) (by kernel_rfl) (by kernel_rfl)
          have e22 : (a.tmps[22]?.getD undef) = .int .i64 ((z : Nat) : Int) := hd 10 22 (by kernel_rfl) (by kernel_rfl) (by kernel_rfl)
          refine growsG_none (E := fun W W' => Below W.heap.size W W') rfl ?_
          have k0 := (hW.cell (p := ⟨b, j, none⟩) (zb)).trans (i1)
          have k1 := (hW.cell (p := ⟨b, z, none⟩) (zb)).trans (i2)
          clear hs hd
          unfold GrowsE
          go_simp
          exact Below.refl _ _
        · intro a W hC hs hd
          have hW : Below w4.heap.size w4 W := hC
          have e23 : (a.tmps[23]?.getD undef) = .pointer (some ⟨b, z, none⟩) := hd 11 23 (by kernel_rfl) (by kernel_rfl) (by kernel_rfl)
          refine growsG_none (E := fun W W' => Below W.heap.size W W') rfl ?_
          have k0 := (hW.cell (p := ⟨b, j, none⟩) (zb)).trans (i1)
          have k1 := (hW.cell (p := ⟨b, z, none⟩) (zb)).trans (i2)
          clear hs hd
          unfold GrowsE
          go_simp
          exact Below.refl _ _
        · intro a W hC hs hd
          have hW : Below w4.heap.size w4 W := hC
          have e16 : (a.tmps[16]?.getD undef) = .int .i64 y := hd 4 16 (by kernel_rfl) (by kernel_rfl) (by kernel_rfl)
          have e24 : (a.tmps[24]?.getD undef) = .int .i64 x := hd 12 24 (by kernel_rfl) (by kernel_rfl) (by kernel_rfl)
          refine growsG_none (E := fun W W' => Below W.heap.size W W') rfl ?_
          clear hs hd
          unfold GrowsE
          go_simp
          exact Below.refl _ _
        · intro a W hC hs hd
          have hW : Below w4.heap.size w4 W := hC
          have e25 : (a.tmps[25]?.getD undef) = .agg #[.int .i64 y, .int .i64 x] := hd 13 25 (by kernel_rfl) (by kernel_rfl) (by kernel_rfl)
          refine growsG_none (E := fun W W' => Below W.heap.size W W') rfl ?_
          clear hs hd
          unfold GrowsE
          go_simp
          exact ⟨(Below.refl _ _).alloc (Nat.le_refl _) _, _, rfl, hW.size, heap_alloc_new _ _⟩
      intro vs W hW hf
      have f12 : (vs 12) = .slice A (m + j) c' := hf 0 12 (by decide) (by kernel_rfl) (fun _ hk => by cases hk)
      have f13 : (vs 13) = .slice (some ⟨b, 0, none⟩) k c0 := hf 1 13 (by decide) (by kernel_rfl) (fun _ hk => by cases hk)
      have f14 : (vs 14) = .int .i64 j := hf 2 14 (by decide) (by kernel_rfl) (fun _ hk => by cases hk)
      have f15 : (vs 15) = .pointer (some ⟨b, j, none⟩) := hf 3 15 (by decide) (by kernel_rfl) (fun _ hk => by cases hk)
      have f16 : (vs 16) = .int .i64 y := hf 4 16 (by decide) (by kernel_rfl) (fun _ hk => by cases hk)
      have f17 : (vs 17) = .slice (some ⟨b, 0, none⟩) k c0 := hf 5 17 (by decide) (by kernel_rfl) (fun _ hk => by cases hk)
      have f18 : (vs 18) = .int .i64 j := hf 6 18 (by decide) (by kernel_rfl) (fun _ hk => by cases hk)
      have f19 : (vs 19) = .int .i64 ((j + 1 : Nat) : Int) := hf 7 19 (by decide) (by kernel_rfl) (fun _ hk => by cases hk)
      have f20 : (vs 20) = .slice (some ⟨b, 0, none⟩) k c0 := hf 8 20 (by decide) (by kernel_rfl) (fun _ hk => by cases hk)
      have f21 : (vs 21) = .int .i64 k := hf 9 21 (by decide) (by kernel_rfl) (fun _ hk => by cases hk)
      have f22 : (vs 22) = .int .i64 ((z : Nat) : Int) := hf 10 22 (by decide) (by kernel_rfl) (fun _ hk => by cases hk)
      have f23 : (vs 23) = .pointer (some ⟨b, z, none⟩) := hf 11 23 (by decide) (by kernel_rfl) (fun _ hk => by cases hk)
      have f24 : (vs 24) = .int .i64 x := hf 12 24 (by decide) (by kernel_rfl) (fun _ hk => by cases hk)
      have f25 : (vs 25) = .agg #[.int .i64 y, .int .i64 x] := hf 13 25 (by decide) (by kernel_rfl) (fun _ hk => by cases hk)
      have f26 : NewB w4.heap.size y x (vs 26) W := hf 14 26 (by decide) (by kernel_rfl) (fun _ hk => by cases hk)
      obtain ⟨H26, f26, hg26, h26⟩ := f26
      simp only [dsts, List.take_succ_cons, List.take_zero, List.drop_succ_cons, List.drop_zero, List.filterMap_cons, List.filterMap_nil, List.foldl_cons, List.foldl_nil, Act.put, List.setIfInBounds_toArray, List.set_cons_succ, List.set_cons_zero, f12, f13, f14, f15, f16, f17, f18, f19, f20, f21, f22, f23, f24, f25, f26]
      clear hf
      have hW : Below w4.heap.size w4 W := hW
      have OW := O.below hW
      have hbW := hb.trans (hW.mono hsz)
      have hH2 : W.heap[b]? = some (.cells cs 2) := (hW.block b zb).trans hHK.out
      have zb2 : b < W.heap.size := Nat.lt_of_lt_of_le zb hW.size
      have hH2 := Lib.hid hH2
      have hzW : base ≤ W.heap.size := Nat.le_trans hsz hW.size
      clear hW i1 i2 O hb
      go_wp2_with (at_builtin; refine wp_appEA2 rfl rfl rfl rfl h26 OW hzW (by omega) ?_; intro A6 c6 w6 O6 hg6 hat6)
      have hbF : Below base w w6 := OW.grown hbW (Nat.le_refl _) hg6 hzW
      have hH6 : w6.heap[b]? = some (.cells cs 2) := (hg6.block b zb2 (fun hh => HN.out hh)).trans hH2.out
      go_roundw
      case rel => exact ⟨j + 1, A6, c6, by omega, by go_num, rfl, by rw [HST.out, ← List.append_assoc]; exact O6, hH6, hbF⟩
      case measure => simp [intOf]; omega
    · obtain rfl : j = k := by omega
      go_wp2_with fail
      go_ret
      rw [HAL.out]
      exact ⟨A, c', rfl, O, hb⟩
end Go.Proofs.YtajnhkkiddeegaaGreat
