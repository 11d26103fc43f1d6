import Derived.Test.YtppfplhbfgjjhaaGa
import Derived.Test.YtppfplhbfgjjhaaM13
namespace Go.Proofs.Ytppfplhbfgjjhaa
open Go.RowKit Go.Sort
/-! ### The laws' words over graphs as results -/
theorem OwnEA.src {base : Nat} {w : World} {A : Option Addr} {m c : Nat} {es : List (Int × Int)} (h : OwnEA base w A m c es) : SrcE w A m es := by
  refine ⟨h.1, fun hm => ?_⟩
  rcases h.cases with ⟨_, h0, _⟩ | ⟨g, rfl, hg⟩
  · omega
  · exact ⟨g, 0, rfl, hg.eds⟩
/-- The call returns a new graph, maybe an empty one, and a code. -/
def RetGC (n : Int) (es : List (Int × Int)) (k : Int) (w : World) (e : Ending) (w' : World) : Prop := ∃ A c, e = .returned (.tuple #[.agg #[.int .i64 n, .slice A es.length c], .int .i64 k]) ∧ OwnEA w.heap.size w' A es.length c es ∧ Below w.heap.size w w'
theorem eqEdgeS_sameA (A1 A2 : Option Addr) (m c1 c2 : Nat) (es : List (Int × Int)) (w : World) (h1 : SrcE w A1 m es) (h2 : SrcE w A2 m es) (hm : m ≤ 1048576) :
    Calls Try.prog 49 #[.slice A1 m c1, .slice A2 m c2] w (Ret (.bool true) w) := by
  rcases Nat.eq_zero_or_pos m with h0 | h0
  · subst h0
    go_enter Try.func49, Try.ntmps49
    go_wp2_with fail
    go_rounds 1
    go_ret
    exact ⟨rfl, Below.refl _ _⟩
  · obtain ⟨b1, o1, rfl, i1⟩ := h1.2 h0
    obtain ⟨b2, o2, rfl, i2⟩ := h2.2 h0
    have := eqEdgeS_any b1 o1 m c1 b2 o2 m c2 es es w i1 i2 hm hm
    rwa [B_true rfl] at this
theorem eqGraph_sameA (n : Int) (A1 A2 : Option Addr) (m c1 c2 : Nat) (es : List (Int × Int)) (w : World) (h1 : SrcE w A1 m es) (h2 : SrcE w A2 m es) (hm : m ≤ 1048576) :
    Calls Try.prog 19 #[.agg #[.int .i64 n, .slice A1 m c1], .agg #[.int .i64 n, .slice A2 m c2]] w (Ret (.bool true) w) := by
  have hb := ((by go_grown : Below w.heap.size w ((w.alloc (.cells #[.int .i64 n, .slice A1 m c1] 30)).alloc (.cells #[.int .i64 n, .slice A2 m c2] 30))))
  have H := Lib.hid (eqEdgeS_sameA A1 A2 m c1 c2 es _ (h1.below hb) (h2.below hb) hm)
  go_enter Try.func19, Try.ntmps19
  go_wp2_with fail
  refine H.out.mono ?_
  rintro e w2 ⟨rfl, hb2⟩
  have hB := hb.thenB (by simp; omega) hb2
  go_wp2_with fail
  go_ret
  exact ⟨rfl, hB⟩
theorem ea_set (l : List (Int × Int)) (j i : Nat) (a b : Int) (hj : j < l.length) : ea (l.set j (a, b)) i = (if i = j then a else ea l i) ∧ eb (l.set j (a, b)) i = (if i = j then b else eb l i) := by
  unfold ea eb
  simp only [List.getD_eq_getElem?_getD, List.getElem?_set]
  by_cases h : j = i
  · subst h; simp [hj]
  · simp [h]; exact ⟨fun e => absurd e.symm h, fun e => absurd e.symm h⟩
def MarkE (k : Int) (ys : List (Int × Int)) (m : Nat) : Prop := ∀ i : Nat, i < m → ea ys i = k + 2 * (i : Int) ∧ eb ys i = k + 2 * (i : Int) + 1
set_option maxHeartbeats 800000 in
theorem markEdgeS_m (base : Nat) (A : Option Addr) (m c : Nat) (es : List (Int × Int)) (k : Int) (w : World) (h : OwnEA base w A m c es) (hm : m ≤ 1048576) (hk : 0 ≤ k) (hk2 : k ≤ 1099511627776) :
    Calls Try.prog 50 #[.slice A m c, .int .i64 k] w fun e w' => e = .returned (.int .i64 (k + 2 * m)) ∧ (∃ ys, OwnEA base w' A m c ys ∧ MarkE k ys m) ∧ w.grownBy w' (blkOf A) := by
  rcases Nat.eq_zero_or_pos m with h0 | h0
  · subst h0
    have HH := Lib.hid h
    clear h
    go_enter Try.func50, Try.ntmps50
    go_wp2_with fail
    go_rounds 1
    go_ret
    exact ⟨by simp, ⟨es, HH.out, fun i hi => by omega⟩, World.grownBy.refl _ _⟩
  obtain ⟨g, rfl, OG⟩ : ∃ g, A = some ⟨g, 0, none⟩ ∧ OwnE base w g m c es := by
    rcases h.cases with ⟨_, h1, _⟩ | h1
    · omega
    · exact h1
  have HH := Lib.hid OG
  clear h OG
  go_enter Try.func50, Try.ntmps50
  go_wp2_with fail
  go_loopw [1, 5, 6] (fun q i _ wr => ∃ (j : Nat) (ys : List (Int × Int)), j ≤ m ∧ i = .int .i64 j ∧ q = .int .i64 (k + 2 * j) ∧ OwnE base wr g m c ys ∧ Hid (MarkE k ys j) ∧ w.grownBy wr (some g)) (fun _ i _ _ => m - (intOf i).toNat)
  case atStart => exact ⟨0, es, Nat.zero_le _, rfl, by go_num, HH.out, fun i hi => by omega, World.grownBy.refl _ _⟩
  case round =>
    obtain ⟨j, ys, hj, rfl, rfl, ho, HM, hgr⟩ := hrel
    by_cases hlt : j < m
    · have hlen := ho.1
      have c1 := ho.eds.ca j hlt
      have c2 := ho.eds.cb j hlt
      rw [Nat.zero_add] at c1 c2
      have f1 := ho.2.frozenAt (j * 2)
      have f2 := ho.2.frozenAt (j * 2 + 1)
      have st := ho.2.stored (j * 2) (.int .i64 (k + 2 * j))
      have st2 := st.1.stored (j * 2 + 1) (.int .i64 (k + 2 * j + 1))
      rw [flatE_set] at st2
      have HO : Hid (OwnE base ((wr.setCell ⟨g, j * 2, none⟩ (.int .i64 (k + 2 * j))).setCell ⟨g, j * 2 + 1, none⟩ (.int .i64 (k + 2 * j + 1))) g m c (ys.set j (k + 2 * j, k + 2 * j + 1))) := ⟨by simpa using hlen, st2.1⟩
      have HG : Hid (w.grownBy ((wr.setCell ⟨g, j * 2, none⟩ (.int .i64 (k + 2 * j))).setCell ⟨g, j * 2 + 1, none⟩ (.int .i64 (k + 2 * j + 1))) (some g)) := grownTrans (grownTrans hgr st.2) st2.2
      have HM2 : Hid (MarkE k (ys.set j (k + 2 * j, k + 2 * j + 1)) (j + 1)) := fun i hi => by
        have h5 := ea_set ys j i (k + 2 * j) (k + 2 * j + 1) (by omega)
        rw [h5.1, h5.2]
        by_cases e : i = j
        · subst e; simp
        · rw [if_neg e, if_neg e]; exact HM.out i (by omega)
      clear ho st st2 hgr hlen
      go_wp2_with fail
      go_rounds 3
      go_roundw
      case rel => exact ⟨j + 1, _, by omega, by go_num, by go_num, HO.out, HM2, HG.out⟩
      case measure => simp [intOf]; omega
    · obtain rfl : j = m := by omega
      go_wp2_with fail
      go_ret
      exact ⟨rfl, ⟨ys, ho, HM.out⟩, hgr⟩
set_option maxHeartbeats 800000 in
theorem heldEdgeS_m (A : Option Addr) (m c : Nat) (ys : List (Int × Int)) (k : Int) (w : World) (h : SrcE w A m ys) (hM : MarkE k ys m) (hm : m ≤ 1048576) (hk : 0 ≤ k) (hk2 : k ≤ 1099511627776) :
    Calls Try.prog 93 #[.slice A m c, .int .i64 k] w (Ret (.int .i64 (k + 2 * m)) w) := by
  rcases Nat.eq_zero_or_pos m with h0 | h0
  · subst h0
    go_enter Try.func93, Try.ntmps93
    go_wp2_with fail
    go_rounds 1
    go_ret
    exact ⟨by simp, Below.refl _ _⟩
  obtain ⟨b, o, rfl, E⟩ := h.2 h0
  have HM := Lib.hid hM
  clear h hM
  go_enter Try.func93, Try.ntmps93
  go_wp2_with fail
  go_loopw [1, 5, 6] (fun q i _ wr => ∃ (j : Nat), j ≤ m ∧ i = .int .i64 j ∧ q = .int .i64 (k + 2 * j) ∧ Below w.heap.size w wr) (fun _ i _ _ => m - (intOf i).toNat)
  case atStart => exact ⟨0, Nat.zero_le _, rfl, by go_num, Below.refl _ _⟩
  case round =>
    obtain ⟨j, hj, rfl, rfl, hb⟩ := hrel
    by_cases hlt : j < m
    · have E2 := E.below hb
      have c1 := E2.ca j hlt
      have c2 := E2.cb j hlt
      have zE := E2.blk
      have hmk := HM.out j hlt
      rw [hmk.1] at c1
      rw [hmk.2] at c2
      clear hmk
      go_wp2_with fail
      go_rounds 3
      go_roundw
      case rel => exact ⟨j + 1, by omega, by go_num, by go_num, hb⟩
      case measure => simp [intOf]; omega
    · obtain rfl : j = m := by omega
      go_wp2_with fail
      go_ret
      exact ⟨rfl, hb⟩
theorem markGraph_m (base : Nat) (n : Int) (A : Option Addr) (m c : Nat) (es : List (Int × Int)) (k : Int) (w : World) (h : OwnEA base w A m c es) (hm : m ≤ 1048576) (hk : 0 ≤ k) (hk2 : k ≤ 1099511627776) :
    Calls Try.prog 25 #[.agg #[.int .i64 n, .slice A m c], .int .i64 k] w fun e w' => e = .returned (.int .i64 (k + 2 * m)) ∧ (∃ ys, OwnEA base w' A m c ys ∧ MarkE k ys m) ∧ w.grownBy w' (blkOf A) := by
  have hb := (by go_grown : Below w.heap.size w (w.alloc (.cells #[.int .i64 n, .slice A m c] 30)))
  have H := Lib.hid (markEdgeS_m base A m c es k _ (h.below hb) hm hk hk2)
  go_enter Try.func25, Try.ntmps25
  go_wp2_with fail
  refine H.out.mono ?_
  rintro e w2 ⟨rfl, hy, hg⟩
  have HY := Lib.hid hy
  have hG := grownTrans (below_grownBy hb (blkOf A)) hg
  clear hy hg
  go_wp2_with fail
  go_ret
  exact ⟨rfl, HY.out, hG⟩
theorem heldGraph_m (n : Int) (A : Option Addr) (m c : Nat) (ys : List (Int × Int)) (k : Int) (w : World) (h : SrcE w A m ys) (hM : MarkE k ys m) (hm : m ≤ 1048576) (hk : 0 ≤ k) (hk2 : k ≤ 1099511627776) :
    Calls Try.prog 44 #[.agg #[.int .i64 n, .slice A m c], .int .i64 k] w (Ret (.int .i64 (k + 2 * m)) w) := by
  have hb := (by go_grown : Below w.heap.size w (w.alloc (.cells #[.int .i64 n, .slice A m c] 30)))
  have H := Lib.hid (heldEdgeS_m A m c ys k _ (h.below hb) hM hm hk hk2)
  go_enter Try.func44, Try.ntmps44
  go_wp2_with fail
  refine H.out.mono ?_
  rintro e w2 ⟨rfl, hb2⟩
  have hB := hb.thenB (by simp) hb2
  go_wp2_with fail
  go_ret
  exact ⟨rfl, hB⟩
end Go.Proofs.Ytppfplhbfgjjhaa
