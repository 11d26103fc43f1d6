import Derived.Test.YtccinfmphkihoaaGi
namespace Go.Proofs.Ytccinfmphkihoaa
open Go.RowKit Go.Sort
/-- A list as a function. -/
def ia (xs : List Int) (j : Nat) : Int := xs.getD j 0
theorem ia_ext {xs ys : List Int} (h : xs.length = ys.length) (hj : ∀ j, j < xs.length → ia xs j = ia ys j) : xs = ys := by
  apply List.ext_getElem h
  intro j h1 h2
  have := hj j h1
  simpa [ia, h1, h2] using this
def nums (xs : List Int) : List Value := xs.map (Value.int .i64)
theorem nums_at (xs : List Int) (j : Nat) (h : j < xs.length) : (nums xs)[j]? = some (.int .i64 (ia xs j)) := by simp [nums, ia, h]
/-- A list of the call's own, maybe nil. -/
def OwnL (base : Nat) (w : World) (A : Option Addr) (m c : Nat) (xs : List Int) : Prop := xs.length = m ∧ w.ownsRow base 2 1 (.slice A m c) m (nums xs)
/-- The block of a slice. -/
def blkOf (A : Option Addr) : Option Nat := A.map (·.block)
theorem OwnL.nil (base : Nat) (w : World) : OwnL base w none 0 0 [] := ⟨rfl, World.ownsRow_nil _ _ _ _⟩
theorem OwnL.cases {base : Nat} {w : World} {A : Option Addr} {m c : Nat} {xs : List Int} (h : OwnL base w A m c xs) : (A = none ∧ m = 0 ∧ c = 0) ∨ ∃ g, A = some ⟨g, 0, none⟩ ∧ base ≤ g ∧ g < w.heap.size := by
  rcases h.2.2 with ⟨e, e2⟩ | ⟨g, cap, cur, e, hb, hg, _⟩
  · injection e with e1 e3 e4; exact .inl ⟨e1, e3, e4⟩
  · injection e with e1 e3 e4; exact .inr ⟨g, e1, hb, (Array.getElem?_eq_some_iff.1 hg).1⟩
theorem OwnL.src {base : Nat} {w : World} {A : Option Addr} {m c : Nat} {xs : List Int} (h : OwnL base w A m c xs) : SrcI w A m (ia xs) := by
  intro hm
  rcases h.cases with ⟨_, h0, _⟩ | ⟨g, rfl, hb, hg⟩
  · omega
  · exact ⟨g, 0, rfl, hg, fun j hj => by rw [Nat.zero_add, h.2.cellAt j (by omega)]; exact nums_at xs j (by rw [h.1]; exact hj)⟩
theorem OwnL.kept {base : Nat} {w w' : World} {A : Option Addr} {m c : Nat} {xs : List Int} {row : Option Nat} (h : OwnL base w A m c xs) (hg : w.grownBy w' row) (hne : blkOf A = none ∨ blkOf A ≠ row) : OwnL base w' A m c xs :=
  ⟨h.1, h.2.kept hg (by cases A <;> simp [Value.ownBlock, blkOf] at hne ⊢; exact hne)⟩
theorem below_grownBy {w w' : World} (hb : Below w.heap.size w w') (row : Option Nat) : w.grownBy w' row := ⟨hb.os, hb.tape, hb.output, hb.size, fun i hi _ => hb.block i hi⟩
theorem OwnL.below {base : Nat} {w w' : World} {A : Option Addr} {m c : Nat} {xs : List Int} (h : OwnL base w A m c xs) (hb : Below w.heap.size w w') : OwnL base w' A m c xs :=
  h.kept (row := none) (below_grownBy hb none) (by cases A <;> simp [blkOf])
theorem OwnL.mono {base base' : Nat} {w : World} {A : Option Addr} {m c : Nat} {xs : List Int} (h : OwnL base w A m c xs) (hb : base' ≤ base) : OwnL base' w A m c xs := by
  refine ⟨h.1, h.2.1, ?_⟩
  rcases h.2.2 with hn | ⟨g', cap, cur, e, hbg, r⟩
  · exact .inl hn
  · exact .inr ⟨g', cap, cur, e, Nat.le_trans hb hbg, r⟩
theorem OwnL.blk {base : Nat} {w : World} {A : Option Addr} {m c : Nat} {xs : List Int} (h : OwnL base w A m c xs) : ∀ g, blkOf A = some g → base ≤ g ∧ g < w.heap.size := by
  intro g hg
  rcases h.cases with ⟨rfl, _⟩ | ⟨g', rfl, hb, hl⟩
  · cases hg
  · simp [blkOf] at hg; omega
/-- The call returns a new list, maybe nil. -/
def RetL (xs : List Int) (w : World) (e : Ending) (w' : World) : Prop := ∃ A c, e = .returned (.slice A xs.length c) ∧ OwnL w.heap.size w' A xs.length c xs ∧ Below w.heap.size w w'
/-- The call returns a new list, maybe nil, and a code. -/
def RetLC (xs : List Int) (k : Int) (w : World) (e : Ending) (w' : World) : Prop := ∃ A c, e = .returned (.tuple #[.slice A xs.length c, .int .i64 k]) ∧ OwnL w.heap.size w' A xs.length c xs ∧ Below w.heap.size w w'
theorem Below.ofGrown {B : Nat} {w0 w w' : World} {row : Option Nat} (h : Below B w0 w) (hg : w.grownBy w' row) (hB : B ≤ w.heap.size) (hr : ∀ k, row = some k → B ≤ k) : Below B w0 w' := h.grown hg hB hr
theorem grownTrans {a b c : World} {row : Option Nat} (h : a.grownBy b row) (k : b.grownBy c row) : a.grownBy c row :=
  ⟨k.os.trans h.os, k.tape.trans h.tape, k.output.trans h.output, Nat.le_trans h.size k.size, fun i hi hne => (k.block i (Nat.lt_of_lt_of_le hi h.size) hne).trans (h.block i hi hne)⟩
theorem eqInt64S_eq (A1 A2 : Option Addr) (m c1 c2 : Nat) (f : Nat → Int) (w : World) (h1 : SrcI w A1 m f) (h2 : SrcI w A2 m f) (hm : m ≤ 1048576) :
    Calls Try.prog 22 #[.slice A1 m c1, .slice A2 m c2] w (Ret (.bool true) w) := by
  rcases Nat.eq_zero_or_pos m with h0 | h0
  · subst h0
    go_enter Try.func22, Try.ntmps22
    go_wp2_with fail
    go_rounds 1
    go_ret
    exact ⟨rfl, Below.refl _ _⟩
  · obtain ⟨b1, o1, rfl, i1⟩ := h1 h0
    obtain ⟨b2, o2, rfl, i2⟩ := h2 h0
    exact eqInt64S_same _ _ _ _ _ _ _ f w i1 i2 hm
theorem markInt64S_any (base : Nat) (A : Option Addr) (m c : Nat) (xs : List Int) (k : Int) (w : World) (h : OwnL base w A m c xs) (hm : m ≤ 1048576) (hk : 0 ≤ k) (hk2 : k ≤ 1099511627776) :
    Calls Try.prog 24 #[.slice A m c, .int .i64 k] w fun e w' => e = .returned (.int .i64 (k + m)) ∧ (∃ ys, OwnL base w' A m c ys ∧ ∀ j, j < m → ia ys j = k + j) ∧ w.grownBy w' (blkOf A) := by
  rcases h.cases with ⟨rfl, rfl, rfl⟩ | ⟨g, rfl, hbg, hg⟩
  · go_enter Try.func24, Try.ntmps24
    go_wp2_with fail
    go_rounds 1
    go_ret
    exact ⟨ret_int (by simp), ⟨xs, h, fun j hj => absurd hj (by omega)⟩, World.grownBy.refl _ _⟩
  · have HH := Lib.hid h
    clear h
    go_enter Try.func24, Try.ntmps24
    go_wp2_with fail
    go_loopw [1, 5] (fun q i wr => ∃ j : Nat, j ≤ m ∧ i = .int .i64 j ∧ q = .int .i64 (k + j) ∧ (∃ ys, OwnL base wr (some ⟨g, 0, none⟩) m c ys ∧ ∀ u, u < j → ia ys u = k + u) ∧ w.grownBy wr (some g)) (fun _ i _ => m - (intOf i).toNat)
    case atStart => exact ⟨0, Nat.zero_le _, rfl, by go_num, ⟨xs, HH.out, fun u hu => absurd hu (by omega)⟩, World.grownBy.refl _ _⟩
    case round =>
      obtain ⟨j, hj, rfl, rfl, ⟨ys, ho, hys⟩, hgr⟩ := hrel
      by_cases hlt : j < m
      · have c1 := ho.2.cellAt j (by omega)
        rw [nums_at ys j (by rw [ho.1]; exact hlt)] at c1
        have f1 := ho.2.frozenAt j
        have st := ho.2.stored j (.int .i64 (k + j))
        have HS : Hid (OwnL base (wr.setCell ⟨g, j, none⟩ (.int .i64 (k + j))) (some ⟨g, 0, none⟩) m c (ys.set j (k + j))) := ⟨by simp [ho.1], by have := st.1; simpa [nums, List.map_set] using this⟩
        have HG : Hid (w.grownBy (wr.setCell ⟨g, j, none⟩ (.int .i64 (k + j))) (some g)) := grownTrans hgr st.2
        have HY : Hid (∀ u, u < j + 1 → ia (ys.set j (k + j)) u = k + u) := fun u hu => by
          by_cases huj : u = j
          · subst huj; simp [ia, ho.1, hlt]
          · have : ia (ys.set j (k + j)) u = ia ys u := by simp [ia, List.getElem?_set_ne (fun e => huj e.symm)]
            rw [this, hys u (by omega)]
        clear ho hys st hgr
        go_wp2_with fail
        go_roundw
        case rel => exact ⟨j + 1, by omega, by go_num, by go_num, ⟨_, HS.out, HY.out⟩, HG.out⟩
        case measure => simp [intOf]; omega
      · obtain rfl : j = m := by omega
        have HY := Lib.hid hys
        clear hys
        go_wp2_with fail
        go_ret
        exact ⟨rfl, ⟨ys, ho, HY.out⟩, hgr⟩
theorem heldInt64S_any (A : Option Addr) (m c : Nat) (f : Nat → Int) (k : Int) (w : World) (h : SrcI w A m f) (hm : m ≤ 1048576) (hk : 0 ≤ k) (hk2 : k ≤ 1099511627776) (hf : ∀ j, j < m → f j = k + j) :
    Calls Try.prog 25 #[.slice A m c, .int .i64 k] w (Is (.int .i64 (k + m)) w) := by
  rcases Nat.eq_zero_or_pos m with h0 | h0
  · subst h0
    clear hf
    go_enter Try.func25, Try.ntmps25
    go_wp2_with fail
    go_rounds 1
    go_ret
    exact ⟨ret_int (by simp), rfl⟩
  · obtain ⟨b, o, rfl, I⟩ := h h0
    have HF := Lib.hid hf
    clear hf h
    go_enter Try.func25, Try.ntmps25
    go_wp2_with fail
    go_loop [1, 5] (fun q i => ∃ j : Nat, j ≤ m ∧ i = .int .i64 j ∧ q = .int .i64 (k + j)) (fun _ i => m - (intOf i).toNat)
    case atStart => exact ⟨0, Nat.zero_le _, rfl, by go_num⟩
    case round =>
      obtain ⟨j, hj, rfl, rfl⟩ := hrel
      by_cases hlt : j < m
      · have c1 := I.c j hlt
        rw [HF.out j hlt] at c1
        go_wp2_with fail
        go_round
        case rel => exact ⟨j + 1, by omega, by go_num, by go_num⟩
        case measure => simp [intOf]; omega
      · obtain rfl : j = m := by omega
        go_wp2_with fail
        go_ret
        exact ⟨rfl, rfl⟩
theorem flatE_set1 (l : List (Int × Int)) (k : Nat) (a : Int) (h : k < l.length) : (flatE l).set (k * 2) (.int .i64 a) = flatE (l.set k (a, eb l k)) ∧ (flatE l).set (k * 2 + 1) (.int .i64 a) = flatE (l.set k (ea l k, a)) := by
  induction l generalizing k with
  | nil => simp at h
  | cons e l ih =>
    cases k with
    | zero => simp [flatE, ea, eb]
    | succ k =>
      have := ih k (by simpa using h)
      simp only [flatE, List.flatMap_cons, List.set_cons_succ] at this ⊢
      rw [show (k + 1) * 2 = (k * 2 + 1) + 1 from by omega]
      simpa [ea, eb] using this
/-- Whatever edges they are now. -/
def AnyE (base : Nat) (w : World) (g m c : Nat) : Prop := ∃ es, OwnE base w g m c es
theorem markEdgeS_any (base g m c : Nat) (k : Int) (w : World) (h : AnyE base w g m c) (hm : m ≤ 1048576) (hk : 0 ≤ k) (hk2 : k ≤ 1099511627776) :
    Calls Try.prog 64 #[.slice (some ⟨g, 0, none⟩) m c, .int .i64 k] w fun e w' => e = .returned (.int .i64 (k + 2 * m)) ∧ w.grownBy w' (some g) := by
  have HH := Lib.hid h
  clear h
  go_enter Try.func64, Try.ntmps64
  go_wp2_with fail
  go_loopw [1, 5, 6] (fun q i _ wr => ∃ j : Nat, j ≤ m ∧ i = .int .i64 j ∧ q = .int .i64 (k + 2 * j) ∧ AnyE base wr g m c ∧ w.grownBy wr (some g)) (fun _ i _ _ => m - (intOf i).toNat)
  case atStart => exact ⟨0, Nat.zero_le _, rfl, by go_num, HH.out, World.grownBy.refl _ _⟩
  case round =>
    obtain ⟨j, hj, rfl, rfl, ⟨es, ho⟩, hgr⟩ := hrel
    by_cases hlt : j < m
    · have hlen := ho.1
      have c1 := ho.eds.ca j hlt
      have c2 := ho.eds.cb j hlt
      rw [Nat.zero_add] at c1 c2
      have f1 := ho.2.frozenAt (j * 2)
      have f2 := ho.2.frozenAt (j * 2 + 1)
      have st := ho.2.stored (j * 2) (.int .i64 (k + 2 * j))
      have st2 := st.1.stored (j * 2 + 1) (.int .i64 (k + 2 * j + 1))
      rw [flatE_set] at st2
      have HO : Hid (AnyE base ((wr.setCell ⟨g, j * 2, none⟩ (.int .i64 (k + 2 * j))).setCell ⟨g, j * 2 + 1, none⟩ (.int .i64 (k + 2 * j + 1))) g m c) := ⟨_, by simpa using hlen, st2.1⟩
      have HG : Hid (w.grownBy ((wr.setCell ⟨g, j * 2, none⟩ (.int .i64 (k + 2 * j))).setCell ⟨g, j * 2 + 1, none⟩ (.int .i64 (k + 2 * j + 1))) (some g)) := grownTrans (grownTrans hgr st.2) st2.2
      clear ho st st2 hgr hlen
      go_wp2_with fail
      go_rounds 3
      go_roundw
      case rel => exact ⟨j + 1, by omega, by go_num, by go_num, HO.out, HG.out⟩
      case measure => simp [intOf]; omega
    · obtain rfl : j = m := by omega
      go_wp2_with fail
      go_ret
      exact ⟨rfl, hgr⟩
end Go.Proofs.Ytccinfmphkihoaa
