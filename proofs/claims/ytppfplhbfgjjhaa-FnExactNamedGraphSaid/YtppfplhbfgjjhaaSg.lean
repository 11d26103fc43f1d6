import Derived.Test.YtppfplhbfgjjhaaSo
import Derived.Test.YtppfplhbfgjjhaaSl
import Derived.Sort.OwnSortedInts
import Derived.Deep.QuietTactic
namespace Go.Proofs.Ytppfplhbfgjjhaa
open Go.RowKit Go.Sort Go.Shelf
/-! ### slices.SortFunc at edges -/
def encE (x : Int × Int) : List Value := [.int .i64 x.1, .int .i64 x.2]
def cfE (x y : Int × Int) : Int := cmp2 x.1 x.2 y.1 y.2
theorem ltE_eq (x y : Int × Int) : ltOf cfE x y = befE x y := by
  unfold ltOf cfE befE
  cases h : befB x.1 x.2 y.1 y.2 with
  | true => simp [(cmp2_lt _ _ _ _).2 h]
  | false =>
    have : ¬ cmp2 x.1 x.2 y.1 y.2 < 0 := fun h2 => by rw [(cmp2_lt _ _ _ _).1 h2] at h; cases h
    simp [this]
theorem swoE : SWO (ltOf cfE) where
  irrefl x := by rw [ltE_eq]; simp [befE, befB]
  trans x y z h1 h2 := by rw [ltE_eq, befE_iff] at *; omega
  ntrans x y z h1 h2 := by
    have g1 : ¬ befE x y = true := by rw [← ltE_eq]; simp [h1]
    have g2 : ¬ befE y z = true := by rw [← ltE_eq]; simp [h2]
    rw [befE_iff] at g1 g2
    cases h : ltOf cfE x z with
    | false => rfl
    | true => rw [ltE_eq, befE_iff] at h; omega
theorem flat_toList (es : List (Int × Int)) : (flatK encE 2 es.toArray).toList = flatE es := by
  apply List.ext_getElem?
  intro t
  by_cases ht : t < es.length * 2
  · have h1 : (flatK encE 2 es.toArray)[t]! = (encE (es.toArray[t / 2]!))[t % 2]! := get_flatK _ _ _ _ (by simpa using ht)
    have hj : t / 2 < es.length := by omega
    have h2 := flatE_at es (t / 2) hj
    have h3 : es.toArray[t / 2]! = (ea es (t / 2), eb es (t / 2)) := by
      rw [getElem!_pos _ _ (by simpa using hj), List.getElem_toArray, e_pair hj]
    rw [Array.getElem?_toList, Array.getElem?_eq_getElem (by simpa using ht)]
    rw [getElem!_pos _ _ (by simpa using ht)] at h1
    rw [h1, h3]
    rcases (show t % 2 = 0 ∨ t % 2 = 1 by omega) with h0 | h0
    · rw [h0, show t = t / 2 * 2 by omega, Nat.mul_div_cancel _ (by decide), h2.1]; rfl
    · rw [h0, show t = t / 2 * 2 + 1 by omega, show (t / 2 * 2 + 1) / 2 = t / 2 by omega, h2.2]; rfl
  · rw [List.getElem?_eq_none (by simp; omega), List.getElem?_eq_none (by rw [flatE_length]; omega)]
theorem take_putId (cur F : Array Value) (h : F.size ≤ cur.size) : (putCells id 0 F cur).toList.take F.size = F.toList := by
  apply List.ext_getElem?
  intro j
  by_cases hj : j < F.size
  · rw [List.getElem?_take_of_lt hj, Array.getElem?_toList]
    simp [putCells, hj, show j < cur.size by omega]
  · rw [List.getElem?_take_eq_none (by omega), List.getElem?_eq_none (by simp; omega)]
theorem heap_sortedK {w : World} {g n : Nat} {os : Array Obj} {cur : Array Value} {e : TypeId} {fr : Nat × Nat} (F : Array Value) (hb : w.heap[g]? = some (.cells cur e fr)) :
    (grow (putRow id (Sort.ahead w n) g 0 F) os).heap[g]? = some (.cells (putCells id 0 F cur) e fr) := by
  have hg : g < w.heap.size := (Array.getElem?_eq_some_iff.1 hb).1
  rw [heap_grow_old _ _ (by simpa using hg)]
  simp [putRow, mapBlock, Sort.ahead, Array.getElem?_modify, hb, onCells]
theorem grownBy_sortedK {w : World} {g n : Nat} {os : Array Obj} (F : Array Value) : w.grownBy (grow (putRow id (Sort.ahead w n) g 0 F) os) (some g) := by
  refine ⟨rfl, rfl, rfl, by simp, fun k hk hne => ?_⟩
  rw [heap_grow_old _ _ (by simpa using hk)]
  have : g ≠ k := fun e => hne (by rw [e])
  simp [putRow, mapBlock, Sort.ahead, Array.getElem?_modify, this]
theorem OwnE.sorted {base : Nat} {w : World} {g m c n : Nat} {os : Array Obj} {es es' : List (Int × Int)} (h : OwnE base w g m c es) (hl : es'.length = es.length) :
    OwnE base (grow (putRow id (Sort.ahead w n) g 0 (flatK encE 2 es'.toArray)) os) g m c es' := by
  obtain ⟨h0, h1, h2⟩ := h
  refine ⟨by rw [hl]; exact h0, by rw [flatE_length, hl, h0], ?_⟩
  rcases h2 with ⟨e, _⟩ | ⟨g', cap, cur, e, hb, hg, hn, hcap, hcs, hct⟩
  · cases e
  · cases e
    refine .inr ⟨g, c, _, rfl, hb, heap_sortedK _ hg, hn, hcap, by simp [putCells, hcs], ?_⟩
    have hs : (flatK encE 2 es'.toArray).size = m * 2 := by rw [size_flatK]; simp [hl, h0]
    rw [← hs, take_putId cur _ (by rw [hs, hcs]; exact Nat.mul_le_mul_right _ hn), flat_toList]
theorem OwnE.holds {base : Nat} {w : World} {g m c : Nat} {es : List (Int × Int)} (h : OwnE base w g m c es) : HoldsK encE 2 w g 0 es.toArray := by
  intro t ht
  have ht' : t < es.length * 2 := by simpa using ht
  rw [Nat.zero_add]
  refine ⟨?_, h.2.frozenAt t⟩
  rw [h.2.cellAt t (by rw [← h.1]; exact ht'), ← flat_toList]
  have : t < (flatK encE 2 es.toArray).size := ht
  rw [Array.getElem?_toList, Array.getElem?_eq_getElem this, getElem!_pos (flatK encE 2 es.toArray) t this]; rfl
set_option maxHeartbeats 1000000 in
theorem compareE_lay (a b c d : Int) (W : World) : Calls Try.prog 144 #[.agg #[.int .i64 a, .int .i64 b], .agg #[.int .i64 c, .int .i64 d]] W (fun e w' => e = .returned (.int .i64 (cmp2 a b c d)) ∧ ∃ q os', w' = grow (W.drewN q) os') := by
  go_enter Try.func144, Try.ntmps144
  go_wp2_with fail
  go_quiet ((go_at_call 167; refine Calls.quiet_of_same ((sCompare2_any _ _ _ _ _ _ a b c d _ (by simp [go_sem]) (by simp [go_sem]) (by simp [go_sem]) (by simp [go_sem])).mono fun _ _ ⟨he, hw⟩ => ⟨he, hw.symm⟩)))
  go_wp2_with fail
  go_ret
  exact ⟨rfl, nq, _, by rw [alloc_eq_grow, alloc_eq_grow, grow_grow]; rfl⟩
theorem cmpLaysE (blk off size : Nat) (w : World) : CmpLays Try.prog 144 #[] encE 2 cfE blk off size w :=
  fun _ _ _ _ x y => compareE_lay x.1 x.2 y.1 y.2 _
theorem sortF_any (base g m c : Nat) (es : List (Int × Int)) (w : World) (h : OwnE base w g m c es) (hm : m ≤ 1048576) :
    Calls Try.prog 143 #[.slice (some ⟨g, 0, none⟩) m c, .func (.func 144) #[] #[]] w (fun e w' => e = .returned (.tuple #[]) ∧ (∃ xs, xs.Perm es ∧ SortedQ xs ∧ OwnE base w' g m c xs) ∧ w.grownBy w' (some g)) := by
  have eg : ∀ args w, (callFunc 144 args).run Try.prog w = .ok (.enter 144 args) w := enters_of Try.func144 (by kernel_rfl) rfl
  have hcon := AnyQ.slices_SortFunc sortE 2 Try.isAgg98 Try.sizeOf98 encE (fun _ => rfl) (fun x v hv => by simp [encE] at hv; rcases hv with rfl | rfl <;> rfl) cfE swoE 144 #[] g 0 c es.toArray w eg (cmpLaysE g 0 es.toArray.size w) h.holds h.ge.2 (by simp; have := h.1; omega)
  have hs : es.toArray.size = m := by simp [h.1]
  rw [hs] at hcon
  refine Calls.mono hcon ?_
  rintro e w' ⟨rfl, d', n, os, hp, hso, rfl⟩
  have hsz := hp.1
  have hpl : d'.toList.Perm es := by
    have := hp.2.2
    rw [← hs] at this
    rwa [show d'.extract 0 es.toArray.size = d' by rw [← hsz]; exact Array.extract_size, Array.extract_size] at this
  refine ⟨rfl, ⟨d'.toList, hpl, ?_, ?_⟩, grownBy_sortedK _⟩
  · unfold SortedQ
    rw [List.pairwise_iff_getElem]
    intro i j hi hj hij
    have hi' : i < d'.size := by simpa using hi
    have hj' : j < d'.size := by simpa using hj
    have := hso i j (Nat.zero_le _) hij (by rw [← hs, ← hsz]; exact hj')
    rw [ltE_eq, getElem!_pos d' j hj', getElem!_pos d' i hi'] at this
    simp [leE, this]
  · have := OwnE.sorted (n := n) (os := os) h (es' := d'.toList) (by simp [hsz])
    simp only [Array.toArray_toList] at this
    exact this
end Go.Proofs.Ytppfplhbfgjjhaa
