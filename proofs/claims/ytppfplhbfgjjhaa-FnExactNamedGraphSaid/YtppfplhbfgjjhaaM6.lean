import Derived.Test.YtppfplhbfgjjhaaM3
import Derived.Test.YtppfplhbfgjjhaaM5
import Derived.Test.YtppfplhbfgjjhaaM4
namespace Go.Proofs.Ytppfplhbfgjjhaa
open Go.RowKit Go.Sort
theorem closL_any (f : FuncId) (caps : Array Value) (bx : Nat) (a : Int) (r : Bool) (w : World) (he : Enters f) (hc : w.cell? ⟨bx, 0, none⟩ = some (.func (.func f) #[] caps))
    (hf : ∀ w', Below w.heap.size w w' → Calls Try.prog f (#[.int .i64 a] ++ caps) w' (Ret (.bool r) w')) :
    Calls Try.prog 163 #[.int .i64 a, .pointer (some ⟨bx, 0, none⟩)] w (Ret (.bool (!r)) w) := by
  have hbx : bx < w.heap.size := World.block_lt_of_cell? w _ hc
  have hF := Lib.hid hf
  have he1 := he
  unfold Enters at he1
  clear hf he
  go_enter Try.func163, Try.ntmps163
  go_wp2_with fail
  refine (hF.out _ (by go_grown)).mono ?_
  rintro e w1 ⟨rfl, hb1⟩
  go_wp2_with fail
  go_ret
  exact ⟨rfl, hb1⟩
theorem indexFuncL_any (f : FuncId) (caps : Array Value) (bx : Nat) (r : Nat → Bool) (b o m c : Nat) (g : Nat → Int) (w : World) (h : Ints w b o m g) (hm : m ≤ 1048576) (he : Enters f) (hc : w.cell? ⟨bx, 0, none⟩ = some (.func (.func f) #[] caps))
    (hf : ∀ j, j < m → ∀ w', Below w.heap.size w w' → Calls Try.prog f (#[.int .i64 (g j)] ++ caps) w' (Ret (.bool (r j)) w')) :
    Calls Try.prog 175 #[.slice (some ⟨b, o, none⟩) m c, .func (.func 163) #[] #[.pointer (some ⟨bx, 0, none⟩)]] w (Ret (.int .i64 (fstI (fun j => !(r j)) m)) w) := by
  have hbx : bx < w.heap.size := World.block_lt_of_cell? w _ hc
  have hF := Lib.hid hf
  have hE := Lib.hid he
  have hC := Lib.hid hc
  clear hf he hc
  go_enter Try.func175, Try.ntmps175
  go_wp2_with fail
  go_loopw [8] (fun i wr => ∃ k : Nat, k ≤ m ∧ i = .int .i64 k ∧ Hid (∀ j, j < k → (!(r j)) = false) ∧ Below w.heap.size w wr) (fun i _ => m - (intOf i).toNat)
  case atStart => exact ⟨0, Nat.zero_le _, rfl, fun j hj => by omega, Below.refl _ _⟩
  case round =>
    obtain ⟨k, hk, rfl, HP, hbw⟩ := hrel
    by_cases hlt : k < m
    · have E := h.below hbw
      have e1 := E.c k hlt
      cases hq : r k with
      | true =>
        have HP' : Hid (∀ j, j < k + 1 → (!(r j)) = false) := fun j hj => by
          by_cases hjk : j < k
          · exact HP.out j hjk
          · obtain rfl : j = k := by omega
            rw [hq]; rfl
        clear E
        go_wp2_with fail
        refine (closL_any f caps bx _ (r k) _ hE.out ((hbw.cell (p := ⟨bx, 0, none⟩) hbx).trans hC.out) (fun w' hw' => hF.out k hlt w' (hbw.andB hw'))).mono ?_
        rintro e w2 ⟨rfl, hb2⟩
        rw [hq]
        go_wp2_with fail
        go_roundw
        case rel => exact ⟨k + 1, by omega, by go_num, HP', hbw.andB hb2⟩
        case measure => simp [intOf]; omega
      | false =>
        clear E
        go_wp2_with fail
        refine (closL_any f caps bx _ (r k) _ hE.out ((hbw.cell (p := ⟨bx, 0, none⟩) hbx).trans hC.out) (fun w' hw' => hF.out k hlt w' (hbw.andB hw'))).mono ?_
        rintro e w2 ⟨rfl, hb2⟩
        rw [hq]
        go_wp2_with fail
        go_ret
        exact ⟨ret_int (fstI_at hlt (by rw [hq]; rfl) HP.out).symm, hbw.andB hb2⟩
    · go_wp2_with fail
      go_ret
      exact ⟨ret_int (fstI_none fun j hj => HP.out j (by omega)).symm, hbw⟩
theorem areAllL_any (f : FuncId) (caps : Array Value) (r : Nat → Bool) (b o m c : Nat) (g : Nat → Int) (w : World) (h : Ints w b o m g) (hm : m ≤ 1048576) (he : Enters f)
    (hf : ∀ j, j < m → ∀ w', Below w.heap.size w w' → Calls Try.prog f (#[.int .i64 (g j)] ++ caps) w' (Ret (.bool (r j)) w')) :
    Calls Try.prog 136 #[.slice (some ⟨b, o, none⟩) m c, .func (.func f) #[] caps] w (Ret (.bool (allB m r)) w) := by
  have hF := Lib.hid hf
  have hE := Lib.hid he
  have hx := fstI_cases (fun j => !(r j)) m
  have hQ : ∃ t : Bool, allB m r = !t ∧ decide (0 ≤ fstI (fun j => !(r j)) m) = t := by
    rcases hx with ⟨h1, h2⟩ | ⟨h1, j, h2, h3⟩
    · exact ⟨false, B_true (fun j hj => by simpa using h2 j hj), by rw [h1]; rfl⟩
    · exact ⟨true, B_false (fun hh => by rw [hh j h2] at h3; simp at h3), by simp [h1]⟩
  obtain ⟨t, hQ1, hQ2⟩ := hQ
  have HQ := Lib.hid hQ1
  clear hf he hx hQ1
  go_enter Try.func136, Try.ntmps136
  go_wp2_with fail
  have hin : Calls Try.prog 162 #[.slice (some ⟨b, o, none⟩) m c, .func (.func 163) #[] #[.pointer (some ⟨w.heap.size, 0, none⟩)]] (w.alloc (.cells #[.func (.func f) #[] caps] 77)) (Ret (.bool t) (w.alloc (.cells #[.func (.func f) #[] caps] 77))) := by
    go_enter Try.func162, Try.ntmps162
    go_wp2_with fail
    refine (indexFuncL_any f caps w.heap.size r b o m c g _ (h.alloc _) hm hE.out (by simp) (fun j hj w' hw' => hF.out j hj w' ((by go_grown : Below _ _ (w.alloc _)).thenB (by simp) hw'))).mono ?_
    rintro e w2 ⟨rfl, hb2⟩
    go_wp2_with fail
    go_ret
    exact ⟨rfl, hb2⟩
  refine hin.mono ?_
  rintro e w2 ⟨rfl, hb2⟩
  go_wp2_with fail
  go_ret
  exact ⟨ret_bool HQ.out.symm, (by go_grown : Below _ _ (w.alloc _)).thenB (by simp) hb2⟩

theorem lengthL_any (A : Option Addr) (m c : Nat) (w : World) : Calls Try.prog 153 #[.slice A m c] w (Is (.int .i64 m) w) := by
  go_enter Try.func153, Try.ntmps153
  go_wp2
  go_ret
  exact ⟨rfl, rfl⟩
noncomputable def cnB (m : Nat) (g : Nat → Int) (x : Int) : Bool := B (∃ j, j < m ∧ g j = x)
theorem cnB_iff {m : Nat} {g : Nat → Int} {x : Int} : cnB m g x = true ↔ ∃ j, j < m ∧ g j = x := B_iff
theorem cnB_not {m : Nat} {g : Nat → Int} {x : Int} : cnB m g x = false ↔ ∀ j, j < m → g j ≠ x := by
  rw [cnB, B_not]; exact ⟨fun h j hj hx => h ⟨j, hj, hx⟩, fun h ⟨j, hj, hx⟩ => h j hj hx⟩
-- left out in this seat
-- left out in this seat
theorem isModulus_any (md : Int) (w : World) : Calls Try.prog 69 #[.int .i64 md] w (Is (.bool (inB md 2 6)) w) := by
  go_enter Try.func69, Try.ntmps69
  go_wp2_with (go_at_call 123; refine (within_any _ _ _ _).mono ?_; rintro e w' ⟨rfl, rfl⟩)
  go_ret
  exact ⟨rfl, rfl⟩
noncomputable def avB (es : List (Int × Int)) (len : Nat) (g : Nat → Int) (lo hi : Int) : Bool := decide (len = es.length) && allB len (fun j => inB (g j) lo hi)
-- left out in this seat
-- left out in this seat
-- left out in this seat
end Go.Proofs.Ytppfplhbfgjjhaa
namespace Go.Proofs.Ytppfplhbfgjjhaa
open Go.RowKit Go.Sort
theorem pow64 {x : Nat} (h : x ≤ 63) : (2 : Nat) ^ x < 18446744073709551616 := Nat.lt_of_lt_of_le (Nat.pow_lt_pow_of_lt (a := 2) (by decide) (by omega : x < 64)) (by decide)
theorem wrap_pow {x : Nat} (h : x ≤ 63) : IntKind.u64.wrap (2 ^ x) = ((2 ^ x : Nat) : Int) := by
  have hp := pow64 h
  rw [show ((2 : Int) ^ x) = ((2 ^ x : Nat) : Int) by simp, IntKind.wrap_u64]
  generalize (2 : Nat) ^ x = y at hp
  omega
-- left out in this seat
/-! ### IsMatching -/
noncomputable def imC (n : Int) (es : List (Int × Int)) : Int := if B (IsG n es) then 0 else 1
noncomputable def imR (n : Int) (es : List (Int × Int)) (ls : Nat → Int) (l : Nat) : Bool := B (IsG n es) && matB n es ls l
theorem retBC {a a' : Bool} {k k' : Int} (h : a = a') (h2 : k = k') : Ending.returned (.tuple #[.bool a, .int .i64 k]) = .returned (.tuple #[.bool a', .int .i64 k']) := by rw [h, h2]
-- left out in this seat
-- left out in this seat
end Go.Proofs.Ytppfplhbfgjjhaa
namespace Go.Proofs.Ytppfplhbfgjjhaa
open Go.RowKit Go.Sort
/-! ### The edges at a vertex -/
def atTo (es : List (Int × Int)) (v : Int) : Nat → List Int
  | 0 => []
  | k + 1 => atTo es v k ++ (if ea es k = v ∨ eb es k = v then [(k : Int)] else [])
theorem atTo_len (es : List (Int × Int)) (v : Int) (k : Nat) : (atTo es v k).length ≤ k := by
  induction k with
  | zero => simp [atTo]
  | succ k ih => simp only [atTo, List.length_append]; split <;> simp <;> omega
def atL (es : List (Int × Int)) (v : Int) : List Int := atTo es v es.length
theorem atTo_yes {es : List (Int × Int)} {v : Int} {k : Nat} (h : ea es k = v ∨ eb es k = v) : atTo es v (k + 1) = atTo es v k ++ [(k : Int)] := by simp [atTo, h]
theorem atTo_no {es : List (Int × Int)} {v : Int} {k : Nat} (h : ¬ (ea es k = v ∨ eb es k = v)) : atTo es v (k + 1) = atTo es v k := by simp [atTo, h]
set_option maxHeartbeats 800000 in
theorem l01At_any (n : Int) (b o m c : Nat) (es : List (Int × Int)) (v : Int) (w : World) (h : Eds w b o m es) (hm : m ≤ 1048576) :
    Calls Try.prog 112 #[.agg #[.int .i64 n, .slice (some ⟨b, o, none⟩) m c], .int .i64 v] w (RetL (atL es v) w) := by
  have hl := Lib.hid h.len
  go_enter Try.func112, Try.ntmps112
  go_wp2_with fail
  obtain ⟨w1, hw1⟩ : ∃ w1, w1 = w.alloc (Obj.cells #[Value.int IntKind.i64 n, Value.slice (some ⟨b, o, none⟩) m c] 30) := ⟨_, rfl⟩
  have hs1 : w1.heap.size = w.heap.size + 1 := by rw [hw1]; simp [go_sem]
  have hb1 : Below w.heap.size w w1 := by rw [hw1]; exact (Below.refl _ _).alloc (Nat.le_refl _) _
  have s1 : w1.cell? ⟨w.heap.size, 0, none⟩ = some (.int .i64 n) := by rw [hw1]; simp [go_sem]
  have s2 : w1.cell? ⟨w.heap.size, 1, none⟩ = some (.slice (some ⟨b, o, none⟩) m c) := by rw [hw1]; simp [go_sem]
  rw [← hw1]
  clear hw1
  go_loopw [5, 6] (fun v1 i wr => ∃ j : Nat, j ≤ m ∧ i = .int .i64 j ∧ (∃ A c', v1 = .slice A (atTo es v j).length c' ∧ OwnL (w.heap.size + 1) wr A (atTo es v j).length c' (atTo es v j)) ∧ Below (w.heap.size + 1) w1 wr) (fun _ i _ => m - (intOf i).toNat)
  case atStart => exact ⟨0, Nat.zero_le _, rfl, ⟨_, _, rfl, OwnL.empty _ _ _ (Nat.le_refl _) (by show (w1.heap.push _)[w.heap.size + 1]? = _; rw [← hs1]; simp)⟩, (Below.refl _ _).alloc (by omega) _⟩
  case round =>
    obtain ⟨j, hj, rfl, ⟨A, c', rfl, hown⟩, hbr⟩ := hrel
    have hE := h.below (hb1.trans (hbr.mono (by omega)))
    have k1 := (hbr.cell (p := ⟨w.heap.size, 0, none⟩) (Nat.lt_succ_self _)).trans s1
    have k2 := (hbr.cell (p := ⟨w.heap.size, 1, none⟩) (Nat.lt_succ_self _)).trans s2
    have hsz := hbr.size
    have hle := atTo_len es v j
    by_cases hlt : j < m
    · have c1 := hE.ca j hlt
      have c2 := hE.cb j hlt
      go_wp2_with (first
        | (at_builtin; refine wp_app1 rfl rfl rfl rfl hown (by omega) (by omega) ?_; intro A' c'' w2 hown' hbel' hgr'))
      · have e := atTo_yes (es := es) (v := v) (k := j) (Or.inl (by assumption))
        have e2 : (atTo es v (j + 1)).length = (atTo es v j).length + 1 := by rw [e]; simp
        go_roundw
        case rel => first | exact ⟨j + 1, by omega, by go_num, ⟨A', c'', by rw [e2], by rw [e2, e]; exact hown'⟩, hbel' _ _ hbr (Nat.le_refl _)⟩ | ((repeat apply Exists.intro); exact ⟨⟨j + 1, by omega, by go_num, ⟨A', c'', by rw [e2], by rw [e2, e]; exact hown'⟩, hbel' _ _ hbr (Nat.le_refl _)⟩, rfl⟩)
        case measure => simp [intOf]; omega
      · have hx : ea es j = v ∨ eb es j = v := by simp_all
        have e := atTo_yes hx
        have e2 : (atTo es v (j + 1)).length = (atTo es v j).length + 1 := by rw [e]; simp
        go_roundw
        case rel => first | exact ⟨j + 1, by omega, by go_num, ⟨A', c'', by rw [e2], by rw [e2, e]; exact hown'⟩, hbel' _ _ hbr (Nat.le_refl _)⟩ | ((repeat apply Exists.intro); exact ⟨⟨j + 1, by omega, by go_num, ⟨A', c'', by rw [e2], by rw [e2, e]; exact hown'⟩, hbel' _ _ hbr (Nat.le_refl _)⟩, rfl⟩)
        case measure => simp [intOf]; omega
      · have hx : ¬ (ea es j = v ∨ eb es j = v) := by simp_all
        have e := atTo_no hx
        go_roundw
        case rel => first | exact ⟨j + 1, by omega, by go_num, ⟨A, c', by rw [e], by rw [e]; exact hown⟩, hbr⟩ | ((repeat apply Exists.intro); exact ⟨⟨j + 1, by omega, by go_num, ⟨A, c', by rw [e], by rw [e]; exact hown⟩, hbr⟩, rfl⟩)
        case measure => simp [intOf]; omega
    · obtain rfl : j = m := by omega
      have e : atL es v = atTo es v j := by simp only [atL]; rw [hl.out]
      go_wp2_with fail
      go_ret
      exact ⟨A, c', by rw [e]; rfl, by rw [e]; exact hown.mono (by omega), hb1.trans (hbr.mono (by omega))⟩
set_option maxHeartbeats 800000 in
theorem at_any (n : Int) (b o m c : Nat) (es : List (Int × Int)) (v : Int) (w : World) (h : Eds w b o m es) (hm : m ≤ 1048576) :
    Calls Try.prog 117 #[.agg #[.int .i64 n, .slice (some ⟨b, o, none⟩) m c], .int .i64 v] w (RetL (atL es v) w) := by
  have hl := Lib.hid h.len
  go_enter Try.func117, Try.ntmps117
  go_wp2_with fail
  go_loopw [5, 11] (fun v1 i wr => ∃ j : Nat, j ≤ m ∧ i = .int .i64 j ∧ (∃ A c', v1 = .slice A (atTo es v j).length c' ∧ OwnL w.heap.size wr A (atTo es v j).length c' (atTo es v j)) ∧ Below w.heap.size w wr) (fun _ i _ => m - (intOf i).toNat)
  case atStart => exact ⟨0, Nat.zero_le _, rfl, ⟨_, _, rfl, OwnL.nil _ _⟩, (Below.refl _ _).alloc (Nat.le_refl _) _⟩
  case round =>
    obtain ⟨j, hj, rfl, ⟨A, c', rfl, hown⟩, hbr⟩ := hrel
    have hE := h.below hbr
    have hsz := hbr.size
    have hle := atTo_len es v j
    by_cases hlt : j < m
    · have c1 := hE.ca j hlt
      have c2 := hE.cb j hlt
      by_cases hx : ea es j = v ∨ eb es j = v
      · have hI : ∀ W, Calls Try.prog 142 #[.agg #[.int .i64 (ea es j), .int .i64 (eb es j)], .int .i64 v] W (Ret (.bool true) W) := fun W => by
          have := isOn_any (ea es j) (eb es j) v W
          rw [decide_eq_true hx] at this
          exact this
        have e := atTo_yes hx
        have e2 : (atTo es v (j + 1)).length = (atTo es v j).length + 1 := by rw [e]; simp
        clear hx
        go_wp2_with (first
          | (go_at_call 142; refine (hI _).mono ?_; rintro _ w2 ⟨rfl, hb2⟩; have hb3 : Below wr.heap.size wr w2 := ((Below.refl _ _).alloc (Nat.le_refl _) _).thenB (by simp [go_sem]) hb2)
          | (at_builtin; refine wp_app1 rfl rfl rfl rfl (hown.below hb3) (by have := hb3.size; omega) (by omega) ?_; intro A' c'' w4 hown' hbel' hgr'))
        go_roundw
        case rel => first | exact ⟨j + 1, by omega, by go_num, ⟨A', c'', by rw [e2], by rw [e2, e]; exact hown'⟩, hbel' _ _ (hbr.andB hb3) (Nat.le_refl _)⟩ | ((repeat apply Exists.intro); exact ⟨⟨j + 1, by omega, by go_num, ⟨A', c'', by rw [e2], by rw [e2, e]; exact hown'⟩, hbel' _ _ (hbr.andB hb3) (Nat.le_refl _)⟩, rfl⟩)
        case measure => simp [intOf]; omega
      · have hI : ∀ W, Calls Try.prog 142 #[.agg #[.int .i64 (ea es j), .int .i64 (eb es j)], .int .i64 v] W (Ret (.bool false) W) := fun W => by
          have := isOn_any (ea es j) (eb es j) v W
          rw [decide_eq_false hx] at this
          exact this
        have e := atTo_no hx
        clear hx
        go_wp2_with (first
          | (go_at_call 142; refine (hI _).mono ?_; rintro _ w2 ⟨rfl, hb2⟩; have hb3 : Below wr.heap.size wr w2 := ((Below.refl _ _).alloc (Nat.le_refl _) _).thenB (by simp [go_sem]) hb2))
        go_roundw
        case rel => first | exact ⟨j + 1, by omega, by go_num, ⟨A, c', by rw [e], by rw [e]; exact hown.below hb3⟩, hbr.andB hb3⟩ | ((repeat apply Exists.intro); exact ⟨⟨j + 1, by omega, by go_num, ⟨A, c', by rw [e], by rw [e]; exact hown.below hb3⟩, hbr.andB hb3⟩, rfl⟩)
        case measure => simp [intOf]; omega
    · obtain rfl : j = m := by omega
      have e : atL es v = atTo es v j := by simp only [atL]; rw [hl.out]
      go_wp2_with fail
      go_ret
      exact ⟨A, c', by rw [e]; rfl, by rw [e]; exact hown, hbr⟩
end Go.Proofs.Ytppfplhbfgjjhaa
