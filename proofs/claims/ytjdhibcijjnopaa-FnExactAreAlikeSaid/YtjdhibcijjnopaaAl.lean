import Derived.Test.YtjdhibcijjnopaaGi
namespace Go.Proofs.Ytjdhibcijjnopaa
open Go.RowKit Go.Sort
theorem closL_any (f : FuncId) (caps : Array Value) (bx : Nat) (a : Int) (r : Bool) (w : World) (he : Enters f) (hc : w.cell? ⟨bx, 0, none⟩ = some (.func (.func f) #[] caps))
    (hf : ∀ w', Below w.heap.size w w' → Calls Try.prog f (#[.int .i64 a] ++ caps) w' (Ret (.bool r) w')) :
    Calls Try.prog 113 #[.int .i64 a, .pointer (some ⟨bx, 0, none⟩)] w (Ret (.bool (!r)) w) := by
  have hbx : bx < w.heap.size := World.block_lt_of_cell? w _ hc
  have hF := Lib.hid hf
  have he1 := he
  unfold Enters at he1
  clear hf he
  go_enter Try.func113, Try.ntmps113
  go_wp2_with fail
  refine (hF.out _ (by go_grown)).mono ?_
  rintro e w1 ⟨rfl, hb1⟩
  go_wp2_with fail
  go_ret
  exact ⟨rfl, hb1⟩
theorem indexFuncL_any (f : FuncId) (caps : Array Value) (bx : Nat) (r : Nat → Bool) (b o m c : Nat) (g : Nat → Int) (w : World) (h : Ints w b o m g) (hm : m ≤ 1048576) (he : Enters f) (hc : w.cell? ⟨bx, 0, none⟩ = some (.func (.func f) #[] caps))
    (hf : ∀ j, j < m → ∀ w', Below w.heap.size w w' → Calls Try.prog f (#[.int .i64 (g j)] ++ caps) w' (Ret (.bool (r j)) w')) :
    Calls Try.prog 123 #[.slice (some ⟨b, o, none⟩) m c, .func (.func 113) #[] #[.pointer (some ⟨bx, 0, none⟩)]] w (Ret (.int .i64 (fstI (fun j => !(r j)) m)) w) := by
  have hbx : bx < w.heap.size := World.block_lt_of_cell? w _ hc
  have hF := Lib.hid hf
  have hE := Lib.hid he
  have hC := Lib.hid hc
  clear hf he hc
  go_enter Try.func123, Try.ntmps123
  go_wp2_with fail
  go_loopw [8] (fun i wr => ∃ k : Nat, k ≤ m ∧ i = .int .i64 k ∧ Hid (∀ j, j < k → (!(r j)) = false) ∧ Below w.heap.size w wr) (fun i _ => m - (intOf i).toNat)
  case atStart => exact ⟨0, Nat.zero_le _, rfl, fun j hj => by omega, Below.refl _ _⟩
  case round =>
    obtain ⟨k, hk, rfl, HP, hbw⟩ := hrel
    by_cases hlt : k < m
    · have E := h.below hbw
      have e1 := E.c k hlt
      cases hq : r k with
      | true =>
        have HP' : Hid (∀ j, j < k + 1 → (!(r j)) = false) := fun j hj => by
          by_cases hjk : j < k
          · exact HP.out j hjk
          · obtain rfl : j = k := by omega
            rw [hq]; rfl
        clear E
        go_wp2_with fail
        refine (closL_any f caps bx _ (r k) _ hE.out ((hbw.cell (p := ⟨bx, 0, none⟩) hbx).trans hC.out) (fun w' hw' => hF.out k hlt w' (hbw.andB hw'))).mono ?_
        rintro e w2 ⟨rfl, hb2⟩
        rw [hq]
        go_wp2_with fail
        go_roundw
        case rel => exact ⟨k + 1, by omega, by go_num, HP', hbw.andB hb2⟩
        case measure => simp [intOf]; omega
      | false =>
        clear E
        go_wp2_with fail
        refine (closL_any f caps bx _ (r k) _ hE.out ((hbw.cell (p := ⟨bx, 0, none⟩) hbx).trans hC.out) (fun w' hw' => hF.out k hlt w' (hbw.andB hw'))).mono ?_
        rintro e w2 ⟨rfl, hb2⟩
        rw [hq]
        go_wp2_with fail
        go_ret
        exact ⟨ret_int (fstI_at hlt (by rw [hq]; rfl) HP.out).symm, hbw.andB hb2⟩
    · go_wp2_with fail
      go_ret
      exact ⟨ret_int (fstI_none fun j hj => HP.out j (by omega)).symm, hbw⟩
theorem areAllL_any (f : FuncId) (caps : Array Value) (r : Nat → Bool) (b o m c : Nat) (g : Nat → Int) (w : World) (h : Ints w b o m g) (hm : m ≤ 1048576) (he : Enters f)
    (hf : ∀ j, j < m → ∀ w', Below w.heap.size w w' → Calls Try.prog f (#[.int .i64 (g j)] ++ caps) w' (Ret (.bool (r j)) w')) :
    Calls Try.prog 88 #[.slice (some ⟨b, o, none⟩) m c, .func (.func f) #[] caps] w (Ret (.bool (allB m r)) w) := by
  have hF := Lib.hid hf
  have hE := Lib.hid he
  have hx := fstI_cases (fun j => !(r j)) m
  have hQ : ∃ t : Bool, allB m r = !t ∧ decide (0 ≤ fstI (fun j => !(r j)) m) = t := by
    rcases hx with ⟨h1, h2⟩ | ⟨h1, j, h2, h3⟩
    · exact ⟨false, B_true (fun j hj => by simpa using h2 j hj), by rw [h1]; rfl⟩
    · exact ⟨true, B_false (fun hh => by rw [hh j h2] at h3; simp at h3), by simp [h1]⟩
  obtain ⟨t, hQ1, hQ2⟩ := hQ
  have HQ := Lib.hid hQ1
  clear hf he hx hQ1
  go_enter Try.func88, Try.ntmps88
  go_wp2_with fail
  have hin : Calls Try.prog 112 #[.slice (some ⟨b, o, none⟩) m c, .func (.func 113) #[] #[.pointer (some ⟨w.heap.size, 0, none⟩)]] (w.alloc (.cells #[.func (.func f) #[] caps] 74)) (Ret (.bool t) (w.alloc (.cells #[.func (.func f) #[] caps] 74))) := by
    go_enter Try.func112, Try.ntmps112
    go_wp2_with fail
    refine (indexFuncL_any f caps w.heap.size r b o m c g _ (h.alloc _) hm hE.out (by simp) (fun j hj w' hw' => hF.out j hj w' ((by go_grown : Below _ _ (w.alloc _)).thenB (by simp) hw'))).mono ?_
    rintro e w2 ⟨rfl, hb2⟩
    go_wp2_with fail
    go_ret
    exact ⟨rfl, hb2⟩
  refine hin.mono ?_
  rintro e w2 ⟨rfl, hb2⟩
  go_wp2_with fail
  go_ret
  exact ⟨ret_bool HQ.out.symm, (by go_grown : Below _ _ (w.alloc _)).thenB (by simp) hb2⟩

-- left out in this seat
noncomputable def cnB (m : Nat) (g : Nat → Int) (x : Int) : Bool := B (∃ j, j < m ∧ g j = x)
theorem cnB_iff {m : Nat} {g : Nat → Int} {x : Int} : cnB m g x = true ↔ ∃ j, j < m ∧ g j = x := B_iff
theorem cnB_not {m : Nat} {g : Nat → Int} {x : Int} : cnB m g x = false ↔ ∀ j, j < m → g j ≠ x := by
  rw [cnB, B_not]; exact ⟨fun h j hj hx => h ⟨j, hj, hx⟩, fun h ⟨j, hj, hx⟩ => h j hj hx⟩
-- left out in this seat
-- left out in this seat
theorem isModulus_any (md : Int) (w : World) : Calls Try.prog 61 #[.int .i64 md] w (Is (.bool (inB md 2 6)) w) := by
  go_enter Try.func61, Try.ntmps61
  go_wp2_with (go_at_call 99; refine (within_any _ _ _ _).mono ?_; rintro e w' ⟨rfl, rfl⟩)
  go_ret
  exact ⟨rfl, rfl⟩
noncomputable def avB (es : List (Int × Int)) (len : Nat) (g : Nat → Int) (lo hi : Int) : Bool := decide (len = es.length) && allB len (fun j => inB (g j) lo hi)
theorem areValues1_any (x lo hi : Int) (p1 p2 : Nat) (w : World) (h1 : w.cell? ⟨p1, 0, none⟩ = some (.int .i64 lo)) (h2 : w.cell? ⟨p2, 0, none⟩ = some (.int .i64 hi)) :
    Calls Try.prog 100 #[.int .i64 x, .pointer (some ⟨p1, 0, none⟩), .pointer (some ⟨p2, 0, none⟩)] w (Is (.bool (inB x lo hi)) w) := by
  go_enter Try.func100, Try.ntmps100
  go_wp2_with (go_at_call 99; refine (within_any _ _ _ _).mono ?_; rintro e w' ⟨rfl, rfl⟩)
  go_ret
  exact ⟨rfl, rfl⟩
theorem enV1 : Enters 100 := fun args w => by kernel_rfl
theorem areValues_any (n : Int) (A : Option Addr) (m c : Nat) (es : List (Int × Int)) (b2 o2 len c2 : Nat) (g : Nat → Int) (lo hi : Int) (w : World) (hl : es.length = m) (h2 : Ints w b2 o2 len g) (hlen : len ≤ 1048576) :
    Calls Try.prog 62 #[.agg #[.int .i64 n, .slice A m c], .slice (some ⟨b2, o2, none⟩) len c2, .int .i64 lo, .int .i64 hi] w (Ret (.bool (avB es len g lo hi)) w) := by
  have hb3 := (by go_grown : Below w.heap.size w (((w.alloc (.cells #[.int .i64 n, .slice A m c] 31)).alloc (.cells #[.int .i64 lo] 2)).alloc (.cells #[.int .i64 hi] 2)))
  by_cases hml : len = m
  · have HV : Hid (avB es len g lo hi = allB len (fun j => inB (g j) lo hi)) := by simp [Hid, avB, hl, hml]
    subst hml
    have HL := Lib.hid hl
    clear hl
    go_enter Try.func62, Try.ntmps62
    go_wp2_with fail
    refine (areAllL_any 100 #[.pointer (some ⟨w.heap.size + 1, 0, none⟩), .pointer (some ⟨w.heap.size + 1 + 1, 0, none⟩)] (fun j => inB (g j) lo hi) b2 o2 len c2 g (((w.alloc (.cells #[.int .i64 n, .slice A len c] 31)).alloc (.cells #[.int .i64 lo] 2)).alloc (.cells #[.int .i64 hi] 2)) (((h2.alloc _).alloc _).alloc _) hlen enV1 (fun j _ w' hw' => by
      have a1 := (bcell hw').1 (w.heap.size + 1) 0 (by simp)
      have a2 := (bcell hw').1 (w.heap.size + 1 + 1) 0 (by simp)
      simp [go_sem] at a1 a2
      exact Is.ret (areValues1_any _ _ _ _ _ _ a1 a2))).mono ?_
    rintro e w1 ⟨rfl, hb1⟩
    go_wp2_with fail
    go_ret
    exact ⟨ret_bool HV.out.symm, hb3.thenB (by simp; omega) hb1⟩
  · have HV : Hid (avB es len g lo hi = false) := by simp [Hid, avB, hl, hml]
    have hne : ((len : Int) == (m : Int)) = false := by simp; omega
    go_enter Try.func62, Try.ntmps62
    go_wp2_with fail
    go_ret
    exact ⟨ret_bool HV.out.symm, hb3⟩
end Go.Proofs.Ytjdhibcijjnopaa
