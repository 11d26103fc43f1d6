import Derived.Test.YtppfplhbfgjjhaaNg4
namespace Go.Proofs.Ytppfplhbfgjjhaa
open Go.RowKit Go.Sort
/-! ### The program's named graphs: flower, bridged -/
theorem ints_lit {wr : World} {cs : Array Value} {T : TypeId} {ys : List Int} (h : cs.toList = nums ys) : Ints (wr.alloc (.cells cs T)) wr.heap.size 0 ys.length (ia ys) := by
  have hh := heap_alloc_new wr (.cells cs T)
  refine ⟨by simp, fun j hj => ?_⟩
  rw [Nat.zero_add]
  unfold World.cell?
  rw [show (wr.alloc (.cells cs T)).heap[(⟨wr.heap.size, j, none⟩ : Addr).block]? = some (.cells cs T) from hh]
  simp only [Option.bind_eq_bind, Option.bind_some]
  have : cs[j]? = some (.int .i64 (ia ys j)) := by
    rw [← Array.getElem?_toList, h]
    simp [nums, ia, List.getD_eq_getElem?_getD, hj]
  simpa using this
theorem RetEA.from {ys : List (Int × Int)} {wr : World} {o : Obj} {e : Ending} {w' : World} (h : RetEA ys (wr.alloc o) e w') : RetEA ys wr e w' := by
  obtain ⟨A, c, e, O, hb⟩ := h
  exact ⟨A, c, e, O.mono (by simp), ((Below.refl _ _).alloc (Nat.le_refl _) _).thenB (by simp) hb⟩
theorem cyc_lit {wr : World} {cs : Array Value} {T : TypeId} (ys : List Int) (k : Nat) (hcs : cs.toList = nums ys) (hk : ys.length = k) (hk2 : k ≤ 100) :
    Calls Try.prog 85 #[.slice (some ⟨wr.heap.size, 0, none⟩) k k] (wr.alloc (.cells cs T)) (RetEA (cycL ys) wr) := by
  subst hk
  exact (cycle_any ys _ _ _ _ (ints_lit hcs) rfl hk2).mono fun _ _ h => h.from
theorem star_lit {wr : World} {cs : Array Value} {T : TypeId} (v : Int) (ys : List Int) (k : Nat) (hcs : cs.toList = nums ys) (hk : ys.length = k) (hk2 : k ≤ 100) :
    Calls Try.prog 84 #[.int .i64 v, .slice (some ⟨wr.heap.size, 0, none⟩) k k] (wr.alloc (.cells cs T)) (RetEA (starL v ys) wr) := by
  subst hk
  exact (star_any v ys _ _ _ _ (ints_lit hcs) rfl hk2).mono fun _ _ h => h.from
theorem concat_lit {wr : World} {cs : Array Value} {T : TypeId} (rows : List (List (Int × Int))) (k : Nat) (hk : rows.length = k) (hk0 : 0 < k) (hk3 : k ≤ 10)
    (hc : ∀ j, j < k → ∃ Aj cj, cs[j]? = some (.slice Aj (rr rows j).length cj) ∧ SrcE wr Aj (rr rows j).length (rr rows j)) (hr : ∀ j, j < k → 0 < (rr rows j).length ∧ (rr rows j).length ≤ 50) :
    Calls Try.prog 83 #[.slice (some ⟨wr.heap.size, 0, none⟩) k k] (wr.alloc (.cells cs T)) (RetEA rows.flatten wr) := by
  refine (concat_any rows _ k k _ hk hk0 hk3 (by simp) (fun j hj => ?_) hr).mono fun _ _ h => h.from
  obtain ⟨Aj, cj, e, S⟩ := hc j hj
  refine ⟨Aj, cj, ?_, S.below ((Below.refl _ _).alloc (Nat.le_refl _) _)⟩
  have hh := heap_alloc_new wr (.cells cs T)
  unfold World.cell?
  rw [show (wr.alloc (.cells cs T)).heap[(⟨wr.heap.size, j, none⟩ : Addr).block]? = some (.cells cs T) from hh]
  simpa using e
theorem concat2 {wr : World} {T : TypeId} {A B : Option Addr} {xs ys : List (Int × Int)} {m l c d b1 b2 : Nat} (OA : OwnEA b1 wr A m c xs) (OB : OwnEA b2 wr B l d ys) (h1 : 0 < m ∧ m ≤ 50) (h2 : 0 < l ∧ l ≤ 50) :
    Calls Try.prog 83 #[.slice (some ⟨wr.heap.size, 0, none⟩) 2 2] (wr.alloc (.cells #[.slice A m c, .slice B l d] T)) (RetEA (xs ++ ys) wr) := by
  obtain rfl := OA.1
  obtain rfl := OB.1
  have := concat_lit (wr := wr) (cs := #[.slice A xs.length c, .slice B ys.length d]) (T := T) [xs, ys] 2 rfl (by decide) (by decide) (fun j hj => by
    match j, hj with
    | 0, _ => exact ⟨A, c, rfl, OA.src⟩
    | 1, _ => exact ⟨B, d, rfl, OB.src⟩) (fun j hj => by
    match j, hj with
    | 0, _ => exact h1
    | 1, _ => exact h2)
  simpa using this
theorem concat3 {wr : World} {T : TypeId} {A B C : Option Addr} {xs ys zs : List (Int × Int)} {m l n c d e b1 b2 b3 : Nat} (OA : OwnEA b1 wr A m c xs) (OB : OwnEA b2 wr B l d ys) (OC : OwnEA b3 wr C n e zs) (h1 : 0 < m ∧ m ≤ 50) (h2 : 0 < l ∧ l ≤ 50) (h3 : 0 < n ∧ n ≤ 50) :
    Calls Try.prog 83 #[.slice (some ⟨wr.heap.size, 0, none⟩) 3 3] (wr.alloc (.cells #[.slice A m c, .slice B l d, .slice C n e] T)) (RetEA (xs ++ (ys ++ zs)) wr) := by
  obtain rfl := OA.1
  obtain rfl := OB.1
  obtain rfl := OC.1
  have := concat_lit (wr := wr) (cs := #[.slice A xs.length c, .slice B ys.length d, .slice C zs.length e]) (T := T) [xs, ys, zs] 3 rfl (by decide) (by decide) (fun j hj => by
    match j, hj with
    | 0, _ => exact ⟨A, c, rfl, OA.src⟩
    | 1, _ => exact ⟨B, d, rfl, OB.src⟩
    | 2, _ => exact ⟨C, e, rfl, OC.src⟩) (fun j hj => by
    match j, hj with
    | 0, _ => exact h1
    | 1, _ => exact h2
    | 2, _ => exact h3)
  simpa using this
/-- A literal list of edges. -/
theorem ownEA_lit {wr : World} {cs : Array Value} (ys : List (Int × Int)) (k : Nat) (hcs : cs.toList = flatE ys) (hk : ys.length = k) (hk2 : k ≤ 100) : OwnEA wr.heap.size (wr.alloc (.cells cs 98)) (some ⟨wr.heap.size, 0, none⟩) k k ys := by
  subst hk
  have hs : cs.size = ys.length * 2 := by rw [← Array.length_toList, hcs, flatE_length]
  exact ⟨rfl, by rw [flatE_length], .inr ⟨wr.heap.size, ys.length, cs, rfl, Nat.le_refl _, heap_alloc_new wr _, Nat.le_refl _, by unfold maxLen; omega, hs, by rw [← hs, ← hcs, ← Array.length_toList, List.take_length]⟩⟩
def floT : Nat → List (Int × Int)
  | 0 => cycL [5, 6, 7, 8, 9] ++ cycL [10, 11, 12, 13, 14, 15, 16, 17, 18, 19]
  | i + 1 => floT i ++ starL i [(i : Int) + 5, (i : Int) + 10, (i : Int) + 15]
theorem floT_len : ∀ i, (floT i).length = 15 + 3 * i := by
  intro i
  induction i with
  | zero => rfl
  | succ i ih => simp only [floT, List.length_append, ih, starL]; simp; omega
set_option maxRecDepth 100000 in
set_option maxHeartbeats 1000000 in
theorem flower_any (w : World) : Calls Try.prog 89 #[] w (RetEA (floT 5) w) := by
  go_enter Try.func89, Try.ntmps89
  go_wp2_with fail
  refine (cyc_lit [5, 6, 7, 8, 9] 5 rfl rfl (by decide)).mono ?_
  rintro e w2 ⟨A2, c2, rfl, O2, hb2⟩
  go_wp2_with fail
  refine (cyc_lit [10, 11, 12, 13, 14, 15, 16, 17, 18, 19] 10 rfl rfl (by decide)).mono ?_
  rintro e w3 ⟨A3, c3, rfl, O3, hb3⟩
  have O2 := O2.below hb3
  have hB3 := hb2.andB hb3
  go_wp2_with fail
  refine (concat2 O2 O3 (by decide) (by decide)).mono ?_
  rintro e w4 ⟨A4, c4, rfl, O4, hb4⟩
  have hB4 := hB3.andB hb4
  have hz := hB3.size
  have O4 := O4.mono hz
  clear O2 O3 hb2 hb3 hB3 hb4 hz
  rw [show (cycL [5, 6, 7, 8, 9] ++ cycL [10, 11, 12, 13, 14, 15, 16, 17, 18, 19]).length = 15 from rfl] at O4 ⊢
  go_wp2_with fail
  go_loopw [1, 9] (fun lv iv wv => ∃ (i : Nat) (A : Option Addr) (c' : Nat), i ≤ 5 ∧ iv = .int .i64 i ∧ lv = .slice A (floT i).length c' ∧ OwnEA w.heap.size wv A (floT i).length c' (floT i) ∧ Below w.heap.size w wv) (fun _ i _ => 5 - (intOf i).toNat)
  case atStart => exact ⟨0, A4, c4, by omega, rfl, rfl, O4, hB4⟩
  case round =>
    clear O4 hB4
    obtain ⟨i, A, c', hi, rfl, rfl, O, hb⟩ := hrel
    by_cases hlt : i < 5
    · have hsz := hb.size
      have hL2 : Hid ((floT (i + 1)).length = (floT i).length + 3) := by show _ = _; rw [floT_len, floT_len]; omega
      have hl := floT_len i
      obtain ⟨x, hx⟩ : ∃ x, x = (floT i).length := ⟨_, rfl⟩
      rw [← hx] at hL2 O hl ⊢
      have hx30 : x ≤ 30 := by omega
      have w5 : IntKind.i64.wrap ((i : Int) + 5) = (i : Int) + 5 := IntWalk.i64_in _ (by omega)
      have w10 : IntKind.i64.wrap ((i : Int) + 10) = (i : Int) + 10 := IntWalk.i64_in _ (by omega)
      have w15 : IntKind.i64.wrap ((i : Int) + 15) = (i : Int) + 15 := IntWalk.i64_in _ (by omega)
      clear hx hl
      go_wp2_with fail
      refine (star_lit (i : Int) [(i : Int) + 5, (i : Int) + 10, (i : Int) + 15] 3 rfl rfl (by decide)).mono ?_
      rintro e w5 ⟨A5, c5, rfl, O5, hb5⟩
      have OX := O.below hb5
      have hB5 := hb.andB hb5
      obtain ⟨b5, o5, rfl, E5⟩ := O5.src.2 (by show 0 < 3; decide)
      have hz5 := hB5.size
      rw [show (starL (i : Int) [(i : Int) + 5, (i : Int) + 10, (i : Int) + 15]).length = 3 from rfl] at E5 ⊢
      clear O5 hb5 O hb hsz
      go_wp2_with (at_builtin; (refine wp_appX rfl rfl rfl rfl E5 (by decide) (by decide) OX hz5 (by omega) ?_; intro A6 c6 w6 O6 hg6))
      have hbF := OX.grown hB5 (Nat.le_refl _) hg6 hz5
      go_roundw
      case rel => exact ⟨i + 1, A6, c6, by omega, by go_num, by rw [hL2.out], by rw [hL2.out]; exact O6, hbF⟩
      case measure => simp [intOf]; omega
    · obtain rfl : i = 5 := by omega
      go_wp2_with fail
      go_ret
      exact ⟨A, c', rfl, O, hb⟩
end Go.Proofs.Ytppfplhbfgjjhaa
