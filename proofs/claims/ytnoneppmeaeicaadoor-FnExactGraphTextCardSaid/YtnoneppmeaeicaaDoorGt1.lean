import Derived.Test.YtnoneppmeaeicaaDoorGs
import Derived.Test.YtnoneppmeaeicaaDoorFn
import Derived.Laws.BytesString
namespace Go.Proofs.YtnoneppmeaeicaaDoor
open Go.RowKit Go.Sort
/-! ### Decimal numbers -/
def dig (k : Nat) : UInt8 := UInt8.ofNat (48 + k)
def decL (n : Nat) : List UInt8 := if n < 10 then [dig n] else [dig (n / 10), dig (n % 10)]
theorem decL_is {n : Nat} (h : n < 100) : Lib.decDigits n = decL n := by
  have key : ∀ n : Fin 100, Lib.decDigits n.1 = decL n.1 := by decide +kernel
  exact key ⟨n, h⟩
/-- The call returns a text. -/
def RetT (L : List UInt8) (w : World) (e : Ending) (w' : World) : Prop := ∃ S : ByteArray, e = .returned (.string S) ∧ S.data.toList = L ∧ Below w.heap.size w w'
theorem conv1 (k : Nat) (w : World) : (convert 52 9 (.slice (some ⟨w.heap.size, 0, none⟩) 1 1)).run Tryd.prog (w.alloc (.cells #[.int .u8 k] 5)) = .ok (.string ⟨#[UInt8.ofNat k]⟩) (w.alloc (.cells #[.int .u8 k] 5)) := by
  rw [run_convert_bytes_string _ _ _ _ _ _ _ Tryd.underlying52 Tryd.underlying5 Tryd.underlying9, run_bytesToString _ _ _ _ [(k : Int)] (by simp [go_sem, loadCells])]
  rw [List.foldl_cons, List.foldl_nil, Int.toNat_natCast]
  rfl
theorem conv1H {H k : Nat} {w : World} {T : TypeId} {fr : Nat × Nat} (h : w.heap[H]? = some (.cells #[.int .u8 k] T fr)) : (convert 52 9 (.slice (some ⟨H, 0, none⟩) 1 1)).run Tryd.prog w = .ok (.string ⟨#[UInt8.ofNat k]⟩) w := by
  rw [run_convert_bytes_string _ _ _ _ _ _ _ Tryd.underlying52 Tryd.underlying5 Tryd.underlying9, run_bytesToString _ _ _ _ [(k : Int)] (by
    have hc : w.cell? ⟨H, 0, none⟩ = some (.int .u8 k) := by
      unfold World.cell?
      rw [show w.heap[(⟨H, 0, none⟩ : Addr).block]? = _ from h]
      rfl
    simp [go_sem, loadCells, hc])]
  rw [List.foldl_cons, List.foldl_nil, Int.toNat_natCast]
  rfl
theorem cat_data (a b : ByteArray) : (a ++ b).data.toList = a.data.toList ++ b.data.toList := by simp
theorem txt_size {S : ByteArray} {L : List UInt8} (h : S.data.toList = L) : S.size = L.length := by rw [← h]; rfl
def TxV (L : List UInt8) (v : Value) : Prop := ∃ S : ByteArray, v = .string S ∧ S.data.toList = L
def ByV (k : Nat) (v : Value) (W : World) : Prop := ∃ H, v = .slice (some ⟨H, 0, none⟩) 1 1 ∧ W.heap[H]? = some (.cells #[.int .u8 k] 5)
theorem ByV.below {k : Nat} {v : Value} {W W' : World} (h : ByV k v W) (hb : Below W.heap.size W W') : ByV k v W' := by
  obtain ⟨H, e, hh⟩ := h
  exact ⟨H, e, (hb.block _ (Array.getElem?_eq_some_iff.1 hh).1).trans hh⟩
theorem decimal_any (n : Nat) (hn : n < 100) (w : World) : Calls Tryd.prog 22 #[.int .i64 n] w (RetT (decL n) w) := by
  have HF := Lib.hid (shFmt n hn)
  obtain ⟨L, hL⟩ : ∃ L, L = Lib.decDigits n := ⟨_, rfl⟩
  have HL : Hid (L = decL n) := hL.trans (decL_is hn)
  rw [← hL] at HF
  clear hL
  go_enter Tryd.func22, Tryd.ntmps22
  go_wp2_with fail
  refine (HF.out w).mono ?_
  rintro e w1 ⟨rfl, rfl⟩
  go_wp2_with fail
  go_ret
  exact ⟨_, rfl, by rw [← HL.out], Below.refl _ _⟩
set_option maxRecDepth 100000 in
set_option maxHeartbeats 400000 in
theorem l01Dec1_any (n : Nat) (hn : n < 10) (w : World) : Calls Tryd.prog 19 #[.int .i64 n] w (RetT (decL n) w) := by
  have h1 : ¬ ((n : Int) < 0) := by omega
  have h2 : (n : Int) < 10 := by omega
  have hw : IntKind.i64.wrap (48 + (n : Int)) = 48 + (n : Int) := IntWalk.i64_in _ (by omega)
  have hw2 : IntKind.u8.wrap (48 + (n : Int)) = 48 + (n : Int) := by rw [IntKind.wrap_u8]; omega
  have hc := conv1 (48 + n) w
  rw [show ((48 + n : Nat) : Int) = 48 + (n : Int) by simp] at hc
  have HL : Hid ([UInt8.ofNat (48 + n)] = decL n) := by show _ = _; unfold decL; rw [if_pos hn]; rfl
  obtain ⟨b, hb⟩ : ∃ b, b = UInt8.ofNat (48 + n) := ⟨_, rfl⟩
  rw [← hb] at hc HL
  clear hb
  go_enter Tryd.func19, Tryd.ntmps19
  go_wp2_with fail
  go_ret
  exact ⟨_, rfl, HL.out, (Below.refl _ _).alloc (Nat.le_refl _) _⟩
set_option maxRecDepth 100000 in
set_option maxHeartbeats 800000 in
theorem l01Dec_any (n : Nat) (hn : n < 100) (w : World) : Calls Tryd.prog 19 #[.int .i64 n] w (RetT (decL n) w) := by
  by_cases h10 : n < 10
  · exact l01Dec1_any n h10 w
  have h1 : ¬ ((n : Int) < 0) := by omega
  have h2 : ¬ ((n : Int) < 10) := by omega
  have HD := Lib.hid (fun W => l01Dec1_any (n / 10) (by omega) W)
  have hL1 : (decL (n / 10)).length = 1 := by unfold decL; rw [if_pos (by omega)]; rfl
  obtain ⟨b1, hb1⟩ : ∃ b1, b1 = UInt8.ofNat (48 + n % 10) := ⟨_, rfl⟩
  have HB := Lib.hid hb1
  have HL : Hid (decL (n / 10) ++ [b1] = decL n) := by
    show _ = _
    rw [hb1]
    unfold decL
    rw [if_neg h10, if_pos (by omega)]
    rfl
  have hq9 : n / 10 < 10 := by omega
  have hd9 : n % 10 < 10 := by omega
  have hdv : (n : Int) / 10 = ((n / 10 : Nat) : Int) := by simp
  have hrm : (n : Int) % 10 = ((n % 10 : Nat) : Int) := by simp
  have hdv2 : (n : Int).tdiv 10 = ((n / 10 : Nat) : Int) := by rw [Int.tdiv_eq_ediv_of_nonneg (by omega), hdv]
  have hrm2 : (n : Int).tmod 10 = ((n % 10 : Nat) : Int) := by rw [Int.tmod_eq_emod_of_nonneg (by omega), hrm]
  obtain ⟨q, hq⟩ : ∃ q, q = n / 10 := ⟨_, rfl⟩
  obtain ⟨d, hd⟩ : ∃ d, d = n % 10 := ⟨_, rfl⟩
  rw [← hq] at hdv hdv2 hL1 HL HD hq9
  rw [← hd] at hrm hrm2 HB hd9
  clear hq hd
  have hw : IntKind.i64.wrap (48 + (d : Int)) = 48 + (d : Int) := IntWalk.i64_in _ (by omega)
  have hw2 : IntKind.u8.wrap (48 + (d : Int)) = 48 + (d : Int) := by rw [IntKind.wrap_u8]; omega
  have hw3 : IntKind.i64.wrap (q : Int) = (q : Int) := IntWalk.i64_in _ (by omega)
  clear hb1
  go_enter Tryd.func19, Tryd.ntmps19
  go_wp2_with fail
  refine wp_region_then 10 (fun i9 v W => match i9 with
    | 0 => v = .int .i64 n
    | 1 => v = .int .i64 (q : Int)
    | 2 => TxV (decL q) v
    | 3 => v = .int .i64 n
    | 4 => v = .int .i64 (d : Int)
    | 5 => v = .int .i64 (48 + (d : Int))
    | 6 => v = .int .u8 (48 + (d : Int))
    | 7 => ByV (48 + d) v W
    | 8 => v = .string ⟨#[b1]⟩
    | _ => TxV (decL q ++ [b1]) v)
    (fun i => match i with
    | _ => none)
    (fun k W W' => Below W.heap.size W W')  (fun W => Below w.heap.size w W) (by kernel_rfl) (by kernel_rfl) ?_ ?_ ?_ ?_ ?_
  · exact (Below.refl _ _).drew
  · intro i k v W W' hne hd hC hf hE
    match i, hf with
    | 0, hf => exact hf
    | 1, hf => exact hf
    | 2, hf => exact hf
    | 3, hf => exact hf
    | 4, hf => exact hf
    | 5, hf => exact hf
    | 6, hf => exact hf
    | 7, hf => exact ByV.below hf hE
    | 8, hf => exact hf
    | _ + 9, hf => exact hf
  · intro k W W' hC hE
    exact Below.andB hC hE
  · simp only [List.take_succ_cons, List.take_zero]
    refine ⟨?_, ?_, ?_, ?_, ?_, ?_, ?_, ?_, ?_, ?_, trivial⟩
    · intro a W hC hs hd
      have hW : Below w.heap.size w W := hC
      have e0 : a.tmps[0]?.getD undef = .int .i64 n := hs 0 (by kernel_rfl)
      refine growsG_none (E := fun W W' => Below W.heap.size W W') rfl ?_
      clear hs hd
      unfold GrowsE
      go_simp
      exact Below.refl _ _
    · intro a W hC hs hd
      have hW : Below w.heap.size w W := hC
      have e16 : (a.tmps[16]?.getD undef) = .int .i64 n := hd 0 16 (by kernel_rfl) (by kernel_rfl) (by kernel_rfl)
      refine growsG_none (E := fun W W' => Below W.heap.size W W') rfl ?_
      clear hs hd
      unfold GrowsE
      go_simp
      exact Below.refl _ _
    · intro a W hC hs hd
      have hW : Below w.heap.size w W := hC
      have e17 : (a.tmps[17]?.getD undef) = .int .i64 (q : Int) := hd 1 17 (by kernel_rfl) (by kernel_rfl) (by kernel_rfl)
      refine growsG_none (E := fun W W' => Below W.heap.size W W') rfl ?_
      clear hs hd
      unfold GrowsE
      go_simp
      refine ⟨Below.refl _ _, (HD.out W).mono ?_⟩
      rintro e w6 ⟨S6, rfl, h6, hb6⟩
      exact ⟨_, rfl, hb6, S6, rfl, h6⟩
    · intro a W hC hs hd
      have hW : Below w.heap.size w W := hC
      have e0 : a.tmps[0]?.getD undef = .int .i64 n := hs 0 (by kernel_rfl)
      refine growsG_none (E := fun W W' => Below W.heap.size W W') rfl ?_
      clear hs hd
      unfold GrowsE
      go_simp
      exact Below.refl _ _
    · intro a W hC hs hd
      have hW : Below w.heap.size w W := hC
      have e19 : (a.tmps[19]?.getD undef) = .int .i64 n := hd 3 19 (by kernel_rfl) (by kernel_rfl) (by kernel_rfl)
      refine growsG_none (E := fun W W' => Below W.heap.size W W') rfl ?_
      clear hs hd
      unfold GrowsE
      go_simp
      exact Below.refl _ _
    · intro a W hC hs hd
      have hW : Below w.heap.size w W := hC
      have e20 : (a.tmps[20]?.getD undef) = .int .i64 (d : Int) := hd 4 20 (by kernel_rfl) (by kernel_rfl) (by kernel_rfl)
      refine growsG_none (E := fun W W' => Below W.heap.size W W') rfl ?_
      clear hs hd
      unfold GrowsE
      go_simp
      exact Below.refl _ _
    · intro a W hC hs hd
      have hW : Below w.heap.size w W := hC
      have e21 : (a.tmps[21]?.getD undef) = .int .i64 (48 + (d : Int)) := hd 5 21 (by kernel_rfl) (by kernel_rfl) (by kernel_rfl)
      refine growsG_none (E := fun W W' => Below W.heap.size W W') rfl ?_
      clear hs hd
      unfold GrowsE
      go_simp
      exact Below.refl _ _
    · intro a W hC hs hd
      have hW : Below w.heap.size w W := hC
      have e22 : (a.tmps[22]?.getD undef) = .int .u8 (48 + (d : Int)) := hd 6 22 (by kernel_rfl) (by kernel_rfl) (by kernel_rfl)
      refine growsG_none (E := fun W W' => Below W.heap.size W W') rfl ?_
      clear hs hd
      unfold GrowsE
      go_simp
      exact ⟨(Below.refl _ _).alloc (Nat.le_refl _) _, _, rfl, (by have := heap_alloc_new W (.cells #[.int .u8 (48 + (d : Int))] 5); simpa using this)⟩
    · intro a W hC hs hd
      have hW : Below w.heap.size w W := hC
      have e23 : ByV (48 + d) (a.tmps[23]?.getD undef) W := hd 7 23 (by kernel_rfl) (by kernel_rfl) (by kernel_rfl)
      obtain ⟨H23, e23, hH23⟩ := e23
      refine growsG_none (E := fun W W' => Below W.heap.size W W') rfl ?_
      have hcv := conv1H hH23
      rw [← HB.out] at hcv
      clear hs hd
      unfold GrowsE
      go_simp
      exact Below.refl _ _
    · intro a W hC hs hd
      have hW : Below w.heap.size w W := hC
      have e18 : TxV (decL q) (a.tmps[18]?.getD undef) := hd 2 18 (by kernel_rfl) (by kernel_rfl) (by kernel_rfl)
      obtain ⟨S18, e18, hS18⟩ := e18
      have e24 : (a.tmps[24]?.getD undef) = .string ⟨#[b1]⟩ := hd 8 24 (by kernel_rfl) (by kernel_rfl) (by kernel_rfl)
      refine growsG_none (E := fun W W' => Below W.heap.size W W') rfl ?_
      have hsz : ¬ (9223372036854775807 < S18.size + 1) := by rw [txt_size hS18, hL1]; decide
      have hsz2 : (⟨#[b1]⟩ : ByteArray).size = 1 := rfl
      clear hs hd
      unfold GrowsE
      go_simp
      exact ⟨Below.refl _ _, _, rfl, by rw [cat_data, hS18]⟩
  intro vs W hW hf
  have f25 : TxV (decL q ++ [b1]) (vs 25) := hf 9 25 (by decide) (by kernel_rfl) (fun _ hk => by cases hk)
  skip
  simp only [dsts, List.take_succ_cons, List.take_zero, List.drop_succ_cons, List.drop_zero, List.filterMap_cons, List.filterMap_nil, List.foldl_cons, List.foldl_nil, Act.put, List.setIfInBounds_toArray, List.set_cons_succ, List.set_cons_zero, f25]
  clear hf
  have hW : Below w.heap.size w W := hW
  obtain ⟨S, f25, hS⟩ := f25
  go_wp2_with fail
  go_ret
  exact ⟨S, congrArg Ending.returned f25, hS.trans HL.out, hW⟩
end Go.Proofs.YtnoneppmeaeicaaDoor
