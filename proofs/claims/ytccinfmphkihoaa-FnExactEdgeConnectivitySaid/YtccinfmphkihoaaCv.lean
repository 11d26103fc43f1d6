import Derived.Test.YtccinfmphkihoaaFw
import Derived.Test.YtccinfmphkihoaaSd
import Derived.Test.YtccinfmphkihoaaLs
import Derived.Test.YtccinfmphkihoaaRt
import Derived.Test.YtccinfmphkihoaaOtherEnd
import Derived.Test.YtccinfmphkihoaaSk
namespace Go.Proofs.Ytccinfmphkihoaa
open Go.RowKit Go.Sort
/-! ### Connected graphs, cuts -/
noncomputable def cutB (n : Int) (es : List (Int × Int)) (sk : Nat → Bool) : Bool := decide (ldCnt es noSk n.toNat < ldCnt es sk n.toNat)
noncomputable def cnB' (n : Int) (es : List (Int × Int)) : Bool := decide (ldCnt es noSk n.toNat = 1)
theorem l01Connected_any (n : Int) (b o m c : Nat) (es : List (Int × Int)) (w : World) (h : Eds w b o m es) (hm : m ≤ 1048576) (hn : WfP n es) :
    Calls Try.prog 52 #[.agg #[.int .i64 n, .slice (some ⟨b, o, none⟩) m c]] w (Ret (.bool (cnB' n es)) w) := by
  have hn2 := hn.1
  have hn20 := hn.2.1
  obtain ⟨N, rfl⟩ : ∃ N : Nat, n = N := ⟨n.toNat, by omega⟩
  go_enter Try.func52, Try.ntmps52
  go_wp2_with (go_at_call 54; refine (parts_any N b o m c es _ (h.alloc _) hm hn.inR (by omega) (by omega)).mono ?_; rintro e w1 ⟨rfl, hb1⟩)
  go_ret
  exact ⟨ret_bool (by rw [Bool.eq_iff_iff]; simp [cnB']; omega), (by go_grown : Below _ _ (w.alloc _)).thenB (by simp) hb1⟩
theorem isConnected_any (n : Int) (b o m c : Nat) (es : List (Int × Int)) (w : World) (h : Eds w b o m es) (hm : m ≤ 1048576) (hn : WfP n es) :
    Calls Try.prog 89 #[.agg #[.int .i64 n, .slice (some ⟨b, o, none⟩) m c]] w (Ret (.bool (cnB' n es)) w) := by
  have hn2 := hn.1
  have hn20 := hn.2.1
  obtain ⟨N, rfl⟩ : ∃ N : Nat, n = N := ⟨n.toNat, by omega⟩
  have HS0 := Lib.hid (fun W hE => skS_none ▸ sides_any N b o m c 0 es W hE hm hn (by omega))
  rw [Int.toNat_natCast] at HS0
  have hlc := ldCnt_le es noSk N
  clear hn
  go_enter Try.func89, Try.ntmps89
  go_wp2_with (go_at_call 66; refine (HS0.out _ (h.alloc _)).mono ?_; rintro e w1 ⟨A, c1, rfl, O, hb1⟩; rw [sdTo_len] at O ⊢)
  go_ret
  exact ⟨ret_bool (by rw [Bool.eq_iff_iff]; simp [cnB']; omega), (by go_grown : Below _ _ (w.alloc _)).thenB (by simp) hb1⟩
set_option maxRecDepth 100000 in
set_option maxHeartbeats 800000 in
theorem isCut_any (n : Int) (b o m c s : Nat) (es : List (Int × Int)) (w : World) (h : Eds w b o m es) (hm : m ≤ 1048576) (hn : WfP n es) (hs : s < 18446744073709551616) :
    Calls Try.prog 60 #[.agg #[.int .i64 n, .slice (some ⟨b, o, none⟩) m c], .int .u64 s] w (Ret (.bool (cutB n es (skS s))) w) := by
  have hn2 := hn.1
  have hn20 := hn.2.1
  obtain ⟨N, rfl⟩ : ∃ N : Nat, n = N := ⟨n.toNat, by omega⟩
  have HS0 := Lib.hid (fun W hE => skS_none ▸ sides_any N b o m c 0 es W hE hm hn (by omega))
  have HS1 := Lib.hid (fun W hE => sides_any N b o m c s es W hE hm hn hs)
  rw [Int.toNat_natCast] at HS0 HS1
  have hlc := ldCnt_le es noSk N
  have hlc2 := ldCnt_le es (skS s) N
  clear hn
  go_enter Try.func60, Try.ntmps60
  go_wp2_with fail
  have hbb := (by go_grown : Below w.heap.size w (w.alloc (.cells #[.int .i64 N, .slice (some ⟨b, o, none⟩) m c] 30)))
  have hbx := Box2.made w (.int .i64 N) (.slice (some ⟨b, o, none⟩) m c) 30
  obtain ⟨w1, hw1⟩ : ∃ w1, w1 = w.alloc (Obj.cells #[Value.int IntKind.i64 N, Value.slice (some ⟨b, o, none⟩) m c] 30) := ⟨_, rfl⟩
  rw [← hw1] at hbb hbx ⊢
  clear hw1
  obtain ⟨z1, p1, q1⟩ := hbx
  have E := h.below hbb
  refine wp_region_facts (fun i v W => match i with
    | 0 => v = .agg #[.int .i64 N, .slice (some ⟨b, o, none⟩) m c]
    | 1 => v = .int .u64 s
    | 2 => NewLL w1.heap.size (sdTo es (skS s) N N) v W
    | 3 => v = .int .i64 (ldCnt es (skS s) N)
    | 4 => v = .agg #[.int .i64 N, .slice (some ⟨b, o, none⟩) m c]
    | 5 => NewLL w1.heap.size (sdTo es noSk N N) v W
    | 6 => v = .int .i64 (ldCnt es noSk N)
    | 7 => v = .bool (decide (ldCnt es noSk N < ldCnt es (skS s) N))
    | _ => v = .bool (decide (ldCnt es noSk N < ldCnt es (skS s) N))) (by kernel_rfl) (by kernel_rfl) ?_ ?_ ?_
  · intro i v W W' hf hb
    match i, hf with
    | 0, hf => exact hf
    | 1, hf => exact hf
    | 2, hf => exact NewLL.below hf hb
    | 3, hf => exact hf
    | 4, hf => exact hf
    | 5, hf => exact NewLL.below hf hb
    | 6, hf => exact hf
    | 7, hf => exact hf
    | (i + 8), hf => exact hf
  · refine ⟨?_, ?_, ?_, ?_, ?_, ?_, ?_, ?_, ?_, trivial⟩
    · intro a W hW hs hd
      have e2 : a.tmps[2]?.getD undef = .pointer (some ⟨w.heap.size, 0, none⟩) := hs 2 (by kernel_rfl)
      have k0 := (hW.cell (p := ⟨w.heap.size, 0, none⟩) (z1)).trans (p1)
      have k1 := (hW.cell (p := ⟨w.heap.size, 1, none⟩) (z1)).trans (q1)
      clear hs hd
      unfold Grows
      go_simp
      exact Below.refl _ _
    · intro a W hW hs hd
      have e1 : a.tmps[1]?.getD undef = .int .u64 s := hs 1 (by kernel_rfl)
      clear hs hd
      unfold Grows
      go_simp
      exact Below.refl _ _
    · intro a W hW hs hd
      have e5 : (a.tmps[5]?.getD undef) = .agg #[.int .i64 N, .slice (some ⟨b, o, none⟩) m c] := hd 0 5 (by kernel_rfl) (by kernel_rfl)
      have e6 : (a.tmps[6]?.getD undef) = .int .u64 s := hd 1 6 (by kernel_rfl) (by kernel_rfl)
      clear hs hd
      unfold Grows
      go_simp
      refine ⟨Below.refl _ _, (HS1.out W (E.below hW)).mono ?_⟩
      rintro e w6 ⟨A6, c6, rfl, ho6, hb6⟩
      exact ⟨_, rfl, hb6, A6, c6, rfl, _, ho6.mono (hW.size)⟩
    · intro a W hW hs hd
      have e7 : NewLL w1.heap.size (sdTo es (skS s) N N) (a.tmps[7]?.getD undef) W := hd 2 7 (by kernel_rfl) (by kernel_rfl)
      obtain ⟨A7, c7, e7, T7, O7⟩ := e7
      rw [sdTo_len] at e7
      clear hs hd
      unfold Grows
      go_simp
      exact Below.refl _ _
    · intro a W hW hs hd
      have e2 : a.tmps[2]?.getD undef = .pointer (some ⟨w.heap.size, 0, none⟩) := hs 2 (by kernel_rfl)
      have k0 := (hW.cell (p := ⟨w.heap.size, 0, none⟩) (z1)).trans (p1)
      have k1 := (hW.cell (p := ⟨w.heap.size, 1, none⟩) (z1)).trans (q1)
      clear hs hd
      unfold Grows
      go_simp
      exact Below.refl _ _
    · intro a W hW hs hd
      have e9 : (a.tmps[9]?.getD undef) = .agg #[.int .i64 N, .slice (some ⟨b, o, none⟩) m c] := hd 4 9 (by kernel_rfl) (by kernel_rfl)
      clear hs hd
      unfold Grows
      go_simp
      refine ⟨Below.refl _ _, (HS0.out W (E.below hW)).mono ?_⟩
      rintro e w6 ⟨A6, c6, rfl, ho6, hb6⟩
      exact ⟨_, rfl, hb6, A6, c6, rfl, _, ho6.mono (hW.size)⟩
    · intro a W hW hs hd
      have e10 : NewLL w1.heap.size (sdTo es noSk N N) (a.tmps[10]?.getD undef) W := hd 5 10 (by kernel_rfl) (by kernel_rfl)
      obtain ⟨A10, c10, e10, T10, O10⟩ := e10
      rw [sdTo_len] at e10
      clear hs hd
      unfold Grows
      go_simp
      exact Below.refl _ _
    · intro a W hW hs hd
      have e8 : (a.tmps[8]?.getD undef) = .int .i64 (ldCnt es (skS s) N) := hd 3 8 (by kernel_rfl) (by kernel_rfl)
      have e11 : (a.tmps[11]?.getD undef) = .int .i64 (ldCnt es noSk N) := hd 6 11 (by kernel_rfl) (by kernel_rfl)
      clear hs hd
      unfold Grows
      go_simp
      exact Below.refl _ _
    · intro a W hW hs hd
      have e12 : (a.tmps[12]?.getD undef) = .bool (decide (ldCnt es noSk N < ldCnt es (skS s) N)) := hd 7 12 (by kernel_rfl) (by kernel_rfl)
      clear hs hd
      unfold Grows
      go_simp
      exact Below.refl _ _
  intro vs W hW hf
  have f4 : vs 4 = .bool (decide (ldCnt es noSk N < ldCnt es (skS s) N)) := hf 8 4 (by kernel_rfl)
  simp only [dsts, List.filterMap_cons, List.filterMap_nil, List.foldl_cons, List.foldl_nil, Act.put, List.setIfInBounds_toArray, List.set_cons_succ, List.set_cons_zero, f4]
  clear hf
  go_wp2_with fail
  go_ret
  exact ⟨ret_bool (by simp [cutB]), hbb.andB hW⟩
end Go.Proofs.Ytccinfmphkihoaa
