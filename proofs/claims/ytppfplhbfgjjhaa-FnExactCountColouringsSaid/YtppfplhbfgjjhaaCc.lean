import Derived.Test.YtppfplhbfgjjhaaFn
import Derived.Test.YtppfplhbfgjjhaaPq
import Derived.Test.YtppfplhbfgjjhaaM24
namespace Go.Proofs.Ytppfplhbfgjjhaa
open Go.RowKit Go.Sort
/-! ### The reference's count of colourings -/
theorem treeG_len3 {ok : (Nat → Int) → Nat → Int → Bool} : ∀ (L : List Nat) (f : Nat → Int), (treeG col3 ok L f).length ≤ 3 ^ L.length := by
  intro L
  induction L with
  | nil => intro f; simp [treeG]
  | cons e L ih =>
    intro f
    have h : ∀ x, (if ok f e x = true then treeG col3 ok L (upF f e x) else []).length ≤ 3 ^ L.length := fun x => by
      split
      · exact ih _
      · simp
    have h0 := h 0
    have h1 := h 1
    have h2 := h 2
    have e1 : treeG col3 ok (e :: L) f = (if ok f e 0 = true then treeG col3 ok L (upF f e 0) else []) ++ ((if ok f e 1 = true then treeG col3 ok L (upF f e 1) else []) ++ ((if ok f e 2 = true then treeG col3 ok L (upF f e 2) else []) ++ [])) := rfl
    rw [e1, List.length_append, List.length_append, List.length_append, List.length_cons, Nat.pow_succ]
    generalize 3 ^ L.length = K at *
    simp only [List.length_nil]
    omega
noncomputable def cntS (es : List (Int × Int)) (G : Nat → Int) (L : List Nat) (f : Nat → Int) : Nat := (treeG col3 (okS es G) L f).length
noncomputable def csT (es : List (Int × Int)) (G : Nat → Int) (L : List Nat) (e : Nat) (f : Nat → Int) : Nat → Nat
  | 0 => 0
  | x + 1 => csT es G L e f x + (if okS es G f e x then cntS es G L (upF f e x) else 0)
theorem cntS_step (es : List (Int × Int)) (G : Nat → Int) (L : List Nat) (e : Nat) (f : Nat → Int) : cntS es G (e :: L) f = csT es G L e f 3 := by
  have key : ∀ (b : Bool) (X : List (Nat → Int)), (if b = true then X else []).length = if b = true then X.length else 0 := fun b X => by cases b <;> rfl
  have e1 : treeG col3 (okS es G) (e :: L) f = (if okS es G f e 0 = true then treeG col3 (okS es G) L (upF f e 0) else []) ++ ((if okS es G f e 1 = true then treeG col3 (okS es G) L (upF f e 1) else []) ++ ((if okS es G f e 2 = true then treeG col3 (okS es G) L (upF f e 2) else []) ++ [])) := rfl
  unfold cntS
  rw [e1, List.length_append, List.length_append, List.length_append, key, key, key]
  show _ = 0 + (if okS es G f e 0 = true then (treeG col3 (okS es G) L (upF f e 0)).length else 0) + (if okS es G f e 1 = true then (treeG col3 (okS es G) L (upF f e 1)).length else 0) + (if okS es G f e 2 = true then (treeG col3 (okS es G) L (upF f e 2)).length else 0)
  simp only [List.length_nil]
  omega
theorem cntS_le (es : List (Int × Int)) (G : Nat → Int) (L : List Nat) (f : Nat → Int) : cntS es G L f ≤ 3 ^ L.length := treeG_len3 L f
theorem csT_le (es : List (Int × Int)) (G : Nat → Int) (L : List Nat) (e : Nat) (f : Nat → Int) : ∀ x, csT es G L e f x ≤ x * 3 ^ L.length := by
  intro x
  induction x with
  | zero => simp [csT]
  | succ x ih =>
    simp only [csT]
    have hx := cntS_le es G L (upF f e x)
    obtain ⟨K, hK⟩ : ∃ K, K = 3 ^ L.length := ⟨_, rfl⟩
    rw [← hK] at hx ih ⊢
    rw [Nat.succ_mul]
    split <;> omega
theorem lsN_at {m j : Nat} {f : Nat → Int} (h : j < m) : ia (lsN m f) j = f j := by simp [lsN, ia, h]
theorem Ints.src {w : World} {b o m : Nat} {f : Nat → Int} (h : Ints w b o m f) : SrcI w (some ⟨b, o, none⟩) m (ia (lsN m f)) := fun _ => ⟨b, o, rfl, h.blk, fun j hj => by rw [lsN_at hj]; exact h.c j hj⟩
theorem OwnL.setI {base : Nat} {w : World} {g m c e : Nat} {f : Nat → Int} (h : OwnL base w (some ⟨g, 0, none⟩) m c (lsN m f)) (he : e < m) (x : Int) :
    w.frozen? ⟨g, e, none⟩ = false ∧ Ints (w.setCell ⟨g, e, none⟩ (.int .i64 x)) g 0 m (upF f e x) := by
  obtain ⟨g', o', e1, I⟩ := h.src (by omega)
  cases e1
  refine ⟨h.2.frozenAt e, by simpa using I.blk, fun j hj => ?_⟩
  have hj' := I.c j hj
  rw [Nat.zero_add] at hj' ⊢
  rw [lsN_at hj] at hj'
  by_cases h1 : j = e
  · subst h1; rw [upF_same]; exact World.cell?_setCell_same _ _ _ hj'
  · rw [upF_other h1, World.cell?_setCell_other _ _ _ _ (by intro e2; injection e2 with _ e3; omega)]; exact hj'
set_option maxRecDepth 100000 in
set_option maxHeartbeats 4000000 in
theorem l02Count_any (N b o m c bp op cp : Nat) (es : List (Int × Int)) (L : List Nat) (hm : m ≤ 1048576) (hG : IsG N es) (hem : es.length = m) (hL : ∀ d, d ∈ L → d < m) (hL0 : 0 < L.length) (hL30 : L.length ≤ 30) :
    ∀ (dp k bc oc cc : Nat) (f : Nat → Int) (w : World), L.length - k < dp → k ≤ L.length → Eds w b o m es → Ints w bp op L.length (fun j => ((L.getD j 0 : Nat) : Int)) → Ints w bc oc m f →
      Calls Try.prog 60 #[.agg #[.int .i64 N, .slice (some ⟨b, o, none⟩) m c], .slice (some ⟨bp, op, none⟩) L.length cp, .slice (some ⟨bc, oc, none⟩) m cc, .int .i64 k] w (Ret (.int .i64 ((cntS es (gN es (ea es (L.getD 0 0))) (L.drop k) f : Nat) : Int)) w) := by
  have HG := Lib.hid hG
  have HEM := Lib.hid hem
  have HL := Lib.hid hL
  have hn2 := hG.wf.1
  have hn20 := hG.wf.2.1
  clear hG hL hem
  obtain ⟨G, hGG⟩ : ∃ G, G = gN es (ea es (L.getD 0 0)) := ⟨_, rfl⟩
  obtain ⟨d0, hd0⟩ : ∃ d0, d0 = L.getD 0 0 := ⟨_, rfl⟩
  have hd0m : d0 < m := by rw [hd0]; exact HL.out _ (gd_mem hL0)
  rw [← hd0] at hGG
  rw [← hd0, ← hGG]
  obtain ⟨v0, hv0⟩ : ∃ v0, v0 = ea es d0 := ⟨_, rfl⟩
  have hvr := HG.out.wf.2.2.2.2 d0 (by rw [HEM.out]; exact hd0m)
  rw [← hv0] at hGG hvr
  have HV0 := Lib.hid hv0
  have HD0 := Lib.hid hd0
  have HGN : Hid (∀ d : Nat, G d = onT (atL es v0) d 3) := fun d => by rw [hGG]; rfl
  clear hd0 hGG hv0
  intro dp
  induction dp with
  | zero => intro k bc oc cc f w h; omega
  | succ dp ih =>
    intro k bc oc cc f w hdp hk h IP IC
    have IH := Lib.hid ih
    clear ih
    have hbx := Box2.made w (.int .i64 N) (.slice (some ⟨b, o, none⟩) m c) 30
    have hbb := (by go_grown : Below w.heap.size w (w.alloc (.cells #[.int .i64 N, .slice (some ⟨b, o, none⟩) m c] 30)))
    obtain ⟨w1, hw1⟩ : ∃ w1, w1 = w.alloc (Obj.cells #[Value.int IntKind.i64 N, Value.slice (some ⟨b, o, none⟩) m c] 30) := ⟨_, rfl⟩
    rw [← hw1] at hbx hbb
    have HW1 := Lib.hid hw1
    clear hw1
    have E1 := h.below hbb
    have P1 := IP.below hbb
    have C1 := IC.below hbb
    obtain ⟨s1, p1, q1⟩ := hbx
    by_cases hlt : k < L.length
    rotate_left
    · obtain rfl : k = L.length := by omega
      have hq : ((L.length : Int) == L.length) = true := by simp
      have HR : Hid (cntS es G (L.drop L.length) f = 1) := by show _ = _; rw [List.drop_length]; rfl
      rw [HR.out]
      go_enter Try.func60, Try.ntmps60
      go_wp2_with fail
      rw [← HW1.out]
      go_ret
      exact ⟨rfl, hbb⟩
    have hq : ((k : Int) == L.length) = false := by simp; omega
    obtain ⟨e, he⟩ : ∃ e, e = L.getD k 0 := ⟨_, rfl⟩
    have hem : e < m := by rw [he]; exact HL.out _ (gd_mem hlt)
    have HDR : Hid (L.drop k = e :: L.drop (k + 1)) := by show _ = _; rw [he]; exact gd_at hlt
    have i1 := IP.c k hlt
    rw [← he] at i1
    have zw := IP.blk
    have i0 := P1.c 0 hL0
    rw [← HD0.out, Nat.add_zero] at i0
    have zp := P1.blk
    have e0 := E1.ca d0 hd0m
    rw [← HV0.out] at e0
    have zb := E1.blk
    have HST : Hid (cntS es G (L.drop k) f = csT es G (L.drop (k + 1)) e f 3) := by show _ = _; rw [HDR.out, cntS_step]
    have hdl : (L.drop (k + 1)).length = L.length - (k + 1) := List.length_drop
    have hp30 : (3 : Nat) ^ (L.drop (k + 1)).length ≤ 205891132094649 := Nat.le_trans (Nat.pow_le_pow_right (by decide) (by omega : _ ≤ 30)) (by decide)
    obtain ⟨LR, hLR⟩ : ∃ LR, LR = L.drop (k + 1) := ⟨_, rfl⟩
    rw [← hLR] at HST hp30
    have HLR := Lib.hid hLR
    clear he hLR hdl
    go_enter Try.func60, Try.ntmps60
    go_wp2_with fail
    rw [← HW1.out]
    refine wp_region_then 9 (fun i9 v W => match i9 with
      | 0 => v = .agg #[.int .i64 N, .slice (some ⟨b, o, none⟩) m c]
      | 1 => v = .pointer (some ⟨w.heap.size, 1, none⟩)
      | 2 => v = .slice (some ⟨b, o, none⟩) m c
      | 3 => v = .slice (some ⟨bp, op, none⟩) L.length cp
      | 4 => v = .pointer (some ⟨bp, op, none⟩)
      | 5 => v = .int .i64 (d0 : Int)
      | 6 => v = .pointer (some ⟨b, o + d0 * 2, none⟩)
      | 7 => v = .pointer (some ⟨b, o + d0 * 2, none⟩)
      | _ => v = .int .i64 v0)
      (fun i => match i with
      | _ => none)
      (fun k W W' => Below W.heap.size W W')  (fun W => Below w1.heap.size w1 W) (by kernel_rfl) (by kernel_rfl) ?_ ?_ ?_ ?_ ?_
    · exact (Below.refl _ _).drew
    · intro i k v W W' hne hd hC hf hE
      match i, hf with
      | 0, hf => exact hf
      | 1, hf => exact hf
      | 2, hf => exact hf
      | 3, hf => exact hf
      | 4, hf => exact hf
      | 5, hf => exact hf
      | 6, hf => exact hf
      | 7, hf => exact hf
      | _ + 8, hf => exact hf
    · intro k W W' hC hE
      exact Below.andB hC hE
    · simp only [List.take_succ_cons, List.take_zero]
      refine ⟨?_, ?_, ?_, ?_, ?_, ?_, ?_, ?_, ?_, trivial⟩
      · intro a W hC hs hd
        have hW : Below w1.heap.size w1 W := hC
        have e4 : a.tmps[4]?.getD undef = .pointer (some ⟨w.heap.size, 0, none⟩) := hs 4 (by kernel_rfl)
        refine growsG_none (E := fun W W' => Below W.heap.size W W') rfl ?_
        have k0 := (hW.cell (p := ⟨w.heap.size, 0, none⟩) (s1)).trans (p1)
        have k1 := (hW.cell (p := ⟨w.heap.size, 1, none⟩) (s1)).trans (q1)
        have k2 := (hW.cell (p := ⟨bp, op, none⟩) (zp)).trans (i0)
        have k3 := (hW.cell (p := ⟨b, o + d0 * 2, none⟩) (zb)).trans (e0)
        clear hs hd
        unfold GrowsE
        go_simp
        exact Below.refl _ _
      · intro a W hC hs hd
        have hW : Below w1.heap.size w1 W := hC
        have e4 : a.tmps[4]?.getD undef = .pointer (some ⟨w.heap.size, 0, none⟩) := hs 4 (by kernel_rfl)
        refine growsG_none (E := fun W W' => Below W.heap.size W W') rfl ?_
        have k0 := (hW.cell (p := ⟨w.heap.size, 0, none⟩) (s1)).trans (p1)
        have k1 := (hW.cell (p := ⟨w.heap.size, 1, none⟩) (s1)).trans (q1)
        have k2 := (hW.cell (p := ⟨bp, op, none⟩) (zp)).trans (i0)
        have k3 := (hW.cell (p := ⟨b, o + d0 * 2, none⟩) (zb)).trans (e0)
        clear hs hd
        unfold GrowsE
        go_simp
        exact Below.refl _ _
      · intro a W hC hs hd
        have hW : Below w1.heap.size w1 W := hC
        have e25 : (a.tmps[25]?.getD undef) = .pointer (some ⟨w.heap.size, 1, none⟩) := hd 1 25 (by kernel_rfl) (by kernel_rfl) (by kernel_rfl)
        refine growsG_none (E := fun W W' => Below W.heap.size W W') rfl ?_
        have k0 := (hW.cell (p := ⟨w.heap.size, 0, none⟩) (s1)).trans (p1)
        have k1 := (hW.cell (p := ⟨w.heap.size, 1, none⟩) (s1)).trans (q1)
        have k2 := (hW.cell (p := ⟨bp, op, none⟩) (zp)).trans (i0)
        have k3 := (hW.cell (p := ⟨b, o + d0 * 2, none⟩) (zb)).trans (e0)
        clear hs hd
        unfold GrowsE
        go_simp
        exact Below.refl _ _
      · intro a W hC hs hd
        have hW : Below w1.heap.size w1 W := hC
        have e1 : a.tmps[1]?.getD undef = .slice (some ⟨bp, op, none⟩) L.length cp := hs 1 (by kernel_rfl)
        refine growsG_none (E := fun W W' => Below W.heap.size W W') rfl ?_
        clear hs hd
        unfold GrowsE
        go_simp
        exact Below.refl _ _
      · intro a W hC hs hd
        have hW : Below w1.heap.size w1 W := hC
        have e27 : (a.tmps[27]?.getD undef) = .slice (some ⟨bp, op, none⟩) L.length cp := hd 3 27 (by kernel_rfl) (by kernel_rfl) (by kernel_rfl)
        refine growsG_none (E := fun W W' => Below W.heap.size W W') rfl ?_
        have k0 := (hW.cell (p := ⟨w.heap.size, 0, none⟩) (s1)).trans (p1)
        have k1 := (hW.cell (p := ⟨w.heap.size, 1, none⟩) (s1)).trans (q1)
        have k2 := (hW.cell (p := ⟨bp, op, none⟩) (zp)).trans (i0)
        have k3 := (hW.cell (p := ⟨b, o + d0 * 2, none⟩) (zb)).trans (e0)
        clear hs hd
        unfold GrowsE
        go_simp
        exact Below.refl _ _
      · intro a W hC hs hd
        have hW : Below w1.heap.size w1 W := hC
        have e28 : (a.tmps[28]?.getD undef) = .pointer (some ⟨bp, op, none⟩) := hd 4 28 (by kernel_rfl) (by kernel_rfl) (by kernel_rfl)
        refine growsG_none (E := fun W W' => Below W.heap.size W W') rfl ?_
        have k0 := (hW.cell (p := ⟨w.heap.size, 0, none⟩) (s1)).trans (p1)
        have k1 := (hW.cell (p := ⟨w.heap.size, 1, none⟩) (s1)).trans (q1)
        have k2 := (hW.cell (p := ⟨bp, op, none⟩) (zp)).trans (i0)
        have k3 := (hW.cell (p := ⟨b, o + d0 * 2, none⟩) (zb)).trans (e0)
        clear hs hd
        unfold GrowsE
        go_simp
        exact Below.refl _ _
      · intro a W hC hs hd
        have hW : Below w1.heap.size w1 W := hC
        have e26 : (a.tmps[26]?.getD undef) = .slice (some ⟨b, o, none⟩) m c := hd 2 26 (by kernel_rfl) (by kernel_rfl) (by kernel_rfl)
        have e29 : (a.tmps[29]?.getD undef) = .int .i64 (d0 : Int) := hd 5 29 (by kernel_rfl) (by kernel_rfl) (by kernel_rfl)
        refine growsG_none (E := fun W W' => Below W.heap.size W W') rfl ?_
        have k0 := (hW.cell (p := ⟨w.heap.size, 0, none⟩) (s1)).trans (p1)
        have k1 := (hW.cell (p := ⟨w.heap.size, 1, none⟩) (s1)).trans (q1)
        have k2 := (hW.cell (p := ⟨bp, op, none⟩) (zp)).trans (i0)
        have k3 := (hW.cell (p := ⟨b, o + d0 * 2, none⟩) (zb)).trans (e0)
        clear hs hd
        unfold GrowsE
        go_simp
        exact Below.refl _ _
      · intro a W hC hs hd
        have hW : Below w1.heap.size w1 W := hC
        have e30 : (a.tmps[30]?.getD undef) = .pointer (some ⟨b, o + d0 * 2, none⟩) := hd 6 30 (by kernel_rfl) (by kernel_rfl) (by kernel_rfl)
        refine growsG_none (E := fun W W' => Below W.heap.size W W') rfl ?_
        have k0 := (hW.cell (p := ⟨w.heap.size, 0, none⟩) (s1)).trans (p1)
        have k1 := (hW.cell (p := ⟨w.heap.size, 1, none⟩) (s1)).trans (q1)
        have k2 := (hW.cell (p := ⟨bp, op, none⟩) (zp)).trans (i0)
        have k3 := (hW.cell (p := ⟨b, o + d0 * 2, none⟩) (zb)).trans (e0)
        clear hs hd
        unfold GrowsE
        go_simp
        exact Below.refl _ _
      · intro a W hC hs hd
        have hW : Below w1.heap.size w1 W := hC
        have e31 : (a.tmps[31]?.getD undef) = .pointer (some ⟨b, o + d0 * 2, none⟩) := hd 7 31 (by kernel_rfl) (by kernel_rfl) (by kernel_rfl)
        refine growsG_none (E := fun W W' => Below W.heap.size W W') rfl ?_
        have k0 := (hW.cell (p := ⟨w.heap.size, 0, none⟩) (s1)).trans (p1)
        have k1 := (hW.cell (p := ⟨w.heap.size, 1, none⟩) (s1)).trans (q1)
        have k2 := (hW.cell (p := ⟨bp, op, none⟩) (zp)).trans (i0)
        have k3 := (hW.cell (p := ⟨b, o + d0 * 2, none⟩) (zb)).trans (e0)
        clear hs hd
        unfold GrowsE
        go_simp
        exact Below.refl _ _
    intro vs W hW hf
    have f24 : (vs 24) = .agg #[.int .i64 N, .slice (some ⟨b, o, none⟩) m c] := hf 0 24 (by decide) (by kernel_rfl) (fun _ hk => by cases hk)
    have f25 : (vs 25) = .pointer (some ⟨w.heap.size, 1, none⟩) := hf 1 25 (by decide) (by kernel_rfl) (fun _ hk => by cases hk)
    have f26 : (vs 26) = .slice (some ⟨b, o, none⟩) m c := hf 2 26 (by decide) (by kernel_rfl) (fun _ hk => by cases hk)
    have f27 : (vs 27) = .slice (some ⟨bp, op, none⟩) L.length cp := hf 3 27 (by decide) (by kernel_rfl) (fun _ hk => by cases hk)
    have f28 : (vs 28) = .pointer (some ⟨bp, op, none⟩) := hf 4 28 (by decide) (by kernel_rfl) (fun _ hk => by cases hk)
    have f29 : (vs 29) = .int .i64 (d0 : Int) := hf 5 29 (by decide) (by kernel_rfl) (fun _ hk => by cases hk)
    have f30 : (vs 30) = .pointer (some ⟨b, o + d0 * 2, none⟩) := hf 6 30 (by decide) (by kernel_rfl) (fun _ hk => by cases hk)
    have f31 : (vs 31) = .pointer (some ⟨b, o + d0 * 2, none⟩) := hf 7 31 (by decide) (by kernel_rfl) (fun _ hk => by cases hk)
    have f32 : (vs 32) = .int .i64 v0 := hf 8 32 (by decide) (by kernel_rfl) (fun _ hk => by cases hk)
    simp only [dsts, List.take_succ_cons, List.take_zero, List.drop_succ_cons, List.drop_zero, List.filterMap_cons, List.filterMap_nil, List.foldl_cons, List.foldl_nil, Act.put, List.setIfInBounds_toArray, List.set_cons_succ, List.set_cons_zero, f24, f25, f26, f27, f28, f29, f30, f31, f32]
    clear hf
    have hW : Below w1.heap.size w1 W := hW
    have hbW := hbb.andB hW
    have E2 := E1.below hW
    have P2 := P1.below hW
    have C2 := C1.below hW
    have s2 := Nat.lt_of_lt_of_le s1 hW.size
    have p2 := (hW.cell (p := ⟨w.heap.size, 0, none⟩) s1).trans p1
    have q2 := (hW.cell (p := ⟨w.heap.size, 1, none⟩) s1).trans q1
    have HL3' : (atL es v0).length = 3 := atL_3 HG.out (by omega) (by omega)
    have HAT := Lib.hid (l01At_any N b o m c es v0 W E2 hm)
    obtain ⟨L0, hL0E⟩ : ∃ L0, L0 = atL es v0 := ⟨_, rfl⟩
    rw [← hL0E] at HAT HL3' HGN
    have HL3 := Lib.hid HL3'
    clear hL0E HL3' hW hbb E1 P1 C1 s1 p1 q1 i1 i0 zp zw e0 zb
    go_wp2_with fail
    refine HAT.out.mono ?_
    rintro ee w2 ⟨A3, c3, rfl, OA, hb3⟩
    rw [HL3.out] at OA ⊢
    have c33 : ((3 : Nat) : Int) = 3 := rfl
    obtain ⟨g3, o3, rfl, IL⟩ := OA.src (by omega)
    have z3 := IL.blk
    have hbW := hbW.andB hb3
    have E2 := E2.below hb3
    have P2 := P2.below hb3
    have C2 := C2.below hb3
    have p2 := (hb3.cell (p := ⟨w.heap.size, 0, none⟩) s2).trans p2
    have q2 := (hb3.cell (p := ⟨w.heap.size, 1, none⟩) s2).trans q2
    have s2 := Nat.lt_of_lt_of_le s2 hb3.size
    clear OA hb3
    go_wp2_with fail
    go_loopw [12, 13] (fun ov iv wr => ∃ i : Nat, i ≤ 3 ∧ iv = .int .i64 i ∧ ov = .int .i64 (onT L0 e i) ∧ wr = w2) (fun _ i _ => 3 - (intOf i).toNat)
    case atStart => exact ⟨0, by omega, rfl, rfl, rfl⟩
    case round =>
      obtain ⟨i, hi, rfl, rfl, rfl⟩ := hrel
      by_cases hi3 : i < 3
      · have i3 := IL.c i hi3
        have HON : Hid (onT L0 e (i + 1) = if ia L0 i = e then (i : Int) else onT L0 e i) := rfl
        by_cases hq3 : ia L0 i = e
        · have HO2 : Hid (onT L0 e (i + 1) = i) := by show _ = _; rw [HON.out, if_pos hq3]
          rw [hq3] at i3
          have hqq : ((e : Int) == e) = true := by simp
          clear hq3
          go_wp2_with fail
          go_roundw
          case rel => exact ⟨i + 1, by omega, by go_num, by rw [HO2.out], trivial⟩
          case measure => simp [intOf]; omega
        · have HO2 : Hid (onT L0 e (i + 1) = onT L0 e i) := by show _ = _; rw [HON.out, if_neg hq3]
          have hqq : (ia L0 i == (e : Int)) = false := by simpa using hq3
          clear hq3
          go_wp2_with fail
          go_roundw
          case rel => exact ⟨i + 1, by omega, by go_num, by rw [HO2.out], trivial⟩
          case measure => simp [intOf]; omega
      · obtain rfl : i = 3 := by omega
        have HON : Hid (onT L0 e 3 = G e) := (HGN.out e).symm
        have hons := onT_rng L0 e 3
        rw [HON.out] at hons ⊢
        obtain ⟨on, hon⟩ : ∃ on, on = G e := ⟨_, rfl⟩
        rw [← hon] at hons ⊢
        have HONG := Lib.hid hon
        clear hon HON IL z3
        go_wp2_with fail
        go_loopw [10, 14] (fun cv xv wv => ∃ x : Nat, x ≤ 3 ∧ xv = .int .i64 x ∧ cv = .int .i64 ((csT es G LR e f x : Nat) : Int) ∧ Below wr.heap.size wr wv) (fun _ x _ => 3 - (intOf x).toNat)
        case atStart => exact ⟨0, by omega, rfl, rfl, Below.refl _ _⟩
        case round =>
          obtain ⟨w4, rfl⟩ : ∃ w4, w4 = wr := ⟨wr, rfl⟩
          obtain ⟨x, hx, rfl, rfl, hb4⟩ := hrel
          have hcs := csT_le es G LR e f x
          obtain ⟨C, hC⟩ : ∃ C, C = csT es G LR e f x := ⟨_, rfl⟩
          rw [← hC] at hcs ⊢
          have HC := Lib.hid hC
          have hC3 : C ≤ 3 * 205891132094649 := Nat.le_trans hcs (Nat.le_trans (Nat.mul_le_mul_right _ hx) (Nat.mul_le_mul_left _ hp30))
          have hb5 := hbW.andB hb4
          clear hcs hC
          by_cases hx3 : x < 3
          · have E4 := E2.below hb4
            have P4 := P2.below hb4
            have C4 := C2.below hb4
            have p4 := (hb4.cell (p := ⟨w.heap.size, 0, none⟩) s2).trans p2
            have q4 := (hb4.cell (p := ⟨w.heap.size, 1, none⟩) s2).trans q2
            have s4 := Nat.lt_of_lt_of_le s2 hb4.size
            have HSS : Hid (csT es G LR e f (x + 1) = C + (if okS es G f e x then cntS es G LR (upF f e x) else 0)) := by rw [HC.out]; rfl
            obtain ⟨r, hr⟩ : ∃ r, r = B (FitP es (upF f e x) e) := ⟨_, rfl⟩
            have HFIT : Hid (∀ W, Below w4.heap.size w4 W → Calls Try.prog 113 #[.agg #[.int .i64 N, .slice (some ⟨b, o, none⟩) m c], .slice (some ⟨bc, oc, none⟩) m cc, .int .i64 e, .int .i64 x] W (Ret (.bool r) W)) := fun W hW => by
              have := l02FitsX_any N b o m c bc oc m cc e es f (upF f e x) W (E4.below hW) hm HG.out (C4.below hW) hem (by omega) (fun d hd => (upF_other (by omega)).symm)
              rw [upF_same, ← hr] at this
              exact this
            have HOK : Hid (okS es G f e x = B ((on ≠ -1 → (x : Int) = on) ∧ r = true)) := by
              show _ = _
              unfold okS
              rw [← HONG.out]
              refine B_congr (and_congr Iff.rfl ?_)
              rw [hr]
              refine (B_iff.trans (fitP_adj (f := f) (fun d hd => upF_other (by omega)) (upF_same f e x))).symm
            have HNO : Hid (okS es G f e x = false → csT es G LR e f (x + 1) = C) := fun hf => by rw [HSS.out, hf]; simp
            have HYES : Hid (okS es G f e x = true → csT es G LR e f (x + 1) = C + cntS es G LR (upF f e x)) := fun hf => by rw [HSS.out, hf]; simp
            clear hr HSS
            by_cases hq1 : 0 ≤ on ∧ (x : Int) ≠ on
            · have hg1 := hq1.1
              have hg2 := hq1.2
              have HE := Lib.hid (HNO.out (by rw [HOK.out]; exact B_false (fun hh => hg2 (hh.1 (by omega)))))
              have hqx : ((x : Int) != on) = true := by simpa using hg2
              clear hq1 hg2
              go_wp2_with fail
              go_roundw
              case rel => exact ⟨x + 1, by omega, by go_num, by rw [HE.out], hb4⟩
              case measure => simp [intOf]; omega
            · have hq2 : Hid (0 ≤ on → (x : Int) = on) := fun h0 => Classical.byContradiction fun hne => hq1 ⟨h0, hne⟩
              have HOK2 : Hid (okS es G f e x = r) := by
                show _ = _
                rw [HOK.out, Bool.eq_iff_iff, B_iff]
                exact ⟨fun hh => hh.2, fun hh => ⟨fun h0 => hq2.out (by omega), hh⟩⟩
              have hqx : 0 ≤ on → ((x : Int) != on) = false := fun h0 => by rw [hq2.out h0]; simp
              clear hq1 HOK
              have hbranch : ∀ (K : Prop), (0 ≤ on → ((x : Int) != on) = false → K) → (¬ 0 ≤ on → K) → K := fun K h1 h2 => by
                by_cases h0 : 0 ≤ on
                · exact h1 h0 (hqx h0)
                · exact h2 h0
              clear hqx
              cases r with
              | false =>
                have HE := Lib.hid (HNO.out HOK2.out)
                refine hbranch _ (fun h0 hqx => ?_) (fun h0 => ?_)
                all_goals
                  clear hbranch
                  go_wp2_with fail
                  refine (HFIT.out _ (Below.refl _ _)).mono ?_
                  rintro ee w5 ⟨rfl, hb6⟩
                  have hb7 := hb4.andB hb6
                  go_wp2_with fail
                  go_roundw
                  case rel => first | exact ⟨x + 1, by omega, by go_num, by rw [HE.out], hb7⟩ | ((repeat apply Exists.intro); exact ⟨⟨x + 1, by omega, by go_num, by rw [HE.out], hb7⟩, rfl⟩)
                  case measure => simp [intOf]; omega
              | true =>
                have HE := Lib.hid (HYES.out HOK2.out)
                have hcl := cntS_le es G LR (upF f e x)
                obtain ⟨R, hR⟩ : ∃ R, R = cntS es G LR (upF f e x) := ⟨_, rfl⟩
                rw [← hR] at HE hcl
                have hwc : IntKind.i64.wrap ((C : Int) + (R : Int)) = ((C + R : Nat) : Int) := by rw [IntWalk.i64_in _ (by omega)]; simp
                have hwk : IntKind.i64.wrap ((k : Int) + 1) = ((k + 1 : Nat) : Int) := by rw [IntWalk.i64_in _ (by omega)]; simp
                have HREC : Hid (∀ g5 c5 W, Eds W b o m es → Ints W bp op L.length (fun j => ((L.getD j 0 : Nat) : Int)) → Ints W g5 0 m (upF f e x) → Calls Try.prog 60 #[.agg #[.int .i64 N, .slice (some ⟨b, o, none⟩) m c], .slice (some ⟨bp, op, none⟩) L.length cp, .slice (some ⟨g5, 0, none⟩) m c5, .int .i64 ((k + 1 : Nat) : Int)] W (Ret (.int .i64 (R : Int)) W)) := fun g5 c5 W hE hP hC5 => by
                  have := IH.out (k + 1) g5 0 c5 (upF f e x) W (by omega) (by omega) hE hP hC5
                  rw [← HLR.out, ← hR] at this
                  exact this
                clear hR
                refine hbranch _ (fun h0 hqx => ?_) (fun h0 => ?_)
                all_goals
                  clear hbranch
                  go_wp2_with fail
                  refine (HFIT.out _ (Below.refl _ _)).mono ?_
                  rintro ee w5 ⟨rfl, hb6⟩
                  have hb7 := hb4.andB hb6
                  have E5 := E4.below hb6
                  have P5 := P4.below hb6
                  have C5 := C4.below hb6
                  have p5 := (hb6.cell (p := ⟨w.heap.size, 0, none⟩) s4).trans p4
                  have q5 := (hb6.cell (p := ⟨w.heap.size, 1, none⟩) s4).trans q4
                  have s5 := Nat.lt_of_lt_of_le s4 hb6.size
                  clear p4 q4 s4
                  go_wp2_with fail
                  refine (l01Own_any (some ⟨bc, oc, none⟩) m cc (lsN m f) w5 C5.src (lsN_len m f) hm).mono ?_
                  rintro ee w6 ⟨A6, c6, rfl, O6, hb8⟩
                  rw [lsN_len] at O6 ⊢
                  obtain ⟨g6, o6, rfl, I6⟩ := O6.src (by omega)
                  have hge := O6.blk g6 rfl
                  obtain rfl : o6 = 0 := by
                    rcases O6.2.2 with ⟨e1, _⟩ | ⟨g, cap, cur, e1, _⟩
                    · injection e1 with e1; cases e1
                    · injection e1 with e1; injection e1 with e1; injection e1
                  obtain ⟨fz6, J6⟩ := O6.setI hem (x : Int)
                  have ce6 := I6.c e hem
                  rw [Nat.zero_add] at ce6
                  have z6 := I6.blk
                  have E6 := E5.below hb8
                  have P6 := P5.below hb8
                  have p6 := (hb8.cell (p := ⟨w.heap.size, 0, none⟩) s5).trans p5
                  have q6 := (hb8.cell (p := ⟨w.heap.size, 1, none⟩) s5).trans q5
                  have s6 := Nat.lt_of_lt_of_le s5 hb8.size
                  have hset : Below w5.heap.size w5 (w6.setCell ⟨g6, e, none⟩ (.int .i64 (x : Int))) := hb8.setCell (p := ⟨g6, e, none⟩) hge.1 _
                  have E7 := E5.below hset
                  have P7 := P5.below hset
                  have hb9 := hb7.andB hset
                  have p7 := (hset.cell (p := ⟨w.heap.size, 0, none⟩) s5).trans p5
                  have q7 := (hset.cell (p := ⟨w.heap.size, 1, none⟩) s5).trans q5
                  have s7 := Nat.lt_of_lt_of_le s5 hset.size
                  clear O6 I6 E6 P6 p5 q5 s5 hb8
                  go_wp2_with fail
                  refine (HREC.out g6 _ _ E7 P7 J6).mono ?_
                  rintro ee w7 ⟨rfl, hb10⟩
                  have hb11 := hb9.andB hb10
                  go_wp2_with fail
                  go_roundw
                  case rel => first | exact ⟨x + 1, by omega, by go_num, by rw [HE.out]; simp, hb11⟩ | ((repeat apply Exists.intro); exact ⟨⟨x + 1, by omega, by go_num, by rw [HE.out]; simp, hb11⟩, rfl⟩)
                  case measure => simp [intOf]; omega
          · obtain rfl : x = 3 := by omega
            have hbF := hb5
            go_wp2_with fail
            go_ret
            exact ⟨by rw [HST.out, HC.out]; rfl, hbF⟩
end Go.Proofs.Ytppfplhbfgjjhaa
