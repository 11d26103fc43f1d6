import Derived.Test.YtajnhkkiddeegaaGreatZc27
set_option linter.unusedVariables false
set_option linter.unusedSimpArgs false
namespace Go.Proofs.YtajnhkkiddeegaaGreat
open Go.RowKit Go.Sort
theorem treeG_len3 {ok : (Nat → Int) → Nat → Int → Bool} : ∀ (L : List Nat) (f : Nat → Int), (treeG col3 ok L f).length ≤ 3 ^ L.length := by
  intro L
  induction L with
  | nil => intro f; simp [treeG]
  | cons e L ih =>
    intro f
    have h : ∀ x, (if ok f e x = true then treeG col3 ok L (upF f e x) else []).length ≤ 3 ^ L.length := fun x => by
      split
      · exact ih _
      · simp
    have h0 := h 0
    have h1 := h 1
    have h2 := h 2
    have e1 : treeG col3 ok (e :: L) f = (if ok f e 0 = true then treeG col3 ok L (upF f e 0) else []) ++ ((if ok f e 1 = true then treeG col3 ok L (upF f e 1) else []) ++ ((if ok f e 2 = true then treeG col3 ok L (upF f e 2) else []) ++ [])) := rfl
    rw [e1, List.length_append, List.length_append, List.length_append, List.length_cons, Nat.pow_succ]
    generalize 3 ^ L.length = K at *
    simp only [List.length_nil]
    omega
noncomputable def cntS (es : List (Int × Int)) (G : Nat → Int) (L : List Nat) (f : Nat → Int) : Nat := (treeG col3 (okS es G) L f).length
noncomputable def csT (es : List (Int × Int)) (G : Nat → Int) (L : List Nat) (e : Nat) (f : Nat → Int) : Nat → Nat
  | 0 => 0
  | x + 1 => csT es G L e f x + (if okS es G f e x then cntS es G L (upF f e x) else 0)
theorem cntS_step (es : List (Int × Int)) (G : Nat → Int) (L : List Nat) (e : Nat) (f : Nat → Int) : cntS es G (e :: L) f = csT es G L e f 3 := by
  have key : ∀ (b : Bool) (X : List (Nat → Int)), (if b = true then X else []).length = if b = true then X.length else 0 := fun b X => by cases b <;> rfl
  have e1 : treeG col3 (okS es G) (e :: L) f = (if okS es G f e 0 = true then treeG col3 (okS es G) L (upF f e 0) else []) ++ ((if okS es G f e 1 = true then treeG col3 (okS es G) L (upF f e 1) else []) ++ ((if okS es G f e 2 = true then treeG col3 (okS es G) L (upF f e 2) else []) ++ [])) := rfl
  unfold cntS
  rw [e1, List.length_append, List.length_append, List.length_append, key, key, key]
  show _ = 0 + (if okS es G f e 0 = true then (treeG col3 (okS es G) L (upF f e 0)).length else 0) + (if okS es G f e 1 = true then (treeG col3 (okS es G) L (upF f e 1)).length else 0) + (if okS es G f e 2 = true then (treeG col3 (okS es G) L (upF f e 2)).length else 0)
  simp only [List.length_nil]
  omega
theorem cntS_le (es : List (Int × Int)) (G : Nat → Int) (L : List Nat) (f : Nat → Int) : cntS es G L f ≤ 3 ^ L.length := treeG_len3 L f
theorem csT_le (es : List (Int × Int)) (G : Nat → Int) (L : List Nat) (e : Nat) (f : Nat → Int) : ∀ x, csT es G L e f x ≤ x * 3 ^ L.length := by
  intro x
  induction x with
  | zero => simp [csT]
  | succ x ih =>
    simp only [csT]
    have hx := cntS_le es G L (upF f e x)
    obtain ⟨K, hK⟩ : ∃ K, K = 3 ^ L.length := ⟨_, rfl⟩
    rw [← hK] at hx ih ⊢
    rw [Nat.succ_mul]
    split <;> omega
theorem lsN_at {m j : Nat} {f : Nat → Int} (h : j < m) : ia (lsN m f) j = f j := by simp [lsN, ia, h]
theorem Ints.src {w : World} {b o m : Nat} {f : Nat → Int} (h : Ints w b o m f) : SrcI w (some ⟨b, o, none⟩) m (ia (lsN m f)) := fun _ => ⟨b, o, rfl, h.blk, fun j hj => by rw [lsN_at hj]; exact h.c j hj⟩
theorem OwnL.setI {base : Nat} {w : World} {g m c e : Nat} {f : Nat → Int} (h : OwnL base w (some ⟨g, 0, none⟩) m c (lsN m f)) (he : e < m) (x : Int) :
    w.frozen? ⟨g, e, none⟩ = false ∧ Ints (w.setCell ⟨g, e, none⟩ (.int .i64 x)) g 0 m (upF f e x) := by
  obtain ⟨g', o', e1, I⟩ := h.src (by omega)
  cases e1
  refine ⟨h.2.frozenAt e, by simpa using I.blk, fun j hj => ?_⟩
  have hj' := I.c j hj
  rw [Nat.zero_add] at hj' ⊢
  rw [lsN_at hj] at hj'
  by_cases h1 : j = e
  · subst h1; rw [upF_same]; exact World.cell?_setCell_same _ _ _ hj'
  · rw [upF_other h1, World.cell?_setCell_other _ _ _ _ (by intro e2; injection e2 with _ e3; omega)]; exact hj'
set_option maxRecDepth 100000 in
set_option maxHeartbeats 4000000 in
theorem l02Count_any (N b o m c bp op cp : Nat) (es : List (Int × Int)) (L : List Nat) (hm : m ≤ 1048576) (hG : IsG N es) (hem : es.length = m) (hL : ∀ d, d ∈ L → d < m) (hL0 : 0 < L.length) (hL30 : L.length ≤ 30) :
    ∀ (dp k bc oc cc : Nat) (f : Nat → Int) (w : World), L.length - k < dp → k ≤ L.length → Eds w b o m es → Ints w bp op L.length (fun j => ((L.getD j 0 : Nat) : Int)) → Ints w bc oc m f →
      Calls Tryz.prog 63 #[.agg #[.int .i64 N, .slice (some ⟨b, o, none⟩) m c], .slice (some ⟨bp, op, none⟩) L.length cp, .slice (some ⟨bc, oc, none⟩) m cc, .int .i64 k] w (Ret (.int .i64 ((cntS es (gN es (ea es (L.getD 0 0))) (L.drop k) f : Nat) : Int)) w) := by
  have HG := Lib.hid hG
  have HEM := Lib.hid hem
  have HL := Lib.hid hL
  have hn2 := hG.wf.1
  have hn20 := hG.wf.2.1
  clear hG hL hem
  obtain ⟨G, hGG⟩ : ∃ G, G = gN es (ea es (L.getD 0 0)) := ⟨_, rfl⟩
  obtain ⟨d0, hd0⟩ : ∃ d0, d0 = L.getD 0 0 := ⟨_, rfl⟩
  have hd0m : d0 < m := by rw [hd0]; exact HL.out _ (gd_mem hL0)
  rw [← hd0] at hGG
  rw [← hd0, ← hGG]
  obtain ⟨v0, hv0⟩ : ∃ v0, v0 = ea es d0 := ⟨_, rfl⟩
  have hvr := HG.out.wf.2.2.2.2 d0 (by rw [HEM.out]; exact hd0m)
  rw [← hv0] at hGG hvr
  have HV0 := Lib.hid hv0
  have HD0 := Lib.hid hd0
  have HGN : Hid (∀ d : Nat, G d = onT (atL es v0) d 3) := fun d => by rw [hGG]; rfl
  clear hd0 hGG hv0
  intro dp
  induction dp with
  | zero => intro k bc oc cc f w h; omega
  | succ dp ih =>
    intro k bc oc cc f w hdp hk h IP IC
    have IH := Lib.hid ih
    clear ih
    have hbx := Box2.made w (.int .i64 N) (.slice (some ⟨b, o, none⟩) m c) 26
    have hbb := (by go_grown : Below w.heap.size w (w.alloc (.cells #[.int .i64 N, .slice (some ⟨b, o, none⟩) m c] 26)))
    obtain ⟨w1, hw1⟩ : ∃ w1, w1 = w.alloc (Obj.cells #[Value.int IntKind.i64 N, Value.slice (some ⟨b, o, none⟩) m c] 26) := ⟨_, rfl⟩
    rw [← hw1] at hbx hbb
    have HW1 := Lib.hid hw1
    clear hw1
    have E1 := h.below hbb
    have P1 := IP.below hbb
    have C1 := IC.below hbb
    obtain ⟨s1, p1, q1⟩ := hbx
    by_cases hlt : k < L.length
    rotate_left
    · obtain rfl : k = L.length := by omega
      have hq : ((L.length : Int) == L.length) = true := by simp
      have HR : Hid (cntS es G (L.drop L.length) f = 1) := by show _ = _; rw [List.drop_length]; rfl
      rw [HR.out]
      go_enter Tryz.func63, Tryz.ntmps63
      go_wp2_with fail
      rw [← HW1.out]
      go_ret
      exact ⟨rfl, hbb⟩
    have hq : ((k : Int) == L.length) = false := by simp; omega
    obtain ⟨e, he⟩ : ∃ e, e = L.getD k 0 := ⟨_, rfl⟩
    have hem : e < m := by rw [he]; exact HL.out _ (gd_mem hlt)
    have HDR : Hid (L.drop k = e :: L.drop (k + 1)) := by show _ = _; rw [he]; exact gd_at hlt
    have i1 := IP.c k hlt
    rw [← he] at i1
    have zw := IP.blk
    have i0 := P1.c 0 hL0
    rw [← HD0.out, Nat.add_zero] at i0
    have zp := P1.blk
    have e0 := E1.ca d0 hd0m
    rw [← HV0.out] at e0
    have zb := E1.blk
    have HST : Hid (cntS es G (L.drop k) f = csT es G (L.drop (k + 1)) e f 3) := by show _ = _; rw [HDR.out, cntS_step]
    have hdl : (L.drop (k + 1)).length = L.length - (k + 1) := List.length_drop
    have hp30 : (3 : Nat) ^ (L.drop (k + 1)).length ≤ 205891132094649 := Nat.le_trans (Nat.pow_le_pow_right (by decide) (by omega : _ ≤ 30)) (by decide)
    obtain ⟨LR, hLR⟩ : ∃ LR, LR = L.drop (k + 1) := ⟨_, rfl⟩
    rw [← hLR] at HST hp30
    have HLR := Lib.hid hLR
    clear he hLR hdl
    go_enter Tryz.func63, Tryz.ntmps63
    go_wp2_with fail
    rw [← HW1.out]
    refine wp_region_then 9 (fun i9 v W => match i9 with
      | 0 => v = .agg #[.int .i64 N, .slice (some ⟨b, o, none⟩) m c]
      | 1 => v = .pointer (some ⟨w.heap.size, 1, none⟩)
      | 2 => v = .slice (some ⟨b, o, none⟩) m c
      | 3 => v = .slice (some ⟨bp, op, none⟩) L.length cp
      | 4 => v = .pointer (some ⟨bp, op, none⟩)
      | 5 => v = .int .i64 (d0 : Int)
      | 6 => v = .pointer (some ⟨b, o + d0 * 2, none⟩)
      | 7 => v = .pointer (some ⟨b, o + d0 * 2, none⟩)
      | _ => v = .int .i64 v0)
      (fun i => match i with
      | _ => none)
      (fun k W W' => Below W.heap.size W W')  (fun W => Below w1.heap.size w1 W) (by kernel_rfl) (by kernel_rfl) ?_ ?_ ?_ ?_ ?_
    · exact (Below.refl _ _).drew
    · intro i k v W W' hne hd hC hf hE
      match i, hf with
      | 0, hf => exact hf
      | 1, hf => exact hf
      | 2, hf => exact hf
      | 3, hf => exact hf
      | 4, hf => exact hf
      | 5, hf => exact hf
      | 6, hf => exact hf
      | 7, hf => exact hf
      | _ + 8, hf => exact hf
    · intro k W W' hC hE
      exact Below.andB hC hE
    · simp only [List.take_succ_cons, List.take_zero]
      refine ⟨?_, ?_, ?_, ?_, ?_, ?_, ?_, ?_, ?_, trivial⟩
      · intro a W hC hs hd
        have hW : Below w1.heap.size w1 W := hC
        have e4 : a.tmps[4]?.getD undef = .pointer (some ⟨w.heap.size, 0, none⟩) := hs 4 (by kernel_rfl)
        refine growsG_none (E := fun W W' => Below W.heap.size W W') rfl ?_
        have k0 := (hW.cell (p := ⟨w.heap.size, 0, none⟩) (s1)).trans (p1)
        have k1 := (hW.cell (p := ⟨w.heap.size, 1, none⟩) (s1)).trans (q1)
        have k2 := (hW.cell (p := ⟨bp, op, none⟩) (zp)).trans (i0)
        have k3 := (hW.cell (p := ⟨b, o + d0 * 2, none⟩) (zb)).trans (e0)
        clear hs hd
        unfold GrowsE
        go_simp
        exact Below.refl _ _
      · intro a W hC hs hd
        have hW : Below w1.heap.size w1 W := hC
        have e4 : a.tmps[4]?.getD undef = .pointer (some ⟨w.heap.size, 0, none⟩) := hs 4 (by kernel_rfl)
        refine growsG_none (E := fun W W' => Below W.heap.size W W') rfl ?_
        have k0 := (hW.cell (p := ⟨w.heap.size, 0, none⟩) (s1)).trans (p1)
        have k1 := (hW.cell (p := ⟨w.heap.size, 1, none⟩) (s1)).trans (q1)
        have k2 := (hW.cell (p := ⟨bp, op, none⟩) (zp)).trans (i0)
        have k3 := (hW.cell (p := ⟨b, o + d0 * 2, none⟩) (zb)).trans (e0)
        clear hs hd
        unfold GrowsE
        go_simp
        exact Below.refl _ _
      · intro a W hC hs hd
        have hW : Below w1.heap.size w1 W := hC
        have e25 : (a.tmps[25]?.getD undef) = .pointer (some ⟨w.heap.size, 1, none⟩) := hd 1 25 (by kernel_rfl) (by kernel_rfl) (by kernel_rfl)
        refine growsG_none (E := fun W W' => Below W.heap.size W W') rfl ?_
        have k0 := (hW.cell (p := ⟨w.heap.size, 0, none⟩) (s1)).trans (p1)
        have k1 := (hW.cell (p := ⟨w.heap.size, 1, none⟩) (s1)).trans (q1)
        have k2 := (hW.cell (p := ⟨bp, op, none⟩) (zp)).trans (i0)
        have k3 := (hW.cell (p := ⟨b, o + d0 * 2, none⟩) (zb)).trans (e0)
        clear hs hd
        unfold GrowsE
        go_simp
        exact Below.refl _ _
      · intro a W hC hs hd
        have hW : Below w1.heap.size w1 W := hC
        have e1 : a.tmps[1]?.getD undef = .slice (some ⟨bp, op, none⟩) L.length cp := hs 1 (by kernel_rfl)
        refine growsG_none (E := fun W W' => Below W.heap.size W W') rfl ?_
        clear hs hd
        unfold GrowsE
        go_simp
        exact Below.refl _ _
      · intro a W hC hs hd
        have hW : Below w1.heap.size w1 W := hC
        have e27 : (a.tmps[27]?.getD undef) = .slice (some ⟨bp, op, none⟩) L.length cp := hd 3 27 (by kernel_rfl) (by kernel_rfl) (by kernel_rfl)
        refine growsG_none (E := fun W W' => Below W.heap.size W W') rfl ?_
        have k0 := (hW.cell (p := ⟨w.heap.size, 0, none⟩) (s1)).trans (p1)
        have k1 := (hW.cell (p := ⟨w.heap.size, 1, none⟩) (s1)).trans (q1)
        have k2 := (hW.cell (p := ⟨bp, op, none⟩) (zp)).trans (i0)
        have k3 := (hW.cell (p := ⟨b, o + d0 * 2, none⟩) (zb)).trans (e0)
        clear hs hd
        unfold GrowsE
        go_simp
        exact Below.refl _ _
      · intro a W hC hs hd
        have hW : Below w1.heap.size w1 W := hC
        have e28 : (a.tmps[28]?.getD undef) = .pointer (some ⟨bp, op, none⟩) := hd 4 28 (by kernel_rfl) (by kernel_rfl) (by kernel_rfl)
        refine growsG_none (E := fun W W' => Below W.heap.size W W') rfl ?_
        have k0 := (hW.cell (p := ⟨w.heap.size, 0, none⟩) (s1)).trans (p1)
        have k1 := (hW.cell (p := ⟨w.heap.size, 1, none⟩) (s1)).trans (q1)
        have k2 := (hW.cell (p := ⟨bp, op, none⟩) (zp)).trans (i0)
        have k3 := (hW.cell (p := ⟨b, o + d0 * 2, none⟩) (zb)).trans (e0)
        clear hs hd
        unfold GrowsE
        go_simp
        exact Below.refl _ _
      · intro a W hC hs hd
        have hW : Below w1.heap.size w1 W := hC
        have e26 : (a.tmps[26]?.getD undef) = .slice (some ⟨b, o, none⟩) m c := hd 2 26 (by kernel_rfl) (by kernel_rfl) (by kernel_rfl)
        have e29 : (a.tmps[29]?.getD undef) = .int .i64 (d0 : Int) := hd 5 29 (by kernel_rfl) (by kernel_rfl) (by kernel_rfl)
        refine growsG_none (E := fun W W' => Below W.heap.size W W') rfl ?_
        have k0 := (hW.cell (p := ⟨w.heap.size, 0, none⟩) (s1)).trans (p1)
        have k1 := (hW.cell (p := ⟨w.heap.size, 1, none⟩) (s1)).trans (q1)
        have k2 := (hW.cell (p := ⟨bp, op, none⟩) (zp)).trans (i0)
        have k3 := (hW.cell (p := ⟨b, o + d0 * 2, none⟩) (zb)).trans (e0)
        clear hs hd
        unfold GrowsE
        go_simp
        exact Below.refl _ _
      · intro a W hC hs hd
        have hW : Below w1.heap.size w1 W := hC
        have e30 : (a.tmps[30]?.getD undef) = .pointer (some ⟨b, o + d0 * 2, none⟩) := hd 6 30 (by kernel_rfl) (by kernel_rfl) (by kernel_rfl)
        refine growsG_none (E := fun W W' => Below W.heap.size W W') rfl ?_
        have k0 := (hW.cell (p := ⟨w.heap.size, 0, none⟩) (s1)).trans (p1)
        have k1 := (hW.cell (p := ⟨w.heap.size, 1, none⟩) (s1)).trans (q1)
        have k2 := (hW.cell (p := ⟨bp, op, none⟩) (zp)).trans (i0)
        have k3 := (hW.cell (p := ⟨b, o + d0 * 2, none⟩) (zb)).trans (e0)
        clear hs hd
        unfold GrowsE
        go_simp
        exact Below.refl _ _
      · intro a W hC hs hd
        have hW : Below w1.heap.size w1 W := hC
        have e31 : (a.tmps[31]?.getD undef) = .pointer (some ⟨b, o + d0 * 2, none⟩) := hd 7 31 (by kernel_rfl) (by kernel_rfl) (by kernel_rfl)
        refine growsG_none (E := fun W W' => Below W.heap.size W W') rfl ?_
        have k0 := (hW.cell (p := ⟨w.heap.size, 0, none⟩) (s1)).trans (p1)
        have k1 := (hW.cell (p := ⟨w.heap.size, 1, none⟩) (s1)).trans (q1)
        have k2 := (hW.cell (p := ⟨bp, op, none⟩) (zp)).trans (i0)
        have k3 := (hW.cell (p := ⟨b, o + d0 * 2, none⟩) (zb)).trans (e0)
        clear hs hd
        unfold GrowsE
        go_simp
        exact Below.refl _ _
    intro vs W hW hf
    have f24 : (vs 24) = .agg #[.int .i64 N, .slice (some ⟨b, o, none⟩) m c] := hf 0 24 (by decide) (by kernel_rfl) (fun _ hk => by cases hk)
    have f25 : (vs 25) = .pointer (some ⟨w.heap.size, 1, none⟩) := hf 1 25 (by decide) (by kernel_rfl) (fun _ hk => by cases hk)
    have f26 : (vs 26) = .slice (some ⟨b, o, none⟩) m c := hf 2 26 (by decide) (by kernel_rfl) (fun _ hk => by cases hk)
    have f27 : (vs 27) = .slice (some ⟨bp, op, none⟩) L.length cp := hf 3 27 (by decide) (by kernel_rfl) (fun _ hk => by cases hk)
    have f28 : (vs 28) = .pointer (some ⟨bp, op, none⟩) := hf 4 28 (by decide) (by kernel_rfl) (fun _ hk => by cases hk)
    have f29 : (vs 29) = .int .i64 (d0 : Int) := hf 5 29 (by decide) (by kernel_rfl) (fun _ hk => by cases hk)
    have f30 : (vs 30) = .pointer (some ⟨b, o + d0 * 2, none⟩) := hf 6 30 (by decide) (by kernel_rfl) (fun _ hk => by cases hk)
    have f31 : (vs 31) = .pointer (some ⟨b, o + d0 * 2, none⟩) := hf 7 31 (by decide) (by kernel_rfl) (fun _ hk => by cases hk)
    have f32 : (vs 32) = .int .i64 v0 := hf 8 32 (by decide) (by kernel_rfl) (fun _ hk => by cases hk)
    simp only [dsts, List.take_succ_cons, List.take_zero, List.drop_succ_cons, List.drop_zero, List.filterMap_cons, List.filterMap_nil, List.foldl_cons, List.foldl_nil, Act.put, List.setIfInBounds_toArray, List.set_cons_succ, List.set_cons_zero, f24, f25, f26, f27, f28, f29, f30, f31, f32]
    clear hf
    have hW : Below w1.heap.size w1 W := hW
    have hbW := hbb.andB hW
    have E2 := E1.below hW
    have P2 := P1.below hW
    have C2 := C1.below hW
    have s2 := Nat.lt_of_lt_of_le s1 hW.size
    have p2 := (hW.cell (p := ⟨w.heap.size, 0, none⟩) s1).trans p1
    have q2 := (hW.cell (p := ⟨w.heap.size, 1, none⟩) s1).trans q1
    have HL3' : (atL es v0).length = 3 := atL_3 HG.out (by omega) (by omega)
    have HAT := Lib.hid (l01At_any N b o m c es v0 W E2 hm)
    obtain ⟨L0, hL0E⟩ : ∃ L0, L0 = atL es v0 := ⟨_, rfl⟩
    rw [← hL0E] at HAT HL3' HGN
    have HL3 := Lib.hid HL3'
    clear hL0E HL3' hW hbb E1 P1 C1 s1 p1 q1 i1 i0 zp zw e0 zb
    go_wp2_with fail
    refine HAT.out.mono ?_
    rintro ee w2 ⟨A3, c3, rfl, OA, hb3⟩
    rw [HL3.out] at OA ⊢
    have c33 : ((3 : Nat) : Int) = 3 := rfl
    obtain ⟨g3, o3, rfl, IL⟩ := OA.src (by omega)
    have z3 := IL.blk
    have hbW := hbW.andB hb3
    have E2 := E2.below hb3
    have P2 := P2.below hb3
    have C2 := C2.below hb3
    have p2 := (hb3.cell (p := ⟨w.heap.size, 0, none⟩) s2).trans p2
    have q2 := (hb3.cell (p := ⟨w.heap.size, 1, none⟩) s2).trans q2
    have s2 := Nat.lt_of_lt_of_le s2 hb3.size
    clear OA hb3
    go_wp2_with fail
    go_loopw [12, 13] (fun ov iv wr => ∃ i : Nat, i ≤ 3 ∧ iv = .int .i64 i ∧ ov = .int .i64 (onT L0 e i) ∧ wr = w2) (fun _ i _ => 3 - (intOf i).toNat)
    case atStart => exact ⟨0, by omega, rfl, rfl, rfl⟩
    case round =>
      obtain ⟨i, hi, rfl, rfl, rfl⟩ := hrel
      by_cases hi3 : i < 3
      · have i3 := IL.c i hi3
        have HON : Hid (onT L0 e (i + 1) = if ia L0 i = e then (i : Int) else onT L0 e i) := rfl
        by_cases hq3 : ia L0 i = e
        · have HO2 : Hid (onT L0 e (i + 1) = i) := by show _ = _; rw [HON.out, if_pos hq3]
          rw [hq3] at i3
          have hqq : ((e : Int) == e) = true := by simp
          clear hq3
          go_wp2_with fail
          go_roundw
          case rel => exact ⟨i + 1, by omega, by go_num, by rw [HO2.out], trivial⟩
          case measure => simp [intOf]; omega
        · have HO2 : Hid (onT L0 e (i + 1) = onT L0 e i) := by show _ = _; rw [HON.out, if_neg hq3]
          have hqq : (ia L0 i == (e : Int)) = false := by simpa using hq3
          clear hq3
          go_wp2_with fail
          go_roundw
          case rel => exact ⟨i + 1, by omega, by go_num, by rw [HO2.out], trivial⟩
          case measure => simp [intOf]; omega
      · obtain rfl : i = 3 := by omega
        have HON : Hid (onT L0 e 3 = G e) := (HGN.out e).symm
        have hons := onT_rng L0 e 3
        rw [HON.out] at hons ⊢
        obtain ⟨on, hon⟩ : ∃ on, on = G e := ⟨_, rfl⟩
        rw [← hon] at hons ⊢
        have HONG := Lib.hid hon
        clear hon HON IL z3
        go_wp2_with fail
        go_loopw [10, 14] (fun cv xv wv => ∃ x : Nat, x ≤ 3 ∧ xv = .int .i64 x ∧ cv = .int .i64 ((csT es G LR e f x : Nat) : Int) ∧ Below wr.heap.size wr wv) (fun _ x _ => 3 - (intOf x).toNat)
        case atStart => exact ⟨0, by omega, rfl, rfl, Below.refl _ _⟩
        case round =>
          obtain ⟨w4, rfl⟩ : ∃ w4, w4 = wr := ⟨wr, rfl⟩
          obtain ⟨x, hx, rfl, rfl, hb4⟩ := hrel
          have hcs := csT_le es G LR e f x
          obtain ⟨C, hC⟩ : ∃ C, C = csT es G LR e f x := ⟨_, rfl⟩
          rw [← hC] at hcs ⊢
          have HC := Lib.hid hC
          have hC3 : C ≤ 3 * 205891132094649 := Nat.le_trans hcs (Nat.le_trans (Nat.mul_le_mul_right _ hx) (Nat.mul_le_mul_left _ hp30))
          have hb5 := hbW.andB hb4
          clear hcs hC
          by_cases hx3 : x < 3
          · have E4 := E2.below hb4
            have P4 := P2.below hb4
            have C4 := C2.below hb4
            have p4 := (hb4.cell (p := ⟨w.heap.size, 0, none⟩) s2).trans p2
            have q4 := (hb4.cell (p := ⟨w.heap.size, 1, none⟩) s2).trans q2
            have s4 := Nat.lt_of_lt_of_le s2 hb4.size
            have HSS : Hid (csT es G LR e f (x + 1) = C + (if okS es G f e x then cntS es G LR (upF f e x) else 0)) := by rw [HC.out]; rfl
            obtain ⟨r, hr⟩ : ∃ r, r = B (FitP es (upF f e x) e) := ⟨_, rfl⟩
            have HFIT : Hid (∀ W, Below w4.heap.size w4 W → Calls Tryz.prog 113 #[.agg #[.int .i64 N, .slice (some ⟨b, o, none⟩) m c], .slice (some ⟨bc, oc, none⟩) m cc, .int .i64 e, .int .i64 x] W (Ret (.bool r) W)) := fun W hW => by
              have := l02FitsX_any N b o m c bc oc m cc e es f (upF f e x) W (E4.below hW) hm HG.out (C4.below hW) hem (by omega) (fun d hd => (upF_other (by omega)).symm)
              rw [upF_same, ← hr] at this
              exact this
            have HOK : Hid (okS es G f e x = B ((on ≠ -1 → (x : Int) = on) ∧ r = true)) := by
              show _ = _
              unfold okS
              rw [← HONG.out]
              refine B_congr (and_congr Iff.rfl ?_)
              rw [hr]
              refine (B_iff.trans (fitP_adj (f := f) (fun d hd => upF_other (by omega)) (upF_same f e x))).symm
            have HNO : Hid (okS es G f e x = false → csT es G LR e f (x + 1) = C) := fun hf => by rw [HSS.out, hf]; simp
            have HYES : Hid (okS es G f e x = true → csT es G LR e f (x + 1) = C + cntS es G LR (upF f e x)) := fun hf => by rw [HSS.out, hf]; simp
            clear hr HSS
            by_cases hq1 : 0 ≤ on ∧ (x : Int) ≠ on
            · have hg1 := hq1.1
              have hg2 := hq1.2
              have HE := Lib.hid (HNO.out (by rw [HOK.out]; exact B_false (fun hh => hg2 (hh.1 (by omega)))))
              have hqx : ((x : Int) != on) = true := by simpa using hg2
              clear hq1 hg2
              go_wp2_with fail
              go_roundw
              case rel => exact ⟨x + 1, by omega, by go_num, by rw [HE.out], hb4⟩
              case measure => simp [intOf]; omega
            · have hq2 : Hid (0 ≤ on → (x : Int) = on) := fun h0 => Classical.byContradiction fun hne => hq1 ⟨h0, hne⟩
              have HOK2 : Hid (okS es G f e x = r) := by
                show _ = _
                rw [HOK.out, Bool.eq_iff_iff, B_iff]
                exact ⟨fun hh => hh.2, fun hh => ⟨fun h0 => hq2.out (by omega), hh⟩⟩
              have hqx : 0 ≤ on → ((x : Int) != on) = false := fun h0 => by rw [hq2.out h0]; simp
              clear hq1 HOK
              have hbranch : ∀ (K : Prop), (0 ≤ on → ((x : Int) != on) = false → K) → (¬ 0 ≤ on → K) → K := fun K h1 h2 => by
                by_cases h0 : 0 ≤ on
                · exact h1 h0 (hqx h0)
                · exact h2 h0
              clear hqx
              cases r with
              | false =>
                have HE := Lib.hid (HNO.out HOK2.out)
                refine hbranch _ (fun h0 hqx => ?_) (fun h0 => ?_)
                all_goals
                  clear hbranch
                  go_wp2_with fail
                  refine (HFIT.out _ (Below.refl _ _)).mono ?_
                  rintro ee w5 ⟨rfl, hb6⟩
                  have hb7 := hb4.andB hb6
                  go_wp2_with fail
                  go_roundw
                  case rel => first | exact ⟨x + 1, by omega, by go_num, by rw [HE.out], hb7⟩ | ((repeat apply Exists.intro); exact ⟨⟨x + 1, by omega, by go_num, by rw [HE.out], hb7⟩, rfl⟩)
                  case measure => simp [intOf]; omega
              | true =>
                have HE := Lib.hid (HYES.out HOK2.out)
                have hcl := cntS_le es G LR (upF f e x)
                obtain ⟨R, hR⟩ : ∃ R, R = cntS es G LR (upF f e x) := ⟨_, rfl⟩
                rw [← hR] at HE hcl
                have hwc : IntKind.i64.wrap ((C : Int) + (R : Int)) = ((C + R : Nat) : Int) := by rw [IntWalk.i64_in _ (by omega)]; simp
                have hwk : IntKind.i64.wrap ((k : Int) + 1) = ((k + 1 : Nat) : Int) := by rw [IntWalk.i64_in _ (by omega)]; simp
                have HREC : Hid (∀ g5 c5 W, Eds W b o m es → Ints W bp op L.length (fun j => ((L.getD j 0 : Nat) : Int)) → Ints W g5 0 m (upF f e x) → Calls Tryz.prog 63 #[.agg #[.int .i64 N, .slice (some ⟨b, o, none⟩) m c], .slice (some ⟨bp, op, none⟩) L.length cp, .slice (some ⟨g5, 0, none⟩) m c5, .int .i64 ((k + 1 : Nat) : Int)] W (Ret (.int .i64 (R : Int)) W)) := fun g5 c5 W hE hP hC5 => by
                  have := IH.out (k + 1) g5 0 c5 (upF f e x) W (by omega) (by omega) hE hP hC5
                  rw [← HLR.out, ← hR] at this
                  exact this
                clear hR
                refine hbranch _ (fun h0 hqx => ?_) (fun h0 => ?_)
                all_goals
                  clear hbranch
                  go_wp2_with fail
                  refine (HFIT.out _ (Below.refl _ _)).mono ?_
                  rintro ee w5 ⟨rfl, hb6⟩
                  have hb7 := hb4.andB hb6
                  have E5 := E4.below hb6
                  have P5 := P4.below hb6
                  have C5 := C4.below hb6
                  have p5 := (hb6.cell (p := ⟨w.heap.size, 0, none⟩) s4).trans p4
                  have q5 := (hb6.cell (p := ⟨w.heap.size, 1, none⟩) s4).trans q4
                  have s5 := Nat.lt_of_lt_of_le s4 hb6.size
                  clear p4 q4 s4
                  go_wp2_with fail
                  refine (l01Own_any (some ⟨bc, oc, none⟩) m cc (lsN m f) w5 C5.src (lsN_len m f) hm).mono ?_
                  rintro ee w6 ⟨A6, c6, rfl, O6, hb8⟩
                  rw [lsN_len] at O6 ⊢
                  obtain ⟨g6, o6, rfl, I6⟩ := O6.src (by omega)
                  have hge := O6.blk g6 rfl
                  obtain rfl : o6 = 0 := by
                    rcases O6.2.2 with ⟨e1, _⟩ | ⟨g, cap, cur, e1, _⟩
                    · injection e1 with e1; cases e1
                    · injection e1 with e1; injection e1 with e1; injection e1
                  obtain ⟨fz6, J6⟩ := O6.setI hem (x : Int)
                  have ce6 := I6.c e hem
                  rw [Nat.zero_add] at ce6
                  have z6 := I6.blk
                  have E6 := E5.below hb8
                  have P6 := P5.below hb8
                  have p6 := (hb8.cell (p := ⟨w.heap.size, 0, none⟩) s5).trans p5
                  have q6 := (hb8.cell (p := ⟨w.heap.size, 1, none⟩) s5).trans q5
                  have s6 := Nat.lt_of_lt_of_le s5 hb8.size
                  have hset : Below w5.heap.size w5 (w6.setCell ⟨g6, e, none⟩ (.int .i64 (x : Int))) := hb8.setCell (p := ⟨g6, e, none⟩) hge.1 _
                  have E7 := E5.below hset
                  have P7 := P5.below hset
                  have hb9 := hb7.andB hset
                  have p7 := (hset.cell (p := ⟨w.heap.size, 0, none⟩) s5).trans p5
                  have q7 := (hset.cell (p := ⟨w.heap.size, 1, none⟩) s5).trans q5
                  have s7 := Nat.lt_of_lt_of_le s5 hset.size
                  clear O6 I6 E6 P6 p5 q5 s5 hb8
                  go_wp2_with fail
                  refine (HREC.out g6 _ _ E7 P7 J6).mono ?_
                  rintro ee w7 ⟨rfl, hb10⟩
                  have hb11 := hb9.andB hb10
                  go_wp2_with fail
                  go_roundw
                  case rel => first | exact ⟨x + 1, by omega, by go_num, by rw [HE.out]; simp, hb11⟩ | ((repeat apply Exists.intro); exact ⟨⟨x + 1, by omega, by go_num, by rw [HE.out]; simp, hb11⟩, rfl⟩)
                  case measure => simp [intOf]; omega
          · obtain rfl : x = 3 := by omega
            have hbF := hb5
            go_wp2_with fail
            go_ret
            exact ⟨by rw [HST.out, HC.out]; rfl, hbF⟩
end Go.Proofs.YtajnhkkiddeegaaGreat
namespace Go.Proofs.YtajnhkkiddeegaaGreat
open Go.RowKit Go.Sort
def eT : Nat → Bool := fun _ => true
def ptE (es : List (Int × Int)) (M e : Nat) : ES := eFin es (vE es) eT ⟨M ||| 2 ^ e, [(e : Int)]⟩
def ownT (q : List Int) : Nat → List Int
  | 0 => []
  | f + 1 => ownT q f ++ (if (f : Int) ∈ q then [(f : Int)] else [])
def ptS (es : List (Int × Int)) : Nat → Nat × List (List Int)
  | 0 => (0, [])
  | e + 1 => if hasB (ptS es e).1 e then ptS es e else ((ptE es (ptS es e).1 e).o, (ptS es e).2 ++ [ownT (ptE es (ptS es e).1 e).q es.length])
theorem ownT_len (q : List Int) (f : Nat) : (ownT q f).length ≤ f := by
  induction f with
  | zero => simp [ownT]
  | succ f ih => simp only [ownT, List.length_append]; split <;> simp <;> omega
def ownI (q : List Int) (f i : Nat) : List Int := ownT q f ++ (if (f : Int) ∈ q.take i then [(f : Int)] else [])
theorem ownI_0 (q : List Int) (f : Nat) : ownI q f 0 = ownT q f := by simp [ownI]
theorem ownI_end (q : List Int) (f : Nat) : ownI q f q.length = ownT q (f + 1) := by simp [ownI, ownT]
theorem take_iaP {q : List Int} {i : Nat} (h : i < q.length) : q.take (i + 1) = q.take i ++ [ia q i] := by
  rw [List.take_succ_eq_append_getElem h]; simp [ia, h]
theorem ownI_no {q : List Int} {f i : Nat} (h : i < q.length) (hne : ia q i ≠ f) : ownI q f (i + 1) = ownI q f i := by
  unfold ownI
  rw [take_iaP h]
  have : ((f : Int) ∈ q.take i ++ [ia q i]) ↔ (f : Int) ∈ q.take i := by simp; exact fun e => absurd e.symm hne
  simp only [this]
theorem ownI_yes {q : List Int} {f i : Nat} (hn : q.Nodup) (h : i < q.length) (he : ia q i = f) : ownI q f (i + 1) = ownI q f i ++ [(f : Int)] ∧ (ownI q f i) = ownT q f := by
  have hno : (f : Int) ∉ q.take i := fun hm => by
    obtain ⟨j, hj, e⟩ := List.mem_iff_getElem.1 hm
    simp at hj e
    have hp := List.pairwise_iff_getElem.1 hn j i (by omega) h (by omega)
    rw [e] at hp
    apply hp
    have : ia q i = q[i] := by simp [ia, h]
    rw [← this, he]
  unfold ownI
  rw [take_iaP h, if_neg hno, if_pos (by rw [he]; simp)]
  simp
theorem OwnLL.setLow {base top : Nat} {w : World} {A : Option Addr} {m c : Nat} {rows : List (List Int)} (h : OwnLL base top w A m c rows) {a : Addr} (ha : a.block < base) (v : Value) : OwnLL base top (w.setCell a v) A m c rows := by
  have hb := h.blk
  obtain ⟨hl, ht, hA, As, cs, ho, hro, hp⟩ := h
  have hg : w.grownBy (w.setCell a v) (some a.block) := ⟨rfl, rfl, rfl, by simp, fun k _ hk => Below.heap_setCell _ _ _ _ (fun e => hk (by rw [e]))⟩
  refine ⟨hl, by simpa using ht, hA, As, cs, ?_, fun j hj => ⟨(hro j hj).1.setOther (a := a) ?_ v, (hro j hj).2⟩, hp⟩
  · refine ho.kept hg ?_
    cases A with
    | none => exact .inl rfl
    | some x => exact .inr (fun e => by have := hb x.block rfl; simp only [Value.ownBlock, Option.some.injEq] at e; omega)
  · intro e
    have := (hro j hj).1.blk a.block e.symm
    omega
set_option maxRecDepth 100000 in
set_option maxHeartbeats 4000000 in
theorem l02Parts_any (N b o m c : Nat) (es : List (Int × Int)) (w : World) (h : Eds w b o m es) (hm : m ≤ 1048576) (hG : IsG N es) :
    Calls Tryz.prog 62 #[.agg #[.int .i64 N, .slice (some ⟨b, o, none⟩) m c]] w (RetLL (ptS es m).2 w) := by
  have KC := cell_rg
  have hl := Lib.hid h.len
  have HG := Lib.hid hG
  have hm30 : m ≤ 30 := by have := hl.out; have := hG.wf.2.2.2.1; have := hG.wf.2.1; omega
  have hn2 := hG.wf.1
  obtain ⟨T, hT⟩ : ∃ T, T = eT := ⟨_, rfl⟩
  have HTT : Hid (∀ f, T f = true) := by rw [hT]; exact fun f => rfl
  have HPE : Hid (∀ M e, ptE es M e = eFin es (vE es) T ⟨M ||| 2 ^ e, [(e : Int)]⟩) := by rw [hT]; exact fun M e => rfl
  have hbb := (by go_grown : Below w.heap.size w (w.alloc (.cells #[.int .i64 N, .slice (some ⟨b, o, none⟩) m c] 26)))
  have hbx := Box2.made w (.int .i64 N) (.slice (some ⟨b, o, none⟩) m c) 26
  obtain ⟨w1, hw1⟩ : ∃ w1, w1 = w.alloc (Obj.cells #[Value.int IntKind.i64 N, Value.slice (some ⟨b, o, none⟩) m c] 26) := ⟨_, rfl⟩
  have hs1 : w1.heap.size = w.heap.size + 1 := by rw [hw1]; simp [go_sem]
  rw [← hw1] at hbb hbx
  obtain ⟨s1, p1, q1⟩ := hbx
  have hmk := run_make_row' (P := Tryz.prog) 113 4 (.bool false) 1 Tryz.underlying113 infB rfl .i64 .i64 m (by omega) (by omega)
  obtain ⟨wa, hwa⟩ : ∃ wa, wa = w1.alloc (.cells (madeCells #[.bool false] m) 4) := ⟨_, rfl⟩
  have sa : wa.heap.size = w.heap.size + 1 + 1 := by rw [hwa]; simp [go_sem]; omega
  obtain ⟨w2, hw2⟩ : ∃ w2, w2 = wa.alloc (.cells #[] 34) := ⟨_, rfl⟩
  have s2' : w2.heap.size = w.heap.size + 1 + 1 + 1 := by rw [hw2]; simp [go_sem]; omega
  have R1 : Hid (w2.rowIs (w.heap.size + 1) 4 m (fun f => .bool (hasB 0 f))) := by
    have hsz : (madeCells #[Value.bool false] m).size = m := by simp [madeCells]
    have := World.rowIs_alloc w1 (madeCells #[.bool false] m) 4 (fun f => .bool (hasB 0 f)) (fun f hf => by
      rw [hsz] at hf
      have hb : hasB 0 (f : Int) = false := by unfold hasB; simp
      rw [hb]
      simp [madeCells, hf, Nat.mod_one])
    rw [hsz, hs1] at this
    rw [hw2, hwa]; exact this.alloc _
  have O1 : OwnLL (w.heap.size + 1 + 1) w2.heap.size w2 (some ⟨w.heap.size + 1 + 1, 0, none⟩) 0 0 [] := by
    have := OwnLL.empty (base := w.heap.size + 1 + 1) wa (by omega)
    rw [sa] at this
    rw [hw2]
    rw [← hw2, s2']
    exact hw2 ▸ this
  have hb2 : Below w1.heap.size w1 w2 := by rw [hw2, hwa]; exact ((Below.refl _ _).alloc (Nat.le_refl _) _).alloc (by simp [go_sem]) _
  have HW1 := Lib.hid hw1
  clear hT hw1
  go_enter Tryz.func62, Tryz.ntmps62
  go_wp2_with fail
  rw [← HW1.out]
  go_wp2_with fail
  rw [← hwa, ← hw2]
  have E1 := h.below hbb
  obtain ⟨gl, hgl⟩ : ∃ gl, gl = w.heap.size + 1 := ⟨_, rfl⟩
  rw [← hgl] at R1 O1
  have hglB : w1.heap.size ≤ gl := by omega
  have hglw : w.heap.size ≤ gl := by omega
  have hz2 : gl + 1 ≤ w2.heap.size := by omega
  rw [← hgl]
  clear hwa hw2 hmk sa s2' hgl hs1
  go_loopw [4, 5] (fun ov ev wr => ∃ (e M : Nat) (rows : List (List Int)) (A : Option Addr) (c' : Nat), e ≤ m ∧ ev = .int .i64 e ∧ ov = .slice A rows.length c' ∧ Hid (ptS es e = (M, rows)) ∧ rows.length ≤ e ∧ (∃ top, OwnLL (gl + 1) top wr A rows.length c' rows) ∧ wr.rowIs gl 4 m (fun f => .bool (hasB M f)) ∧ Below w1.heap.size w1 wr ∧ gl + 1 ≤ wr.heap.size) (fun _ e _ => m - (intOf e).toNat)
  case atStart => exact ⟨0, 0, [], _, _, Nat.zero_le _, rfl, rfl, rfl, Nat.le_refl _, ⟨_, O1⟩, R1.out, hb2, hz2⟩
  case round =>
    clear O1 R1 hb2 hz2
    obtain ⟨e, M, rows, A, c', hem, rfl, rfl, HS, hrl, ⟨top, OLL⟩, R, hbr, hzr⟩ := hrel
    have p3 := (hbr.cell (p := ⟨w.heap.size, 0, none⟩) s1).trans p1
    have q3 := (hbr.cell (p := ⟨w.heap.size, 1, none⟩) s1).trans q1
    have s3 := Nat.lt_of_lt_of_le s1 hbr.size
    obtain ⟨wx, rfl⟩ : ∃ wx, wx = wr := ⟨wr, rfl⟩
    by_cases hlt : e < m
    rotate_left
    · obtain rfl : e = m := by omega
      have hbF := hbb.andB hbr
      have htop := OLL.2.1
      have HF : Hid (RetLL (ptS es e).2 w (.returned (.slice A rows.length c')) wx) := by
        rw [HS.out]; exact ⟨A, c', rfl, (OLL.mono (by omega : w.heap.size ≤ gl + 1)).raise htop (Nat.le_refl _), hbF⟩
      go_wp2_with fail
      go_ret
      exact HF.out
    have r3 := R.cell hlt
    have zR := R.lt
    have HST : Hid (ptS es (e + 1) = if hasB (ptS es e).1 e then ptS es e else ((ptE es (ptS es e).1 e).o, (ptS es e).2 ++ [ownT (ptE es (ptS es e).1 e).q es.length])) := rfl
    cases hh : hasB M e with
    | true =>
      have HE : Hid (ptS es (e + 1) = (M, rows)) := by show _ = _; rw [HST.out, HS.out]; simp only [hh, if_true]
      rw [hh] at r3
      clear hh
      go_wp2_with fail
      go_roundw
      case rel => exact ⟨e + 1, M, rows, A, c', by omega, by go_num, rfl, HE, by omega, ⟨top, OLL⟩, R, hbr, hzr⟩
      case measure => simp [intOf]; omega
    | false =>
    obtain ⟨st0, hst0⟩ : ∃ st0 : ES, st0 = ⟨M ||| 2 ^ e, [(e : Int)]⟩ := ⟨_, rfl⟩
    have hel : e < es.length := by rw [hl.out]; exact hlt
    have HEI := Lib.hid (EInv.one (m := es.length) (o := M ||| 2 ^ e) hel (by rw [hasB_or]; simp))
    obtain ⟨S9, hS9⟩ : ∃ S9, S9 = eFin es (vE es) T st0 := ⟨_, rfl⟩
    have HSS : Hid (ptS es (e + 1) = (S9.o, rows ++ [ownT S9.q m])) := by
      show _ = _; rw [HST.out, HS.out, hS9, hst0, ← HPE.out, hl.out]; simp only [hh]; rfl
    have HBI := Lib.hid (fun i => (hst0 ▸ HEI.out : EInv es.length st0).bfs (vE := vE es) (T := T) i)
    have HAT := Lib.hid (fun i (h1 : ¬ i < (eBfs es (vE es) T st0 i).q.length) (h3 : i ≤ (eBfs es (vE es) T st0 i).q.length) => eFin_at (hst0 ▸ HEI.out : EInv es.length st0) h1 h3)
    rw [← hS9] at HAT
    have H00 : Hid (eBfs es (vE es) T st0 0 = ⟨M ||| 2 ^ e, [(e : Int)]⟩) := by rw [hst0]; rfl
    rw [hh] at r3
    obtain ⟨S0, hS0⟩ : ∃ S0, S0 = wx.heap.size := ⟨_, rfl⟩
    have hbE : Hid (∀ x : Nat, hasB (M ||| 2 ^ e) x = if x = e then true else hasB M x) := fun x => hasB_or M e x
    have fR := R.frozen e
    obtain ⟨wb, hwb⟩ : ∃ wb, wb = wx.setCell ⟨gl, e, none⟩ (.bool true) := ⟨_, rfl⟩
    have RB : wb.rowIs gl 4 m (fun f => .bool (hasB (M ||| 2 ^ e) f)) := by
      rw [hwb]; exact (R.set e (.bool true)).congr (g := fun x => .bool (hasB (M ||| 2 ^ e) x)) (fun x _ => by rw [hbE.out]; by_cases hx : x = e <;> simp [hx])
    have OLB : OwnLL (gl + 1) top wb A rows.length c' rows := by rw [hwb]; exact OLL.setLow (a := ⟨gl, e, none⟩) (by simp) _
    have hbB : Below w1.heap.size w1 wb := by rw [hwb]; exact hbr.setCell (p := ⟨gl, e, none⟩) hglB _
    have hzB : wb.heap.size = S0 := by rw [hwb, hS0]; simp
    obtain ⟨wc, hwc⟩ : ∃ wc, wc = wb.alloc (.cells #[.int .i64 e] 2) := ⟨_, rfl⟩
    have hbb0 : Below wb.heap.size wb wc := by rw [hwc]; exact (Below.refl _ _).alloc (Nat.le_refl _) _
    have OC : OwnL S0 wc (some ⟨S0, 0, none⟩) 1 1 [(e : Int)] := by rw [hwc, ← hzB]; exact OwnL.one' wb e
    have RC := RB.of_block (hbb0.block _ RB.lt)
    have OLC := OLB.below hbb0
    have hbC := hbB.andB hbb0
    have hzC : S0 + 1 ≤ wc.heap.size := by rw [hwc]; simp; omega
    have htop : top ≤ S0 := by rw [hS0]; exact OLL.2.1
    have hS0g : gl + 1 ≤ S0 := by rw [hS0]; exact hzr
    clear hh hst0 hS9 HEI HST RB OLB hbB hbr hzr OLL R hbE hzB
    go_wp2_with fail
    rw [← hwb, ← hS0, ← hwc]
    clear hwc hwb hbb0 r3 fR zR p3 q3 s3 hS0
    go_loopw [6, 7] (fun lv iv wr => ∃ (i O : Nat) (q : List Int) (A6 : Option Addr) (c6 : Nat), iv = .int .i64 i ∧ i ≤ q.length ∧ i ≤ m ∧ lv = .slice A6 q.length c6 ∧ Hid (eBfs es (vE es) T st0 i = ⟨O, q⟩) ∧ OwnL S0 wr A6 q.length c6 q ∧ wr.rowIs gl 4 m (fun f => .bool (hasB O f)) ∧ OwnLL (gl + 1) top wr A rows.length c' rows ∧ Below w1.heap.size w1 wr ∧ S0 + 1 ≤ wr.heap.size) (fun _ i _ => m + 1 - (intOf i).toNat)
    case atStart => exact ⟨0, M ||| 2 ^ e, [(e : Int)], _, _, rfl, Nat.zero_le _, Nat.zero_le _, rfl, H00, OC, RC, OLC, hbC, hzC⟩
    case round =>
      clear OC RC OLC hbC hzC
      obtain ⟨i, O, q, A6, c6, rfl, hiq, him, rfl, HS6, OQ, R, OLL, hbr, hzr⟩ := hrel
      have HQ : EInv es.length ⟨O, q⟩ := HS6.out ▸ HBI.out i
      have hq20 : q.length ≤ m := by have := HQ.len; rw [hl.out] at this; exact this
      by_cases hlt2 : i < q.length
      · have hur := HQ.rng _ (iaMem (xs := q) (i := i) hlt2)
        obtain ⟨u, hu⟩ : ∃ u : Nat, ia q i = u := ⟨(ia q i).toNat, by omega⟩
        have hum : u < m := by have := hl.out; omega
        have HNX : Hid (eBfs es (vE es) T st0 (i + 1) = eEnd es (vE es) T u ⟨O, q⟩ 2) := by
          show _ = _
          rw [eBfs_succ (by rw [HS6.out]; exact hlt2), HS6.out]
          show eEnd es (vE es) T (ia q i).toNat ⟨O, q⟩ 2 = _
          rw [hu, Int.toNat_natCast]
        have HEI2 := Lib.hid (fun k => HQ.ends (vE := vE es) (T := T) (u := u) k)
        have HUQ := Lib.hid hu
        clear HQ hur hu
        go_wp2_with fail
        go_loopw [6, 8] (fun lv kv wv => ∃ (k O2 : Nat) (q2 : List Int) (A2 : Option Addr) (c3 : Nat), k ≤ 2 ∧ kv = .int .i64 k ∧ lv = .slice A2 q2.length c3 ∧ Hid (eEnd es (vE es) T u ⟨O, q⟩ k = ⟨O2, q2⟩) ∧ OwnL S0 wv A2 q2.length c3 q2 ∧ wv.rowIs gl 4 m (fun f => .bool (hasB O2 f)) ∧ OwnLL (gl + 1) top wv A rows.length c' rows ∧ Below w1.heap.size w1 wv ∧ S0 + 1 ≤ wv.heap.size) (fun _ k _ => 2 - (intOf k).toNat)
        case atStart => exact ⟨0, O, q, _, _, by omega, rfl, rfl, rfl, OQ, R, OLL, hbr, hzr⟩
        case round =>
          clear OQ R OLL hbr hzr
          obtain ⟨k, O2, q2, A2, cq, hk, rfl, rfl, HV, OQ, R, OLL, hb, hzr⟩ := hrel
          obtain ⟨ys, hys⟩ := eEnd_q (es := es) (vE := vE es) (T := T) (u := u) (s := ⟨O, q⟩) k
          rw [HV.out] at hys
          have hq2e : q2 = q ++ ys := hys
          have hq2l : i < q2.length := by rw [hq2e]; simp; omega
          have hu2 : ia q2 i = u := by rw [hq2e, ia_app hlt2]; exact HUQ.out
          have HI2 : EInv es.length ⟨O2, q2⟩ := HV.out ▸ HEI2.out k
          have hq2m : q2.length ≤ m := by have := HI2.len; rw [hl.out] at this; exact this
          have hszb := hb.size
          clear hys hq2e
          by_cases hk2 : k < 2
          · obtain ⟨L, hL⟩ : ∃ L, L = atL es (vE es (2 * u + k)) := ⟨_, rfl⟩
            have hv := vE_in HG.out.wf (2 * u + k) (by rw [hl.out]; omega)
            have hL3 : L.length = 3 := by rw [hL]; exact atL_3 HG.out hv.1 hv.2
            have HSTEP : Hid (eEnd es (vE es) T u ⟨O, q⟩ (k + 1) = eVis T L ⟨O2, q2⟩ 3) := by
              show _ = _; rw [← hL3, hL]; show eVis T _ (eEnd es (vE es) T u ⟨O, q⟩ k) _ = _; rw [HV.out]
            have HLk : Hid (∀ k, k < 3 → ∃ f : Nat, f < m ∧ ia L k = f) := fun k hk => by
              rw [← hL3, hL] at hk; rw [hL]; obtain ⟨f, hf, e, _⟩ := atL_at hk; exact ⟨f, by rw [hl.out] at hf; exact hf, e⟩
            have HIV : Hid (∀ j, j ≤ 3 → EInv es.length (eVis T L ⟨O2, q2⟩ j)) := fun j hj => by rw [← hL3, hL] at hj; rw [hL]; exact HI2.vis j hj
            obtain ⟨w5, rfl⟩ : ∃ w5, w5 = wr := ⟨wr, rfl⟩
            have E5 := E1.below hb
            have HRL : Hid (∀ W, Below w5.heap.size w5 W → Calls Tryz.prog 112 #[.agg #[.int .i64 N, .slice (some ⟨b, o, none⟩) m c], .int .i64 (vE es (2 * u + k))] W (RetL L W)) := fun W hW => by rw [hL]; exact l01At_any N b o m c es _ W (E5.below hW) hm
            have s5 := Nat.lt_of_lt_of_le s1 hb.size
            have p5 := (hb.cell (p := ⟨w.heap.size, 0, none⟩) s1).trans p1
            have q5 := (hb.cell (p := ⟨w.heap.size, 1, none⟩) s1).trans q1
            obtain ⟨gq, oq, rfl, IQ⟩ := OQ.src (by omega)
            have cq1 := IQ.c i hq2l
            rw [hu2] at cq1
            have zq := IQ.blk
            have HL3 := Lib.hid hL3
            clear hL hL3 hv HI2 IQ hu2
            go_wp2_with fail
            refine wp_region_then 11 (fun i9 v W => match i9 with
              | 0 => v = .agg #[.int .i64 N, .slice (some ⟨b, o, none⟩) m c]
              | 1 => v = .pointer (some ⟨w.heap.size, 1, none⟩)
              | 2 => v = .slice (some ⟨b, o, none⟩) m c
              | 3 => v = .slice (some ⟨gq, oq, none⟩) q2.length cq
              | 4 => v = .int .i64 i
              | 5 => v = .pointer (some ⟨gq, oq + i, none⟩)
              | 6 => v = .int .i64 u
              | 7 => v = .int .i64 k
              | 8 => v = .pointer (some ⟨b, o + u * 2, none⟩)
              | 9 => v = .pointer (some ⟨b, o + u * 2 + k, none⟩)
              | _ => v = .int .i64 (vE es (2 * u + k)))
              (fun i => match i with
              | _ => none)
              (fun k W W' => Below W.heap.size W W')  (fun W => Below w5.heap.size w5 W) (by kernel_rfl) (by kernel_rfl) ?_ ?_ ?_ ?_ ?_
            · exact (Below.refl _ _).drew
            · intro i k v W W' hne hd hC hf hE
              match i, hf with
              | 0, hf => exact hf
              | 1, hf => exact hf
              | 2, hf => exact hf
              | 3, hf => exact hf
              | 4, hf => exact hf
              | 5, hf => exact hf
              | 6, hf => exact hf
              | 7, hf => exact hf
              | 8, hf => exact hf
              | 9, hf => exact hf
              | _ + 10, hf => exact hf
            · intro k W W' hC hE
              exact Below.andB hC hE
            · simp only [List.take_succ_cons, List.take_zero]
              refine ⟨?_, ?_, ?_, ?_, ?_, ?_, ?_, ?_, ?_, ?_, ?_, trivial⟩
              · intro a W hC hs hd
                have hW : Below w5.heap.size w5 W := hC
                have e1 : a.tmps[1]?.getD undef = .pointer (some ⟨w.heap.size, 0, none⟩) := hs 1 (by kernel_rfl)
                refine growsG_none (E := fun W W' => Below W.heap.size W W') rfl ?_
                have k0 := (hW.cell (p := ⟨w.heap.size, 0, none⟩) (s5)).trans (p5)
                have k1 := (hW.cell (p := ⟨w.heap.size, 1, none⟩) (s5)).trans (q5)
                have k2 := (hW.cell (p := ⟨gq, oq + i, none⟩) (zq)).trans (cq1)
                clear hs hd
                unfold GrowsE
                go_simp
                exact Below.refl _ _
              · intro a W hC hs hd
                have hW : Below w5.heap.size w5 W := hC
                have e1 : a.tmps[1]?.getD undef = .pointer (some ⟨w.heap.size, 0, none⟩) := hs 1 (by kernel_rfl)
                refine growsG_none (E := fun W W' => Below W.heap.size W W') rfl ?_
                have k0 := (hW.cell (p := ⟨w.heap.size, 0, none⟩) (s5)).trans (p5)
                have k1 := (hW.cell (p := ⟨w.heap.size, 1, none⟩) (s5)).trans (q5)
                have k2 := (hW.cell (p := ⟨gq, oq + i, none⟩) (zq)).trans (cq1)
                clear hs hd
                unfold GrowsE
                go_simp
                exact Below.refl _ _
              · intro a W hC hs hd
                have hW : Below w5.heap.size w5 W := hC
                have e46 : (a.tmps[46]?.getD undef) = .pointer (some ⟨w.heap.size, 1, none⟩) := hd 1 46 (by kernel_rfl) (by kernel_rfl) (by kernel_rfl)
                refine growsG_none (E := fun W W' => Below W.heap.size W W') rfl ?_
                have k0 := (hW.cell (p := ⟨w.heap.size, 0, none⟩) (s5)).trans (p5)
                have k1 := (hW.cell (p := ⟨w.heap.size, 1, none⟩) (s5)).trans (q5)
                have k2 := (hW.cell (p := ⟨gq, oq + i, none⟩) (zq)).trans (cq1)
                clear hs hd
                unfold GrowsE
                go_simp
                exact Below.refl _ _
              · intro a W hC hs hd
                have hW : Below w5.heap.size w5 W := hC
                have e6 : a.tmps[6]?.getD undef = .slice (some ⟨gq, oq, none⟩) q2.length cq := hs 6 (by kernel_rfl)
                refine growsG_none (E := fun W W' => Below W.heap.size W W') rfl ?_
                clear hs hd
                unfold GrowsE
                go_simp
                exact Below.refl _ _
              · intro a W hC hs hd
                have hW : Below w5.heap.size w5 W := hC
                have e7 : a.tmps[7]?.getD undef = .int .i64 i := hs 7 (by kernel_rfl)
                refine growsG_none (E := fun W W' => Below W.heap.size W W') rfl ?_
                clear hs hd
                unfold GrowsE
                go_simp
                exact Below.refl _ _
              · intro a W hC hs hd
                have hW : Below w5.heap.size w5 W := hC
                have e48 : (a.tmps[48]?.getD undef) = .slice (some ⟨gq, oq, none⟩) q2.length cq := hd 3 48 (by kernel_rfl) (by kernel_rfl) (by kernel_rfl)
                have e49 : (a.tmps[49]?.getD undef) = .int .i64 i := hd 4 49 (by kernel_rfl) (by kernel_rfl) (by kernel_rfl)
                refine growsG_none (E := fun W W' => Below W.heap.size W W') rfl ?_
                have k0 := (hW.cell (p := ⟨w.heap.size, 0, none⟩) (s5)).trans (p5)
                have k1 := (hW.cell (p := ⟨w.heap.size, 1, none⟩) (s5)).trans (q5)
                have k2 := (hW.cell (p := ⟨gq, oq + i, none⟩) (zq)).trans (cq1)
                clear hs hd
                unfold GrowsE
                go_simp
                exact Below.refl _ _
              · intro a W hC hs hd
                have hW : Below w5.heap.size w5 W := hC
                have e50 : (a.tmps[50]?.getD undef) = .pointer (some ⟨gq, oq + i, none⟩) := hd 5 50 (by kernel_rfl) (by kernel_rfl) (by kernel_rfl)
                refine growsG_none (E := fun W W' => Below W.heap.size W W') rfl ?_
                have k0 := (hW.cell (p := ⟨w.heap.size, 0, none⟩) (s5)).trans (p5)
                have k1 := (hW.cell (p := ⟨w.heap.size, 1, none⟩) (s5)).trans (q5)
                have k2 := (hW.cell (p := ⟨gq, oq + i, none⟩) (zq)).trans (cq1)
                clear hs hd
                unfold GrowsE
                go_simp
                exact Below.refl _ _
              · intro a W hC hs hd
                have hW : Below w5.heap.size w5 W := hC
                have e8 : a.tmps[8]?.getD undef = .int .i64 k := hs 8 (by kernel_rfl)
                refine growsG_none (E := fun W W' => Below W.heap.size W W') rfl ?_
                clear hs hd
                unfold GrowsE
                go_simp
                exact Below.refl _ _
              · intro a W hC hs hd
                have hW : Below w5.heap.size w5 W := hC
                have e47 : (a.tmps[47]?.getD undef) = .slice (some ⟨b, o, none⟩) m c := hd 2 47 (by kernel_rfl) (by kernel_rfl) (by kernel_rfl)
                have e51 : (a.tmps[51]?.getD undef) = .int .i64 u := hd 6 51 (by kernel_rfl) (by kernel_rfl) (by kernel_rfl)
                refine growsG_none (E := fun W W' => Below W.heap.size W W') rfl ?_
                have k0 := (hW.cell (p := ⟨w.heap.size, 0, none⟩) (s5)).trans (p5)
                have k1 := (hW.cell (p := ⟨w.heap.size, 1, none⟩) (s5)).trans (q5)
                have k2 := (hW.cell (p := ⟨gq, oq + i, none⟩) (zq)).trans (cq1)
                clear hs hd
                unfold GrowsE
                go_simp
                exact Below.refl _ _
              · intro a W hC hs hd
                have hW : Below w5.heap.size w5 W := hC
                have e53 : (a.tmps[53]?.getD undef) = .pointer (some ⟨b, o + u * 2, none⟩) := hd 8 53 (by kernel_rfl) (by kernel_rfl) (by kernel_rfl)
                have e52 : (a.tmps[52]?.getD undef) = .int .i64 k := hd 7 52 (by kernel_rfl) (by kernel_rfl) (by kernel_rfl)
                refine growsG_none (E := fun W W' => Below W.heap.size W W') rfl ?_
                have k0 := (hW.cell (p := ⟨w.heap.size, 0, none⟩) (s5)).trans (p5)
                have k1 := (hW.cell (p := ⟨w.heap.size, 1, none⟩) (s5)).trans (q5)
                have k2 := (hW.cell (p := ⟨gq, oq + i, none⟩) (zq)).trans (cq1)
                clear hs hd
                unfold GrowsE
                go_simp
                exact Below.refl _ _
              · intro a W hC hs hd
                have hW : Below w5.heap.size w5 W := hC
                have e54 : (a.tmps[54]?.getD undef) = .pointer (some ⟨b, o + u * 2 + k, none⟩) := hd 9 54 (by kernel_rfl) (by kernel_rfl) (by kernel_rfl)
                refine growsG_none (E := fun W W' => Below W.heap.size W W') rfl ?_
                have k0 := (hW.cell (p := ⟨w.heap.size, 0, none⟩) (s5)).trans (p5)
                have k1 := (hW.cell (p := ⟨w.heap.size, 1, none⟩) (s5)).trans (q5)
                have k2 := (hW.cell (p := ⟨gq, oq + i, none⟩) (zq)).trans (cq1)
                have d1 := vE_cell (E5.below hW) hum hk2
                clear hs hd
                unfold GrowsE
                go_simp
                exact Below.refl _ _
            intro vs W hW hf
            have f45 : (vs 45) = .agg #[.int .i64 N, .slice (some ⟨b, o, none⟩) m c] := hf 0 45 (by decide) (by kernel_rfl) (fun _ hk => by cases hk)
            have f46 : (vs 46) = .pointer (some ⟨w.heap.size, 1, none⟩) := hf 1 46 (by decide) (by kernel_rfl) (fun _ hk => by cases hk)
            have f47 : (vs 47) = .slice (some ⟨b, o, none⟩) m c := hf 2 47 (by decide) (by kernel_rfl) (fun _ hk => by cases hk)
            have f48 : (vs 48) = .slice (some ⟨gq, oq, none⟩) q2.length cq := hf 3 48 (by decide) (by kernel_rfl) (fun _ hk => by cases hk)
            have f49 : (vs 49) = .int .i64 i := hf 4 49 (by decide) (by kernel_rfl) (fun _ hk => by cases hk)
            have f50 : (vs 50) = .pointer (some ⟨gq, oq + i, none⟩) := hf 5 50 (by decide) (by kernel_rfl) (fun _ hk => by cases hk)
            have f51 : (vs 51) = .int .i64 u := hf 6 51 (by decide) (by kernel_rfl) (fun _ hk => by cases hk)
            have f52 : (vs 52) = .int .i64 k := hf 7 52 (by decide) (by kernel_rfl) (fun _ hk => by cases hk)
            have f53 : (vs 53) = .pointer (some ⟨b, o + u * 2, none⟩) := hf 8 53 (by decide) (by kernel_rfl) (fun _ hk => by cases hk)
            have f54 : (vs 54) = .pointer (some ⟨b, o + u * 2 + k, none⟩) := hf 9 54 (by decide) (by kernel_rfl) (fun _ hk => by cases hk)
            have f55 : (vs 55) = .int .i64 (vE es (2 * u + k)) := hf 10 55 (by decide) (by kernel_rfl) (fun _ hk => by cases hk)
            simp only [dsts, List.take_succ_cons, List.take_zero, List.drop_succ_cons, List.drop_zero, List.filterMap_cons, List.filterMap_nil, List.foldl_cons, List.foldl_nil, Act.put, List.setIfInBounds_toArray, List.set_cons_succ, List.set_cons_zero, f45, f46, f47, f48, f49, f50, f51, f52, f53, f54, f55]
            clear hf
            have hW : Below w5.heap.size w5 W := hW
            have HRW := Lib.hid (HRL.out W hW)
            have OQ := OQ.below hW
            have R := R.of_block (hW.block _ R.lt)
            have OLL := OLL.below hW
            have hb6 := hb.andB hW
            have hz6 : S0 + 1 ≤ W.heap.size := Nat.le_trans hzr hW.size
            have hzW := hW.size
            clear p5 q5 s5 cq1 zq E5 HRL hb hzr hW
            go_wp2_with fail
            refine HRW.out.mono ?_
            rintro ee w6 ⟨A13, c13, rfl, O13, hb7⟩
            rw [HL3.out] at O13 ⊢
            have NE : blkOf A13 = none ∨ blkOf A13 ≠ blkOf (some (⟨gq, oq, none⟩ : Addr)) := blk_apart' (s := W.heap.size) (fun g hg => (O13.blk g hg).1) (fun g hg => (OQ.blk g hg).2)
            have OQ := OQ.below hb7
            have R := R.of_block (hb7.block _ R.lt)
            have OLL := OLL.below hb7
            have hb6 := hb6.andB hb7
            have hz6 : S0 + 1 ≤ w6.heap.size := Nat.le_trans hz6 hb7.size
            have O13 := O13.mono (by omega : S0 + 1 ≤ W.heap.size)
            clear hb7 hzW HRW
            go_wp2_with fail
            have c33 : ((3 : Nat) : Int) = 3 := rfl
            go_loopw [6, 10] (fun lv jv wv => ∃ (j O4 : Nat) (q4 : List Int) (A4 : Option Addr) (c5 : Nat), j ≤ 3 ∧ jv = .int .i64 j ∧ lv = .slice A4 q4.length c5 ∧ Hid (eVis T L ⟨O2, q2⟩ j = ⟨O4, q4⟩) ∧ OwnL S0 wv A4 q4.length c5 q4 ∧ wv.rowIs gl 4 m (fun f => .bool (hasB O4 f)) ∧ OwnLL (gl + 1) top wv A rows.length c' rows ∧ OwnL (S0 + 1) wv A13 3 c13 L ∧ (blkOf A13 = none ∨ blkOf A13 ≠ blkOf A4) ∧ Below w1.heap.size w1 wv ∧ S0 + 1 ≤ wv.heap.size) (fun _ j _ => 3 - (intOf j).toNat)
            case atStart => exact ⟨0, O2, q2, _, _, by omega, rfl, rfl, rfl, OQ, R, OLL, O13, NE, hb6, hz6⟩
            case round =>
              clear OQ R OLL O13 NE hb6 hz6
              obtain ⟨j, O4, q4, A4, c5, hj, rfl, rfl, HV4, OQ, R, OLL, O3, NE, hb8, hz8⟩ := hrel
              have HI4 : EInv es.length ⟨O4, q4⟩ := HV4.out ▸ HIV.out j hj
              have hq4m : q4.length ≤ m := by have := HI4.len; rw [hl.out] at this; exact this
              obtain ⟨w8, rfl⟩ : ∃ w8, w8 = wr := ⟨wr, rfl⟩
              by_cases hjl : j < 3
              · obtain ⟨f, hf, ef⟩ := HLk.out j hjl
                obtain ⟨g3, o3, rfl, I3⟩ := O3.src (by omega)
                have i1 := I3.c j hjl
                rw [ef] at i1
                have z3 := I3.blk
                have r3 := R.cell hf
                have f3 := R.frozen f
                have zR := R.lt
                have hgl5 : gl < S0 + 1 := by omega
                have HSTE : Hid (eVis T L ⟨O2, q2⟩ (j + 1) = eStep T ⟨O4, q4⟩ f) := by
                  show eStep T (eVis T L ⟨O2, q2⟩ j) _ = _; rw [HV4.out, ef, Int.toNat_natCast]
                have hg3b : g3 ≠ gl := fun e2 => by have := (O3.blk g3 rfl).1; omega
                clear HI4 ef
                cases hh : hasB O4 f with
                | true =>
                  have HE : Hid (eVis T L ⟨O2, q2⟩ (j + 1) = ⟨O4, q4⟩) := by show _ = _; rw [HSTE.out, eStep_no (fun hc => by rw [hh] at hc; cases hc.1)]
                  rw [hh] at r3
                  clear hh
                  go_wp2_with fail
                  go_roundw
                  case rel => exact ⟨j + 1, O4, q4, A4, c5, by omega, by go_num, rfl, HE, OQ, R, OLL, O3, NE, hb8, hz8⟩
                  case measure => simp [intOf]; omega
                | false =>
                  have HE : Hid (eVis T L ⟨O2, q2⟩ (j + 1) = ⟨O4 ||| 2 ^ f, q4 ++ [(f : Int)]⟩) := by show _ = _; rw [HSTE.out, eStep_yes hh (HTT.out f)]
                  rw [hh] at r3
                  have HB : Hid (∀ x : Nat, hasB (O4 ||| 2 ^ f) x = if x = f then true else hasB O4 x) := fun x => hasB_or O4 f x
                  have HQL : Hid ((q4 ++ [(f : Int)]).length = q4.length + 1) := by simp [Hid]
                  have R9 := Lib.hid ((R.set f (.bool true)).congr (g := fun x => .bool (hasB (O4 ||| 2 ^ f) x)) (fun x _ => by rw [HB.out]; by_cases hx : x = f <;> simp [hx]))
                  have OQ9 := OQ.setOther (a := ⟨gl, f, none⟩) (blk_ne (fun g hg => (OQ.blk g hg).1) (by simp; omega)) (.bool true)
                  have O39 := O3.setOther (a := ⟨gl, f, none⟩) (blk_ne (fun g hg => (O3.blk g hg).1) hgl5) (.bool true)
                  have OLL9 := OLL.setLow (a := ⟨gl, f, none⟩) (by simp) (.bool true)
                  have hb9' := hb8.setCell (p := ⟨gl, f, none⟩) hglB (.bool true)
                  have hszq : S0 ≤ (w8.setCell ⟨gl, f, none⟩ (.bool true)).heap.size := by simp; omega
                  have hw1z : w1.heap.size ≤ (w8.setCell ⟨gl, f, none⟩ (.bool true)).heap.size := by simp; exact hb8.size
                  clear hh OQ O3 OLL
                  go_wp2_with (first
                    | (at_builtin; refine wp_appL1 rfl rfl rfl rfl (by simp) OQ9 hszq (by omega) ?_; intro A5 c6 w9 OQ5 hg9 hat9))
                  have O5 := O39.kept hg9 NE
                  have R10 := R9.out.of_block (hg9.block gl (by simp; exact R.lt) (blk_ne (fun g hg => (OQ9.blk g hg).1) (by omega)))
                  have NE5 := hat9.apart (AX := some ⟨g3, o3, none⟩) (fun g hg => (O39.blk g hg).2) NE
                  have OLL10 := OLL9.kept hg9 (fun y hy => by have := (OQ9.blk y hy).1; omega)
                  have hb10 := hb9'.grown hg9 hw1z (fun y hy => by have := (OQ9.blk y hy).1; omega)
                  have hz10 : S0 + 1 ≤ w9.heap.size := Nat.le_trans (by simpa using hz8) hg9.size
                  go_roundw
                  case rel => exact ⟨j + 1, O4 ||| 2 ^ f, q4 ++ [(f : Int)], A5, c6, by omega, by go_num, by rw [HQL.out], HE, by rw [HQL.out]; exact OQ5, R10, OLL10, O5, NE5, hb10, hz10⟩
                  case measure => simp [intOf]; omega
              · obtain rfl : j = 3 := by omega
                have HE : Hid (eEnd es (vE es) T u ⟨O, q⟩ (k + 1) = ⟨O4, q4⟩) := by show _ = _; rw [HSTEP.out, HV4.out]
                go_wp2_with fail
                go_roundw
                case rel => exact ⟨k + 1, O4, q4, A4, c5, by omega, by go_num, rfl, HE, OQ, R, OLL, hb8, hz8⟩
                case measure => simp [intOf]; omega
          · obtain rfl : k = 2 := by omega
            have HE : Hid (eBfs es (vE es) T st0 (i + 1) = ⟨O2, q2⟩) := by show _ = _; rw [HNX.out, HV.out]
            have c22 : ((2 : Nat) : Int) = 2 := rfl
            clear HI2
            go_wp2_with fail
            go_roundw
            case rel => exact ⟨i + 1, O2, q2, A2, cq, by go_num, by omega, by omega, rfl, HE, OQ, R, OLL, hb, hzr⟩
            case measure => simp [intOf]; omega
      · obtain rfl : i = q.length := by omega
        have hq9 : S9 = ⟨O, q⟩ := by
          have := HAT.out q.length (by rw [HS6.out]; exact Nat.lt_irrefl _) (by rw [HS6.out]; exact Nat.le_refl _)
          rw [this, HS6.out]
        have HSF : Hid (ptS es (e + 1) = (O, rows ++ [ownT q m])) := by rw [HSS.out, hq9]; rfl
        have HND : Hid q.Nodup := HQ.nd
        obtain ⟨w7, rfl⟩ : ∃ w7, w7 = wr := ⟨wr, rfl⟩
        obtain ⟨S1, hS1⟩ : ∃ S1, S1 = w7.heap.size := ⟨_, rfl⟩
        obtain ⟨wz, hwz⟩ : ∃ wz, wz = w7.alloc (.cells #[] 2) := ⟨_, rfl⟩
        have hbz : Below w7.heap.size w7 wz := by rw [hwz]; exact (Below.refl _ _).alloc (Nat.le_refl _) _
        have OZ : OwnL S1 wz (some ⟨S1, 0, none⟩) 0 0 (ownI q 0 0) := by
          have := OwnL.empty S1 wz S1 (Nat.le_refl _) (by rw [hwz, hS1]; exact heap_alloc_new w7 _)
          rw [ownI_0]; exact this
        have hQ0 : ∀ g, blkOf A6 = some g → g < S1 := fun g hg => by rw [hS1]; exact (OQ.blk g hg).2
        have OQ := OQ.below hbz
        have R := R.of_block (hbz.block _ R.lt)
        have OLL := OLL.below hbz
        have hbr := hbr.andB hbz
        have hzr : S1 + 1 ≤ wz.heap.size := by rw [hwz, hS1]; simp
        have hS01 : S0 + 1 ≤ S1 := by omega
        have p7 := (hbr.cell (p := ⟨w.heap.size, 0, none⟩) s1).trans p1
        have q7 := (hbr.cell (p := ⟨w.heap.size, 1, none⟩) s1).trans q1
        have s7 := Nat.lt_of_lt_of_le s1 hbr.size
        have HOT0 : Hid ((ownT q 0).length = 0) := rfl
        have HQ0 := Lib.hid hQ0
        clear HQ hq9 HSS HBI HAT HS6 hbz hQ0 hiq him
        go_wp2_with fail
        rw [← hwz, ← hS1]
        clear hwz hS1
        go_loopw [11, 12] (fun lv fv wv => ∃ (f : Nat) (A8 : Option Addr) (c8 : Nat), f ≤ m ∧ fv = .int .i64 f ∧ lv = .slice A8 (ownT q f).length c8 ∧ OwnL S1 wv A8 (ownT q f).length c8 (ownT q f) ∧ OwnL S0 wv A6 q.length c6 q ∧ wv.rowIs gl 4 m (fun f => .bool (hasB O f)) ∧ OwnLL (gl + 1) top wv A rows.length c' rows ∧ Below w1.heap.size w1 wv ∧ S1 + 1 ≤ wv.heap.size) (fun _ f _ => m - (intOf f).toNat)
        case atStart => exact ⟨0, _, _, Nat.zero_le _, rfl, by rw [HOT0.out], by rw [ownI_0] at OZ; rw [HOT0.out]; exact OZ, OQ, R, OLL, hbr, hzr⟩
        case round =>
          clear OZ OQ R OLL hbr hzr p7 q7 s7
          obtain ⟨f, A8, c8, hfm, rfl, rfl, OZ, OQ, R, OLL, hbr, hzr⟩ := hrel
          obtain ⟨w8, rfl⟩ : ∃ w8, w8 = wr := ⟨wr, rfl⟩
          have p8 := (hbr.cell (p := ⟨w.heap.size, 0, none⟩) s1).trans p1
          have q8 := (hbr.cell (p := ⟨w.heap.size, 1, none⟩) s1).trans q1
          have s8 := Nat.lt_of_lt_of_le s1 hbr.size
          have htl := ownT_len q f
          by_cases hfl : f < m
          · have HO0 : Hid (ownI q f 0 = ownT q f) := ownI_0 q f
            have HOE : Hid (ownI q f q.length = ownT q (f + 1)) := ownI_end q f
            have hle : ∀ i, (ownI q f i).length ≤ m := fun i => by
              unfold ownI
              rw [List.length_append]
              split <;> simp <;> omega
            have HLE := Lib.hid hle
            clear hle
            go_wp2_with fail
            go_loopw [11, 13] (fun lv iv wv => ∃ (i : Nat) (A9 : Option Addr) (c9 : Nat), i ≤ q.length ∧ iv = .int .i64 i ∧ lv = .slice A9 (ownI q f i).length c9 ∧ OwnL S1 wv A9 (ownI q f i).length c9 (ownI q f i) ∧ OwnL S0 wv A6 q.length c6 q ∧ wv.rowIs gl 4 m (fun f => .bool (hasB O f)) ∧ OwnLL (gl + 1) top wv A rows.length c' rows ∧ Below w1.heap.size w1 wv ∧ S1 + 1 ≤ wv.heap.size) (fun _ i _ => q.length - (intOf i).toNat)
            case atStart => exact ⟨0, A8, c8, Nat.zero_le _, rfl, by rw [HO0.out], by rw [HO0.out]; exact OZ, OQ, R, OLL, hbr, hzr⟩
            case round =>
              clear OZ OQ R OLL hbr hzr p8 q8 s8
              obtain ⟨i, A9, c9, hiq, rfl, rfl, OZ, OQ, R, OLL, hbr, hzr⟩ := hrel
              obtain ⟨w9, rfl⟩ : ∃ w9, w9 = wr := ⟨wr, rfl⟩
              have hlI := HLE.out i
              by_cases hil : i < q.length
              · obtain ⟨gq, oq, rfl, IQ⟩ := OQ.src (by omega)
                have cq := IQ.c i hil
                have zq := IQ.blk
                by_cases hqf : ia q i = f
                · obtain ⟨hy1, hy2⟩ := ownI_yes HND.out hil hqf
                  have HY := Lib.hid hy1
                  rw [hqf] at cq
                  have hff : ((f : Int) == f) = true := by simp
                  have hgz : w1.heap.size ≤ w9.heap.size := hbr.size
                  clear hqf hy1 hy2
                  go_wp2_with (first
                    | (at_builtin; refine wp_appL1 rfl rfl rfl rfl rfl OZ (by omega) (by omega) ?_; intro A10 c10 w10 OZ10 hg10 hat10))
                  have NE : blkOf (some (⟨gq, oq, none⟩ : Addr)) = none ∨ blkOf (some (⟨gq, oq, none⟩ : Addr)) ≠ blkOf A9 := .inr (fun e2 => by
                    have h1 := HQ0.out gq rfl
                    have h2 := (OZ.blk gq (by rw [← e2]; rfl)).1
                    omega)
                  have OQ := OQ.kept hg10 NE
                  have R := R.of_block (hg10.block gl R.lt (fun e2 => by have := (OZ.blk gl e2.symm).1; omega))
                  have OLL := OLL.kept hg10 (fun y hy => by have := (OZ.blk y hy).1; omega)
                  have hbr := hbr.grown hg10 hgz (fun y hy => by have := (OZ.blk y hy).1; omega)
                  have hzr := Nat.le_trans hzr hg10.size
                  have HLN : Hid ((ownI q f i ++ [(f : Int)]).length = (ownI q f i).length + 1) := by simp [Hid]
                  go_roundw
                  case rel => exact ⟨i + 1, A10, c10, by omega, by go_num, by rw [HY.out, HLN.out], by rw [HY.out, HLN.out]; exact OZ10, OQ, R, OLL, hbr, hzr⟩
                  case measure => simp [intOf]; omega
                · have HN := Lib.hid (ownI_no (f := f) hil hqf)
                  have hff : (ia q i == (f : Int)) = false := by simpa using hqf
                  clear hqf
                  go_wp2_with fail
                  go_roundw
                  case rel => exact ⟨i + 1, A9, c9, by omega, by go_num, by rw [HN.out], by rw [HN.out]; exact OZ, OQ, R, OLL, hbr, hzr⟩
                  case measure => simp [intOf]; omega
              · obtain rfl : i = q.length := by omega
                go_wp2_with fail
                go_roundw
                case rel => exact ⟨f + 1, A9, c9, by omega, by go_num, by rw [← HOE.out], by rw [← HOE.out]; exact OZ, OQ, R, OLL, hbr, hzr⟩
                case measure => simp [intOf]; omega
          · obtain rfl : f = m := by omega
            have hnew : ∀ g, blkOf A8 = some g → top ≤ g := fun g hg => by have := (OZ.blk g hg).1; omega
            have hgz : w1.heap.size ≤ w8.heap.size := hbr.size
            have hrl' : rows.length ≤ 1048576 := by omega
            have OZ' := OZ.mono (by omega : gl + 1 ≤ S1)
            have hg1z : gl + 1 ≤ w8.heap.size := by omega
            go_wp2_with (first
              | (at_builtin; refine wp_appR1 rfl rfl rfl rfl rfl rfl OLL OZ' hnew hg1z hrl' ?_; intro A10 c10 w10 OLL10 hg10 hat10))
            have hAb : ∀ y, blkOf A = some y → gl + 1 ≤ y := fun y hy => (OLL.blk y hy).1
            have R := R.of_block (hg10.block gl R.lt (fun e2 => by have := hAb gl e2.symm; omega))
            have hbr := hbr.grown hg10 hgz (fun y hy => by have := hAb y hy; omega)
            have hzr : gl + 1 ≤ w10.heap.size := Nat.le_trans hg1z hg10.size
            have HLN : Hid ((rows ++ [ownT q f]).length = rows.length + 1) := by simp [Hid]
            go_roundw
            case rel => exact ⟨e + 1, O, rows ++ [ownT q f], A10, c10, by omega, by go_num, by rw [HLN.out], HSF, by rw [HLN.out]; omega, ⟨_, by rw [HLN.out]; exact OLL10⟩, R, hbr, hzr⟩
            case measure => simp [intOf]; omega
end Go.Proofs.YtajnhkkiddeegaaGreat
