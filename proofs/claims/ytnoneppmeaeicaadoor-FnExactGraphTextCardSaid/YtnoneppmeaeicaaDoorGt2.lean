import Derived.Test.YtnoneppmeaeicaaDoorGt1
namespace Go.Proofs.YtnoneppmeaeicaaDoor
open Go.RowKit Go.Sort
/-! ### A graph's text: the reference -/
noncomputable def eaN (es : List (Int × Int)) (k : Nat) : Nat := (ea es k).toNat
noncomputable def ebN (es : List (Int × Int)) (k : Nat) : Nat := (eb es k).toNat
noncomputable def wdL (es : List (Int × Int)) (k : Nat) : List UInt8 := decL (eaN es k) ++ [45] ++ decL (ebN es k)
noncomputable def txT (N : Nat) (es : List (Int × Int)) : Nat → List UInt8
  | 0 => decL N ++ [58]
  | k + 1 => (if 0 < k then txT N es k ++ [44] else txT N es k) ++ wdL es k
theorem decL_len (n : Nat) : (decL n).length ≤ 2 := by unfold decL; split <;> simp
theorem txT_len (N : Nat) (es : List (Int × Int)) : ∀ k, (txT N es k).length ≤ 3 + 6 * k := by
  intro k
  induction k with
  | zero => simp only [txT, List.length_append]; have := decL_len N; simp; omega
  | succ k ih =>
    simp only [txT, wdL, List.length_append]
    have h1 := decL_len (eaN es k)
    have h2 := decL_len (ebN es k)
    split <;> simp <;> omega
set_option maxRecDepth 100000 in
set_option maxHeartbeats 1600000 in
theorem l01Text_any (N b o m c : Nat) (es : List (Int × Int)) (w : World) (h : Eds w b o m es) (hm : m ≤ 30) (hn : WfP N es) :
    Calls Tryd.prog 11 #[.agg #[.int .i64 N, .slice (some ⟨b, o, none⟩) m c]] w (RetT (txT N es m) w) := by
  have hl := Lib.hid h.len
  have HN := Lib.hid hn
  have hn20 : N ≤ 20 := by have := hn.2.1; omega
  have hbb := (by go_grown : Below w.heap.size w (w.alloc (.cells #[.int .i64 N, .slice (some ⟨b, o, none⟩) m c] 30)))
  have hbx := Box2.made w (.int .i64 N) (.slice (some ⟨b, o, none⟩) m c) 30
  obtain ⟨w1, hw1⟩ : ∃ w1, w1 = w.alloc (Obj.cells #[Value.int IntKind.i64 N, Value.slice (some ⟨b, o, none⟩) m c] 30) := ⟨_, rfl⟩
  rw [← hw1] at hbb hbx
  obtain ⟨s1, p1, q1⟩ := hbx
  have HD := Lib.hid (fun W => l01Dec_any N (by omega) W)
  have hdN := decL_len N
  clear hn
  go_enter Tryd.func11, Tryd.ntmps11
  go_wp2_with fail
  rw [← hw1]
  clear hw1
  refine (HD.out w1).mono ?_
  rintro e w2 ⟨S, rfl, hS, hb2⟩
  have hsz : ¬ (9223372036854775807 < S.size + 1) := by rw [txt_size hS]; omega
  have hB2 := hbb.andB hb2
  have s2 := Nat.lt_of_lt_of_le s1 hb2.size
  have q2 := (hb2.cell (p := ⟨w.heap.size, 1, none⟩) s1).trans q1
  have HS : Hid ((S ++ ⟨#[58]⟩).data.toList = txT N es 0) := by show _ = _; rw [cat_data, hS]; rfl
  clear hb2 s1 p1 q1 hS
  go_wp2_with fail
  clear hsz
  go_loopw [3, 4] (fun sv kv wv => ∃ (k : Nat) (S : ByteArray), k ≤ m ∧ kv = .int .i64 k ∧ sv = .string S ∧ Hid (S.data.toList = txT N es k) ∧ Below w2.heap.size w2 wv) (fun _ k _ => m - (intOf k).toNat)
  case atStart => exact ⟨0, _, Nat.zero_le _, rfl, rfl, HS, Below.refl _ _⟩
  case round =>
    clear HS
    obtain ⟨k, S, hk, rfl, rfl, HS, hbr⟩ := hrel
    obtain ⟨w4, rfl⟩ : ∃ w4, w4 = wr := ⟨wr, rfl⟩
    have q4 := (hbr.cell (p := ⟨w.heap.size, 1, none⟩) s2).trans q2
    have s4 := Nat.lt_of_lt_of_le s2 hbr.size
    have hB4 := hB2.andB hbr
    by_cases hlt : k < m
    · have E := h.below hB4
      have hw4 := HN.out.2.2.2.2 k (by rw [hl.out]; exact hlt)
      obtain ⟨x, hx⟩ : ∃ x : Nat, x = eaN es k := ⟨_, rfl⟩
      obtain ⟨y, hy⟩ : ∃ y : Nat, y = ebN es k := ⟨_, rfl⟩
      have hxe : ea es k = (x : Int) := by rw [hx]; unfold eaN; omega
      have hye : eb es k = (y : Int) := by rw [hy]; unfold ebN; omega
      have d1 := E.ca k hlt
      have d2 := E.cb k hlt
      have zb := E.blk
      rw [hxe] at d1
      rw [hye] at d2
      have HDX := Lib.hid (fun W => l01Dec_any x (by omega) W)
      have HDY := Lib.hid (fun W => l01Dec_any y (by omega) W)
      have hdx := decL_len x
      have hdy := decL_len y
      have htl := txT_len N es k
      have HWD : Hid (wdL es k = decL x ++ [45] ++ decL y) := by show _ = _; rw [hx, hy]; rfl
      clear hx hy hxe hye hw4 E
      by_cases hk0 : 0 < k
      · have hk0' : (0 : Int) < k := by omega
        have hsz : ¬ (9223372036854775807 < S.size + 1) := by rw [txt_size HS.out]; omega
        obtain ⟨S3, hS3⟩ : ∃ S3, S3 = S ++ (⟨#[44]⟩ : ByteArray) := ⟨_, rfl⟩
        obtain ⟨X3, hX3⟩ : ∃ X3, X3 = txT N es k ++ [44] := ⟨_, rfl⟩
        have HS3 : Hid (S3.data.toList = X3) := by show _ = _; rw [hS3, cat_data, HS.out, hX3]
        have HTX : Hid (txT N es (k + 1) = X3 ++ decL x ++ [45] ++ decL y) := by show _ = _; simp only [txT]; rw [if_pos hk0, HWD.out, hX3]; simp [List.append_assoc]
        have hx3 : X3.length ≤ 4 + 6 * k := by rw [hX3, List.length_append]; simp; omega
        have HS3E := Lib.hid hS3
        clear hS3 hX3
        go_wp2_with fail
        rw [← HS3E.out]
        clear hsz
        refine wp_region_then 18 (fun i9 v W => match i9 with
          | 0 => v = .string S3
          | 1 => v = .pointer (some ⟨w.heap.size, 1, none⟩)
          | 2 => v = .slice (some ⟨b, o, none⟩) m c
          | 3 => v = .int .i64 k
          | 4 => v = .pointer (some ⟨b, o + k * 2, none⟩)
          | 5 => v = .pointer (some ⟨b, o + k * 2, none⟩)
          | 6 => v = .int .i64 (x : Int)
          | 7 => TxV (decL x) v
          | 8 => TxV (X3 ++ decL x) v
          | 9 => TxV (X3 ++ decL x ++ [45]) v
          | 10 => v = .pointer (some ⟨w.heap.size, 1, none⟩)
          | 11 => v = .slice (some ⟨b, o, none⟩) m c
          | 12 => v = .int .i64 k
          | 13 => v = .pointer (some ⟨b, o + k * 2, none⟩)
          | 14 => v = .pointer (some ⟨b, o + k * 2 + 1, none⟩)
          | 15 => v = .int .i64 (y : Int)
          | 16 => TxV (decL y) v
          | _ => TxV (X3 ++ decL x ++ [45] ++ decL y) v)
          (fun i => match i with
          | _ => none)
          (fun k W W' => Below W.heap.size W W')  (fun W => Below w4.heap.size w4 W) (by kernel_rfl) (by kernel_rfl) ?_ ?_ ?_ ?_ ?_
        · exact (Below.refl _ _).drew
        · intro i k v W W' hne hd hC hf hE
          match i, hf with
          | 0, hf => exact hf
          | 1, hf => exact hf
          | 2, hf => exact hf
          | 3, hf => exact hf
          | 4, hf => exact hf
          | 5, hf => exact hf
          | 6, hf => exact hf
          | 7, hf => exact hf
          | 8, hf => exact hf
          | 9, hf => exact hf
          | 10, hf => exact hf
          | 11, hf => exact hf
          | 12, hf => exact hf
          | 13, hf => exact hf
          | 14, hf => exact hf
          | 15, hf => exact hf
          | 16, hf => exact hf
          | _ + 17, hf => exact hf
        · intro k W W' hC hE
          exact Below.andB hC hE
        · simp only [List.take_succ_cons, List.take_zero]
          refine ⟨?_, ?_, ?_, ?_, ?_, ?_, ?_, ?_, ?_, ?_, ?_, ?_, ?_, ?_, ?_, ?_, ?_, ?_, trivial⟩
          · intro a W hC hs hd
            have hW : Below w4.heap.size w4 W := hC
            have e3 : a.tmps[3]?.getD undef = .string S3 := hs 3 (by kernel_rfl)
            refine growsG_none (E := fun W W' => Below W.heap.size W W') rfl ?_
            clear hs hd
            unfold GrowsE
            go_simp
            exact Below.refl _ _
          · intro a W hC hs hd
            have hW : Below w4.heap.size w4 W := hC
            have e1 : a.tmps[1]?.getD undef = .pointer (some ⟨w.heap.size, 0, none⟩) := hs 1 (by kernel_rfl)
            refine growsG_none (E := fun W W' => Below W.heap.size W W') rfl ?_
            have k0 := (hW.cell (p := ⟨w.heap.size, 1, none⟩) (s4)).trans (q4)
            have k1 := (hW.cell (p := ⟨b, o + k * 2, none⟩) (zb)).trans (d1)
            have k2 := (hW.cell (p := ⟨b, o + k * 2 + 1, none⟩) (zb)).trans (d2)
            clear hs hd
            unfold GrowsE
            go_simp
            exact Below.refl _ _
          · intro a W hC hs hd
            have hW : Below w4.heap.size w4 W := hC
            have e21 : (a.tmps[21]?.getD undef) = .pointer (some ⟨w.heap.size, 1, none⟩) := hd 1 21 (by kernel_rfl) (by kernel_rfl) (by kernel_rfl)
            refine growsG_none (E := fun W W' => Below W.heap.size W W') rfl ?_
            have k0 := (hW.cell (p := ⟨w.heap.size, 1, none⟩) (s4)).trans (q4)
            have k1 := (hW.cell (p := ⟨b, o + k * 2, none⟩) (zb)).trans (d1)
            have k2 := (hW.cell (p := ⟨b, o + k * 2 + 1, none⟩) (zb)).trans (d2)
            clear hs hd
            unfold GrowsE
            go_simp
            exact Below.refl _ _
          · intro a W hC hs hd
            have hW : Below w4.heap.size w4 W := hC
            have e4 : a.tmps[4]?.getD undef = .int .i64 k := hs 4 (by kernel_rfl)
            refine growsG_none (E := fun W W' => Below W.heap.size W W') rfl ?_
            clear hs hd
            unfold GrowsE
            go_simp
            exact Below.refl _ _
          · intro a W hC hs hd
            have hW : Below w4.heap.size w4 W := hC
            have e22 : (a.tmps[22]?.getD undef) = .slice (some ⟨b, o, none⟩) m c := hd 2 22 (by kernel_rfl) (by kernel_rfl) (by kernel_rfl)
            have e23 : (a.tmps[23]?.getD undef) = .int .i64 k := hd 3 23 (by kernel_rfl) (by kernel_rfl) (by kernel_rfl)
            refine growsG_none (E := fun W W' => Below W.heap.size W W') rfl ?_
            have k0 := (hW.cell (p := ⟨w.heap.size, 1, none⟩) (s4)).trans (q4)
            have k1 := (hW.cell (p := ⟨b, o + k * 2, none⟩) (zb)).trans (d1)
            have k2 := (hW.cell (p := ⟨b, o + k * 2 + 1, none⟩) (zb)).trans (d2)
            clear hs hd
            unfold GrowsE
            go_simp
            exact Below.refl _ _
          · intro a W hC hs hd
            have hW : Below w4.heap.size w4 W := hC
            have e24 : (a.tmps[24]?.getD undef) = .pointer (some ⟨b, o + k * 2, none⟩) := hd 4 24 (by kernel_rfl) (by kernel_rfl) (by kernel_rfl)
            refine growsG_none (E := fun W W' => Below W.heap.size W W') rfl ?_
            have k0 := (hW.cell (p := ⟨w.heap.size, 1, none⟩) (s4)).trans (q4)
            have k1 := (hW.cell (p := ⟨b, o + k * 2, none⟩) (zb)).trans (d1)
            have k2 := (hW.cell (p := ⟨b, o + k * 2 + 1, none⟩) (zb)).trans (d2)
            clear hs hd
            unfold GrowsE
            go_simp
            exact Below.refl _ _
          · intro a W hC hs hd
            have hW : Below w4.heap.size w4 W := hC
            have e25 : (a.tmps[25]?.getD undef) = .pointer (some ⟨b, o + k * 2, none⟩) := hd 5 25 (by kernel_rfl) (by kernel_rfl) (by kernel_rfl)
            refine growsG_none (E := fun W W' => Below W.heap.size W W') rfl ?_
            have k0 := (hW.cell (p := ⟨w.heap.size, 1, none⟩) (s4)).trans (q4)
            have k1 := (hW.cell (p := ⟨b, o + k * 2, none⟩) (zb)).trans (d1)
            have k2 := (hW.cell (p := ⟨b, o + k * 2 + 1, none⟩) (zb)).trans (d2)
            clear hs hd
            unfold GrowsE
            go_simp
            exact Below.refl _ _
          · intro a W hC hs hd
            have hW : Below w4.heap.size w4 W := hC
            have e26 : (a.tmps[26]?.getD undef) = .int .i64 (x : Int) := hd 6 26 (by kernel_rfl) (by kernel_rfl) (by kernel_rfl)
            refine growsG_none (E := fun W W' => Below W.heap.size W W') rfl ?_
            clear hs hd
            unfold GrowsE
            go_simp
            refine ⟨Below.refl _ _, (HDX.out W).mono ?_⟩
            rintro e w6 ⟨S6, rfl, h6, hb6⟩
            exact ⟨_, rfl, hb6, S6, rfl, h6⟩
          · intro a W hC hs hd
            have hW : Below w4.heap.size w4 W := hC
            have e20 : (a.tmps[20]?.getD undef) = .string S3 := hd 0 20 (by kernel_rfl) (by kernel_rfl) (by kernel_rfl)
            have e27 : TxV (decL x) (a.tmps[27]?.getD undef) := hd 7 27 (by kernel_rfl) (by kernel_rfl) (by kernel_rfl)
            obtain ⟨S27, e27, hS27⟩ := e27
            refine growsG_none (E := fun W W' => Below W.heap.size W W') rfl ?_
            have hsz : ¬ (9223372036854775807 < S3.size + S27.size) := by rw [txt_size HS3.out, txt_size hS27]; omega
            clear hs hd
            unfold GrowsE
            go_simp
            exact ⟨Below.refl _ _, _, rfl, by rw [cat_data, HS3.out, hS27]⟩
          · intro a W hC hs hd
            have hW : Below w4.heap.size w4 W := hC
            have e28 : TxV (X3 ++ decL x) (a.tmps[28]?.getD undef) := hd 8 28 (by kernel_rfl) (by kernel_rfl) (by kernel_rfl)
            obtain ⟨S28, e28, hS28⟩ := e28
            refine growsG_none (E := fun W W' => Below W.heap.size W W') rfl ?_
            have hsz : ¬ (9223372036854775807 < S28.size + 1) := by rw [txt_size hS28, List.length_append]; omega
            clear hs hd
            unfold GrowsE
            go_simp
            exact ⟨Below.refl _ _, _, rfl, by rw [cat_data, hS28]; simp [List.append_assoc]⟩
          · intro a W hC hs hd
            have hW : Below w4.heap.size w4 W := hC
            have e1 : a.tmps[1]?.getD undef = .pointer (some ⟨w.heap.size, 0, none⟩) := hs 1 (by kernel_rfl)
            refine growsG_none (E := fun W W' => Below W.heap.size W W') rfl ?_
            have k0 := (hW.cell (p := ⟨w.heap.size, 1, none⟩) (s4)).trans (q4)
            have k1 := (hW.cell (p := ⟨b, o + k * 2, none⟩) (zb)).trans (d1)
            have k2 := (hW.cell (p := ⟨b, o + k * 2 + 1, none⟩) (zb)).trans (d2)
            clear hs hd
            unfold GrowsE
            go_simp
            exact Below.refl _ _
          · intro a W hC hs hd
            have hW : Below w4.heap.size w4 W := hC
            have e30 : (a.tmps[30]?.getD undef) = .pointer (some ⟨w.heap.size, 1, none⟩) := hd 10 30 (by kernel_rfl) (by kernel_rfl) (by kernel_rfl)
            refine growsG_none (E := fun W W' => Below W.heap.size W W') rfl ?_
            have k0 := (hW.cell (p := ⟨w.heap.size, 1, none⟩) (s4)).trans (q4)
            have k1 := (hW.cell (p := ⟨b, o + k * 2, none⟩) (zb)).trans (d1)
            have k2 := (hW.cell (p := ⟨b, o + k * 2 + 1, none⟩) (zb)).trans (d2)
            clear hs hd
            unfold GrowsE
            go_simp
            exact Below.refl _ _
          · intro a W hC hs hd
            have hW : Below w4.heap.size w4 W := hC
            have e4 : a.tmps[4]?.getD undef = .int .i64 k := hs 4 (by kernel_rfl)
            refine growsG_none (E := fun W W' => Below W.heap.size W W') rfl ?_
            clear hs hd
            unfold GrowsE
            go_simp
            exact Below.refl _ _
          · intro a W hC hs hd
            have hW : Below w4.heap.size w4 W := hC
            have e31 : (a.tmps[31]?.getD undef) = .slice (some ⟨b, o, none⟩) m c := hd 11 31 (by kernel_rfl) (by kernel_rfl) (by kernel_rfl)
            have e32 : (a.tmps[32]?.getD undef) = .int .i64 k := hd 12 32 (by kernel_rfl) (by kernel_rfl) (by kernel_rfl)
            refine growsG_none (E := fun W W' => Below W.heap.size W W') rfl ?_
            have k0 := (hW.cell (p := ⟨w.heap.size, 1, none⟩) (s4)).trans (q4)
            have k1 := (hW.cell (p := ⟨b, o + k * 2, none⟩) (zb)).trans (d1)
            have k2 := (hW.cell (p := ⟨b, o + k * 2 + 1, none⟩) (zb)).trans (d2)
            clear hs hd
            unfold GrowsE
            go_simp
            exact Below.refl _ _
          · intro a W hC hs hd
            have hW : Below w4.heap.size w4 W := hC
            have e33 : (a.tmps[33]?.getD undef) = .pointer (some ⟨b, o + k * 2, none⟩) := hd 13 33 (by kernel_rfl) (by kernel_rfl) (by kernel_rfl)
            refine growsG_none (E := fun W W' => Below W.heap.size W W') rfl ?_
            have k0 := (hW.cell (p := ⟨w.heap.size, 1, none⟩) (s4)).trans (q4)
            have k1 := (hW.cell (p := ⟨b, o + k * 2, none⟩) (zb)).trans (d1)
            have k2 := (hW.cell (p := ⟨b, o + k * 2 + 1, none⟩) (zb)).trans (d2)
            clear hs hd
            unfold GrowsE
            go_simp
            exact Below.refl _ _
          · intro a W hC hs hd
            have hW : Below w4.heap.size w4 W := hC
            have e34 : (a.tmps[34]?.getD undef) = .pointer (some ⟨b, o + k * 2 + 1, none⟩) := hd 14 34 (by kernel_rfl) (by kernel_rfl) (by kernel_rfl)
            refine growsG_none (E := fun W W' => Below W.heap.size W W') rfl ?_
            have k0 := (hW.cell (p := ⟨w.heap.size, 1, none⟩) (s4)).trans (q4)
            have k1 := (hW.cell (p := ⟨b, o + k * 2, none⟩) (zb)).trans (d1)
            have k2 := (hW.cell (p := ⟨b, o + k * 2 + 1, none⟩) (zb)).trans (d2)
            clear hs hd
            unfold GrowsE
            go_simp
            exact Below.refl _ _
          · intro a W hC hs hd
            have hW : Below w4.heap.size w4 W := hC
            have e35 : (a.tmps[35]?.getD undef) = .int .i64 (y : Int) := hd 15 35 (by kernel_rfl) (by kernel_rfl) (by kernel_rfl)
            refine growsG_none (E := fun W W' => Below W.heap.size W W') rfl ?_
            clear hs hd
            unfold GrowsE
            go_simp
            refine ⟨Below.refl _ _, (HDY.out W).mono ?_⟩
            rintro e w6 ⟨S6, rfl, h6, hb6⟩
            exact ⟨_, rfl, hb6, S6, rfl, h6⟩
          · intro a W hC hs hd
            have hW : Below w4.heap.size w4 W := hC
            have e29 : TxV (X3 ++ decL x ++ [45]) (a.tmps[29]?.getD undef) := hd 9 29 (by kernel_rfl) (by kernel_rfl) (by kernel_rfl)
            obtain ⟨S29, e29, hS29⟩ := e29
            have e36 : TxV (decL y) (a.tmps[36]?.getD undef) := hd 16 36 (by kernel_rfl) (by kernel_rfl) (by kernel_rfl)
            obtain ⟨S36, e36, hS36⟩ := e36
            refine growsG_none (E := fun W W' => Below W.heap.size W W') rfl ?_
            have hsz : ¬ (9223372036854775807 < S29.size + S36.size) := by rw [txt_size hS29, txt_size hS36, List.length_append, List.length_append]; have : [(45 : UInt8)].length = 1 := rfl; omega
            clear hs hd
            unfold GrowsE
            go_simp
            exact ⟨Below.refl _ _, _, rfl, by rw [cat_data, hS29, hS36]; simp [List.append_assoc]⟩
        intro vs W hW hf
        have f37 : TxV (X3 ++ decL x ++ [45] ++ decL y) (vs 37) := hf 17 37 (by decide) (by kernel_rfl) (fun _ hk => by cases hk)
        obtain ⟨S37, f37, hS37⟩ := f37
        simp only [dsts, List.take_succ_cons, List.take_zero, List.drop_succ_cons, List.drop_zero, List.filterMap_cons, List.filterMap_nil, List.foldl_cons, List.foldl_nil, Act.put, List.setIfInBounds_toArray, List.set_cons_succ, List.set_cons_zero, f37]
        clear hf
        have hW : Below w4.heap.size w4 W := hW
        have hbF := hbr.andB hW
        clear hW hbr q4 s4 d1 d2 zb
        go_wp2_with fail
        go_roundw
        case rel => exact ⟨k + 1, S37, by omega, by go_num, rfl, (by show _ = _; rw [hS37, HTX.out]), hbF⟩
        case measure => simp [intOf]; omega
      · have hk0' : ¬ (0 : Int) < k := by omega
        obtain ⟨S3, hS3⟩ : ∃ S3, S3 = S := ⟨_, rfl⟩
        obtain ⟨X3, hX3⟩ : ∃ X3, X3 = txT N es k := ⟨_, rfl⟩
        have HS3 : Hid (S3.data.toList = X3) := by show _ = _; rw [hS3, HS.out, hX3]
        have HTX : Hid (txT N es (k + 1) = X3 ++ decL x ++ [45] ++ decL y) := by show _ = _; simp only [txT]; rw [if_neg hk0, HWD.out, hX3]; simp [List.append_assoc]
        have hx3 : X3.length ≤ 4 + 6 * k := by rw [hX3]; omega
        rw [← hS3]
        clear hS3 hX3
        go_wp2_with fail
        refine wp_region_then 18 (fun i9 v W => match i9 with
          | 0 => v = .string S3
          | 1 => v = .pointer (some ⟨w.heap.size, 1, none⟩)
          | 2 => v = .slice (some ⟨b, o, none⟩) m c
          | 3 => v = .int .i64 k
          | 4 => v = .pointer (some ⟨b, o + k * 2, none⟩)
          | 5 => v = .pointer (some ⟨b, o + k * 2, none⟩)
          | 6 => v = .int .i64 (x : Int)
          | 7 => TxV (decL x) v
          | 8 => TxV (X3 ++ decL x) v
          | 9 => TxV (X3 ++ decL x ++ [45]) v
          | 10 => v = .pointer (some ⟨w.heap.size, 1, none⟩)
          | 11 => v = .slice (some ⟨b, o, none⟩) m c
          | 12 => v = .int .i64 k
          | 13 => v = .pointer (some ⟨b, o + k * 2, none⟩)
          | 14 => v = .pointer (some ⟨b, o + k * 2 + 1, none⟩)
          | 15 => v = .int .i64 (y : Int)
          | 16 => TxV (decL y) v
          | _ => TxV (X3 ++ decL x ++ [45] ++ decL y) v)
          (fun i => match i with
          | _ => none)
          (fun k W W' => Below W.heap.size W W')  (fun W => Below w4.heap.size w4 W) (by kernel_rfl) (by kernel_rfl) ?_ ?_ ?_ ?_ ?_
        · exact (Below.refl _ _).drew
        · intro i k v W W' hne hd hC hf hE
          match i, hf with
          | 0, hf => exact hf
          | 1, hf => exact hf
          | 2, hf => exact hf
          | 3, hf => exact hf
          | 4, hf => exact hf
          | 5, hf => exact hf
          | 6, hf => exact hf
          | 7, hf => exact hf
          | 8, hf => exact hf
          | 9, hf => exact hf
          | 10, hf => exact hf
          | 11, hf => exact hf
          | 12, hf => exact hf
          | 13, hf => exact hf
          | 14, hf => exact hf
          | 15, hf => exact hf
          | 16, hf => exact hf
          | _ + 17, hf => exact hf
        · intro k W W' hC hE
          exact Below.andB hC hE
        · simp only [List.take_succ_cons, List.take_zero]
          refine ⟨?_, ?_, ?_, ?_, ?_, ?_, ?_, ?_, ?_, ?_, ?_, ?_, ?_, ?_, ?_, ?_, ?_, ?_, trivial⟩
          · intro a W hC hs hd
            have hW : Below w4.heap.size w4 W := hC
            have e3 : a.tmps[3]?.getD undef = .string S3 := hs 3 (by kernel_rfl)
            refine growsG_none (E := fun W W' => Below W.heap.size W W') rfl ?_
            clear hs hd
            unfold GrowsE
            go_simp
            exact Below.refl _ _
          · intro a W hC hs hd
            have hW : Below w4.heap.size w4 W := hC
            have e1 : a.tmps[1]?.getD undef = .pointer (some ⟨w.heap.size, 0, none⟩) := hs 1 (by kernel_rfl)
            refine growsG_none (E := fun W W' => Below W.heap.size W W') rfl ?_
            have k0 := (hW.cell (p := ⟨w.heap.size, 1, none⟩) (s4)).trans (q4)
            have k1 := (hW.cell (p := ⟨b, o + k * 2, none⟩) (zb)).trans (d1)
            have k2 := (hW.cell (p := ⟨b, o + k * 2 + 1, none⟩) (zb)).trans (d2)
            clear hs hd
            unfold GrowsE
            go_simp
            exact Below.refl _ _
          · intro a W hC hs hd
            have hW : Below w4.heap.size w4 W := hC
            have e21 : (a.tmps[21]?.getD undef) = .pointer (some ⟨w.heap.size, 1, none⟩) := hd 1 21 (by kernel_rfl) (by kernel_rfl) (by kernel_rfl)
            refine growsG_none (E := fun W W' => Below W.heap.size W W') rfl ?_
            have k0 := (hW.cell (p := ⟨w.heap.size, 1, none⟩) (s4)).trans (q4)
            have k1 := (hW.cell (p := ⟨b, o + k * 2, none⟩) (zb)).trans (d1)
            have k2 := (hW.cell (p := ⟨b, o + k * 2 + 1, none⟩) (zb)).trans (d2)
            clear hs hd
            unfold GrowsE
            go_simp
            exact Below.refl _ _
          · intro a W hC hs hd
            have hW : Below w4.heap.size w4 W := hC
            have e4 : a.tmps[4]?.getD undef = .int .i64 k := hs 4 (by kernel_rfl)
            refine growsG_none (E := fun W W' => Below W.heap.size W W') rfl ?_
            clear hs hd
            unfold GrowsE
            go_simp
            exact Below.refl _ _
          · intro a W hC hs hd
            have hW : Below w4.heap.size w4 W := hC
            have e22 : (a.tmps[22]?.getD undef) = .slice (some ⟨b, o, none⟩) m c := hd 2 22 (by kernel_rfl) (by kernel_rfl) (by kernel_rfl)
            have e23 : (a.tmps[23]?.getD undef) = .int .i64 k := hd 3 23 (by kernel_rfl) (by kernel_rfl) (by kernel_rfl)
            refine growsG_none (E := fun W W' => Below W.heap.size W W') rfl ?_
            have k0 := (hW.cell (p := ⟨w.heap.size, 1, none⟩) (s4)).trans (q4)
            have k1 := (hW.cell (p := ⟨b, o + k * 2, none⟩) (zb)).trans (d1)
            have k2 := (hW.cell (p := ⟨b, o + k * 2 + 1, none⟩) (zb)).trans (d2)
            clear hs hd
            unfold GrowsE
            go_simp
            exact Below.refl _ _
          · intro a W hC hs hd
            have hW : Below w4.heap.size w4 W := hC
            have e24 : (a.tmps[24]?.getD undef) = .pointer (some ⟨b, o + k * 2, none⟩) := hd 4 24 (by kernel_rfl) (by kernel_rfl) (by kernel_rfl)
            refine growsG_none (E := fun W W' => Below W.heap.size W W') rfl ?_
            have k0 := (hW.cell (p := ⟨w.heap.size, 1, none⟩) (s4)).trans (q4)
            have k1 := (hW.cell (p := ⟨b, o + k * 2, none⟩) (zb)).trans (d1)
            have k2 := (hW.cell (p := ⟨b, o + k * 2 + 1, none⟩) (zb)).trans (d2)
            clear hs hd
            unfold GrowsE
            go_simp
            exact Below.refl _ _
          · intro a W hC hs hd
            have hW : Below w4.heap.size w4 W := hC
            have e25 : (a.tmps[25]?.getD undef) = .pointer (some ⟨b, o + k * 2, none⟩) := hd 5 25 (by kernel_rfl) (by kernel_rfl) (by kernel_rfl)
            refine growsG_none (E := fun W W' => Below W.heap.size W W') rfl ?_
            have k0 := (hW.cell (p := ⟨w.heap.size, 1, none⟩) (s4)).trans (q4)
            have k1 := (hW.cell (p := ⟨b, o + k * 2, none⟩) (zb)).trans (d1)
            have k2 := (hW.cell (p := ⟨b, o + k * 2 + 1, none⟩) (zb)).trans (d2)
            clear hs hd
            unfold GrowsE
            go_simp
            exact Below.refl _ _
          · intro a W hC hs hd
            have hW : Below w4.heap.size w4 W := hC
            have e26 : (a.tmps[26]?.getD undef) = .int .i64 (x : Int) := hd 6 26 (by kernel_rfl) (by kernel_rfl) (by kernel_rfl)
            refine growsG_none (E := fun W W' => Below W.heap.size W W') rfl ?_
            clear hs hd
            unfold GrowsE
            go_simp
            refine ⟨Below.refl _ _, (HDX.out W).mono ?_⟩
            rintro e w6 ⟨S6, rfl, h6, hb6⟩
            exact ⟨_, rfl, hb6, S6, rfl, h6⟩
          · intro a W hC hs hd
            have hW : Below w4.heap.size w4 W := hC
            have e20 : (a.tmps[20]?.getD undef) = .string S3 := hd 0 20 (by kernel_rfl) (by kernel_rfl) (by kernel_rfl)
            have e27 : TxV (decL x) (a.tmps[27]?.getD undef) := hd 7 27 (by kernel_rfl) (by kernel_rfl) (by kernel_rfl)
            obtain ⟨S27, e27, hS27⟩ := e27
            refine growsG_none (E := fun W W' => Below W.heap.size W W') rfl ?_
            have hsz : ¬ (9223372036854775807 < S3.size + S27.size) := by rw [txt_size HS3.out, txt_size hS27]; omega
            clear hs hd
            unfold GrowsE
            go_simp
            exact ⟨Below.refl _ _, _, rfl, by rw [cat_data, HS3.out, hS27]⟩
          · intro a W hC hs hd
            have hW : Below w4.heap.size w4 W := hC
            have e28 : TxV (X3 ++ decL x) (a.tmps[28]?.getD undef) := hd 8 28 (by kernel_rfl) (by kernel_rfl) (by kernel_rfl)
            obtain ⟨S28, e28, hS28⟩ := e28
            refine growsG_none (E := fun W W' => Below W.heap.size W W') rfl ?_
            have hsz : ¬ (9223372036854775807 < S28.size + 1) := by rw [txt_size hS28, List.length_append]; omega
            clear hs hd
            unfold GrowsE
            go_simp
            exact ⟨Below.refl _ _, _, rfl, by rw [cat_data, hS28]; simp [List.append_assoc]⟩
          · intro a W hC hs hd
            have hW : Below w4.heap.size w4 W := hC
            have e1 : a.tmps[1]?.getD undef = .pointer (some ⟨w.heap.size, 0, none⟩) := hs 1 (by kernel_rfl)
            refine growsG_none (E := fun W W' => Below W.heap.size W W') rfl ?_
            have k0 := (hW.cell (p := ⟨w.heap.size, 1, none⟩) (s4)).trans (q4)
            have k1 := (hW.cell (p := ⟨b, o + k * 2, none⟩) (zb)).trans (d1)
            have k2 := (hW.cell (p := ⟨b, o + k * 2 + 1, none⟩) (zb)).trans (d2)
            clear hs hd
            unfold GrowsE
            go_simp
            exact Below.refl _ _
          · intro a W hC hs hd
            have hW : Below w4.heap.size w4 W := hC
            have e30 : (a.tmps[30]?.getD undef) = .pointer (some ⟨w.heap.size, 1, none⟩) := hd 10 30 (by kernel_rfl) (by kernel_rfl) (by kernel_rfl)
            refine growsG_none (E := fun W W' => Below W.heap.size W W') rfl ?_
            have k0 := (hW.cell (p := ⟨w.heap.size, 1, none⟩) (s4)).trans (q4)
            have k1 := (hW.cell (p := ⟨b, o + k * 2, none⟩) (zb)).trans (d1)
            have k2 := (hW.cell (p := ⟨b, o + k * 2 + 1, none⟩) (zb)).trans (d2)
            clear hs hd
            unfold GrowsE
            go_simp
            exact Below.refl _ _
          · intro a W hC hs hd
            have hW : Below w4.heap.size w4 W := hC
            have e4 : a.tmps[4]?.getD undef = .int .i64 k := hs 4 (by kernel_rfl)
            refine growsG_none (E := fun W W' => Below W.heap.size W W') rfl ?_
            clear hs hd
            unfold GrowsE
            go_simp
            exact Below.refl _ _
          · intro a W hC hs hd
            have hW : Below w4.heap.size w4 W := hC
            have e31 : (a.tmps[31]?.getD undef) = .slice (some ⟨b, o, none⟩) m c := hd 11 31 (by kernel_rfl) (by kernel_rfl) (by kernel_rfl)
            have e32 : (a.tmps[32]?.getD undef) = .int .i64 k := hd 12 32 (by kernel_rfl) (by kernel_rfl) (by kernel_rfl)
            refine growsG_none (E := fun W W' => Below W.heap.size W W') rfl ?_
            have k0 := (hW.cell (p := ⟨w.heap.size, 1, none⟩) (s4)).trans (q4)
            have k1 := (hW.cell (p := ⟨b, o + k * 2, none⟩) (zb)).trans (d1)
            have k2 := (hW.cell (p := ⟨b, o + k * 2 + 1, none⟩) (zb)).trans (d2)
            clear hs hd
            unfold GrowsE
            go_simp
            exact Below.refl _ _
          · intro a W hC hs hd
            have hW : Below w4.heap.size w4 W := hC
            have e33 : (a.tmps[33]?.getD undef) = .pointer (some ⟨b, o + k * 2, none⟩) := hd 13 33 (by kernel_rfl) (by kernel_rfl) (by kernel_rfl)
            refine growsG_none (E := fun W W' => Below W.heap.size W W') rfl ?_
            have k0 := (hW.cell (p := ⟨w.heap.size, 1, none⟩) (s4)).trans (q4)
            have k1 := (hW.cell (p := ⟨b, o + k * 2, none⟩) (zb)).trans (d1)
            have k2 := (hW.cell (p := ⟨b, o + k * 2 + 1, none⟩) (zb)).trans (d2)
            clear hs hd
            unfold GrowsE
            go_simp
            exact Below.refl _ _
          · intro a W hC hs hd
            have hW : Below w4.heap.size w4 W := hC
            have e34 : (a.tmps[34]?.getD undef) = .pointer (some ⟨b, o + k * 2 + 1, none⟩) := hd 14 34 (by kernel_rfl) (by kernel_rfl) (by kernel_rfl)
            refine growsG_none (E := fun W W' => Below W.heap.size W W') rfl ?_
            have k0 := (hW.cell (p := ⟨w.heap.size, 1, none⟩) (s4)).trans (q4)
            have k1 := (hW.cell (p := ⟨b, o + k * 2, none⟩) (zb)).trans (d1)
            have k2 := (hW.cell (p := ⟨b, o + k * 2 + 1, none⟩) (zb)).trans (d2)
            clear hs hd
            unfold GrowsE
            go_simp
            exact Below.refl _ _
          · intro a W hC hs hd
            have hW : Below w4.heap.size w4 W := hC
            have e35 : (a.tmps[35]?.getD undef) = .int .i64 (y : Int) := hd 15 35 (by kernel_rfl) (by kernel_rfl) (by kernel_rfl)
            refine growsG_none (E := fun W W' => Below W.heap.size W W') rfl ?_
            clear hs hd
            unfold GrowsE
            go_simp
            refine ⟨Below.refl _ _, (HDY.out W).mono ?_⟩
            rintro e w6 ⟨S6, rfl, h6, hb6⟩
            exact ⟨_, rfl, hb6, S6, rfl, h6⟩
          · intro a W hC hs hd
            have hW : Below w4.heap.size w4 W := hC
            have e29 : TxV (X3 ++ decL x ++ [45]) (a.tmps[29]?.getD undef) := hd 9 29 (by kernel_rfl) (by kernel_rfl) (by kernel_rfl)
            obtain ⟨S29, e29, hS29⟩ := e29
            have e36 : TxV (decL y) (a.tmps[36]?.getD undef) := hd 16 36 (by kernel_rfl) (by kernel_rfl) (by kernel_rfl)
            obtain ⟨S36, e36, hS36⟩ := e36
            refine growsG_none (E := fun W W' => Below W.heap.size W W') rfl ?_
            have hsz : ¬ (9223372036854775807 < S29.size + S36.size) := by rw [txt_size hS29, txt_size hS36, List.length_append, List.length_append]; have : [(45 : UInt8)].length = 1 := rfl; omega
            clear hs hd
            unfold GrowsE
            go_simp
            exact ⟨Below.refl _ _, _, rfl, by rw [cat_data, hS29, hS36]; simp [List.append_assoc]⟩
        intro vs W hW hf
        have f37 : TxV (X3 ++ decL x ++ [45] ++ decL y) (vs 37) := hf 17 37 (by decide) (by kernel_rfl) (fun _ hk => by cases hk)
        obtain ⟨S37, f37, hS37⟩ := f37
        simp only [dsts, List.take_succ_cons, List.take_zero, List.drop_succ_cons, List.drop_zero, List.filterMap_cons, List.filterMap_nil, List.foldl_cons, List.foldl_nil, Act.put, List.setIfInBounds_toArray, List.set_cons_succ, List.set_cons_zero, f37]
        clear hf
        have hW : Below w4.heap.size w4 W := hW
        have hbF := hbr.andB hW
        clear hW hbr q4 s4 d1 d2 zb
        go_wp2_with fail
        go_roundw
        case rel => exact ⟨k + 1, S37, by omega, by go_num, rfl, (by show _ = _; rw [hS37, HTX.out]), hbF⟩
        case measure => simp [intOf]; omega
    · obtain rfl : k = m := by omega
      go_wp2_with fail
      go_ret
      exact ⟨S, rfl, HS.out, hB4⟩
end Go.Proofs.YtnoneppmeaeicaaDoor
