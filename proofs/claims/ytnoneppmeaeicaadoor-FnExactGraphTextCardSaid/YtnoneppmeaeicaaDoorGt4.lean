import Derived.Test.YtnoneppmeaeicaaDoorGt3
namespace Go.Proofs.YtnoneppmeaeicaaDoor
open Go.RowKit Go.Sort
set_option maxRecDepth 100000 in
set_option maxHeartbeats 1600000 in
theorem text_any (N b o m c : Nat) (es : List (Int × Int)) (w : World) (h : Eds w b o m es) (hm : m ≤ 30) (hn : WfP N es) :
    Calls Tryd.prog 14 #[.agg #[.int .i64 N, .slice (some ⟨b, o, none⟩) m c]] w (RetT (txT N es m) w) := by
  have hl := Lib.hid h.len
  have HN := Lib.hid hn
  have hn20 : N ≤ 20 := by have := hn.2.1; omega
  have hm0 : 0 < m := by have := hn.2.2.2.1; have := hn.1; have := h.len; omega
  have hbb := (by go_grown : Below w.heap.size w (w.alloc (.cells #[.int .i64 N, .slice (some ⟨b, o, none⟩) m c] 30)))
  have hbx := Box2.made w (.int .i64 N) (.slice (some ⟨b, o, none⟩) m c) 30
  obtain ⟨w1, hw1⟩ : ∃ w1, w1 = w.alloc (Obj.cells #[Value.int IntKind.i64 N, Value.slice (some ⟨b, o, none⟩) m c] 30) := ⟨_, rfl⟩
  rw [← hw1] at hbb hbx
  obtain ⟨s1, p1, q1⟩ := hbx
  have HD := Lib.hid (fun W => decimal_any N (by omega) W)
  have hdN := decL_len N
  clear hn
  go_enter Tryd.func14, Tryd.ntmps14
  go_wp2_with fail
  rw [← hw1]
  clear hw1
  go_loopw [3, 9] (fun sv kv wv => ∃ (k : Nat) (A : Option Addr) (c1 : Nat) (xs : List ByteArray), k ≤ m ∧ kv = .int .i64 k ∧ sv = .slice A k c1 ∧ OwnS w1.heap.size wv A k c1 xs ∧ Hid (xs.map (·.data.toList) = wds es k) ∧ Below w1.heap.size w1 wv) (fun _ k _ => m - (intOf k).toNat)
  case atStart => exact ⟨0, none, 0, [], Nat.zero_le _, rfl, rfl, OwnS.nil _ _, rfl, Below.refl _ _⟩
  case round =>
    obtain ⟨k, A, c1, xs, hk, rfl, rfl, O, HX, hbr⟩ := hrel
    obtain ⟨w4, rfl⟩ : ∃ w4, w4 = wr := ⟨wr, rfl⟩
    have p4 := (hbr.cell (p := ⟨w.heap.size, 0, none⟩) s1).trans p1
    have q4 := (hbr.cell (p := ⟨w.heap.size, 1, none⟩) s1).trans q1
    have s4 := Nat.lt_of_lt_of_le s1 hbr.size
    have hB4 := hbb.andB hbr
    by_cases hlt : k < m
    · have E := h.below hB4
      have hw4 := HN.out.2.2.2.2 k (by rw [hl.out]; exact hlt)
      obtain ⟨x, hx⟩ : ∃ x : Nat, x = eaN es k := ⟨_, rfl⟩
      obtain ⟨y, hy⟩ : ∃ y : Nat, y = ebN es k := ⟨_, rfl⟩
      have hxe : ea es k = (x : Int) := by rw [hx]; unfold eaN; omega
      have hye : eb es k = (y : Int) := by rw [hy]; unfold ebN; omega
      have d1 := E.ca k hlt
      have d2 := E.cb k hlt
      have zb := E.blk
      rw [hxe] at d1
      rw [hye] at d2
      have HDX := Lib.hid (fun W => decimal_any x (by omega) W)
      have HDY := Lib.hid (fun W => decimal_any y (by omega) W)
      have hdx := decL_len x
      have hdy := decL_len y
      have HWD : Hid (wdL es k = decL x ++ [45] ++ decL y) := by show _ = _; rw [hx, hy]; rfl
      clear hx hy hxe hye hw4 E
      go_wp2_with fail
      have X := Box2.made w4 (.int .i64 x) (.int .i64 y) 44
      have hb3 : Below w4.heap.size w4 (w4.alloc (.cells #[.int .i64 x, .int .i64 y] 44)) := (Below.refl _ _).alloc (Nat.le_refl _) _
      obtain ⟨w5, hw5⟩ : ∃ w5, w5 = w4.alloc (.cells #[.int .i64 x, .int .i64 y] 44) := ⟨_, rfl⟩
      rw [← hw5] at X hb3 ⊢
      clear hw5 d1 d2
      obtain ⟨t1, t2, t3⟩ := X
      refine wp_region_then 10 (fun i9 v W => match i9 with
        | 0 => v = .slice A k c1
        | 1 => v = .pointer (some ⟨w4.heap.size, 0, none⟩)
        | 2 => v = .int .i64 (x : Int)
        | 3 => TxV (decL x) v
        | 4 => TxV (decL x ++ [45]) v
        | 5 => v = .pointer (some ⟨w4.heap.size, 1, none⟩)
        | 6 => v = .int .i64 (y : Int)
        | 7 => TxV (decL y) v
        | 8 => TxV (decL x ++ [45] ++ decL y) v
        | _ => NewSt w5.heap.size (decL x ++ [45] ++ decL y) v W)
        (fun i => match i with
        | _ => none)
        (fun k W W' => Below W.heap.size W W')  (fun W => Below w5.heap.size w5 W) (by kernel_rfl) (by kernel_rfl) ?_ ?_ ?_ ?_ ?_
      · exact (Below.refl _ _).drew
      · intro i k v W W' hne hd hC hf hE
        match i, hf with
        | 0, hf => exact hf
        | 1, hf => exact hf
        | 2, hf => exact hf
        | 3, hf => exact hf
        | 4, hf => exact hf
        | 5, hf => exact hf
        | 6, hf => exact hf
        | 7, hf => exact hf
        | 8, hf => exact hf
        | _ + 9, hf => exact NewSt.below hf hE
      · intro k W W' hC hE
        exact Below.andB hC hE
      · simp only [List.take_succ_cons, List.take_zero]
        refine ⟨?_, ?_, ?_, ?_, ?_, ?_, ?_, ?_, ?_, ?_, trivial⟩
        · intro a W hC hs hd
          have hW : Below w5.heap.size w5 W := hC
          have e3 : a.tmps[3]?.getD undef = .slice A k c1 := hs 3 (by kernel_rfl)
          refine growsG_none (E := fun W W' => Below W.heap.size W W') rfl ?_
          clear hs hd
          unfold GrowsE
          go_simp
          exact Below.refl _ _
        · intro a W hC hs hd
          have hW : Below w5.heap.size w5 W := hC
          have e5 : a.tmps[5]?.getD undef = .pointer (some ⟨w4.heap.size, 0, none⟩) := hs 5 (by kernel_rfl)
          refine growsG_none (E := fun W W' => Below W.heap.size W W') rfl ?_
          have k0 := (hW.cell (p := ⟨w4.heap.size, 0, none⟩) (t1)).trans (t2)
          have k1 := (hW.cell (p := ⟨w4.heap.size, 1, none⟩) (t1)).trans (t3)
          clear hs hd
          unfold GrowsE
          go_simp
          exact Below.refl _ _
        · intro a W hC hs hd
          have hW : Below w5.heap.size w5 W := hC
          have e14 : (a.tmps[14]?.getD undef) = .pointer (some ⟨w4.heap.size, 0, none⟩) := hd 1 14 (by kernel_rfl) (by kernel_rfl) (by kernel_rfl)
          refine growsG_none (E := fun W W' => Below W.heap.size W W') rfl ?_
          have k0 := (hW.cell (p := ⟨w4.heap.size, 0, none⟩) (t1)).trans (t2)
          have k1 := (hW.cell (p := ⟨w4.heap.size, 1, none⟩) (t1)).trans (t3)
          clear hs hd
          unfold GrowsE
          go_simp
          exact Below.refl _ _
        · intro a W hC hs hd
          have hW : Below w5.heap.size w5 W := hC
          have e15 : (a.tmps[15]?.getD undef) = .int .i64 (x : Int) := hd 2 15 (by kernel_rfl) (by kernel_rfl) (by kernel_rfl)
          refine growsG_none (E := fun W W' => Below W.heap.size W W') rfl ?_
          clear hs hd
          unfold GrowsE
          go_simp
          refine ⟨Below.refl _ _, (HDX.out W).mono ?_⟩
          rintro e w6 ⟨S6, rfl, h6, hb6⟩
          exact ⟨_, rfl, hb6, S6, rfl, h6⟩
        · intro a W hC hs hd
          have hW : Below w5.heap.size w5 W := hC
          have e16 : TxV (decL x) (a.tmps[16]?.getD undef) := hd 3 16 (by kernel_rfl) (by kernel_rfl) (by kernel_rfl)
          obtain ⟨S16, e16, hS16⟩ := e16
          refine growsG_none (E := fun W W' => Below W.heap.size W W') rfl ?_
          have hsz : ¬ (9223372036854775807 < S16.size + 1) := by rw [txt_size hS16]; omega
          clear hs hd
          unfold GrowsE
          go_simp
          exact ⟨Below.refl _ _, _, rfl, by rw [cat_data, hS16]⟩
        · intro a W hC hs hd
          have hW : Below w5.heap.size w5 W := hC
          have e5 : a.tmps[5]?.getD undef = .pointer (some ⟨w4.heap.size, 0, none⟩) := hs 5 (by kernel_rfl)
          refine growsG_none (E := fun W W' => Below W.heap.size W W') rfl ?_
          have k0 := (hW.cell (p := ⟨w4.heap.size, 0, none⟩) (t1)).trans (t2)
          have k1 := (hW.cell (p := ⟨w4.heap.size, 1, none⟩) (t1)).trans (t3)
          clear hs hd
          unfold GrowsE
          go_simp
          exact Below.refl _ _
        · intro a W hC hs hd
          have hW : Below w5.heap.size w5 W := hC
          have e18 : (a.tmps[18]?.getD undef) = .pointer (some ⟨w4.heap.size, 1, none⟩) := hd 5 18 (by kernel_rfl) (by kernel_rfl) (by kernel_rfl)
          refine growsG_none (E := fun W W' => Below W.heap.size W W') rfl ?_
          have k0 := (hW.cell (p := ⟨w4.heap.size, 0, none⟩) (t1)).trans (t2)
          have k1 := (hW.cell (p := ⟨w4.heap.size, 1, none⟩) (t1)).trans (t3)
          clear hs hd
          unfold GrowsE
          go_simp
          exact Below.refl _ _
        · intro a W hC hs hd
          have hW : Below w5.heap.size w5 W := hC
          have e19 : (a.tmps[19]?.getD undef) = .int .i64 (y : Int) := hd 6 19 (by kernel_rfl) (by kernel_rfl) (by kernel_rfl)
          refine growsG_none (E := fun W W' => Below W.heap.size W W') rfl ?_
          clear hs hd
          unfold GrowsE
          go_simp
          refine ⟨Below.refl _ _, (HDY.out W).mono ?_⟩
          rintro e w6 ⟨S6, rfl, h6, hb6⟩
          exact ⟨_, rfl, hb6, S6, rfl, h6⟩
        · intro a W hC hs hd
          have hW : Below w5.heap.size w5 W := hC
          have e17 : TxV (decL x ++ [45]) (a.tmps[17]?.getD undef) := hd 4 17 (by kernel_rfl) (by kernel_rfl) (by kernel_rfl)
          obtain ⟨S17, e17, hS17⟩ := e17
          have e20 : TxV (decL y) (a.tmps[20]?.getD undef) := hd 7 20 (by kernel_rfl) (by kernel_rfl) (by kernel_rfl)
          obtain ⟨S20, e20, hS20⟩ := e20
          refine growsG_none (E := fun W W' => Below W.heap.size W W') rfl ?_
          have hsz : ¬ (9223372036854775807 < S17.size + S20.size) := by rw [txt_size hS17, txt_size hS20, List.length_append]; have : [(45 : UInt8)].length = 1 := rfl; omega
          clear hs hd
          unfold GrowsE
          go_simp
          exact ⟨Below.refl _ _, _, rfl, by rw [cat_data, hS17, hS20]; simp [List.append_assoc]⟩
        · intro a W hC hs hd
          have hW : Below w5.heap.size w5 W := hC
          have e21 : TxV (decL x ++ [45] ++ decL y) (a.tmps[21]?.getD undef) := hd 8 21 (by kernel_rfl) (by kernel_rfl) (by kernel_rfl)
          obtain ⟨S21, e21, hS21⟩ := e21
          refine growsG_none (E := fun W W' => Below W.heap.size W W') rfl ?_
          clear hs hd
          unfold GrowsE
          go_simp
          exact ⟨(Below.refl _ _).alloc (Nat.le_refl _) _, _, _, rfl, hW.size, heap_alloc_new _ _, by rw [hS21]; simp⟩
      intro vs W hW hf
      have f13 : (vs 13) = .slice A k c1 := hf 0 13 (by decide) (by kernel_rfl) (fun _ hk => by cases hk)
      have f14 : (vs 14) = .pointer (some ⟨w4.heap.size, 0, none⟩) := hf 1 14 (by decide) (by kernel_rfl) (fun _ hk => by cases hk)
      have f15 : (vs 15) = .int .i64 (x : Int) := hf 2 15 (by decide) (by kernel_rfl) (fun _ hk => by cases hk)
      have f16 : TxV (decL x) (vs 16) := hf 3 16 (by decide) (by kernel_rfl) (fun _ hk => by cases hk)
      obtain ⟨S16, f16, hS16⟩ := f16
      have f17 : TxV (decL x ++ [45]) (vs 17) := hf 4 17 (by decide) (by kernel_rfl) (fun _ hk => by cases hk)
      obtain ⟨S17, f17, hS17⟩ := f17
      have f18 : (vs 18) = .pointer (some ⟨w4.heap.size, 1, none⟩) := hf 5 18 (by decide) (by kernel_rfl) (fun _ hk => by cases hk)
      have f19 : (vs 19) = .int .i64 (y : Int) := hf 6 19 (by decide) (by kernel_rfl) (fun _ hk => by cases hk)
      have f20 : TxV (decL y) (vs 20) := hf 7 20 (by decide) (by kernel_rfl) (fun _ hk => by cases hk)
      obtain ⟨S20, f20, hS20⟩ := f20
      have f21 : TxV (decL x ++ [45] ++ decL y) (vs 21) := hf 8 21 (by decide) (by kernel_rfl) (fun _ hk => by cases hk)
      obtain ⟨S21, f21, hS21⟩ := f21
      have f22 : NewSt w5.heap.size (decL x ++ [45] ++ decL y) (vs 22) W := hf 9 22 (by decide) (by kernel_rfl) (fun _ hk => by cases hk)
      obtain ⟨H22, S22, f22, hg22, h22, hS22⟩ := f22
      simp only [dsts, List.take_succ_cons, List.take_zero, List.drop_succ_cons, List.drop_zero, List.filterMap_cons, List.filterMap_nil, List.foldl_cons, List.foldl_nil, Act.put, List.setIfInBounds_toArray, List.set_cons_succ, List.set_cons_zero, f13, f14, f15, f16, f17, f18, f19, f20, f21, f22]
      clear hf
      have hW : Below w5.heap.size w5 W := hW
      have h15 := hb3.andB hW
      have OW := O.below h15
      have hbW := hbr.andB h15
      have hzW : w1.heap.size ≤ W.heap.size := hbW.size
      clear hW h15 O hbr q4 p4 s4 t1 t2 t3 hb3 zb
      go_wp2_with (at_builtin; refine wp_appS2 rfl rfl rfl rfl h22 OW hzW (by omega) ?_; intro A6 c6 w6 O6 hg6)
      have hbF : Below w1.heap.size w1 w6 := hbW.grown hg6 hzW (fun g hg => (OW.blk g hg).1)
      go_roundw
      case rel => exact ⟨k + 1, A6, c6, xs ++ [S22], by omega, by go_num, rfl, O6, (by show _ = _; rw [List.map_append, HX.out]; simp only [wds, List.range_succ, List.map_append, List.map_cons, List.map_nil]; rw [hS22, HWD.out]), hbF⟩
      case measure => simp [intOf]; omega
    · obtain rfl : k = m := by omega
      obtain ⟨g, rfl, hg, hmc, hcs⟩ := O.cells hm0
      have hxl := O.1
      have hlen := wds_len es k hm
      have HJ := Lib.hid (fun (W : World) (hz : g < W.heap.size) (hc : ∀ (j : Nat) x, xs[j]? = some x → W.cell? ⟨g, 0 + j, none⟩ = some (.string x)) => shJoin g 0 c1 xs ⟨#[44]⟩ W hc hz (by omega) (by omega) (by rw [HX.out]; show (Lib.join (wds es k) [44]).length ≤ _; omega))
      rw [hxl] at HJ
      obtain ⟨L, hL⟩ : ∃ L, L = Lib.join (xs.map (·.data.toList)) (⟨#[44]⟩ : ByteArray).data.toList := ⟨_, rfl⟩
      have HL : Hid (txT N es k = decL N ++ [58] ++ L) := by show _ = _; rw [txT_join, hL, HX.out]
      have hLl : L.length ≤ 183 := by rw [hL, HX.out]; exact hlen
      rw [← hL] at HJ
      clear hL hlen hxl
      obtain ⟨v, hv⟩ : ∃ v, v = L.toArray := ⟨_, rfl⟩
      have HV := Lib.hid hv
      rw [← hv] at HJ
      clear hv O
      go_wp2_with fail
      refine (HD.out w4).mono ?_
      rintro e w6 ⟨S, rfl, hS, hb6⟩
      have hsz : ¬ (9223372036854775807 < S.size + 1) := by rw [txt_size hS]; omega
      have hB6 := hB4.andB hb6
      have hg6 := Nat.lt_of_lt_of_le hg hb6.size
      have hc6 := Lib.hid (fun (j : Nat) x (hj : xs[j]? = some x) => (hb6.cell (p := ⟨g, 0 + j, none⟩) hg).trans (hcs j x hj))
      go_wp2_with fail
      refine (HJ.out w6 hg6 hc6.out).mono ?_
      rintro e w7 ⟨rfl, hb7⟩
      have hsz3 : (⟨v⟩ : ByteArray).size = L.length := by rw [HV.out]; rfl
      have hsz4 : (S ++ (⟨#[58]⟩ : ByteArray)).size = S.size + 1 := by rw [ByteArray.size_append]; rfl
      have hsz2 : ¬ (9223372036854775807 < (S ++ (⟨#[58]⟩ : ByteArray)).size + (⟨v⟩ : ByteArray).size) := by rw [hsz3, hsz4, txt_size hS]; omega
      go_wp2_with fail
      go_ret
      exact ⟨_, rfl, by rw [cat_data, cat_data, hS, HL.out, HV.out], hB6.andB hb7⟩
end Go.Proofs.YtnoneppmeaeicaaDoor
