import Derived.Deep.RegionWith
import Derived.Test.YtajnhkkiddeegaaGreatZc28
set_option linter.unusedVariables false
set_option linter.unusedSimpArgs false
namespace Go.Proofs.YtajnhkkiddeegaaGreat
open Go.RowKit Go.Sort
theorem l01From_p (A : Option Addr) (l c : Nat) (w : World) (h : Bys0 w A l) (hl : l ≤ 4096) :
    Calls Tryz.prog 51 #[.slice A l c] w (fun e w' => ∃ p : Nat, e = .returned (.pointer (some ⟨p, 0, none⟩)) ∧ w.heap.size ≤ p ∧ Below w.heap.size w w' ∧ SR A l c p w') :=
  (l01From_any A l c w h hl).mono fun _ _ ⟨h1, h2, h3⟩ => ⟨_, h1, Nat.le_refl _, h2, h3⟩
def VecV (p B : Nat) (v : Value) (W : World) : Prop := ∃ (g o m c : Nat) (xs : List Int), v = .slice (some ⟨g, o, none⟩) m c ∧ xs.length = m ∧ B ≤ g ∧ g ≠ p ∧ Ints W g o m (ia xs) ∧ m ≤ 60
theorem VecV.dr {A : Option Addr} {l c p B : Nat} {v : Value} {W W' : World} (h : VecV p B v W) (hb : DR A l c p W W') : VecV p B v W' := by
  obtain ⟨g, o, m, c3, xs, e, hl, hB, hp, I, hm⟩ := h
  exact ⟨g, o, m, c3, xs, e, hl, hB, hp, hb.1.ints I (show ¬ g = p from hp), hm⟩
theorem Kept.box2F {S : Nat → Prop} {w w' : World} (k : Kept S w w') {b : Nat} {v0 v1 : Value} (h : Box2F w b v0 v1) (hs : ¬ S b) : Box2F w' b v0 v1 :=
  ⟨k.box2 h.box hs, (k.frozen h.box.lt hs 0).trans h.f0, (k.frozen h.box.lt hs 1).trans h.f1⟩
theorem OwnL.ints {base : Nat} {w : World} {g m c : Nat} {xs : List Int} (h : OwnL base w (some ⟨g, 0, none⟩) m c xs) : Ints w g 0 m (ia xs) := by
  have := Ints.drop h (Nat.zero_le _)
  rwa [Nat.sub_zero, List.drop_zero] at this
/-- The call returns a graph and a list, whatever they are. -/
def RetDV (w : World) (e : Ending) (w' : World) : Prop := ∃ (n : Int) (g o c' : Nat) (es : List (Int × Int)) (g2 o2 m2 c2 : Nat) (xs : List Int), e = .returned (.tuple #[.agg #[.int .i64 n, .slice (some ⟨g, o, none⟩) es.length c'], .slice (some ⟨g2, o2, none⟩) m2 c2]) ∧ Eds w' g o es.length es ∧ w.heap.size ≤ g ∧ es.length ≤ 60 ∧ xs.length = m2 ∧ w.heap.size ≤ g2 ∧ Ints w' g2 o2 m2 (ia xs) ∧ m2 ≤ 60 ∧ Below w.heap.size w w'
def RetDVV (w : World) (e : Ending) (w' : World) : Prop := ∃ (n : Int) (g o c' : Nat) (es : List (Int × Int)) (g2 o2 m2 c2 : Nat) (xs : List Int) (g3 o3 m3 c3 : Nat) (ys : List Int), e = .returned (.tuple #[.agg #[.int .i64 n, .slice (some ⟨g, o, none⟩) es.length c'], .slice (some ⟨g2, o2, none⟩) m2 c2, .slice (some ⟨g3, o3, none⟩) m3 c3]) ∧ Eds w' g o es.length es ∧ w.heap.size ≤ g ∧ es.length ≤ 60 ∧ xs.length = m2 ∧ w.heap.size ≤ g2 ∧ Ints w' g2 o2 m2 (ia xs) ∧ m2 ≤ 60 ∧ ys.length = m3 ∧ w.heap.size ≤ g3 ∧ Ints w' g3 o3 m3 (ia ys) ∧ m3 ≤ 60 ∧ Below w.heap.size w w'
set_option maxRecDepth 100000 in
set_option maxHeartbeats 2000000 in
theorem l02Draw_any (A : Option Addr) (l c : Nat) (w : World) (hB0 : Bys0 w A l) (hl : l ≤ 4096) : Calls Tryz.prog 71 #[.slice A l c] w (RetDV w) := by
  have KC := cell_rg
  have HB := Lib.hid (Box2F.made w (.int .i64 0) (.slice none 0 0) 26)
  have D1 : Below w.heap.size w (w.alloc (.cells #[.int .i64 0, .slice none 0 0] 26)) := (Below.refl _ _).alloc (Nat.le_refl _) _
  have HFR := Lib.hid (fun W (h : Bys0 W A l) => l01From_p A l c W h hl)
  have HSP := Lib.hid (fun p W (hS : SR A l c p W) => l01Spoil_any A l c p W hS hl)
  have HDF := Lib.hid (fun p (n : Int) (b o m ce : Nat) es W (hS : SR A l c p W) => l02DrawOf_any A l c p n b o m ce es W hS hl)
  go_enter Tryz.func71, Tryz.ntmps71
  go_wp2_with fail
  obtain ⟨w1, hw1⟩ : ∃ w1, w1 = w.alloc (.cells #[.int .i64 0, .slice none 0 0] 26) := ⟨_, rfl⟩
  rw [← hw1] at HB D1 ⊢
  obtain ⟨b4, hb4⟩ : ∃ b4, b4 = w.heap.size := ⟨_, rfl⟩
  have HB4 := Lib.hid hb4
  have hbw4 : w.heap.size = b4 := hb4.symm
  rw [← hb4] at HB ⊢
  clear hw1 hb4
  have hB1 := hB0.below D1
  have hz1 := D1.size
  have hb41 := HB.out.box.lt
  refine (HFR.out _ hB1).mono ?_
  rintro e w2 ⟨p, rfl, hp, D2, S2⟩
  have PB := HB.out.below D2
  have D := D1.andB D2
  have hz2 := D2.size
  have hpz := S2.lt
  clear HB D1 D2 hB1 hB0
  go_wp2_with fail
  refine (HSP.out p w2 S2).mono ?_
  rintro e w3 ⟨n, g, o, c1, es, rfl, E3, hg3, hl3, D3⟩
  have hl3 : es.length ≤ 60 := hl3
  have PB := PB.keptP D3.1 (by omega)
  have D := D.trans (D3.belowB (B := w.heap.size) (by omega) (by omega))
  have hz3 := D3.1.size
  have S3 := D3.2
  clear S2 D3
  go_wp2_with fail
  have X5 := Box2.made w3 (.int .i64 n) (.slice (some ⟨g, o, none⟩) es.length c1) 26
  have hb5 : Below w3.heap.size w3 (w3.alloc (.cells #[.int .i64 n, .slice (some ⟨g, o, none⟩) es.length c1] 26)) := (Below.refl _ _).alloc (Nat.le_refl _) _
  obtain ⟨w4, hw4⟩ : ∃ w4, w4 = w3.alloc (.cells #[.int .i64 n, .slice (some ⟨g, o, none⟩) es.length c1] 26) := ⟨_, rfl⟩
  rw [← hw4] at X5 hb5 ⊢
  have hz4 : w4.heap.size ≤ w3.heap.size + 1 ∧ w3.heap.size + 1 ≤ w4.heap.size := by rw [hw4]; simp
  obtain ⟨x5, hx5⟩ : ∃ x5, x5 = w3.heap.size := ⟨_, rfl⟩
  rw [← hx5] at X5 ⊢
  have E4 := E3.below hb5
  have PB := PB.below hb5
  have S4 := S3.below hb5
  have D := D.andB hb5
  have HSR := Lib.hid S4
  have hgp : g ≠ p ∧ x5 ≠ p := by omega
  have HDO := Lib.hid (fun W (hW : DR A l c p w4 W) => HDF.out p n g o es.length c1 es W hW.2 (hW.1.eds E4 hgp.1) hgp.1 hl3)
  obtain ⟨s5, p5, q5⟩ := X5
  clear hw4 hx5 E3 S3 hb5
  refine wp_region_then 4 (fun i9 v W => match i9 with
    | 0 => v = .agg #[.int .i64 n, .slice (some ⟨g, o, none⟩) es.length c1]
    | 1 => v = .pointer (some ⟨p, 0, none⟩)
    | 2 => v = .agg #[.int .i64 n, .slice (some ⟨g, o, none⟩) es.length c1]
    | _ => VecV p w4.heap.size v W)
    (fun i => match i with
    | _ => none)
    (fun _ W W' => DR A l c p W W')  (fun W => DR A l c p w4 W) (by kernel_rfl) (by kernel_rfl) ?_ ?_ ?_ ?_ ?_
  · exact DR.ofB HSR.out ((Below.refl _ _).drew)
  · intro i k v W W' hne hd hC hf hE
    match i, hf with
    | 0, hf => exact hf
    | 1, hf => exact hf
    | 2, hf => exact hf
    | _ + 3, hf => exact VecV.dr hf hE
  · intro k W W' hC hE
    exact DR.trans hC hE
  · simp only [List.take_succ_cons, List.take_zero]
    refine ⟨?_, ?_, ?_, ?_, trivial⟩
    · intro a W hC hs hd
      have hW : DR A l c p w4 W := hC
      have e5 : a.tmps[5]?.getD undef = .pointer (some ⟨x5, 0, none⟩) := hs 5 (by kernel_rfl)
      refine growsG_none (E := fun W W' => DR A l c p W W') rfl ?_
      have k0 := (hW.cell (a := ⟨x5, 0, none⟩) (s5) (by simp only; omega) rfl).trans (p5)
      have k1 := (hW.cell (a := ⟨x5, 1, none⟩) (s5) (by simp only; omega) rfl).trans (q5)
      clear hs hd
      unfold GrowsE
      go_simp
      exact DR.refl hW.2
    · intro a W hC hs hd
      have hW : DR A l c p w4 W := hC
      have e4 : a.tmps[4]?.getD undef = .pointer (some ⟨p, 0, none⟩) := hs 4 (by kernel_rfl)
      refine growsG_none (E := fun W W' => DR A l c p W W') rfl ?_
      clear hs hd
      unfold GrowsE
      go_simp
      exact DR.refl hW.2
    · intro a W hC hs hd
      have hW : DR A l c p w4 W := hC
      have e5 : a.tmps[5]?.getD undef = .pointer (some ⟨x5, 0, none⟩) := hs 5 (by kernel_rfl)
      refine growsG_none (E := fun W W' => DR A l c p W W') rfl ?_
      have k0 := (hW.cell (a := ⟨x5, 0, none⟩) (s5) (by simp only; omega) rfl).trans (p5)
      have k1 := (hW.cell (a := ⟨x5, 1, none⟩) (s5) (by simp only; omega) rfl).trans (q5)
      clear hs hd
      unfold GrowsE
      go_simp
      exact DR.refl hW.2
    · intro a W hC hs hd
      have hW : DR A l c p w4 W := hC
      have e11 : (a.tmps[11]?.getD undef) = .pointer (some ⟨p, 0, none⟩) := hd 1 11 (by kernel_rfl) (by kernel_rfl) (by kernel_rfl)
      have e12 : (a.tmps[12]?.getD undef) = .agg #[.int .i64 n, .slice (some ⟨g, o, none⟩) es.length c1] := hd 2 12 (by kernel_rfl) (by kernel_rfl) (by kernel_rfl)
      refine growsG_none (E := fun W W' => DR A l c p W W') rfl ?_
      clear hs hd
      unfold GrowsE
      go_simp
      refine ⟨Below.refl _ _, (HDO.out W hW).mono ?_⟩
      rintro e w9 ⟨g9, o9, m9, c9, xs9, rfl, hl9, hg9, I9, hm9, D9⟩
      exact ⟨_, rfl, D9, g9, o9, m9, c9, xs9, rfl, hl9, (by have := hW.1.size; omega), (by have := hW.2.lt; omega), I9, hm9⟩
  intro vs W hW hf
  have f10 : (vs 10) = .agg #[.int .i64 n, .slice (some ⟨g, o, none⟩) es.length c1] := hf 0 10 (by decide) (by kernel_rfl) (fun _ hk => by cases hk)
  have f11 : (vs 11) = .pointer (some ⟨p, 0, none⟩) := hf 1 11 (by decide) (by kernel_rfl) (fun _ hk => by cases hk)
  have f12 : (vs 12) = .agg #[.int .i64 n, .slice (some ⟨g, o, none⟩) es.length c1] := hf 2 12 (by decide) (by kernel_rfl) (fun _ hk => by cases hk)
  have f13 : VecV p w4.heap.size (vs 13) W := hf 3 13 (by decide) (by kernel_rfl) (fun _ hk => by cases hk)
  obtain ⟨g2, o2, m2, c2, xs, f13, hxl, hg2, hgp2, I2, hm2⟩ := f13
  simp only [dsts, List.take_succ_cons, List.take_zero, List.drop_succ_cons, List.drop_zero, List.filterMap_cons, List.filterMap_nil, List.foldl_cons, List.foldl_nil, Act.put, List.setIfInBounds_toArray, List.set_cons_succ, List.set_cons_zero, f10, f11, f12, f13]
  clear hf
  have hW : DR A l c p w4 W := hW
  have E8 := hW.1.eds E4 hgp.1
  have PW := PB.keptP hW.1 (by omega)
  have DW : Below w.heap.size w W := D.trans (hW.belowB (by omega) (by omega))
  clear hW E4 S4 D PB s5 p5 q5
  have hb4l := PW.box.lt
  have P9 := PW.set2 (.int .i64 n) (.slice (some ⟨g, o, none⟩) es.length c1)
  have D9 : Below w.heap.size w ((_ : World).setCell ⟨b4, 0, none⟩ (.int .i64 n) |>.setCell ⟨b4, 1, none⟩ (.slice (some ⟨g, o, none⟩) es.length c1)) := (DW.setCell (p := ⟨b4, 0, none⟩) (by simp only; omega) (.int .i64 n)).setCell (p := ⟨b4, 1, none⟩) (by simp only; omega) (.slice (some ⟨g, o, none⟩) es.length c1)
  have E9 := (E8.setOther (a := ⟨b4, 0, none⟩) (by simp only; omega) (.int .i64 n)).setOther (a := ⟨b4, 1, none⟩) (by simp only; omega) (.slice (some ⟨g, o, none⟩) es.length c1)
  have I29 := (I2.set (a := ⟨b4, 0, none⟩) (by simp only; omega) (.int .i64 n)).set (a := ⟨b4, 1, none⟩) (by simp only; omega) (.slice (some ⟨g, o, none⟩) es.length c1)
  obtain ⟨⟨sW, pW, qW⟩, fW, gW⟩ := PW
  clear E8 DW I2
  go_wp2_with fail
  generalize hw9 : (World.setCell (World.setCell _ ⟨b4, 0, none⟩ (.int .i64 n)) ⟨b4, 1, none⟩ (.slice (some ⟨g, o, none⟩) es.length c1)) = w9 at E9 P9 D9 I29 ⊢
  clear hw9 pW qW
  obtain ⟨⟨k0, k1, k2⟩, _, _⟩ := P9
  refine bodyPost_ret (v := .tuple #[.agg #[.int .i64 n, .slice (some ⟨g, o, none⟩) es.length c1], .slice (some ⟨g2, o2, none⟩) m2 c2]) ?_ rfl ⟨n, g, o, c1, es, g2, o2, m2, c2, xs, rfl, E9, by omega, hl3, hxl, by omega, I29, hm2, D9⟩
  simp [results, Tryz.results71, go_sem, k1, k2]
set_option maxRecDepth 100000 in
set_option maxHeartbeats 1000000 in
theorem drawIsColouring_any (A : Option Addr) (l c : Nat) (w : World) (hB0 : Bys0 w A l) (hl : l ≤ 4096) : Calls Tryz.prog 22 #[.slice A l c] w (RetDV w) := by
  have KC := cell_rg
  have HB := Lib.hid (Box2F.made w (.int .i64 0) (.slice none 0 0) 26)
  have D1 : Below w.heap.size w (w.alloc (.cells #[.int .i64 0, .slice none 0 0] 26)) := (Below.refl _ _).alloc (Nat.le_refl _) _
  have HD := Lib.hid (fun W (h : Bys0 W A l) => l02Draw_any A l c W h hl)
  go_enter Tryz.func22, Tryz.ntmps22
  go_wp2_with fail
  obtain ⟨w1, hw1⟩ : ∃ w1, w1 = w.alloc (.cells #[.int .i64 0, .slice none 0 0] 26) := ⟨_, rfl⟩
  rw [← hw1] at HB D1 ⊢
  obtain ⟨b4, hb4⟩ : ∃ b4, b4 = w.heap.size := ⟨_, rfl⟩
  have HB4 := Lib.hid hb4
  have hbw4 : w.heap.size = b4 := hb4.symm
  rw [← hb4] at HB ⊢
  clear hw1 hb4
  have hB1 := hB0.below D1
  have hz1 := D1.size
  have hb41 := HB.out.box.lt
  refine (HD.out _ hB1).mono ?_
  rintro e w8 ⟨n, g, o, c1, es, g2, o2, m2, c2, xs, rfl, E8, hg, hl3, hxl, hg2, I2, hm2, D8⟩
  have PW := HB.out.below D8
  have DW := D1.andB D8
  clear HB D1 D8 hB1 hB0
  have hb4l := PW.box.lt
  have P9 := PW.set2 (.int .i64 n) (.slice (some ⟨g, o, none⟩) es.length c1)
  have D9 : Below w.heap.size w ((_ : World).setCell ⟨b4, 0, none⟩ (.int .i64 n) |>.setCell ⟨b4, 1, none⟩ (.slice (some ⟨g, o, none⟩) es.length c1)) := (DW.setCell (p := ⟨b4, 0, none⟩) (by simp only; omega) (.int .i64 n)).setCell (p := ⟨b4, 1, none⟩) (by simp only; omega) (.slice (some ⟨g, o, none⟩) es.length c1)
  have E9 := (E8.setOther (a := ⟨b4, 0, none⟩) (by simp only; omega) (.int .i64 n)).setOther (a := ⟨b4, 1, none⟩) (by simp only; omega) (.slice (some ⟨g, o, none⟩) es.length c1)
  have I29 := (I2.set (a := ⟨b4, 0, none⟩) (by simp only; omega) (.int .i64 n)).set (a := ⟨b4, 1, none⟩) (by simp only; omega) (.slice (some ⟨g, o, none⟩) es.length c1)
  obtain ⟨⟨sW, pW, qW⟩, fW, gW⟩ := PW
  clear E8 DW I2
  go_wp2_with fail
  generalize hw9 : (World.setCell (World.setCell _ ⟨b4, 0, none⟩ (.int .i64 n)) ⟨b4, 1, none⟩ (.slice (some ⟨g, o, none⟩) es.length c1)) = w9 at E9 P9 D9 I29 ⊢
  clear hw9 pW qW
  obtain ⟨⟨k0, k1, k2⟩, _, _⟩ := P9
  refine bodyPost_ret (v := .tuple #[.agg #[.int .i64 n, .slice (some ⟨g, o, none⟩) es.length c1], .slice (some ⟨g2, o2, none⟩) m2 c2]) ?_ rfl ⟨n, g, o, c1, es, g2, o2, m2, c2, xs, rfl, E9, by omega, hl3, hxl, by omega, I29, hm2, D9⟩
  simp [results, Tryz.results22, go_sem, k1, k2]
set_option maxRecDepth 100000 in
set_option maxHeartbeats 800000 in
theorem drawAreAlike_any (A : Option Addr) (l c : Nat) (w : World) (hB0 : Bys0 w A l) (hl : l ≤ 4096) : Calls Tryz.prog 19 #[.slice A l c] w (RetDVV w) := by
  have KC := cell_rg
  have HB := Lib.hid (Box2F.made w (.int .i64 0) (.slice none 0 0) 26)
  have D1 : Below w.heap.size w (w.alloc (.cells #[.int .i64 0, .slice none 0 0] 26)) := (Below.refl _ _).alloc (Nat.le_refl _) _
  have HFR := Lib.hid (fun W (h : Bys0 W A l) => l01From_p A l c W h hl)
  have HSP := Lib.hid (fun p W (hS : SR A l c p W) => l01Spoil_any A l c p W hS hl)
  have HDF := Lib.hid (fun p (n : Int) (b o m ce : Nat) es W (hS : SR A l c p W) => l02DrawOf_any A l c p n b o m ce es W hS hl)
  have HNX := Lib.hid (fun p (k : Int) W (hS : SR A l c p W) => l01Next_any A l c p k W hS hl)
  go_enter Tryz.func19, Tryz.ntmps19
  go_wp2_with fail
  obtain ⟨w1, hw1⟩ : ∃ w1, w1 = w.alloc (.cells #[.int .i64 0, .slice none 0 0] 26) := ⟨_, rfl⟩
  rw [← hw1] at HB D1 ⊢
  obtain ⟨b4, hb4⟩ : ∃ b4, b4 = w.heap.size := ⟨_, rfl⟩
  have HB4 := Lib.hid hb4
  have hbw4 : w.heap.size = b4 := hb4.symm
  rw [← hb4] at HB ⊢
  clear hw1 hb4
  have hB1 := hB0.below D1
  have hz1 := D1.size
  have hb41 := HB.out.box.lt
  refine (HFR.out _ hB1).mono ?_
  rintro e w2 ⟨p, rfl, hp, D2, S2⟩
  have PB := HB.out.below D2
  have D := D1.andB D2
  have hz2 := D2.size
  have hpz := S2.lt
  clear HB D1 D2 hB1 hB0
  go_wp2_with fail
  refine (HSP.out p w2 S2).mono ?_
  rintro e w3 ⟨n, g, o, c1, es, rfl, E3, hg3, hl3, D3⟩
  have hl3 : es.length ≤ 60 := hl3
  have PB := PB.keptP D3.1 (by omega)
  have D := D.trans (D3.belowB (B := w.heap.size) (by omega) (by omega))
  have hz3 := D3.1.size
  have S3 := D3.2
  clear S2 D3
  go_wp2_with fail
  have X5 := Box2.made w3 (.int .i64 n) (.slice (some ⟨g, o, none⟩) es.length c1) 26
  have hb5 : Below w3.heap.size w3 (w3.alloc (.cells #[.int .i64 n, .slice (some ⟨g, o, none⟩) es.length c1] 26)) := (Below.refl _ _).alloc (Nat.le_refl _) _
  obtain ⟨w4, hw4⟩ : ∃ w4, w4 = w3.alloc (.cells #[.int .i64 n, .slice (some ⟨g, o, none⟩) es.length c1] 26) := ⟨_, rfl⟩
  rw [← hw4] at X5 hb5 ⊢
  have hz4 : w4.heap.size ≤ w3.heap.size + 1 ∧ w3.heap.size + 1 ≤ w4.heap.size := by rw [hw4]; simp
  obtain ⟨x6, hx6⟩ : ∃ x6, x6 = w3.heap.size := ⟨_, rfl⟩
  rw [← hx6] at X5 ⊢
  have E4 := E3.below hb5
  have PB := PB.below hb5
  have S4 := S3.below hb5
  have D := D.andB hb5
  have hgp : g ≠ p ∧ x6 ≠ p := by omega
  have HDO := Lib.hid (fun W (hS : SR A l c p W) (hE : Eds W g o es.length es) => HDF.out p n g o es.length c1 es W hS hE hgp.1 hl3)
  clear hw4 hx6 E3 S3 hb5
  refine (HDO.out w4 S4 E4).mono ?_
  rintro e w5 ⟨ga, oa, ma, ca, av, rfl, hal, hga, Ia, hma, D5⟩
  have PB := PB.keptP D5.1 (by omega)
  have E5 := D5.1.eds E4 hgp.1
  have X5 := D5.1.box2 X5 hgp.2
  have S5 := D5.2
  have D := D.trans (D5.belowB (B := w.heap.size) (by omega) (by omega))
  have hz5 := D5.1.size
  have hgap : ga ≠ p := by omega
  have HIS := Lib.hid (l01Is_any n g o es.length c1 es w5 E5 (by omega))
  have HI2 := Lib.hid (fun W (h : Eds W g o es.length es) (hG : IsG n es) (I : Ints W ga oa ma (ia av)) => l02Is_any n g o es.length c1 ga oa ma ca es (ia av) W h (by omega) hG I (by omega))
  clear D5 E4 S4
  go_upto_region 4 with fail
  go_cut [29] from 11 (fun s29 wx => ∃ bb : Bool, s29 = .bool bb ∧ DR A l c p w5 wx)
  case first =>
    have XC := X5
    obtain ⟨s6, p6, q6⟩ := XC
    go_wp2_with fail
    refine HIS.out.mono ?_
    rintro e w6 ⟨rfl, hb6⟩
    have D6 := DR.ofB S5 hb6
    have E6 := E5.below hb6
    have X6 := X5.below hb6
    have I6 := Ia.below hb6
    clear E5 X5 Ia s6 p6 q6 hb6
    by_cases hG : IsG n es
    · have HI3 := Lib.hid (HI2.out w6 E6 hG I6)
      rw [B_true hG]
      obtain ⟨s6, p6, q6⟩ := X6
      clear hG E6 I6
      go_wp2_with fail
      refine HI3.out.mono ?_
      rintro e w7 ⟨rfl, hb7⟩
      have D7 := D6.thenB hb7
      clear D6 s6 p6 q6
      cases hcB : colB es (ia av) ma with
      | false =>
        go_wp2_with fail
        go_meet
        case rel => exact ⟨false, rfl, D7⟩
      | true =>
        go_wp2_with fail
        refine (HNX.out p 2 _ D7.2).mono ?_
        rintro e w8 ⟨y, rfl, _, D8⟩
        have D8 := D7.trans D8
        clear D7
        by_cases hy : y = 0
        · subst hy
          go_wp2_with fail
          go_meet
          case rel => exact ⟨true, rfl, D8⟩
        · have hyb : (y == 0) = false := by simp; omega
          go_wp2_with fail
          go_meet
          case rel => exact ⟨false, rfl, D8⟩
    · rw [B_false hG]
      clear hG E6 I6 X6
      go_wp2_with fail
      go_meet
      case rel => exact ⟨false, rfl, D6⟩
  obtain ⟨bb, rfl, D6⟩ := hcut
  obtain ⟨w6, rfl⟩ : ∃ w6, w6 = wc := ⟨wc, rfl⟩
  have PB := PB.keptP D6.1 (by omega)
  have E6 := D6.1.eds E5 hgp.1
  have X6 := D6.1.box2 X5 hgp.2
  have I6 := D6.1.ints Ia (show ¬ ga = p from hgap)
  have D := D.trans (D6.belowB (B := w.heap.size) (by omega) (by omega))
  have hz6 := D6.1.size
  have S6 := D6.2
  clear D6 E5 X5 Ia S5 HIS HI2
  cases bb with
  | false =>
    have hpz6 : p < w6.heap.size := S6.lt
    have HEX := Lib.hid (fun W (hb : Below w6.heap.size w6 W) => E6.below hb)
    have HIA := Lib.hid (fun W (hb : Below w6.heap.size w6 W) => I6.below hb)
    have hww6 : w.heap.size ≤ w6.heap.size := by omega
    have HBD2 := Lib.hid (fun W (hb : Below w6.heap.size w6 W) => hb)
    have HBD := Lib.hid (fun W (hb : Below w6.heap.size w6 W) => (hb.mono (show w.heap.size ≤ w6.heap.size by omega)))
    have HDX := Lib.hid (fun W (hb : Below w6.heap.size w6 W) => HDO.out W (S6.below hb) (E6.below hb))
    have HXX := Lib.hid (fun W (hb : Below w6.heap.size w6 W) => X6.below hb)
    have HPB := Lib.hid (fun W (hb : Below w6.heap.size w6 W) => PB.below hb)
    have XC := X6
    obtain ⟨s6, p6, q6⟩ := XC
    go_upto_region 11 with fail
    go_region_with (go_at_call 64; refine (HDX.out _ (by go_grown)).mono ?_; rintro e w7 ⟨g2, o2, m2, c2, xs, rfl, hxl, hg2, I2, hm2, D7⟩; obtain ⟨s7, p7, q7⟩ := D7.1.box2 (HXX.out _ (by go_grown)) hgp.2; obtain ⟨⟨s8, p8, q8⟩, f8, f9⟩ := (HPB.out _ (by go_grown)).keptP D7.1 (by omega))
    all_goals (
      have E8 := D7.1.eds (HEX.out _ (by go_grown)) hgp.1
      have PW := (HPB.out _ (by go_grown)).keptP D7.1 (by omega)
      have Ja := D7.1.ints (HIA.out _ (by go_grown)) (show ¬ ga = p from hgap)
      have hz67 : w6.heap.size ≤ w7.heap.size := D7.1.size
      have hg2 : w6.heap.size ≤ g2 := hg2
      have DW : Below w.heap.size w w7 := (D.trans (HBD.out _ (by go_grown))).trans (D7.belowB (B := w.heap.size) (Nat.le_trans hww6 (HBD2.out _ (by go_grown)).size) (by omega))
      clear p6 q6 p7 q7 p8 q8 f8 f9
      have hb4l := PW.box.lt
      have P9 := PW.set2 (.int .i64 n) (.slice (some ⟨g, o, none⟩) es.length c1)
      have D9 : Below w.heap.size w ((_ : World).setCell ⟨b4, 0, none⟩ (.int .i64 n) |>.setCell ⟨b4, 1, none⟩ (.slice (some ⟨g, o, none⟩) es.length c1)) := (DW.setCell (p := ⟨b4, 0, none⟩) (by simp only; omega) (.int .i64 n)).setCell (p := ⟨b4, 1, none⟩) (by simp only; omega) (.slice (some ⟨g, o, none⟩) es.length c1)
      have E9 := (E8.setOther (a := ⟨b4, 0, none⟩) (by simp only; omega) (.int .i64 n)).setOther (a := ⟨b4, 1, none⟩) (by simp only; omega) (.slice (some ⟨g, o, none⟩) es.length c1)
      have Ja9 := (Ja.set (a := ⟨b4, 0, none⟩) (by simp only; omega) (.int .i64 n)).set (a := ⟨b4, 1, none⟩) (by simp only; omega) (.slice (some ⟨g, o, none⟩) es.length c1)
      have I29 := (I2.set (a := ⟨b4, 0, none⟩) (by simp only; omega) (.int .i64 n)).set (a := ⟨b4, 1, none⟩) (by simp only; omega) (.slice (some ⟨g, o, none⟩) es.length c1)
      obtain ⟨⟨sW, pW, qW⟩, fW, gW⟩ := PW
      clear E8 DW Ja I2
      go_wp2_with fail
      generalize hw9 : (World.setCell (World.setCell _ ⟨b4, 0, none⟩ (.int .i64 n)) ⟨b4, 1, none⟩ (.slice (some ⟨g, o, none⟩) es.length c1)) = w9 at E9 P9 D9 Ja9 I29 ⊢
      clear hw9 pW qW
      obtain ⟨⟨k0, k1, k2⟩, _, _⟩ := P9
      refine bodyPost_ret (v := .tuple #[.agg #[.int .i64 n, .slice (some ⟨g, o, none⟩) es.length c1], .slice (some ⟨ga, oa, none⟩) ma ca, .slice (some ⟨g2, o2, none⟩) m2 c2]) ?_ rfl ⟨n, g, o, c1, es, ga, oa, ma, ca, av, g2, o2, m2, c2, xs, rfl, E9, by omega, hl3, hal, by omega, Ja9, hma, hxl, by omega, I29, hm2, D9⟩
      simp [results, Tryz.results19, go_sem, k1, k2])
  | true =>
    have HNY := Lib.hid (HNX.out p 3 (w6.alloc (.cells #[] 2)) (S6.below ((Below.refl _ _).alloc (Nat.le_refl _) _)))
    go_upto_region 6 with (go_at_call 66; refine HNY.out.mono ?_; rintro e w7 ⟨y, rfl, _, D7⟩)
    clear HNY
    have ha : Below w6.heap.size w6 (w6.alloc (.cells #[] 2)) := (Below.refl _ _).alloc (Nat.le_refl _) _
    have O7 : OwnL w6.heap.size w7 (some ⟨w6.heap.size, 0, none⟩) 0 0 [] := (OwnL.empty w6.heap.size (w6.alloc (.cells #[] 2)) _ (Nat.le_refl _) (heap_alloc_new w6 _)).keptP D7.1 (by have := S6.lt; exact this)
    have hPB6 := PB.box.lt
    have PB := (PB.below ha).keptP D7.1 (by omega)
    have E7 := D7.1.eds (E6.below ha) hgp.1
    have X7 := D7.1.box2 (X6.below ha) hgp.2
    have I7 := D7.1.ints (I6.below ha) (show ¬ ga = p from hgap)
    have hza := ha.size
    have hz7 := D7.1.size
    have hpz6 := S6.lt
    have D := (D.andB ha).trans (D7.belowB (B := w.heap.size) (by omega) (by omega))
    have hz67 : w6.heap.size ≤ w7.heap.size := Nat.le_trans hza hz7
    have hlts : ga < w6.heap.size ∧ g < w6.heap.size ∧ x6 < w6.heap.size ∧ b4 < w6.heap.size := ⟨I6.blk, E6.blk, X6.lt, hPB6⟩
    clear D7 E6 X6 I6 S6 ha
    go_wp2_with fail
    go_loopw [8, 10] (fun ov fv wv => ∃ (f g1 c7 : Nat) (xs : List Int), f ≤ ma ∧ fv = .int .i64 f ∧ ov = .slice (some ⟨g1, 0, none⟩) f c7 ∧ OwnL w6.heap.size wv (some ⟨g1, 0, none⟩) f c7 xs ∧ Below w6.heap.size w7 wv) (fun _ fv _ => ma - (intOf fv).toNat)
    case atStart => exact ⟨0, _, _, [], Nat.zero_le _, rfl, rfl, O7, Below.refl _ _⟩
    case round =>
      clear O7
      obtain ⟨f, g1, c7, xs, hf, rfl, rfl, O, hbv⟩ := hrel
      have hg1 := O.blk g1 rfl
      have K := Kept.ofB (S := fun k => w6.heap.size ≤ k) hbv (fun k hk _ => hk)
      have I := K.ints I7 (show ¬ w6.heap.size ≤ ga by omega)
      have hzv : w6.heap.size ≤ wr.heap.size := Nat.le_trans hz67 hbv.size
      by_cases hlt : f < ma
      · have hwf : IntKind.i64.wrap ((f : Int) + 1) = (f : Int) + 1 := IntWalk.i64_in _ (by omega)
        have d1 := I.c f hlt
        have zI := I.blk
        clear I K
        go_wp2_with (at_builtin; refine wp_appL1 rfl rfl rfl rfl (by simp) O hzv (by omega) ?_; intro A8 c8 w8 O8 hg8 hat8)
        obtain ⟨g8, rfl⟩ : ∃ g8, A8 = some ⟨g8, 0, none⟩ := by
          rcases O8.cases with ⟨_, h0, _⟩ | ⟨g, e, _⟩
          · omega
          · exact ⟨g, e⟩
        have hb8 : Below w6.heap.size w7 w8 := hbv.grown hg8 hzv (fun x hx => (O.blk x hx).1)
        go_roundw
        case rel => exact ⟨f + 1, g8, c8, _, by omega, by go_num, rfl, O8, hb8⟩
        case measure => simp [intOf]; omega
      · obtain rfl : f = ma := by omega
        have E8 := K.eds E7 (show ¬ w6.heap.size ≤ g by omega)
        have X8 := K.box2 X7 (show ¬ w6.heap.size ≤ x6 by omega)
        have PW := K.box2F PB (show ¬ w6.heap.size ≤ b4 by omega)
        have DW : Below w.heap.size w wr := D.trans (hbv.mono (by omega))
        have J1 := O.ints
        have hxl := O.1
        obtain ⟨s6, p6, q6⟩ := X8
        clear K O hbv
        have hb4l := PW.box.lt
        have P9 := PW.set2 (.int .i64 n) (.slice (some ⟨g, o, none⟩) es.length c1)
        have D9 : Below w.heap.size w ((_ : World).setCell ⟨b4, 0, none⟩ (.int .i64 n) |>.setCell ⟨b4, 1, none⟩ (.slice (some ⟨g, o, none⟩) es.length c1)) := (DW.setCell (p := ⟨b4, 0, none⟩) (by simp only; omega) (.int .i64 n)).setCell (p := ⟨b4, 1, none⟩) (by simp only; omega) (.slice (some ⟨g, o, none⟩) es.length c1)
        have E9 := (E8.setOther (a := ⟨b4, 0, none⟩) (by simp only; omega) (.int .i64 n)).setOther (a := ⟨b4, 1, none⟩) (by simp only; omega) (.slice (some ⟨g, o, none⟩) es.length c1)
        have I9 := (I.set (a := ⟨b4, 0, none⟩) (by simp only; omega) (.int .i64 n)).set (a := ⟨b4, 1, none⟩) (by simp only; omega) (.slice (some ⟨g, o, none⟩) es.length c1)
        have J19 := (J1.set (a := ⟨b4, 0, none⟩) (by simp only; omega) (.int .i64 n)).set (a := ⟨b4, 1, none⟩) (by simp only; omega) (.slice (some ⟨g, o, none⟩) es.length c1)
        obtain ⟨⟨sW, pW, qW⟩, fW, gW⟩ := PW
        clear E8 DW I J1
        go_wp2_with fail
        generalize hw9 : (World.setCell (World.setCell _ ⟨b4, 0, none⟩ (.int .i64 n)) ⟨b4, 1, none⟩ (.slice (some ⟨g, o, none⟩) es.length c1)) = w9 at E9 P9 D9 I9 J19 ⊢
        clear hw9 pW qW
        obtain ⟨⟨k0, k1, k2⟩, _, _⟩ := P9
        refine bodyPost_ret (v := .tuple #[.agg #[.int .i64 n, .slice (some ⟨g, o, none⟩) es.length c1], .slice (some ⟨ga, oa, none⟩) f ca, .slice (some ⟨g1, 0, none⟩) f c7]) ?_ rfl ⟨n, g, o, c1, es, ga, oa, f, ca, av, g1, 0, f, c7, xs, rfl, E9, by omega, hl3, hal, by omega, I9, hma, hxl, by omega, J19, hma, D9⟩
        simp [results, Tryz.results19, go_sem, k1, k2]
end Go.Proofs.YtajnhkkiddeegaaGreat
