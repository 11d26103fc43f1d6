import Derived.Test.YtajnhkkiddeegaaGreatZp22
set_option linter.unusedVariables false
set_option linter.unusedSimpArgs false
namespace Go.Proofs.YtajnhkkiddeegaaGreat
open Go.RowKit Go.Sort
def Le60 (_ : Int) (es : List (Int × Int)) : Prop := es.length ≤ 60
set_option maxRecDepth 100000 in
set_option maxHeartbeats 2000000 in
theorem l01Spoil_any (A : Option Addr) (l c p : Nat) (w : World) (S : SR A l c p w) (hl : l ≤ 4096) :
    Calls Tryz.prog 50 #[.pointer (some ⟨p, 0, none⟩)] w (RetD Le60 A l c p w) := by
  have hpw := S.lt
  have HS0 := Lib.hid S
  have KC := cell_rg
  have HB := Lib.hid (Box2F.made w (.int .i64 0) (.slice none 0 0) 26)
  have D1 : DR A l c p w (w.alloc (.cells #[.int .i64 0, .slice none 0 0] 26)) := DR.ofB S ((Below.refl _ _).alloc (Nat.le_refl _) _)
  have HDW := Lib.hid (fun W (hS : SR A l c p W) => l01Draw_any A l c p W hS hl)
  have HBD := Lib.hid (fun (N b o m ce : Nat) es W (hS : SR A l c p W) => l01Bad_any A l c p N b o m ce es W hS hl)
  clear S
  go_enter Tryz.func50, Tryz.ntmps50
  go_wp2_with fail
  obtain ⟨w1, hw1⟩ : ∃ w1, w1 = w.alloc (.cells #[.int .i64 0, .slice none 0 0] 26) := ⟨_, rfl⟩
  rw [← hw1] at HB D1 ⊢
  obtain ⟨b4, hb4⟩ : ∃ b4, b4 = w.heap.size := ⟨_, rfl⟩
  have HB4 := Lib.hid hb4
  have hbw4 : w.heap.size = b4 := hb4.symm
  rw [← hb4] at HB ⊢
  have hpb : p < b4 := by omega
  clear hw1 hb4
  refine (HDW.out _ D1.2).mono ?_
  rintro e w2 ⟨n, g, o, c1, es, rfl, E, hg, ⟨N, rfl, hN2, hN40, hl0, hl60⟩, D2⟩
  have PB := HB.out.keptP D2.1 (by omega)
  have hz2 := D2.1.size
  have hz1 := D1.1.size
  have hbz := PB.box.lt
  have hb41 := HB.out.box.lt
  have D := D1.trans D2
  have HX := Lib.hid (HBD.out N g o es.length c1 es w2 D2.2 hN40 E (by omega) ⟨hl0, hl60⟩)
  clear HB D1 D2
  go_wp2_with fail
  refine HX.out.mono ?_
  rintro e w8 ⟨n8, g6, o6, c6, SL, rfl, E8, hg8, hl8, D8⟩
  have PW := PB.keptP D8.1 (by omega)
  have DW := D.trans D8
  have hg6 : b4 ≠ g6 ∧ w.heap.size ≤ g6 := by omega
  have hb4l := PW.box.lt
  have P9 := PW.set2 (.int .i64 n8) (.slice (some ⟨g6, o6, none⟩) SL.length c6)
  have D9 := DR.set2 HS0.out DW (b := b4) (by omega) (.int .i64 n8) (.slice (some ⟨g6, o6, none⟩) SL.length c6)
  have E9 := (E8.setOther (a := ⟨b4, 0, none⟩) (by simp only; omega) (.int .i64 n8)).setOther (a := ⟨b4, 1, none⟩) (by simp only; omega) (.slice (some ⟨g6, o6, none⟩) SL.length c6)
  obtain ⟨⟨sW, pW, qW⟩, fW, gW⟩ := PW
  clear E8 DW
  go_wp2_with fail
  generalize hw9 : (World.setCell (World.setCell _ ⟨b4, 0, none⟩ (.int .i64 n8)) ⟨b4, 1, none⟩ (.slice (some ⟨g6, o6, none⟩) SL.length c6)) = w9 at E9 P9 D9 ⊢
  clear hw9 pW qW
  obtain ⟨⟨k0, k1, k2⟩, _, _⟩ := P9
  refine bodyPost_ret (v := .agg #[.int .i64 n8, .slice (some ⟨g6, o6, none⟩) SL.length c6]) ?_ rfl ⟨n8, g6, o6, c6, SL, rfl, E9, by omega, hl8, D9⟩
  simp [results, Tryz.results50, go_sem, k1, k2]
set_option maxRecDepth 100000 in
set_option maxHeartbeats 1000000 in
theorem l01Near_any (A : Option Addr) (l c p : Nat) (most : Int) (w : World) (S : SR A l c p w) (hl : l ≤ 4096) (h0 : 0 ≤ most) (h1 : most ≤ 100) :
    Calls Tryz.prog 90 #[.pointer (some ⟨p, 0, none⟩), .int .i64 most] w (RetN (fun _ => True) A l c p w) := by
  have HNX := Lib.hid (fun (k : Int) W (hS : SR A l c p W) => l01Next_any A l c p k W hS hl)
  have hwm : IntKind.i64.wrap (most + 1) = most + 1 := IntWalk.i64_in _ (by omega)
  have HPK := Lib.hid (fun W (hS : SR A l c p W) (I : Ints W (W.heap.size - 1) 0 4 (ia [-1, most + 1, 1099511627776, -4611686018427387904])) (hb : W.heap.size - 1 ≠ p) => l01Pick_any A l c p (W.heap.size - 1) 0 4 4 (ia [-1, most + 1, 1099511627776, -4611686018427387904]) W hS hl I hb (by omega) (by omega))
  have HS0 := Lib.hid S
  go_enter Tryz.func90, Tryz.ntmps90
  go_wp2_with fail
  refine (HNX.out 14 w S).mono ?_
  rintro e w2 ⟨x, rfl, hx, D2⟩
  clear S
  by_cases hx0 : x = 0
  · subst hx0
    have D3 : DR A l c p w (w2.alloc (.cells (([-1, most + 1, 1099511627776, -4611686018427387904] : List Int).map (Value.int .i64)).toArray 2)) := D2.thenB ((Below.refl _ _).alloc (Nat.le_refl _) _)
    have hz := HS0.out.lt
    have hz2 := D2.1.size
    have H := Lib.hid (HPK.out (w2.alloc (.cells (([-1, most + 1, 1099511627776, -4611686018427387904] : List Int).map (Value.int .i64)).toArray 2)) D3.2 (by have := ints_of9 w2 [-1, most + 1, 1099511627776, -4611686018427387904] 2; simpa using this) (by simp; omega))
    have hs : (w2.alloc (.cells (([-1, most + 1, 1099511627776, -4611686018427387904] : List Int).map (Value.int .i64)).toArray 2)).heap.size - 1 = w2.heap.size := by simp
    rw [hs] at H
    clear hs hx D2
    go_wp2_with fail
    refine H.out.mono ?_
    rintro e w4 ⟨y, rfl, _, D4⟩
    have D := D3.trans D4
    go_wp2_with fail
    go_ret
    exact ⟨y, rfl, trivial, D⟩
  · clear hx
    go_wp2_with fail
    refine (HNX.out (most + 1) w2 D2.2).mono ?_
    rintro e w4 ⟨y, rfl, _, D4⟩
    have D := D2.trans D4
    go_wp2_with fail
    go_ret
    exact ⟨y, rfl, trivial, D⟩
/-- The call returns a graph, whatever it is. -/
def RetDG (w : World) (e : Ending) (w' : World) : Prop := ∃ (n : Int) (g o c' : Nat) (es : List (Int × Int)), e = .returned (.agg #[.int .i64 n, .slice (some ⟨g, o, none⟩) es.length c']) ∧ Eds w' g o es.length es ∧ w.heap.size ≤ g ∧ es.length ≤ 60 ∧ Below w.heap.size w w'
def RetDG2 (w : World) (e : Ending) (w' : World) : Prop := ∃ (n : Int) (g o c' : Nat) (es : List (Int × Int)) (x y : Int), e = .returned (.tuple #[.agg #[.int .i64 n, .slice (some ⟨g, o, none⟩) es.length c'], .int .i64 x, .int .i64 y]) ∧ Eds w' g o es.length es ∧ w.heap.size ≤ g ∧ es.length ≤ 60 ∧ Below w.heap.size w w'
theorem DR.belowB {A : Option Addr} {l c p B : Nat} {w w' : World} (D : DR A l c p w w') (hB : B ≤ w.heap.size) (hp : B ≤ p) : Below B w w' := D.1.below hB fun k hk => by rw [show k = p from hk]; exact hp
set_option maxRecDepth 100000 in
set_option maxHeartbeats 2000000 in
theorem drawDiameterOf_any (A : Option Addr) (l c : Nat) (w : World) (hB0 : Bys0 w A l) (hl : l ≤ 4096) : Calls Tryz.prog 40 #[.slice A l c] w (RetDG w) := by
  have KC := cell_rg
  have HB := Lib.hid (Box2F.made w (.int .i64 0) (.slice none 0 0) 26)
  have D1 : Below w.heap.size w (w.alloc (.cells #[.int .i64 0, .slice none 0 0] 26)) := (Below.refl _ _).alloc (Nat.le_refl _) _
  have HFR := Lib.hid (fun W (h : Bys0 W A l) => l01From_any A l c W h hl)
  have HSP := Lib.hid (fun p W (hS : SR A l c p W) => l01Spoil_any A l c p W hS hl)
  go_enter Tryz.func40, Tryz.ntmps40
  go_wp2_with fail
  obtain ⟨w1, hw1⟩ : ∃ w1, w1 = w.alloc (.cells #[.int .i64 0, .slice none 0 0] 26) := ⟨_, rfl⟩
  rw [← hw1] at HB D1 ⊢
  obtain ⟨b4, hb4⟩ : ∃ b4, b4 = w.heap.size := ⟨_, rfl⟩
  have HB4 := Lib.hid hb4
  have hbw4 : w.heap.size = b4 := hb4.symm
  rw [← hb4] at HB ⊢
  clear hw1 hb4
  have hB1 := hB0.below D1
  have hz1 := D1.size
  have hb41 := HB.out.box.lt
  refine (HFR.out _ hB1).mono ?_
  rintro e w2 ⟨rfl, D2, S2⟩
  have PB := HB.out.below D2
  have D := D1.andB D2
  have hz2 := D2.size
  clear HB D1 D2 hB1 hB0
  go_wp2_with fail
  refine (HSP.out w1.heap.size w2 S2).mono ?_
  rintro e w8 ⟨n8, g6, o6, c6, SL, rfl, E8, hg8, hl8, D8⟩
  have hl8 : SL.length ≤ 60 := hl8
  have PW := PB.keptP D8.1 (by omega)
  have DW : Below w.heap.size w w8 := D.trans (D8.belowB (by omega) (by omega))
  have hg6 : b4 ≠ g6 ∧ w.heap.size ≤ g6 := by omega
  clear S2 D8 D PB
  have hb4l := PW.box.lt
  have P9 := PW.set2 (.int .i64 n8) (.slice (some ⟨g6, o6, none⟩) SL.length c6)
  have D9 : Below w.heap.size w ((_ : World).setCell ⟨b4, 0, none⟩ (.int .i64 n8) |>.setCell ⟨b4, 1, none⟩ (.slice (some ⟨g6, o6, none⟩) SL.length c6)) := (DW.setCell (p := ⟨b4, 0, none⟩) (by simp only; omega) (.int .i64 n8)).setCell (p := ⟨b4, 1, none⟩) (by simp only; omega) (.slice (some ⟨g6, o6, none⟩) SL.length c6)
  have E9 := (E8.setOther (a := ⟨b4, 0, none⟩) (by simp only; omega) (.int .i64 n8)).setOther (a := ⟨b4, 1, none⟩) (by simp only; omega) (.slice (some ⟨g6, o6, none⟩) SL.length c6)
  obtain ⟨⟨sW, pW, qW⟩, fW, gW⟩ := PW
  clear E8 DW
  go_wp2_with fail
  generalize hw9 : (World.setCell (World.setCell _ ⟨b4, 0, none⟩ (.int .i64 n8)) ⟨b4, 1, none⟩ (.slice (some ⟨g6, o6, none⟩) SL.length c6)) = w9 at E9 P9 D9 ⊢
  clear hw9 pW qW
  obtain ⟨⟨k0, k1, k2⟩, _, _⟩ := P9
  refine bodyPost_ret (v := .agg #[.int .i64 n8, .slice (some ⟨g6, o6, none⟩) SL.length c6]) ?_ rfl ⟨n8, g6, o6, c6, SL, rfl, E9, by omega, hl8, D9⟩
  simp [results, Tryz.results40, go_sem, k1, k2]
set_option maxRecDepth 100000 in
set_option maxHeartbeats 2000000 in
theorem drawGirthOf_any (A : Option Addr) (l c : Nat) (w : World) (hB0 : Bys0 w A l) (hl : l ≤ 4096) : Calls Tryz.prog 43 #[.slice A l c] w (RetDG w) := by
  have KC := cell_rg
  have HB := Lib.hid (Box2F.made w (.int .i64 0) (.slice none 0 0) 26)
  have D1 : Below w.heap.size w (w.alloc (.cells #[.int .i64 0, .slice none 0 0] 26)) := (Below.refl _ _).alloc (Nat.le_refl _) _
  have HFR := Lib.hid (fun W (h : Bys0 W A l) => l01From_any A l c W h hl)
  have HSP := Lib.hid (fun p W (hS : SR A l c p W) => l01Spoil_any A l c p W hS hl)
  go_enter Tryz.func43, Tryz.ntmps43
  go_wp2_with fail
  obtain ⟨w1, hw1⟩ : ∃ w1, w1 = w.alloc (.cells #[.int .i64 0, .slice none 0 0] 26) := ⟨_, rfl⟩
  rw [← hw1] at HB D1 ⊢
  obtain ⟨b4, hb4⟩ : ∃ b4, b4 = w.heap.size := ⟨_, rfl⟩
  have HB4 := Lib.hid hb4
  have hbw4 : w.heap.size = b4 := hb4.symm
  rw [← hb4] at HB ⊢
  clear hw1 hb4
  have hB1 := hB0.below D1
  have hz1 := D1.size
  have hb41 := HB.out.box.lt
  refine (HFR.out _ hB1).mono ?_
  rintro e w2 ⟨rfl, D2, S2⟩
  have PB := HB.out.below D2
  have D := D1.andB D2
  have hz2 := D2.size
  clear HB D1 D2 hB1 hB0
  go_wp2_with fail
  refine (HSP.out w1.heap.size w2 S2).mono ?_
  rintro e w8 ⟨n8, g6, o6, c6, SL, rfl, E8, hg8, hl8, D8⟩
  have hl8 : SL.length ≤ 60 := hl8
  have PW := PB.keptP D8.1 (by omega)
  have DW : Below w.heap.size w w8 := D.trans (D8.belowB (by omega) (by omega))
  have hg6 : b4 ≠ g6 ∧ w.heap.size ≤ g6 := by omega
  clear S2 D8 D PB
  have hb4l := PW.box.lt
  have P9 := PW.set2 (.int .i64 n8) (.slice (some ⟨g6, o6, none⟩) SL.length c6)
  have D9 : Below w.heap.size w ((_ : World).setCell ⟨b4, 0, none⟩ (.int .i64 n8) |>.setCell ⟨b4, 1, none⟩ (.slice (some ⟨g6, o6, none⟩) SL.length c6)) := (DW.setCell (p := ⟨b4, 0, none⟩) (by simp only; omega) (.int .i64 n8)).setCell (p := ⟨b4, 1, none⟩) (by simp only; omega) (.slice (some ⟨g6, o6, none⟩) SL.length c6)
  have E9 := (E8.setOther (a := ⟨b4, 0, none⟩) (by simp only; omega) (.int .i64 n8)).setOther (a := ⟨b4, 1, none⟩) (by simp only; omega) (.slice (some ⟨g6, o6, none⟩) SL.length c6)
  obtain ⟨⟨sW, pW, qW⟩, fW, gW⟩ := PW
  clear E8 DW
  go_wp2_with fail
  generalize hw9 : (World.setCell (World.setCell _ ⟨b4, 0, none⟩ (.int .i64 n8)) ⟨b4, 1, none⟩ (.slice (some ⟨g6, o6, none⟩) SL.length c6)) = w9 at E9 P9 D9 ⊢
  clear hw9 pW qW
  obtain ⟨⟨k0, k1, k2⟩, _, _⟩ := P9
  refine bodyPost_ret (v := .agg #[.int .i64 n8, .slice (some ⟨g6, o6, none⟩) SL.length c6]) ?_ rfl ⟨n8, g6, o6, c6, SL, rfl, E9, by omega, hl8, D9⟩
  simp [results, Tryz.results43, go_sem, k1, k2]
set_option maxRecDepth 100000 in
set_option maxHeartbeats 2000000 in
theorem drawPartsOf_any (A : Option Addr) (l c : Nat) (w : World) (hB0 : Bys0 w A l) (hl : l ≤ 4096) : Calls Tryz.prog 47 #[.slice A l c] w (RetDG w) := by
  have KC := cell_rg
  have HB := Lib.hid (Box2F.made w (.int .i64 0) (.slice none 0 0) 26)
  have D1 : Below w.heap.size w (w.alloc (.cells #[.int .i64 0, .slice none 0 0] 26)) := (Below.refl _ _).alloc (Nat.le_refl _) _
  have HFR := Lib.hid (fun W (h : Bys0 W A l) => l01From_any A l c W h hl)
  have HSP := Lib.hid (fun p W (hS : SR A l c p W) => l01Spoil_any A l c p W hS hl)
  go_enter Tryz.func47, Tryz.ntmps47
  go_wp2_with fail
  obtain ⟨w1, hw1⟩ : ∃ w1, w1 = w.alloc (.cells #[.int .i64 0, .slice none 0 0] 26) := ⟨_, rfl⟩
  rw [← hw1] at HB D1 ⊢
  obtain ⟨b4, hb4⟩ : ∃ b4, b4 = w.heap.size := ⟨_, rfl⟩
  have HB4 := Lib.hid hb4
  have hbw4 : w.heap.size = b4 := hb4.symm
  rw [← hb4] at HB ⊢
  clear hw1 hb4
  have hB1 := hB0.below D1
  have hz1 := D1.size
  have hb41 := HB.out.box.lt
  refine (HFR.out _ hB1).mono ?_
  rintro e w2 ⟨rfl, D2, S2⟩
  have PB := HB.out.below D2
  have D := D1.andB D2
  have hz2 := D2.size
  clear HB D1 D2 hB1 hB0
  go_wp2_with fail
  refine (HSP.out w1.heap.size w2 S2).mono ?_
  rintro e w8 ⟨n8, g6, o6, c6, SL, rfl, E8, hg8, hl8, D8⟩
  have hl8 : SL.length ≤ 60 := hl8
  have PW := PB.keptP D8.1 (by omega)
  have DW : Below w.heap.size w w8 := D.trans (D8.belowB (by omega) (by omega))
  have hg6 : b4 ≠ g6 ∧ w.heap.size ≤ g6 := by omega
  clear S2 D8 D PB
  have hb4l := PW.box.lt
  have P9 := PW.set2 (.int .i64 n8) (.slice (some ⟨g6, o6, none⟩) SL.length c6)
  have D9 : Below w.heap.size w ((_ : World).setCell ⟨b4, 0, none⟩ (.int .i64 n8) |>.setCell ⟨b4, 1, none⟩ (.slice (some ⟨g6, o6, none⟩) SL.length c6)) := (DW.setCell (p := ⟨b4, 0, none⟩) (by simp only; omega) (.int .i64 n8)).setCell (p := ⟨b4, 1, none⟩) (by simp only; omega) (.slice (some ⟨g6, o6, none⟩) SL.length c6)
  have E9 := (E8.setOther (a := ⟨b4, 0, none⟩) (by simp only; omega) (.int .i64 n8)).setOther (a := ⟨b4, 1, none⟩) (by simp only; omega) (.slice (some ⟨g6, o6, none⟩) SL.length c6)
  obtain ⟨⟨sW, pW, qW⟩, fW, gW⟩ := PW
  clear E8 DW
  go_wp2_with fail
  generalize hw9 : (World.setCell (World.setCell _ ⟨b4, 0, none⟩ (.int .i64 n8)) ⟨b4, 1, none⟩ (.slice (some ⟨g6, o6, none⟩) SL.length c6)) = w9 at E9 P9 D9 ⊢
  clear hw9 pW qW
  obtain ⟨⟨k0, k1, k2⟩, _, _⟩ := P9
  refine bodyPost_ret (v := .agg #[.int .i64 n8, .slice (some ⟨g6, o6, none⟩) SL.length c6]) ?_ rfl ⟨n8, g6, o6, c6, SL, rfl, E9, by omega, hl8, D9⟩
  simp [results, Tryz.results47, go_sem, k1, k2]
end Go.Proofs.YtajnhkkiddeegaaGreat
