import Derived.Test.YtppfplhbfgjjhaaPb2
import Derived.Test.YtppfplhbfgjjhaaFn2
namespace Go.Proofs.Ytppfplhbfgjjhaa
open Go.RowKit Go.Sort
/-- A graph and a code, as a tuple; a graph; a new box of a graph; a filled one. -/
def GRT (base : Nat) (n : Int) (xs : List (Int × Int)) (k : Int) (v : Value) (W : World) : Prop := ∃ A c, v = .tuple #[.agg #[.int .i64 n, .slice A xs.length c], .int .i64 k] ∧ OwnEA base W A xs.length c xs
def GRV (base : Nat) (n : Int) (xs : List (Int × Int)) (v : Value) (W : World) : Prop := ∃ A c, v = .agg #[.int .i64 n, .slice A xs.length c] ∧ OwnEA base W A xs.length c xs
def NewG (base : Nat) (v : Value) (W : World) : Prop := ∃ p, v = .pointer (some ⟨p, 0, none⟩) ∧ base ≤ p ∧ W.heap[p]? = some (.cells #[.int .i64 0, .slice none 0 0] 30)
def FillG (base : Nat) (n : Int) (xs : List (Int × Int)) (v : Value) (W : World) : Prop := ∃ p A c, v = .pointer (some ⟨p, 0, none⟩) ∧ base ≤ p ∧ Box2 W p (.int .i64 n) (.slice A xs.length c) ∧ OwnEA base W A xs.length c xs ∧ some p ≠ blkOf A
def StG (base : Nat) (W W' : World) : Prop := ∃ p v0 v1, base ≤ p ∧ p < W.heap.size ∧ W.heap[p]? = some (.cells #[.int .i64 0, .slice none 0 0] 30) ∧ W' = (W.setCell ⟨p, 0, none⟩ v0).setCell ⟨p, 1, none⟩ v1
theorem GRT.below {base : Nat} {n k : Int} {xs : List (Int × Int)} {v : Value} {W W' : World} (h : GRT base n xs k v W) (hb : Below W.heap.size W W') : GRT base n xs k v W' := let ⟨A, c, e, o⟩ := h; ⟨A, c, e, o.below hb⟩
theorem GRV.below {base : Nat} {n : Int} {xs : List (Int × Int)} {v : Value} {W W' : World} (h : GRV base n xs v W) (hb : Below W.heap.size W W') : GRV base n xs v W' := let ⟨A, c, e, o⟩ := h; ⟨A, c, e, o.below hb⟩
theorem NewG.below {base : Nat} {v : Value} {W W' : World} (h : NewG base v W) (hb : Below W.heap.size W W') : NewG base v W' := by
  obtain ⟨p, e, hp, hh⟩ := h
  exact ⟨p, e, hp, (hb.block _ (Array.getElem?_eq_some_iff.1 hh).1).trans hh⟩
theorem FillG.below {base : Nat} {n : Int} {xs : List (Int × Int)} {v : Value} {W W' : World} (h : FillG base n xs v W) (hb : Below W.heap.size W W') : FillG base n xs v W' := let ⟨p, A, c, e, hp, hx, o, hne⟩ := h; ⟨p, A, c, e, hp, hx.below hb, o.below hb, hne⟩
theorem OwnEA.ne {base : Nat} {W : World} {A : Option Addr} {m c p : Nat} {es : List (Int × Int)} {cs : Array Value} (h : OwnEA base W A m c es) (hh : W.heap[p]? = some (.cells cs 30)) : some p ≠ blkOf A := by
  rcases h.2.2 with ⟨e, _⟩ | ⟨g, cap, cur, e, _, hg, _⟩
  · injection e with e1; subst e1; simp [blkOf]
  · injection e with e1; subst e1
    intro he
    simp only [blkOf, Option.map_some, Option.some.injEq] at he
    subst he
    rw [hh] at hg
    cases hg
theorem Eds.setG {W : World} {g m p : Nat} {es : List (Int × Int)} (he : Eds W g 0 m es) (hh : W.heap[p]? = some (.cells #[.int .i64 0, .slice none 0 0] 30)) (v0 v1 : Value) : Eds ((W.setCell ⟨p, 0, none⟩ v0).setCell ⟨p, 1, none⟩ v1) g 0 m es := by
  rcases Nat.eq_zero_or_pos m with h0 | h0
  · subst h0; exact ⟨he.len, by simpa using he.blk, fun j hj => absurd hj (by omega), fun j hj => absurd hj (by omega)⟩
  · have hne : p ≠ g := fun e => by
      have z1 : W.cell? ⟨p, 1, none⟩ = some (.slice none 0 0) := by simp [World.cell?, hh]
      have := he.cb 0 h0
      rw [← e] at this
      simp only [Nat.zero_mul, Nat.zero_add] at this
      rw [z1] at this; cases this
    refine ⟨he.len, by simpa using he.blk, fun j hj => ?_, fun j hj => ?_⟩
    · rw [World.cell?_setCell_far _ ⟨p, 1, none⟩ _ _ hne, World.cell?_setCell_far _ ⟨p, 0, none⟩ _ _ hne]; exact he.ca j hj
    · rw [World.cell?_setCell_far _ ⟨p, 1, none⟩ _ _ hne, World.cell?_setCell_far _ ⟨p, 0, none⟩ _ _ hne]; exact he.cb j hj
theorem GRT.st {base : Nat} {n k : Int} {xs : List (Int × Int)} {v : Value} {W W' : World} (h : GRT base n xs k v W) (hE : StG base W W') : GRT base n xs k v W' := by
  obtain ⟨A, c, e, o⟩ := h
  obtain ⟨p, v0, v1, hp, hlt, hh, rfl⟩ := hE
  have hne := o.ne hh
  exact ⟨A, c, e, (o.setOther (a := ⟨p, 0, none⟩) (fun e => hne e.symm) v0).setOther (a := ⟨p, 1, none⟩) (fun e => hne e.symm) v1⟩
theorem StG.below {base : Nat} {w W W' : World} (hb : Below base w W) (hE : StG base W W') : Below base w W' := by
  obtain ⟨p, v0, v1, hp, hlt, hh, rfl⟩ := hE
  exact (hb.setCell (p := ⟨p, 0, none⟩) hp v0).setCell (p := ⟨p, 1, none⟩) hp v1
set_option maxRecDepth 100000 in
set_option maxHeartbeats 8000000 in
theorem law_PutBeside (n1 : Int) (A1 : Option Addr) (m1 c1 : Nat) (es : List (Int × Int)) (n2 : Int) (A2 : Option Addr) (m2 c2 : Nat) (fs : List (Int × Int)) (w : World) (h : SrcE w A1 m1 es) (hlen : m1 ≤ 9223372036854775807) (h2 : SrcE w A2 m2 fs) (hlen2 : m2 ≤ 9223372036854775807) :
    Calls Try.prog 13 #[.agg #[.int .i64 n1, .slice A1 m1 c1], .agg #[.int .i64 n2, .slice A2 m2 c2]] w (Ret (.bool true) w) := by
  have X := Box2.made w (.int .i64 n1) (.slice A1 m1 c1) 24
  have hb1 : Below w.heap.size w (w.alloc (.cells #[.int .i64 n1, .slice A1 m1 c1] 24)) := (Below.refl _ _).alloc (Nat.le_refl _) _
  have zz1 : (w.alloc (.cells #[.int .i64 n1, .slice A1 m1 c1] 24)).heap.size = w.heap.size + 1 := by simp
  obtain ⟨w1, hw1⟩ : ∃ w1, w1 = w.alloc (.cells #[.int .i64 n1, .slice A1 m1 c1] 24) := ⟨_, rfl⟩
  rw [← hw1] at X hb1 zz1
  have Z := Box2.made w1 (.int .i64 n2) (.slice A2 m2 c2) 24
  have hb2 : Below w1.heap.size w1 (w1.alloc (.cells #[.int .i64 n2, .slice A2 m2 c2] 24)) := (Below.refl _ _).alloc (Nat.le_refl _) _
  have zz2 : (w1.alloc (.cells #[.int .i64 n2, .slice A2 m2 c2] 24)).heap.size = w1.heap.size + 1 := by simp
  obtain ⟨w2, hw2⟩ : ∃ w2, w2 = w1.alloc (.cells #[.int .i64 n2, .slice A2 m2 c2] 24) := ⟨_, rfl⟩
  rw [← hw2] at Z hb2 zz2
  have X := X.below hb2
  have hB := hb1.andB hb2
  obtain ⟨bx, hbx⟩ : ∃ bx, bx = w.heap.size := ⟨_, rfl⟩
  obtain ⟨bz, hbz⟩ : ∃ bz, bz = w1.heap.size := ⟨_, rfl⟩
  rw [← hbx] at X
  rw [← hbz] at Z
  have HW : Hid (w2 = (w.alloc (.cells #[.int .i64 n1, .slice A1 m1 c1] 24)).alloc (.cells #[.int .i64 n2, .slice A2 m2 c2] 24) ∧ w.heap.size = bx ∧ w.heap.size + 1 = bz) := by rw [← hw1]; exact ⟨hw2, hbx.symm, by omega⟩
  have hzb : w.heap.size ≤ bx ∧ bx < bz ∧ bz < w2.heap.size := by omega
  clear hw1 hw2 hb1 hb2 zz1 zz2 hbx hbz
  by_cases hm : m1 ≤ 1048576
  rotate_left
  · have hz : szE m1 1048576 < 0 := by simp only [szE]; split <;> omega
    have Xc := X
    obtain ⟨sX, pX, qX⟩ := Xc
    go_enter Try.func13, Try.ntmps13
    go_wp2_with fail
    rw [← HW.out.1, HW.out.2.2, HW.out.2.1]
    refine (szGraph_any _ _ _ _ _ _ hlen (by omega) (by omega)).mono ?_
    rintro e w3 ⟨rfl, hb⟩
    have hB := hB.andB hb
    go_wp2_with fail
    go_ret
    exact ⟨rfl, hB⟩
  have hz : szE m1 1048576 = 1048576 - m1 := by simp only [szE]; split <;> omega
  by_cases hml : m1 + m2 ≤ 1048576
  rotate_left
  · have hz2 : szE m2 (1048576 - m1) < 0 := by simp only [szE]; split <;> omega
    have hz0 : 0 ≤ szE m1 1048576 := by omega
    have Xc := X
    obtain ⟨sX, pX, qX⟩ := Xc
    go_enter Try.func13, Try.ntmps13
    go_wp2_with fail
    rw [← HW.out.1, HW.out.2.2, HW.out.2.1]
    refine (szGraph_any _ _ _ _ _ _ hlen (by omega) (by omega)).mono ?_
    rintro e w3 ⟨rfl, hb⟩
    have Z := Z.below hb
    have hB := hB.andB hb
    clear hb sX pX qX
    have Zc := Z
    obtain ⟨sZ, pZ, qZ⟩ := Zc
    go_wp2_with fail
    refine (szGraph_any _ _ _ _ _ _ hlen2 (by omega) (by omega)).mono ?_
    rintro e w4 ⟨rfl, hb⟩
    have hB := hB.andB hb
    clear hb sZ pZ qZ
    go_wp2_with fail
    go_ret
    exact ⟨rfl, hB⟩
  have hl : m2 ≤ 1048576 := by omega
  have hz2 : szE m2 (1048576 - m1) = 1048576 - m1 - m2 := by simp only [szE]; split <;> omega
  have hz0 : 0 ≤ szE m1 1048576 := by omega
  have hz3 : (0 : Int) ≤ 1048576 - m1 - m2 := by omega
  have HL := Lib.hid h.1
  have HL2 := Lib.hid h2.1
  obtain ⟨xs, hxs⟩ : ∃ xs, xs = pbL n1 es n2 fs := ⟨_, rfl⟩
  obtain ⟨nn, hnn⟩ : ∃ nn, nn = pbN n1 es n2 fs := ⟨_, rfl⟩
  obtain ⟨kc, hkc⟩ : ∃ kc, kc = pbC n1 es n2 fs := ⟨_, rfl⟩
  have hxl : xs.length ≤ 1048576 := by rw [hxs]; have := pbL_len (n1 := n1) (es := es) (n2 := n2) (fs := fs); have := HL.out; have := HL2.out; omega
  have HSP : Hid (∀ b d b1 d1 W, Eds W b 0 es.length es → Eds W b1 0 fs.length fs → Calls Try.prog 51 #[.agg #[.int .i64 n1, .slice (some ⟨b, 0, none⟩) es.length d], .agg #[.int .i64 n2, .slice (some ⟨b1, 0, none⟩) fs.length d1]] W (RetGC nn xs kc W)) := by
    rw [hxs, hnn, hkc]; exact fun b d b1 d1 W E F => spPutBeside_any n1 n2 b 0 es.length d b1 0 fs.length d1 es fs W E F (by rw [HL.out]; exact hm) (by rw [HL2.out]; exact hl)
  have HIM : Hid (∀ b d b1 d1 W, Eds W b 0 es.length es → Eds W b1 0 fs.length fs → Calls Try.prog 52 #[.agg #[.int .i64 n1, .slice (some ⟨b, 0, none⟩) es.length d], .agg #[.int .i64 n2, .slice (some ⟨b1, 0, none⟩) fs.length d1]] W (RetGC nn xs kc W)) := by
    rw [hxs, hnn, hkc]; exact fun b d b1 d1 W E F => imPutBeside_any n1 n2 b 0 es.length d b1 0 fs.length d1 es fs W E F (by rw [HL.out]; exact hm) (by rw [HL2.out]; exact hl)
  have HZ := Lib.hid hz
  have HZ2 := Lib.hid hz2
  clear hz hz2 hxs hnn hkc
  have Xc := X
  obtain ⟨sX, pX, qX⟩ := Xc
  go_enter Try.func13, Try.ntmps13
  go_wp2_with fail
  rw [← HW.out.1, HW.out.2.2, HW.out.2.1]
  refine (szGraph_any _ _ _ _ _ _ hlen (by omega) (by omega)).mono ?_
  rintro e w3 ⟨rfl, hb⟩
  rw [HZ.out]
  have X := X.below hb
  have Z := Z.below hb
  have hB := hB.andB hb
  have hz3 := Nat.lt_of_lt_of_le hzb.2.2 hb.size
  clear hb sX pX qX
  have Zc := Z
  obtain ⟨sZ, pZ, qZ⟩ := Zc
  go_wp2_with fail
  refine (szGraph_any _ _ _ _ _ _ hlen2 (by omega) (by omega)).mono ?_
  rintro e w4 ⟨rfl, hb⟩
  rw [HZ2.out]
  have X := X.below hb
  have Z := Z.below hb
  have hB := hB.andB hb
  have hz4 := Nat.lt_of_lt_of_le hz3 hb.size
  clear hb sZ pZ qZ
  have Xc := X
  obtain ⟨sX, pX, qX⟩ := Xc
  have Zc := Z
  obtain ⟨sZ, pZ, qZ⟩ := Zc
  have hB0 := hB
  go_wp2_with fail
  refine wp_region_thenS 10 (fun i9 v W => match i9 with
    | 0 => v = .agg #[.int .i64 n1, .slice A1 m1 c1]
    | 1 => AGr n1 es v W
    | 2 => v = .agg #[.int .i64 n2, .slice A2 m2 c2]
    | 3 => AGr n2 fs v W
    | 4 => GRT w4.heap.size nn xs kc v W
    | 5 => GRT w4.heap.size nn xs kc v W
    | 6 => GRV w4.heap.size nn xs v W
    | 7 => v = .int .i64 kc
    | 8 => NewG w4.heap.size v W
    | 9 => FillG w4.heap.size nn xs v W
    | _ => True)
    (fun i => match i with
    | 1 => some 4
    | 3 => some 4
    | 6 => some 9
    | 8 => some 9
    | _ => none) (fun i => match i with
    | 9 => some 8
    | _ => none)
    (fun k W W' => if k = 9 then StG w4.heap.size W W' else Below W.heap.size W W')  (fun W => Below w4.heap.size w4 W) (by kernel_rfl) (by kernel_rfl) (by kernel_rfl) ?_ ?_ ?_ ?_ ?_
  · exact (Below.refl _ _).drew
  · intro i k v W W' hne hd hC hf hE
    by_cases hk : k = 9
    · subst hk
      replace hE : StG w4.heap.size W W' := hE
      match i, hne, hd, hf with
      | 0, hne, hd, hf => exact hf
      | 1, hne, hd, hf =>
        obtain ⟨p, v0, v1, hp, hlt, hh, rfl⟩ := hE
        obtain ⟨g, c, e, he⟩ := hf
        exact ⟨g, c, e, (he.setG hh v0 v1)⟩
      | 2, hne, hd, hf => exact hf
      | 3, hne, hd, hf =>
        obtain ⟨p, v0, v1, hp, hlt, hh, rfl⟩ := hE
        obtain ⟨g, c, e, he⟩ := hf
        exact ⟨g, c, e, (he.setG hh v0 v1)⟩
      | 4, hne, hd, hf => exact GRT.st hf hE
      | 5, hne, hd, hf => exact GRT.st hf hE
      | 6, hne, hd, hf => exact absurd rfl hd
      | 7, hne, hd, hf => exact hf
      | 8, hne, hd, hf => exact absurd rfl hd
      | 9, hne, hd, hf => exact absurd rfl hne
      | j + 10, hne, hd, hf => exact hf
    · simp only [if_neg hk] at hE
      match i, hf with
      | 0, hf => exact hf
      | 1, hf => exact AGr.below hf hE
      | 2, hf => exact hf
      | 3, hf => exact AGr.below hf hE
      | 4, hf => exact GRT.below hf hE
      | 5, hf => exact GRT.below hf hE
      | 6, hf => exact GRV.below hf hE
      | 7, hf => exact hf
      | 8, hf => exact NewG.below hf hE
      | 9, hf => exact FillG.below hf hE
      | _ + 10, hf => exact hf
  · intro k W W' hC hE
    by_cases hk : k = 9
    · subst hk; exact StG.below hC hE
    · simp only [if_neg hk] at hE; exact Below.andB hC hE
  · simp only [List.take_succ_cons, List.take_zero]
    refine ⟨?_, ?_, ?_, ?_, ?_, ?_, ?_, ?_, ?_, ?_, trivial⟩
    · intro a W hC hs hd
      have hW : Below w4.heap.size w4 W := hC
      have e2 : a.tmps[2]?.getD undef = .pointer (some ⟨bx, 0, none⟩) := hs 2 (by kernel_rfl)
      refine growsG_none (E := fun W W' => Below W.heap.size W W') rfl ?_
      have k0 := (hW.cell (p := ⟨bx, 0, none⟩) sX).trans pX
      have k1 := (hW.cell (p := ⟨bx, 1, none⟩) sX).trans qX
      clear hs hd
      unfold GrowsE
      go_simp
      exact Below.refl _ _
    · intro a W hC hs hd
      have hW : Below w4.heap.size w4 W := hC
      have e1 : (a.tmps[28]?.getD undef) = .agg #[.int .i64 n1, .slice A1 m1 c1] := hd 0 28 (by kernel_rfl) (by kernel_rfl) (by kernel_rfl)
      refine growsG_none (E := fun W W' => Below W.heap.size W W') rfl ?_
      clear hs hd
      unfold GrowsE
      go_simp
      refine ⟨Below.refl _ _, (toGraph_any _ _ _ _ es _ (h.below (hB0.andB hW)) hm).mono ?_⟩
      rintro e w6 ⟨g6, c6, rfl, ho6, hb6⟩
      exact ⟨_, rfl, hb6, g6, c6, rfl, ho6.eds⟩
    · intro a W hC hs hd
      have hW : Below w4.heap.size w4 W := hC
      have e2 : a.tmps[3]?.getD undef = .pointer (some ⟨bz, 0, none⟩) := hs 3 (by kernel_rfl)
      refine growsG_none (E := fun W W' => Below W.heap.size W W') rfl ?_
      have k0 := (hW.cell (p := ⟨bz, 0, none⟩) sZ).trans pZ
      have k1 := (hW.cell (p := ⟨bz, 1, none⟩) sZ).trans qZ
      clear hs hd
      unfold GrowsE
      go_simp
      exact Below.refl _ _
    · intro a W hC hs hd
      have hW : Below w4.heap.size w4 W := hC
      have e1 : (a.tmps[30]?.getD undef) = .agg #[.int .i64 n2, .slice A2 m2 c2] := hd 2 30 (by kernel_rfl) (by kernel_rfl) (by kernel_rfl)
      refine growsG_none (E := fun W W' => Below W.heap.size W W') rfl ?_
      clear hs hd
      unfold GrowsE
      go_simp
      refine ⟨Below.refl _ _, (toGraph_any _ _ _ _ fs _ (h2.below (hB0.andB hW)) hl).mono ?_⟩
      rintro e w6 ⟨g6, c6, rfl, ho6, hb6⟩
      exact ⟨_, rfl, hb6, g6, c6, rfl, ho6.eds⟩
    · intro a W hC hs hd
      have hW : Below w4.heap.size w4 W := hC
      have e1 : AGr n1 es (a.tmps[29]?.getD undef) W := hd 1 29 (by kernel_rfl) (by kernel_rfl) (by kernel_rfl)
      have e3 : AGr n2 fs (a.tmps[31]?.getD undef) W := hd 3 31 (by kernel_rfl) (by kernel_rfl) (by kernel_rfl)
      obtain ⟨ga, ca, fe1, Ea⟩ := e1
      obtain ⟨gb, cb, fe3, Eb⟩ := e3
      refine growsG_none (E := fun W W' => Below W.heap.size W W') rfl ?_
      clear hs hd
      unfold GrowsE
      go_simp
      refine ⟨Below.refl _ _, (HSP.out _ _ _ _ _ Ea Eb).mono ?_⟩
      rintro e w6 ⟨AW, cW, rfl, W0, hb6⟩
      exact ⟨_, rfl, hb6, AW, cW, rfl, W0.mono hW.size⟩
    · intro a W hC hs hd
      have hW : Below w4.heap.size w4 W := hC
      have e1 : GRT w4.heap.size nn xs kc (a.tmps[32]?.getD undef) W := hd 4 32 (by kernel_rfl) (by kernel_rfl) (by kernel_rfl)
      obtain ⟨AW, cW, fe1, W0⟩ := e1
      refine growsG_none (E := fun W W' => Below W.heap.size W W') rfl ?_
      clear hs hd
      unfold GrowsE
      go_simp
      exact ⟨Below.refl _ _, AW, cW, rfl, W0⟩
    · intro a W hC hs hd
      have hW : Below w4.heap.size w4 W := hC
      have e1 : GRT w4.heap.size nn xs kc (a.tmps[27]?.getD undef) W := hd 5 27 (by kernel_rfl) (by kernel_rfl) (by kernel_rfl)
      obtain ⟨AW, cW, fe1, W0⟩ := e1
      refine growsG_none (E := fun W W' => Below W.heap.size W W') rfl ?_
      clear hs hd
      unfold GrowsE
      go_simp
      exact ⟨Below.refl _ _, AW, cW, rfl, W0⟩
    · intro a W hC hs hd
      have hW : Below w4.heap.size w4 W := hC
      have e1 : GRT w4.heap.size nn xs kc (a.tmps[27]?.getD undef) W := hd 5 27 (by kernel_rfl) (by kernel_rfl) (by kernel_rfl)
      obtain ⟨AW, cW, fe1, W0⟩ := e1
      refine growsG_none (E := fun W W' => Below W.heap.size W W') rfl ?_
      clear hs hd
      unfold GrowsE
      go_simp
      exact Below.refl _ _
    · intro a W hC hs hd
      have hW : Below w4.heap.size w4 W := hC
      refine growsG_none (E := fun W W' => Below W.heap.size W W') rfl ?_
      clear hs hd
      unfold GrowsE
      go_simp
      exact ⟨(Below.refl _ _).alloc (Nat.le_refl _) _, _, rfl, hW.size, heap_alloc_new _ _⟩
    · intro a W hC hs hd
      have hW : Below w4.heap.size w4 W := hC
      have e1 : GRV w4.heap.size nn xs (a.tmps[33]?.getD undef) W := hd 6 33 (by kernel_rfl) (by kernel_rfl) (by kernel_rfl)
      have e2 : NewG w4.heap.size (a.tmps[6]?.getD undef) W := hd 8 6 (by kernel_rfl) (by kernel_rfl) (by kernel_rfl)
      obtain ⟨AW, cW, fe1, W0⟩ := e1
      obtain ⟨p, fe2, hp, hh⟩ := e2
      have fe2' : a.tmps.getD 6 undef = .pointer (some ⟨p, 0, none⟩) := by rw [Array.getD_eq_getD_getElem?]; exact fe2
      refine growsG_none (E := StG w4.heap.size) (G := fun _ w' => FillG w4.heap.size nn xs (a.tmps.getD 6 undef) w') rfl ?_
      rw [fe2']
      clear hs hd
      have hlt := (Array.getElem?_eq_some_iff.1 hh).1
      have hne := W0.ne hh
      have z0 : W.cell? ⟨p, 0, none⟩ = some (.int .i64 0) := by simp [World.cell?, hh]
      have z1 : W.cell? ⟨p, 1, none⟩ = some (.slice none 0 0) := by simp [World.cell?, hh]
      have fz0 : W.frozen? ⟨p, 0, none⟩ = false := by simp [World.frozen?, hh]
      have fz1 : W.frozen? ⟨p, 1, none⟩ = false := by simp [World.frozen?, hh]
      unfold GrowsE
      go_simp
      refine ⟨⟨p, _, _, hp, hlt, hh, rfl⟩, p, AW, cW, rfl, hp, ((Box2F.mk (w := W) ⟨hlt, z0, z1⟩ fz0 fz1).set2 _ _).box, (W0.setOther (a := ⟨p, 0, none⟩) (fun e => hne e.symm) _).setOther (a := ⟨p, 1, none⟩) (fun e => hne e.symm) _, hne⟩
  intro vs W hW hf hf0
  have hW : Below w4.heap.size w4 W := hW
  have f7 : vs 34 = .int .i64 kc := hf 7 34 (by decide) (by kernel_rfl) (by intro k hk; cases hk)
  have f9 : FillG w4.heap.size nn xs (vs 6) W := hf0 9 _ (by decide) rfl rfl (by intro k hk; cases hk)
  obtain ⟨B6, AW, cW, fe9, hB6, X6, W0, hneB6⟩ := f9
  simp only [dsts, List.take_succ_cons, List.take_zero, List.filterMap_cons, List.filterMap_nil, List.foldl_cons, List.foldl_nil, Act.put, List.setIfInBounds_toArray, List.set_cons_succ, List.set_cons_zero, f7, fe9, List.drop_succ_cons, List.drop_zero]
  clear hf hf0 f7 fe9
  clear sX pX qX
  clear sZ pZ qZ
  have RW : ∀ g, blkOf AW = some g → bz < g ∧ g < W.heap.size := fun g hg => by have := W0.blk g hg; omega
  have hB6w : bz < B6 ∧ B6 < W.heap.size := ⟨by omega, X6.lt⟩
  have W0 := W0.mono (by have := hB.size; omega : w.heap.size ≤ w4.heap.size)
  obtain ⟨wA, hWA⟩ : ∃ wA, wA = W := ⟨_, rfl⟩
  subst hWA
  clear hB6 hneB6
  have X := X.below hW
  have Z := Z.below hW
  have hB := hB.andB hW
  clear hW hB0
  have Xc := X
  obtain ⟨sX, pX, qX⟩ := Xc
  go_wp2_with fail
  clear sX pX qX
  refine (toGraph_any _ _ _ _ es _ (h.below hB) hm).mono ?_
  rintro e wg4 ⟨g4, k4, rfl, O4, hb⟩
  have R4 : wA.heap.size ≤ g4 ∧ g4 < wg4.heap.size := O4.ge
  have O4 := O4.mono (by have := hB.size; omega : w.heap.size ≤ wA.heap.size)
  have X := X.below hb
  have Z := Z.below hb
  have W0 := W0.below hb
  have X6 := X6.below hb
  have hB := hB.andB hb
  clear hb
  have Zc := Z
  obtain ⟨sZ, pZ, qZ⟩ := Zc
  go_wp2_with fail
  have Y := Box2.made wg4 (.int .i64 n1) (.slice (some ⟨g4, 0, none⟩) es.length k4) 30
  have ha : Below wg4.heap.size wg4 (wg4.alloc (.cells #[.int .i64 n1, .slice (some ⟨g4, 0, none⟩) es.length k4] 30)) := (Below.refl _ _).alloc (Nat.le_refl _) _
  have zB : (wg4.alloc (.cells #[.int .i64 n1, .slice (some ⟨g4, 0, none⟩) es.length k4] 30)).heap.size = wg4.heap.size + 1 := by simp
  generalize (wg4.alloc (.cells #[.int .i64 n1, .slice (some ⟨g4, 0, none⟩) es.length k4] 30)) = wC at Y ha zB ⊢
  obtain ⟨BY, hBY⟩ : ∃ BY, BY = wg4.heap.size := ⟨_, rfl⟩
  have hBYw : wg4.heap.size ≤ BY ∧ BY < wC.heap.size := by omega
  rw [← hBY] at Y ⊢
  clear hBY zB
  clear sZ pZ qZ
  have X := X.below ha
  have Z := Z.below ha
  have W0 := W0.below ha
  have X6 := X6.below ha
  have O4 := O4.below ha
  have hB := hB.andB ha
  clear ha
  refine (toGraph_any _ _ _ _ fs _ (h2.below hB) hl).mono ?_
  rintro e wg5 ⟨g5, k5, rfl, O5, hb⟩
  have R5 : wC.heap.size ≤ g5 ∧ g5 < wg5.heap.size := O5.ge
  have O5 := O5.mono (by have := hB.size; omega : w.heap.size ≤ wC.heap.size)
  have X := X.below hb
  have Z := Z.below hb
  have W0 := W0.below hb
  have X6 := X6.below hb
  have O4 := O4.below hb
  have Y := Y.below hb
  have hB := hB.andB hb
  clear hb
  have V := Box2.made wg5 (.int .i64 n2) (.slice (some ⟨g5, 0, none⟩) fs.length k5) 30
  have ha : Below wg5.heap.size wg5 (wg5.alloc (.cells #[.int .i64 n2, .slice (some ⟨g5, 0, none⟩) fs.length k5] 30)) := (Below.refl _ _).alloc (Nat.le_refl _) _
  have zB : (wg5.alloc (.cells #[.int .i64 n2, .slice (some ⟨g5, 0, none⟩) fs.length k5] 30)).heap.size = wg5.heap.size + 1 := by simp
  have Yc := Y
  obtain ⟨sY, pY, qY⟩ := Yc
  go_wp2_with fail
  generalize (wg5.alloc (.cells #[.int .i64 n2, .slice (some ⟨g5, 0, none⟩) fs.length k5] 30)) = wD at V ha zB ⊢
  obtain ⟨BV, hBV⟩ : ∃ BV, BV = wg5.heap.size := ⟨_, rfl⟩
  have hBVw : wg5.heap.size ≤ BV ∧ BV < wD.heap.size := by omega
  rw [← hBV] at V ⊢
  clear hBV zB
  have X := X.below ha
  have Z := Z.below ha
  have W0 := W0.below ha
  have X6 := X6.below ha
  have O4 := O4.below ha
  have Y := Y.below ha
  have O5 := O5.below ha
  have hB := hB.andB ha
  clear ha sY pY qY
  refine (HIM.out _ _ _ _ _ O4.eds O5.eds).mono ?_
  rintro e w6 ⟨AG, cG, rfl, G0, hb⟩
  have RG : ∀ g, blkOf AG = some g → wD.heap.size ≤ g ∧ g < w6.heap.size := G0.blk
  have G0 := G0.mono (by have := hB.size; omega : w.heap.size ≤ wD.heap.size)
  have z7 := hb.size
  have X := X.below hb
  have Z := Z.below hb
  have W0 := W0.below hb
  have X6 := X6.below hb
  have O4 := O4.below hb
  have Y := Y.below hb
  have O5 := O5.below hb
  have V := V.below hb
  have hB := hB.andB hb
  clear hb
  have X6c := X6
  obtain ⟨sX6, pX6, qX6⟩ := X6c
  go_wp2_with fail
  clear sX6 pX6 qX6
  have X9 := Box2.made w6 (.int .i64 nn) (.slice AG xs.length cG) 30
  have ha : Below w6.heap.size w6 (w6.alloc (.cells #[.int .i64 nn, .slice AG xs.length cG] 30)) := (Below.refl _ _).alloc (Nat.le_refl _) _
  generalize (w6.alloc (.cells #[.int .i64 nn, .slice AG xs.length cG] 30)) = wE at X9 ha ⊢
  obtain ⟨B9, hB9⟩ : ∃ B9, B9 = w6.heap.size := ⟨_, rfl⟩
  have hB9w : w6.heap.size ≤ B9 := by omega
  rw [← hB9] at X9 ⊢
  clear hB9
  have X := X.below ha
  have Z := Z.below ha
  have W0 := W0.below ha
  have X6 := X6.below ha
  have O4 := O4.below ha
  have Y := Y.below ha
  have O5 := O5.below ha
  have V := V.below ha
  have G0 := G0.below ha
  have hB := hB.andB ha
  clear ha
  have H4 : Hid (bx ≠ g4 ∧ bz ≠ g4 ∧ B6 ≠ g4 ∧ BY ≠ g4 ∧ BV ≠ g4 ∧ B9 ≠ g4 ∧ g5 ≠ g4 ∧ (blkOf AW = none ∨ blkOf AW ≠ some g4) ∧ (blkOf AG = none ∨ blkOf AG ≠ some g4)) := by
    refine ⟨by omega, by omega, by omega, by omega, by omega, by omega, by omega, ?_, ?_⟩
    · exact blk_apart (A1 := some ⟨g4, 0, none⟩) (s := wA.heap.size) (fun g hg => (RW g hg).2) (fun g hg => by simp [blkOf] at hg; omega)
    · exact blk_apart' (A1 := some ⟨g4, 0, none⟩) (s := wD.heap.size) (fun g hg => (RG g hg).1) (fun g hg => by simp [blkOf] at hg; omega)
  have H5 : Hid (bx ≠ g5 ∧ bz ≠ g5 ∧ B6 ≠ g5 ∧ BV ≠ g5 ∧ B9 ≠ g5 ∧ (blkOf AW = none ∨ blkOf AW ≠ some g5) ∧ (blkOf AG = none ∨ blkOf AG ≠ some g5)) := by
    refine ⟨by omega, by omega, by omega, by omega, by omega, ?_, ?_⟩
    · exact blk_apart (A1 := some ⟨g5, 0, none⟩) (s := wA.heap.size) (fun g hg => (RW g hg).2) (fun g hg => by simp [blkOf] at hg; omega)
    · exact blk_apart' (A1 := some ⟨g5, 0, none⟩) (s := wD.heap.size) (fun g hg => (RG g hg).1) (fun g hg => by simp [blkOf] at hg; omega)
  have HN : Hid (some bx ≠ blkOf AG ∧ some bz ≠ blkOf AG ∧ some B6 ≠ blkOf AG ∧ some B9 ≠ blkOf AG ∧ (blkOf AW = none ∨ blkOf AW ≠ blkOf AG)) := by
    refine ⟨?_, ?_, ?_, ?_, ?_⟩
    · intro e; have := RG _ e.symm; omega
    · intro e; have := RG _ e.symm; omega
    · intro e; have := RG _ e.symm; omega
    · intro e; have := RG _ e.symm; omega
    · exact blk_apart (s := wD.heap.size) (fun g hg => by have := RW g hg; omega) (fun g hg => (RG g hg).1)
  clear RW RG R4 R5
  refine (eqGraph_sameA nn AG AW xs.length _ _ xs wE G0.src W0.src hxl).mono ?_
  rintro e w7 ⟨rfl, hb⟩
  have X := X.below hb
  have Z := Z.below hb
  have W0 := W0.below hb
  have X6 := X6.below hb
  have O4 := O4.below hb
  have Y := Y.below hb
  have O5 := O5.below hb
  have V := V.below hb
  have G0 := G0.below hb
  have X9 := X9.below hb
  have hB := hB.andB hb
  clear hb
  have E5 := O4.eds
  have hB5 := hB
  have Yc := Y
  obtain ⟨sY, pY, qY⟩ := Yc
  have Xc := X
  obtain ⟨sX, pX, qX⟩ := Xc
  go_wp2_with fail
  refine wp_region_facts (fun i v W => match i with
    | 0 => v = .agg #[.int .i64 n1, .slice (some ⟨g4, 0, none⟩) es.length k4]
    | 1 => v = .agg #[.int .i64 n1, .slice A1 m1 c1]
    | 2 => AGr n1 es v W
    | 3 => v = .bool true
    | _ => v = .bool false) (by kernel_rfl) (by kernel_rfl) ?_ ?_ ?_
  · intro i v W W' hf hb
    match i, hf with
    | 0, hf => exact hf
    | 1, hf => exact hf
    | 2, hf => exact AGr.below hf hb
    | 3, hf => exact hf
    | (i + 4), hf => exact hf
  · refine ⟨?_, ?_, ?_, ?_, ?_, trivial⟩
    · intro a W hW hs hd
      have e5 : a.tmps[8]?.getD undef = .pointer (some ⟨BY, 0, none⟩) := hs 8 (by kernel_rfl)
      have k0 := (hW.cell (p := ⟨BY, 0, none⟩) sY).trans pY
      have k1 := (hW.cell (p := ⟨BY, 1, none⟩) sY).trans qY
      clear hs hd
      unfold Grows
      go_simp
      exact Below.refl _ _
    · intro a W hW hs hd
      have e1 : a.tmps[2]?.getD undef = .pointer (some ⟨bx, 0, none⟩) := hs 2 (by kernel_rfl)
      have k0 := (hW.cell (p := ⟨bx, 0, none⟩) sX).trans pX
      have k1 := (hW.cell (p := ⟨bx, 1, none⟩) sX).trans qX
      clear hs hd
      unfold Grows
      go_simp
      exact Below.refl _ _
    · intro a W hW hs hd
      have e23 : a.tmps[55]?.getD undef = .agg #[.int .i64 n1, .slice A1 m1 c1] := hd 1 55 (by kernel_rfl) (by kernel_rfl)
      clear hs hd
      unfold Grows
      go_simp
      refine ⟨Below.refl _ _, (toGraph_any _ _ _ _ es _ (h.below (hB5.andB hW)) hm).mono ?_⟩
      rintro e w6 ⟨g6, c6, rfl, ho6, hb6⟩
      exact ⟨_, rfl, hb6, g6, c6, rfl, ho6.eds⟩
    · intro a W hW hs hd
      have e22 : a.tmps[54]?.getD undef = .agg #[.int .i64 n1, .slice (some ⟨g4, 0, none⟩) es.length k4] := hd 0 54 (by kernel_rfl) (by kernel_rfl)
      have e24 : AGr n1 es (a.tmps[56]?.getD undef) W := hd 2 56 (by kernel_rfl) (by kernel_rfl)
      obtain ⟨g6, c6, e24, E6⟩ := e24
      clear hs hd
      unfold Grows
      go_simp
      refine ⟨Below.refl _ _, (eqGraph_same _ _ _ _ _ _ _ _ _ es _ (E5.below hW) E6 (by rw [HL.out]; exact hm) (by rw [HL.out]; exact hm)).mono ?_⟩
      rintro e w7 ⟨rfl, hb7⟩
      exact ⟨_, rfl, hb7, rfl⟩
    · intro a W hW hs hd
      have e25 : a.tmps[57]?.getD undef = .bool true := hd 3 57 (by kernel_rfl) (by kernel_rfl)
      clear hs hd
      unfold Grows
      go_simp
      exact Below.refl _ _
  intro vs W1 hW hf
  have f26 : vs 58 = .bool false := hf 4 58 (by kernel_rfl)
  simp only [dsts, List.filterMap_cons, List.filterMap_nil, List.foldl_cons, List.foldl_nil, Act.put, List.setIfInBounds_toArray, List.set_cons_succ, List.set_cons_zero, f26]
  clear hf f26
  clear sY pY qY
  clear sX pX qX
  clear E5 hB5
  have X := X.below hW
  have Z := Z.below hW
  have W0 := W0.below hW
  have X6 := X6.below hW
  have O4 := O4.below hW
  have Y := Y.below hW
  have O5 := O5.below hW
  have V := V.below hW
  have G0 := G0.below hW
  have X9 := X9.below hW
  have hB := hB.andB hW
  clear hW
  have E5 := O5.eds
  have hB5 := hB
  have Vc := V
  obtain ⟨sV, pV, qV⟩ := Vc
  have Zc := Z
  obtain ⟨sZ, pZ, qZ⟩ := Zc
  go_wp2_with fail
  refine wp_region_facts (fun i v W => match i with
    | 0 => v = .agg #[.int .i64 n2, .slice (some ⟨g5, 0, none⟩) fs.length k5]
    | 1 => v = .agg #[.int .i64 n2, .slice A2 m2 c2]
    | 2 => AGr n2 fs v W
    | 3 => v = .bool true
    | _ => v = .bool false) (by kernel_rfl) (by kernel_rfl) ?_ ?_ ?_
  · intro i v W W' hf hb
    match i, hf with
    | 0, hf => exact hf
    | 1, hf => exact hf
    | 2, hf => exact AGr.below hf hb
    | 3, hf => exact hf
    | (i + 4), hf => exact hf
  · refine ⟨?_, ?_, ?_, ?_, ?_, trivial⟩
    · intro a W hW hs hd
      have e5 : a.tmps[9]?.getD undef = .pointer (some ⟨BV, 0, none⟩) := hs 9 (by kernel_rfl)
      have k0 := (hW.cell (p := ⟨BV, 0, none⟩) sV).trans pV
      have k1 := (hW.cell (p := ⟨BV, 1, none⟩) sV).trans qV
      clear hs hd
      unfold Grows
      go_simp
      exact Below.refl _ _
    · intro a W hW hs hd
      have e1 : a.tmps[3]?.getD undef = .pointer (some ⟨bz, 0, none⟩) := hs 3 (by kernel_rfl)
      have k0 := (hW.cell (p := ⟨bz, 0, none⟩) sZ).trans pZ
      have k1 := (hW.cell (p := ⟨bz, 1, none⟩) sZ).trans qZ
      clear hs hd
      unfold Grows
      go_simp
      exact Below.refl _ _
    · intro a W hW hs hd
      have e23 : a.tmps[60]?.getD undef = .agg #[.int .i64 n2, .slice A2 m2 c2] := hd 1 60 (by kernel_rfl) (by kernel_rfl)
      clear hs hd
      unfold Grows
      go_simp
      refine ⟨Below.refl _ _, (toGraph_any _ _ _ _ fs _ (h2.below (hB5.andB hW)) hl).mono ?_⟩
      rintro e w6 ⟨g6, c6, rfl, ho6, hb6⟩
      exact ⟨_, rfl, hb6, g6, c6, rfl, ho6.eds⟩
    · intro a W hW hs hd
      have e22 : a.tmps[59]?.getD undef = .agg #[.int .i64 n2, .slice (some ⟨g5, 0, none⟩) fs.length k5] := hd 0 59 (by kernel_rfl) (by kernel_rfl)
      have e24 : AGr n2 fs (a.tmps[61]?.getD undef) W := hd 2 61 (by kernel_rfl) (by kernel_rfl)
      obtain ⟨g6, c6, e24, E6⟩ := e24
      clear hs hd
      unfold Grows
      go_simp
      refine ⟨Below.refl _ _, (eqGraph_same _ _ _ _ _ _ _ _ _ fs _ (E5.below hW) E6 (by rw [HL2.out]; exact hl) (by rw [HL2.out]; exact hl)).mono ?_⟩
      rintro e w7 ⟨rfl, hb7⟩
      exact ⟨_, rfl, hb7, rfl⟩
    · intro a W hW hs hd
      have e25 : a.tmps[62]?.getD undef = .bool true := hd 3 62 (by kernel_rfl) (by kernel_rfl)
      clear hs hd
      unfold Grows
      go_simp
      exact Below.refl _ _
  intro vs W2 hW hf
  have f26 : vs 63 = .bool false := hf 4 63 (by kernel_rfl)
  simp only [dsts, List.filterMap_cons, List.filterMap_nil, List.foldl_cons, List.foldl_nil, Act.put, List.setIfInBounds_toArray, List.set_cons_succ, List.set_cons_zero, f26]
  clear hf f26
  clear sV pV qV
  clear sZ pZ qZ
  clear E5 hB5
  have X := X.below hW
  have Z := Z.below hW
  have W0 := W0.below hW
  have X6 := X6.below hW
  have O4 := O4.below hW
  have Y := Y.below hW
  have O5 := O5.below hW
  have V := V.below hW
  have G0 := G0.below hW
  have X9 := X9.below hW
  have hB := hB.andB hW
  clear hW
  have Yc := Y
  obtain ⟨sY, pY, qY⟩ := Yc
  go_wp2_with fail
  refine (markGraph_m _ n1 (some ⟨g4, 0, none⟩) es.length _ es 1 _ O4.any (by rw [HL.out]; exact hm) (by omega) (by omega)).mono ?_
  rintro e w10 ⟨rfl, _, hg⟩
  have X := X.kept hg (fun e => H4.out.1 (Option.some.inj e))
  have Z := Z.kept hg (fun e => H4.out.2.1 (Option.some.inj e))
  have X6 := X6.kept hg (fun e => H4.out.2.2.1 (Option.some.inj e))
  have V := V.kept hg (fun e => H4.out.2.2.2.2.1 (Option.some.inj e))
  have X9 := X9.kept hg (fun e => H4.out.2.2.2.2.2.1 (Option.some.inj e))
  have O5 := (OwnE.any O5).kept hg (.inr (fun e => H4.out.2.2.2.2.2.2.1 (Option.some.inj e)))
  have W0 := W0.kept hg H4.out.2.2.2.2.2.2.2.1
  have G0 := G0.kept hg H4.out.2.2.2.2.2.2.2.2
  have hB := hB.grown hg hB.size (fun k hk => by have e := Option.some.inj hk; simp only at e; have := O4.ge.1; omega)
  clear sY pY qY
  clear hg O4 Y
  have Vc := V
  obtain ⟨sV, pV, qV⟩ := Vc
  go_wp2_with fail
  refine (markGraph_m _ n2 (some ⟨g5, 0, none⟩) fs.length _ fs _ _ O5 (by rw [HL2.out]; exact hl) (by omega) (by have := HL.out; omega)).mono ?_
  rintro e w11 ⟨rfl, _, hg⟩
  have X := X.kept hg (fun e => H5.out.1 (Option.some.inj e))
  have Z := Z.kept hg (fun e => H5.out.2.1 (Option.some.inj e))
  have X6 := X6.kept hg (fun e => H5.out.2.2.1 (Option.some.inj e))
  have X9 := X9.kept hg (fun e => H5.out.2.2.2.2.1 (Option.some.inj e))
  have W0 := W0.kept hg H5.out.2.2.2.2.2.1
  have G0 := G0.kept hg H5.out.2.2.2.2.2.2
  have hB := hB.grown hg hB.size (fun k hk => (O5.blk k hk).1)
  clear sV pV qV
  clear hg O5 V
  have X6c := X6
  obtain ⟨sX6, pX6, qX6⟩ := X6c
  have X9c := X9
  obtain ⟨sX9, pX9, qX9⟩ := X9c
  go_wp2_with fail
  refine (eqGraph_sameA nn AG AW xs.length _ _ xs w11 G0.src W0.src hxl).mono ?_
  rintro e w12 ⟨rfl, hb⟩
  have X := X.below hb
  have Z := Z.below hb
  have W0 := W0.below hb
  have X6 := X6.below hb
  have G0 := G0.below hb
  have X9 := X9.below hb
  have hB := hB.andB hb
  clear hb
  clear sX6 pX6 qX6
  clear sX9 pX9 qX9
  have X9c := X9
  obtain ⟨sX9, pX9, qX9⟩ := X9c
  go_wp2_with fail
  refine (markGraph_m _ nn AG xs.length _ xs 1 w12 G0 hxl (by omega) (by omega)).mono ?_
  rintro e w13 ⟨rfl, ⟨ys, G1, hys⟩, hg⟩
  have HY := Lib.hid hys
  have X := X.kept hg HN.out.1
  have Z := Z.kept hg HN.out.2.1
  have X6 := X6.kept hg HN.out.2.2.1
  have X9 := X9.kept hg HN.out.2.2.2.1
  have W0 := W0.kept hg HN.out.2.2.2.2
  have hB := hB.grown hg hB.size (fun k hk => (G0.blk k hk).1)
  clear hg hys G0
  clear sX9 pX9 qX9
  have X9c := X9
  obtain ⟨sX9, pX9, qX9⟩ := X9c
  go_wp2_with fail
  refine (heldGraph_m nn AG xs.length _ ys 1 w13 G1.src HY.out hxl (by omega) (by omega)).mono ?_
  rintro e w14 ⟨rfl, hb⟩
  have X := X.below hb
  have Z := Z.below hb
  have W0 := W0.below hb
  have X6 := X6.below hb
  have X9 := X9.below hb
  have G1 := G1.below hb
  have hB := hB.andB hb
  clear hb
  clear sX9 pX9 qX9
  have Xc := X
  obtain ⟨sX, pX, qX⟩ := Xc
  have Zc := Z
  obtain ⟨sZ, pZ, qZ⟩ := Zc
  have hB0 := hB
  go_wp2_with fail
  refine wp_region_thenS 10 (fun i9 v W => match i9 with
    | 0 => v = .agg #[.int .i64 n1, .slice A1 m1 c1]
    | 1 => AGr n1 es v W
    | 2 => v = .agg #[.int .i64 n2, .slice A2 m2 c2]
    | 3 => AGr n2 fs v W
    | 4 => GRT w14.heap.size nn xs kc v W
    | 5 => GRT w14.heap.size nn xs kc v W
    | 6 => GRV w14.heap.size nn xs v W
    | 7 => v = .int .i64 kc
    | 8 => NewG w14.heap.size v W
    | 9 => FillG w14.heap.size nn xs v W
    | _ => True)
    (fun i => match i with
    | 1 => some 4
    | 3 => some 4
    | 6 => some 9
    | 8 => some 9
    | _ => none) (fun i => match i with
    | 9 => some 8
    | _ => none)
    (fun k W W' => if k = 9 then StG w14.heap.size W W' else Below W.heap.size W W')  (fun W => Below w14.heap.size w14 W) (by kernel_rfl) (by kernel_rfl) (by kernel_rfl) ?_ ?_ ?_ ?_ ?_
  · exact (Below.refl _ _).drew
  · intro i k v W W' hne hd hC hf hE
    by_cases hk : k = 9
    · subst hk
      replace hE : StG w14.heap.size W W' := hE
      match i, hne, hd, hf with
      | 0, hne, hd, hf => exact hf
      | 1, hne, hd, hf =>
        obtain ⟨p, v0, v1, hp, hlt, hh, rfl⟩ := hE
        obtain ⟨g, c, e, he⟩ := hf
        exact ⟨g, c, e, (he.setG hh v0 v1)⟩
      | 2, hne, hd, hf => exact hf
      | 3, hne, hd, hf =>
        obtain ⟨p, v0, v1, hp, hlt, hh, rfl⟩ := hE
        obtain ⟨g, c, e, he⟩ := hf
        exact ⟨g, c, e, (he.setG hh v0 v1)⟩
      | 4, hne, hd, hf => exact GRT.st hf hE
      | 5, hne, hd, hf => exact GRT.st hf hE
      | 6, hne, hd, hf => exact absurd rfl hd
      | 7, hne, hd, hf => exact hf
      | 8, hne, hd, hf => exact absurd rfl hd
      | 9, hne, hd, hf => exact absurd rfl hne
      | j + 10, hne, hd, hf => exact hf
    · simp only [if_neg hk] at hE
      match i, hf with
      | 0, hf => exact hf
      | 1, hf => exact AGr.below hf hE
      | 2, hf => exact hf
      | 3, hf => exact AGr.below hf hE
      | 4, hf => exact GRT.below hf hE
      | 5, hf => exact GRT.below hf hE
      | 6, hf => exact GRV.below hf hE
      | 7, hf => exact hf
      | 8, hf => exact NewG.below hf hE
      | 9, hf => exact FillG.below hf hE
      | _ + 10, hf => exact hf
  · intro k W W' hC hE
    by_cases hk : k = 9
    · subst hk; exact StG.below hC hE
    · simp only [if_neg hk] at hE; exact Below.andB hC hE
  · simp only [List.take_succ_cons, List.take_zero]
    refine ⟨?_, ?_, ?_, ?_, ?_, ?_, ?_, ?_, ?_, ?_, trivial⟩
    · intro a W hC hs hd
      have hW : Below w14.heap.size w14 W := hC
      have e2 : a.tmps[2]?.getD undef = .pointer (some ⟨bx, 0, none⟩) := hs 2 (by kernel_rfl)
      refine growsG_none (E := fun W W' => Below W.heap.size W W') rfl ?_
      have k0 := (hW.cell (p := ⟨bx, 0, none⟩) sX).trans pX
      have k1 := (hW.cell (p := ⟨bx, 1, none⟩) sX).trans qX
      clear hs hd
      unfold GrowsE
      go_simp
      exact Below.refl _ _
    · intro a W hC hs hd
      have hW : Below w14.heap.size w14 W := hC
      have e1 : (a.tmps[95]?.getD undef) = .agg #[.int .i64 n1, .slice A1 m1 c1] := hd 0 95 (by kernel_rfl) (by kernel_rfl) (by kernel_rfl)
      refine growsG_none (E := fun W W' => Below W.heap.size W W') rfl ?_
      clear hs hd
      unfold GrowsE
      go_simp
      refine ⟨Below.refl _ _, (toGraph_any _ _ _ _ es _ (h.below (hB0.andB hW)) hm).mono ?_⟩
      rintro e w6 ⟨g6, c6, rfl, ho6, hb6⟩
      exact ⟨_, rfl, hb6, g6, c6, rfl, ho6.eds⟩
    · intro a W hC hs hd
      have hW : Below w14.heap.size w14 W := hC
      have e2 : a.tmps[3]?.getD undef = .pointer (some ⟨bz, 0, none⟩) := hs 3 (by kernel_rfl)
      refine growsG_none (E := fun W W' => Below W.heap.size W W') rfl ?_
      have k0 := (hW.cell (p := ⟨bz, 0, none⟩) sZ).trans pZ
      have k1 := (hW.cell (p := ⟨bz, 1, none⟩) sZ).trans qZ
      clear hs hd
      unfold GrowsE
      go_simp
      exact Below.refl _ _
    · intro a W hC hs hd
      have hW : Below w14.heap.size w14 W := hC
      have e1 : (a.tmps[97]?.getD undef) = .agg #[.int .i64 n2, .slice A2 m2 c2] := hd 2 97 (by kernel_rfl) (by kernel_rfl) (by kernel_rfl)
      refine growsG_none (E := fun W W' => Below W.heap.size W W') rfl ?_
      clear hs hd
      unfold GrowsE
      go_simp
      refine ⟨Below.refl _ _, (toGraph_any _ _ _ _ fs _ (h2.below (hB0.andB hW)) hl).mono ?_⟩
      rintro e w6 ⟨g6, c6, rfl, ho6, hb6⟩
      exact ⟨_, rfl, hb6, g6, c6, rfl, ho6.eds⟩
    · intro a W hC hs hd
      have hW : Below w14.heap.size w14 W := hC
      have e1 : AGr n1 es (a.tmps[96]?.getD undef) W := hd 1 96 (by kernel_rfl) (by kernel_rfl) (by kernel_rfl)
      have e3 : AGr n2 fs (a.tmps[98]?.getD undef) W := hd 3 98 (by kernel_rfl) (by kernel_rfl) (by kernel_rfl)
      obtain ⟨ga, ca, fe1, Ea⟩ := e1
      obtain ⟨gb, cb, fe3, Eb⟩ := e3
      refine growsG_none (E := fun W W' => Below W.heap.size W W') rfl ?_
      clear hs hd
      unfold GrowsE
      go_simp
      refine ⟨Below.refl _ _, (HIM.out _ _ _ _ _ Ea Eb).mono ?_⟩
      rintro e w6 ⟨AW, cW, rfl, W0, hb6⟩
      exact ⟨_, rfl, hb6, AW, cW, rfl, W0.mono hW.size⟩
    · intro a W hC hs hd
      have hW : Below w14.heap.size w14 W := hC
      have e1 : GRT w14.heap.size nn xs kc (a.tmps[99]?.getD undef) W := hd 4 99 (by kernel_rfl) (by kernel_rfl) (by kernel_rfl)
      obtain ⟨AW, cW, fe1, W0⟩ := e1
      refine growsG_none (E := fun W W' => Below W.heap.size W W') rfl ?_
      clear hs hd
      unfold GrowsE
      go_simp
      exact ⟨Below.refl _ _, AW, cW, rfl, W0⟩
    · intro a W hC hs hd
      have hW : Below w14.heap.size w14 W := hC
      have e1 : GRT w14.heap.size nn xs kc (a.tmps[94]?.getD undef) W := hd 5 94 (by kernel_rfl) (by kernel_rfl) (by kernel_rfl)
      obtain ⟨AW, cW, fe1, W0⟩ := e1
      refine growsG_none (E := fun W W' => Below W.heap.size W W') rfl ?_
      clear hs hd
      unfold GrowsE
      go_simp
      exact ⟨Below.refl _ _, AW, cW, rfl, W0⟩
    · intro a W hC hs hd
      have hW : Below w14.heap.size w14 W := hC
      have e1 : GRT w14.heap.size nn xs kc (a.tmps[94]?.getD undef) W := hd 5 94 (by kernel_rfl) (by kernel_rfl) (by kernel_rfl)
      obtain ⟨AW, cW, fe1, W0⟩ := e1
      refine growsG_none (E := fun W W' => Below W.heap.size W W') rfl ?_
      clear hs hd
      unfold GrowsE
      go_simp
      exact Below.refl _ _
    · intro a W hC hs hd
      have hW : Below w14.heap.size w14 W := hC
      refine growsG_none (E := fun W W' => Below W.heap.size W W') rfl ?_
      clear hs hd
      unfold GrowsE
      go_simp
      exact ⟨(Below.refl _ _).alloc (Nat.le_refl _) _, _, rfl, hW.size, heap_alloc_new _ _⟩
    · intro a W hC hs hd
      have hW : Below w14.heap.size w14 W := hC
      have e1 : GRV w14.heap.size nn xs (a.tmps[100]?.getD undef) W := hd 6 100 (by kernel_rfl) (by kernel_rfl) (by kernel_rfl)
      have e2 : NewG w14.heap.size (a.tmps[15]?.getD undef) W := hd 8 15 (by kernel_rfl) (by kernel_rfl) (by kernel_rfl)
      obtain ⟨AW, cW, fe1, W0⟩ := e1
      obtain ⟨p, fe2, hp, hh⟩ := e2
      have fe2' : a.tmps.getD 15 undef = .pointer (some ⟨p, 0, none⟩) := by rw [Array.getD_eq_getD_getElem?]; exact fe2
      refine growsG_none (E := StG w14.heap.size) (G := fun _ w' => FillG w14.heap.size nn xs (a.tmps.getD 15 undef) w') rfl ?_
      rw [fe2']
      clear hs hd
      have hlt := (Array.getElem?_eq_some_iff.1 hh).1
      have hne := W0.ne hh
      have z0 : W.cell? ⟨p, 0, none⟩ = some (.int .i64 0) := by simp [World.cell?, hh]
      have z1 : W.cell? ⟨p, 1, none⟩ = some (.slice none 0 0) := by simp [World.cell?, hh]
      have fz0 : W.frozen? ⟨p, 0, none⟩ = false := by simp [World.frozen?, hh]
      have fz1 : W.frozen? ⟨p, 1, none⟩ = false := by simp [World.frozen?, hh]
      unfold GrowsE
      go_simp
      refine ⟨⟨p, _, _, hp, hlt, hh, rfl⟩, p, AW, cW, rfl, hp, ((Box2F.mk (w := W) ⟨hlt, z0, z1⟩ fz0 fz1).set2 _ _).box, (W0.setOther (a := ⟨p, 0, none⟩) (fun e => hne e.symm) _).setOther (a := ⟨p, 1, none⟩) (fun e => hne e.symm) _, hne⟩
  intro vs W hW hf hf0
  have hW : Below w14.heap.size w14 W := hW
  have f7 : vs 101 = .int .i64 kc := hf 7 101 (by decide) (by kernel_rfl) (by intro k hk; cases hk)
  have f9 : FillG w14.heap.size nn xs (vs 15) W := hf0 9 _ (by decide) rfl rfl (by intro k hk; cases hk)
  obtain ⟨B15, AH, cH, fe9, hB15, X15, H0, hneB15⟩ := f9
  simp only [dsts, List.take_succ_cons, List.take_zero, List.filterMap_cons, List.filterMap_nil, List.foldl_cons, List.foldl_nil, Act.put, List.setIfInBounds_toArray, List.set_cons_succ, List.set_cons_zero, f7, fe9, List.drop_succ_cons, List.drop_zero]
  clear hf hf0 f7 fe9
  clear sX pX qX
  clear sZ pZ qZ
  clear hB15 hneB15
  have X := X.below hW
  have Z := Z.below hW
  have W0 := W0.below hW
  have X6 := X6.below hW
  have X9 := X9.below hW
  have G1 := G1.below hW
  have hB := hB.andB hW
  clear hW hB0
  have X6c := X6
  obtain ⟨sX6, pX6, qX6⟩ := X6c
  have X15c := X15
  obtain ⟨sX15, pX15, qX15⟩ := X15c
  go_wp2_with fail
  refine (eqGraph_sameA nn AH AW xs.length _ _ xs _ H0.src W0.src hxl).mono ?_
  rintro e w18 ⟨rfl, hb⟩
  clear sX6 pX6 qX6 sX15 pX15 qX15
  clear W0 H0 X6 X15 X Z
  have X9 := X9.below hb
  have G1 := G1.below hb
  have hB := hB.andB hb
  clear hb
  have X9c := X9
  obtain ⟨sX9, pX9, qX9⟩ := X9c
  go_wp2_with fail
  refine (heldGraph_m nn AG xs.length _ ys 1 w18 G1.src HY.out hxl (by omega) (by omega)).mono ?_
  rintro e w19 ⟨rfl, hb⟩
  have hB := hB.andB hb
  clear hb
  go_wp2_with fail
  go_ret
  exact ⟨rfl, hB⟩
end Go.Proofs.Ytppfplhbfgjjhaa
