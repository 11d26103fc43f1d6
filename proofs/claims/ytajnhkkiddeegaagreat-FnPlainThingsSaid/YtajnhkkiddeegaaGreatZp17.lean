import Derived.Test.YtajnhkkiddeegaaGreatZp14
import Derived.Test.YtajnhkkiddeegaaGreatZp16
set_option linter.unusedVariables false
set_option linter.unusedSimpArgs false
namespace Go.Proofs.YtajnhkkiddeegaaGreat
open Go.RowKit Go.Sort
theorem wp_appE0 {ops : Array Oper} {rest : List Oper} {o : Oper} {a : Act} {Q : Exit → Act → World → Prop} {s x : Operand} (hgd : o.guard = none)
    (ho : o.op = .call { callee := .builtin .append, args := #[s, x], argTypes := #[24, 24] })
    {b o2 l c : Nat} {es : List (Int × Int)} {wr : World} {H : Nat} (hs : a.eval s = .slice (some ⟨H, 0, none⟩) 0 0) (hx : a.eval x = .slice (some ⟨b, o2, none⟩) l c) (hH : wr.heap.size = H)
    (hE : Eds wr b o2 l es) (hl0 : 0 < l) (hl : l ≤ 1048576)
    (h : ∀ A' c' w', OwnEA wr.heap.size w' A' l c' es → Below wr.heap.size wr w' → wpList Tryz.prog ops Q rest (a.put o.dst (.slice A' l c')) w') :
    wpList Tryz.prog ops Q (o :: rest) a (wr.alloc (.cells #[] 78)) := by
  subst hH
  have hb1 : Below wr.heap.size wr (wr.alloc (.cells #[] 78)) := (Below.refl _ _).alloc (Nat.le_refl _) _
  have O0 : OwnE wr.heap.size (wr.alloc (.cells #[] 78)) wr.heap.size 0 0 [] := OwnE.empty _ _ _ (Nat.le_refl _) (heap_alloc_new wr _)
  have E1 := hE.below hb1
  obtain ⟨i0, hi, hz0, hz1, hz2⟩ := info_parts infE
  refine wpList_plain hgd fun K hK => wp_append_lies (wr.alloc (.cells #[] 78)) s x 24 ho wr.heap.size 78 i0 (.agg #[.int .i64 0, .int .i64 0]) 2 16 Tryz.underlying24 hi hz0 hz1 hz2 rfl (by decide) (.slice (some ⟨wr.heap.size, 0, none⟩) 0 0) 0 (flatE []) hs O0.2
    ⟨b, o2, none⟩ l c (flatE es) hx (by rw [flatE_length, hE.len]) (fun j u hj => ?_) (fun u hu => ?_) hl0 (by unfold maxLen; omega) (by omega) (by simp) _ rfl ?_
  · have hjl : j < es.length * 2 := by
      have := (List.getElem?_eq_some_iff.1 hj).1
      rwa [flatE_length] at this
    have h2 := flatE_at es (j / 2) (by omega)
    have hj2 : j / 2 < l := by have := hE.len; omega
    rw [Addr.add_lit]
    rcases (show j % 2 = 0 ∨ j % 2 = 1 by omega) with h0 | h0
    · have e : j = j / 2 * 2 := by omega
      rw [e] at hj ⊢
      rw [h2.1] at hj
      rw [E1.ca (j / 2) hj2]; exact hj
    · have e : j = j / 2 * 2 + 1 := by omega
      rw [e] at hj ⊢
      rw [h2.2] at hj
      rw [← Nat.add_assoc, E1.cb (j / 2) hj2]; exact hj
  · simp only [flatE, List.mem_flatMap] at hu
    obtain ⟨y, _, hu⟩ := hu
    simp at hu
    rcases hu with rfl | rfl <;> rfl
  · intro g2 cap w2 hown' hgrow hat _
    rw [Nat.zero_add] at hown'
    have hk := hK _ _ (h (some ⟨g2, 0, none⟩) cap w2 ⟨hE.len, by simpa [flatE] using hown'⟩ (hb1.grown hgrow (by simp) (fun y hy => by simp [Value.ownBlock] at hy; omega)))
    simpa using hk
theorem wp_appEA2 {ops : Array Oper} {rest : List Oper} {o : Oper} {a : Act} {Q : Exit → Act → World → Prop} {s x : Operand} (hgd : o.guard = none)
    (ho : o.op = .call { callee := .builtin .append, args := #[s, x], argTypes := #[24, 24] })
    {base : Nat} {A : Option Addr} {m c : Nat} {es : List (Int × Int)} {w1 : World} {B : Nat} {T : TypeId} {fr : Nat × Nat} {p q : Int} (hs : a.eval s = .slice A m c) (hx : a.eval x = .slice (some ⟨B, 0, none⟩) 1 1)
    (hB : w1.heap[B]? = some (.cells #[.int .i64 p, .int .i64 q] T fr))
    (hown : OwnEA base w1 A m c es) (hbase : base ≤ w1.heap.size) (hm : m ≤ 1048576)
    (h : ∀ A' c' w', OwnEA base w' A' (m + 1) c' (es ++ [(p, q)]) → w1.grownBy w' (blkOf A) → LiesAt A A' w1 → wpList Tryz.prog ops Q rest (a.put o.dst (.slice A' (m + 1) c')) w') :
    wpList Tryz.prog ops Q (o :: rest) a w1 :=
  wpList_plain hgd fun _ hK => wp_appEA ho hs hx hB hown hbase hm fun A' c' w' h1 h2 h3 => hK _ _ (h A' c' w' h1 h2 h3)
def NewB (base : Nat) (x y : Int) (v : Value) (W : World) : Prop := ∃ H, v = .slice (some ⟨H, 0, none⟩) 1 1 ∧ base ≤ H ∧ W.heap[H]? = some (.cells #[.int .i64 x, .int .i64 y] 78)
theorem NewB.below {base : Nat} {x y : Int} {v : Value} {W W' : World} (h : NewB base x y v W) (hb : Below W.heap.size W W') : NewB base x y v W' := by
  obtain ⟨H, e, hg, hh⟩ := h
  exact ⟨H, e, hg, (hb.block _ (Array.getElem?_eq_some_iff.1 hh).1).trans hh⟩
def shE (n : Int) (e : Int × Int) : Int × Int := (e.1 + n, e.2 + n)
def besL (n : Int) (es fs : List (Int × Int)) : List (Int × Int) := es ++ fs.map (shE n)
theorem bes_step (n : Int) (es fs : List (Int × Int)) {j : Nat} (h : j < fs.length) : es ++ (fs.take (j + 1)).map (shE n) = (es ++ (fs.take j).map (shE n)) ++ [(ea fs j + n, eb fs j + n)] := by
  rw [List.take_succ_eq_append_getElem h, List.map_append, List.map_singleton, e_pair h, List.append_assoc]; rfl
set_option maxRecDepth 100000 in
set_option maxHeartbeats 4000000 in
theorem l01Beside_any (n1 n2 : Int) (eb0 eo m ec fb fo l fc : Nat) (es fs : List (Int × Int)) (w : World) (h : Eds w eb0 eo m es) (h2 : Eds w fb fo l fs) (hn1 : WfP n1 es) (hn2 : WfP n2 fs) :
    Calls Tryz.prog 89 #[.agg #[.int .i64 n1, .slice (some ⟨eb0, eo, none⟩) m ec], .agg #[.int .i64 n2, .slice (some ⟨fb, fo, none⟩) l fc]] w (RetG (n1 + n2) (srtE (besL n1 es fs)) w) := by
  have hlm := Lib.hid h.len
  have hll := Lib.hid h2.len
  have hm0 : 0 < m ∧ m ≤ 30 := by have := hn1.2.2.2.1; have := hn1.1; have := hn1.2.1; have := h.len; omega
  have hl0 : 0 < l ∧ l ≤ 30 := by have := hn2.2.2.2.1; have := hn2.1; have := hn2.2.1; have := h2.len; omega
  have HF := Lib.hid hn2.2.2.2.2
  have hr1 : 2 ≤ n1 ∧ n1 ≤ 20 := ⟨hn1.1, hn1.2.1⟩
  have hr2 : 2 ≤ n2 ∧ n2 ≤ 20 := ⟨hn2.1, hn2.2.1⟩
  clear hn1 hn2
  obtain ⟨w1, hw1⟩ : ∃ w1, w1 = w.alloc (.cells #[.int .i64 n1, .slice (some ⟨eb0, eo, none⟩) m ec] 26) := ⟨_, rfl⟩
  have X2 := Box2.made w (.int .i64 n1) (.slice (some ⟨eb0, eo, none⟩) m ec) 26
  have hb1 : Below w.heap.size w (w.alloc (.cells #[.int .i64 n1, .slice (some ⟨eb0, eo, none⟩) m ec] 26)) := (Below.refl _ _).alloc (Nat.le_refl _) _
  rw [← hw1] at X2 hb1
  have hs1 : w1.heap.size = w.heap.size + 1 := by rw [hw1]; simp
  obtain ⟨w2, hw2⟩ : ∃ w2, w2 = w1.alloc (.cells #[.int .i64 n2, .slice (some ⟨fb, fo, none⟩) l fc] 26) := ⟨_, rfl⟩
  have X3 := Box2.made w1 (.int .i64 n2) (.slice (some ⟨fb, fo, none⟩) l fc) 26
  have ha2 : Below w1.heap.size w1 (w1.alloc (.cells #[.int .i64 n2, .slice (some ⟨fb, fo, none⟩) l fc] 26)) := (Below.refl _ _).alloc (Nat.le_refl _) _
  rw [← hw2] at X3 ha2
  have X2 := X2.below ha2
  have hb2 := hb1.andB ha2
  have hs2 : w2.heap.size = w1.heap.size + 1 := by rw [hw2]; simp
  obtain ⟨w3, hw3⟩ : ∃ w3, w3 = w2.alloc (.cells #[.int .i64 0, .slice none 0 0] 26) := ⟨_, rfl⟩
  have X4 := Box2F.made w2 (.int .i64 0) (.slice none 0 0) 26
  have ha3 : Below w2.heap.size w2 (w2.alloc (.cells #[.int .i64 0, .slice none 0 0] 26)) := (Below.refl _ _).alloc (Nat.le_refl _) _
  rw [← hw3] at X4 ha3
  have X2 := X2.below ha3
  have X3 := X3.below ha3
  have hb3 := hb2.andB ha3
  have hs3 : w3.heap.size = w2.heap.size + 1 := by rw [hw3]; simp
  obtain ⟨b2, hB2⟩ : ∃ b2, b2 = w.heap.size := ⟨_, rfl⟩
  obtain ⟨b3, hB3⟩ : ∃ b3, b3 = w1.heap.size := ⟨_, rfl⟩
  obtain ⟨b4, hB4⟩ : ∃ b4, b4 = w2.heap.size := ⟨_, rfl⟩
  rw [← hB2] at X2
  rw [← hB3] at X3
  rw [← hB4] at X4
  have HW : Hid (w3 = ((w.alloc (.cells #[.int .i64 n1, .slice (some ⟨eb0, eo, none⟩) m ec] 26)).alloc (.cells #[.int .i64 n2, .slice (some ⟨fb, fo, none⟩) l fc] 26)).alloc (.cells #[.int .i64 0, .slice none 0 0] 26) ∧ w.heap.size = b2 ∧ w.heap.size + 1 = b3 ∧ w.heap.size + 1 + 1 = b4) := by rw [← hw1, ← hw2]; exact ⟨hw3, hB2.symm, by omega, by omega⟩
  have hww : w.heap.size ≤ w3.heap.size ∧ b2 < b3 ∧ b3 < b4 ∧ b4 < w3.heap.size ∧ w.heap.size ≤ b4 := by omega
  clear hw1 hw2 hw3 ha2 ha3 hs1 hs2 hs3 hb1 hb2 hB2 hB3 hB4
  have E3 := h.below hb3
  have F3 := h2.below hb3
  have X2c := X2
  obtain ⟨s2, p2, q2⟩ := X2c
  go_enter Tryz.func89, Tryz.ntmps89
  go_wp2_with (first
    | (at_builtin; refine wp_appE0 rfl rfl rfl rfl (by simp) (by rw [← HW.out.1]; exact E3) hm0.1 (by omega) ?_; intro A5 c5 w5 O5 hb5; rw [← HW.out.1] at O5 hb5))
  rw [HW.out.2.2.2, HW.out.2.2.1, HW.out.2.1]
  have X2 := X2.below hb5
  have X3 := X3.below hb5
  have X4 := X4.below hb5
  have hb6 := hb3.andB hb5
  have hz6 := hb5.size
  clear E3 F3 s2 p2 q2 hb5 hb3
  go_loopw [5, 6] (fun lv iv wr => ∃ (j : Nat) (A : Option Addr) (c' : Nat), j ≤ l ∧ iv = .int .i64 j ∧ lv = .slice A (m + j) c' ∧ OwnEA w3.heap.size wr A (m + j) c' (es ++ (fs.take j).map (shE n1)) ∧ Box2 wr b2 (.int .i64 n1) (.slice (some ⟨eb0, eo, none⟩) m ec) ∧ Box2 wr b3 (.int .i64 n2) (.slice (some ⟨fb, fo, none⟩) l fc) ∧ Box2F wr b4 (.int .i64 0) (.slice none 0 0) ∧ Below w.heap.size w wr ∧ w3.heap.size ≤ wr.heap.size) (fun _ i _ => l - (intOf i).toNat)
  case atStart => exact ⟨0, A5, c5, Nat.zero_le _, rfl, rfl, by simpa using O5, X2, X3, X4, hb6, hz6⟩
  case round =>
    clear O5 X2 X3 X4 hb6 hz6
    obtain ⟨j, A, c', hj, rfl, rfl, OX, X2, X3, X4, hbr, hzr⟩ := hrel
    have X2c := X2
    have X3c := X3
    obtain ⟨s2, p2, q2⟩ := X2c
    obtain ⟨s3, p3, q3⟩ := X3c
    by_cases hlt : j < l
    · obtain ⟨w4, rfl⟩ : ∃ w4, w4 = wr := ⟨wr, rfl⟩
      obtain ⟨g, rfl, OG⟩ : ∃ g, A = some ⟨g, 0, none⟩ ∧ OwnE w3.heap.size w4 g (m + j) c' (es ++ (fs.take j).map (shE n1)) := by
        rcases OX.cases with ⟨_, h0, _⟩ | h0
        · omega
        · exact h0
      have F := h2.below hbr
      have d1 := F.ca j hlt
      have d2 := F.cb j hlt
      have zF := F.blk
      have hfr := HF.out j (by rw [hll.out]; exact hlt)
      have hwa : IntKind.i64.wrap (ea fs j + n1) = ea fs j + n1 := IntWalk.i64_in _ (by omega)
      have hwb : IntKind.i64.wrap (eb fs j + n1) = eb fs j + n1 := IntWalk.i64_in _ (by omega)
      have HST := Lib.hid (bes_step n1 es fs (j := j) (by rw [hll.out]; exact hlt))
      clear hfr F OX
      go_wp2_with fail
      refine wp_region_then 21 (fun i9 v W => match i9 with
        | 0 => v = .slice (some ⟨g, 0, none⟩) (m + j) c'
        | 1 => v = .pointer (some ⟨b3, 1, none⟩)
        | 2 => v = .slice (some ⟨fb, fo, none⟩) l fc
        | 3 => v = .int .i64 j
        | 4 => v = .pointer (some ⟨fb, fo + j * 2, none⟩)
        | 5 => v = .pointer (some ⟨fb, fo + j * 2, none⟩)
        | 6 => v = .int .i64 (ea fs j)
        | 7 => v = .pointer (some ⟨b2, 0, none⟩)
        | 8 => v = .int .i64 n1
        | 9 => v = .int .i64 (ea fs j + n1)
        | 10 => v = .pointer (some ⟨b3, 1, none⟩)
        | 11 => v = .slice (some ⟨fb, fo, none⟩) l fc
        | 12 => v = .int .i64 j
        | 13 => v = .pointer (some ⟨fb, fo + j * 2, none⟩)
        | 14 => v = .pointer (some ⟨fb, fo + j * 2 + 1, none⟩)
        | 15 => v = .int .i64 (eb fs j)
        | 16 => v = .pointer (some ⟨b2, 0, none⟩)
        | 17 => v = .int .i64 n1
        | 18 => v = .int .i64 (eb fs j + n1)
        | 19 => v = .agg #[.int .i64 (ea fs j + n1), .int .i64 (eb fs j + n1)]
        | _ => NewB w4.heap.size (ea fs j + n1) (eb fs j + n1) v W)
        (fun i => match i with
        | _ => none)
        (fun k W W' => Below W.heap.size W W')  (fun W => Below w4.heap.size w4 W) (by kernel_rfl) (by kernel_rfl) ?_ ?_ ?_ ?_ ?_
      · exact (Below.refl _ _).drew
      · intro i k v W W' hne hd hC hf hE
        match i, hf with
        | 0, hf => exact hf
        | 1, hf => exact hf
        | 2, hf => exact hf
        | 3, hf => exact hf
        | 4, hf => exact hf
        | 5, hf => exact hf
        | 6, hf => exact hf
        | 7, hf => exact hf
        | 8, hf => exact hf
        | 9, hf => exact hf
        | 10, hf => exact hf
        | 11, hf => exact hf
        | 12, hf => exact hf
        | 13, hf => exact hf
        | 14, hf => exact hf
        | 15, hf => exact hf
        | 16, hf => exact hf
        | 17, hf => exact hf
        | 18, hf => exact hf
        | 19, hf => exact hf
        | _ + 20, hf => exact NewB.below hf hE
      · intro k W W' hC hE
        exact Below.andB hC hE
      · simp only [List.take_succ_cons, List.take_zero]
        refine ⟨?_, ?_, ?_, ?_, ?_, ?_, ?_, ?_, ?_, ?_, ?_, ?_, ?_, ?_, ?_, ?_, ?_, ?_, ?_, ?_, ?_, trivial⟩
        · intro a W hC hs hd
          have hW : Below w4.heap.size w4 W := hC
          have e5 : a.tmps[5]?.getD undef = .slice (some ⟨g, 0, none⟩) (m + j) c' := hs 5 (by kernel_rfl)
          refine growsG_none (E := fun W W' => Below W.heap.size W W') rfl ?_
          clear hs hd
          unfold GrowsE
          go_simp
          exact Below.refl _ _
        · intro a W hC hs hd
          have hW : Below w4.heap.size w4 W := hC
          have e3 : a.tmps[3]?.getD undef = .pointer (some ⟨b3, 0, none⟩) := hs 3 (by kernel_rfl)
          refine growsG_none (E := fun W W' => Below W.heap.size W W') rfl ?_
          have k0 := (hW.cell (p := ⟨b3, 1, none⟩) (s3)).trans (q3)
          have k1 := (hW.cell (p := ⟨b2, 0, none⟩) (s2)).trans (p2)
          have k2 := (hW.cell (p := ⟨fb, fo + j * 2, none⟩) (zF)).trans (d1)
          have k3 := (hW.cell (p := ⟨fb, fo + j * 2 + 1, none⟩) (zF)).trans (d2)
          clear hs hd
          unfold GrowsE
          go_simp
          exact Below.refl _ _
        · intro a W hC hs hd
          have hW : Below w4.heap.size w4 W := hC
          have e19 : (a.tmps[19]?.getD undef) = .pointer (some ⟨b3, 1, none⟩) := hd 1 19 (by kernel_rfl) (by kernel_rfl) (by kernel_rfl)
          refine growsG_none (E := fun W W' => Below W.heap.size W W') rfl ?_
          have k0 := (hW.cell (p := ⟨b3, 1, none⟩) (s3)).trans (q3)
          have k1 := (hW.cell (p := ⟨b2, 0, none⟩) (s2)).trans (p2)
          have k2 := (hW.cell (p := ⟨fb, fo + j * 2, none⟩) (zF)).trans (d1)
          have k3 := (hW.cell (p := ⟨fb, fo + j * 2 + 1, none⟩) (zF)).trans (d2)
          clear hs hd
          unfold GrowsE
          go_simp
          exact Below.refl _ _
        · intro a W hC hs hd
          have hW : Below w4.heap.size w4 W := hC
          have e6 : a.tmps[6]?.getD undef = .int .i64 j := hs 6 (by kernel_rfl)
          refine growsG_none (E := fun W W' => Below W.heap.size W W') rfl ?_
          clear hs hd
          unfold GrowsE
          go_simp
          exact Below.refl _ _
        · intro a W hC hs hd
          have hW : Below w4.heap.size w4 W := hC
          have e20 : (a.tmps[20]?.getD undef) = .slice (some ⟨fb, fo, none⟩) l fc := hd 2 20 (by kernel_rfl) (by kernel_rfl) (by kernel_rfl)
          have e21 : (a.tmps[21]?.getD undef) = .int .i64 j := hd 3 21 (by kernel_rfl) (by kernel_rfl) (by kernel_rfl)
          refine growsG_none (E := fun W W' => Below W.heap.size W W') rfl ?_
          have k0 := (hW.cell (p := ⟨b3, 1, none⟩) (s3)).trans (q3)
          have k1 := (hW.cell (p := ⟨b2, 0, none⟩) (s2)).trans (p2)
          have k2 := (hW.cell (p := ⟨fb, fo + j * 2, none⟩) (zF)).trans (d1)
          have k3 := (hW.cell (p := ⟨fb, fo + j * 2 + 1, none⟩) (zF)).trans (d2)
          clear hs hd
          unfold GrowsE
          go_simp
          exact Below.refl _ _
        · intro a W hC hs hd
          have hW : Below w4.heap.size w4 W := hC
          have e22 : (a.tmps[22]?.getD undef) = .pointer (some ⟨fb, fo + j * 2, none⟩) := hd 4 22 (by kernel_rfl) (by kernel_rfl) (by kernel_rfl)
          refine growsG_none (E := fun W W' => Below W.heap.size W W') rfl ?_
          have k0 := (hW.cell (p := ⟨b3, 1, none⟩) (s3)).trans (q3)
          have k1 := (hW.cell (p := ⟨b2, 0, none⟩) (s2)).trans (p2)
          have k2 := (hW.cell (p := ⟨fb, fo + j * 2, none⟩) (zF)).trans (d1)
          have k3 := (hW.cell (p := ⟨fb, fo + j * 2 + 1, none⟩) (zF)).trans (d2)
          clear hs hd
          unfold GrowsE
          go_simp
          exact Below.refl _ _
        · intro a W hC hs hd
          have hW : Below w4.heap.size w4 W := hC
          have e23 : (a.tmps[23]?.getD undef) = .pointer (some ⟨fb, fo + j * 2, none⟩) := hd 5 23 (by kernel_rfl) (by kernel_rfl) (by kernel_rfl)
          refine growsG_none (E := fun W W' => Below W.heap.size W W') rfl ?_
          have k0 := (hW.cell (p := ⟨b3, 1, none⟩) (s3)).trans (q3)
          have k1 := (hW.cell (p := ⟨b2, 0, none⟩) (s2)).trans (p2)
          have k2 := (hW.cell (p := ⟨fb, fo + j * 2, none⟩) (zF)).trans (d1)
          have k3 := (hW.cell (p := ⟨fb, fo + j * 2 + 1, none⟩) (zF)).trans (d2)
          clear hs hd
          unfold GrowsE
          go_simp
          exact Below.refl _ _
        · intro a W hC hs hd
          have hW : Below w4.heap.size w4 W := hC
          have e2 : a.tmps[2]?.getD undef = .pointer (some ⟨b2, 0, none⟩) := hs 2 (by kernel_rfl)
          refine growsG_none (E := fun W W' => Below W.heap.size W W') rfl ?_
          have k0 := (hW.cell (p := ⟨b3, 1, none⟩) (s3)).trans (q3)
          have k1 := (hW.cell (p := ⟨b2, 0, none⟩) (s2)).trans (p2)
          have k2 := (hW.cell (p := ⟨fb, fo + j * 2, none⟩) (zF)).trans (d1)
          have k3 := (hW.cell (p := ⟨fb, fo + j * 2 + 1, none⟩) (zF)).trans (d2)
          clear hs hd
          unfold GrowsE
          go_simp
          exact Below.refl _ _
        · intro a W hC hs hd
          have hW : Below w4.heap.size w4 W := hC
          have e25 : (a.tmps[25]?.getD undef) = .pointer (some ⟨b2, 0, none⟩) := hd 7 25 (by kernel_rfl) (by kernel_rfl) (by kernel_rfl)
          refine growsG_none (E := fun W W' => Below W.heap.size W W') rfl ?_
          have k0 := (hW.cell (p := ⟨b3, 1, none⟩) (s3)).trans (q3)
          have k1 := (hW.cell (p := ⟨b2, 0, none⟩) (s2)).trans (p2)
          have k2 := (hW.cell (p := ⟨fb, fo + j * 2, none⟩) (zF)).trans (d1)
          have k3 := (hW.cell (p := ⟨fb, fo + j * 2 + 1, none⟩) (zF)).trans (d2)
          clear hs hd
          unfold GrowsE
          go_simp
          exact Below.refl _ _
        · intro a W hC hs hd
          have hW : Below w4.heap.size w4 W := hC
          have e24 : (a.tmps[24]?.getD undef) = .int .i64 (ea fs j) := hd 6 24 (by kernel_rfl) (by kernel_rfl) (by kernel_rfl)
          have e26 : (a.tmps[26]?.getD undef) = .int .i64 n1 := hd 8 26 (by kernel_rfl) (by kernel_rfl) (by kernel_rfl)
          refine growsG_none (E := fun W W' => Below W.heap.size W W') rfl ?_
          clear hs hd
          unfold GrowsE
          go_simp
          exact Below.refl _ _
        · intro a W hC hs hd
          have hW : Below w4.heap.size w4 W := hC
          have e3 : a.tmps[3]?.getD undef = .pointer (some ⟨b3, 0, none⟩) := hs 3 (by kernel_rfl)
          refine growsG_none (E := fun W W' => Below W.heap.size W W') rfl ?_
          have k0 := (hW.cell (p := ⟨b3, 1, none⟩) (s3)).trans (q3)
          have k1 := (hW.cell (p := ⟨b2, 0, none⟩) (s2)).trans (p2)
          have k2 := (hW.cell (p := ⟨fb, fo + j * 2, none⟩) (zF)).trans (d1)
          have k3 := (hW.cell (p := ⟨fb, fo + j * 2 + 1, none⟩) (zF)).trans (d2)
          clear hs hd
          unfold GrowsE
          go_simp
          exact Below.refl _ _
        · intro a W hC hs hd
          have hW : Below w4.heap.size w4 W := hC
          have e28 : (a.tmps[28]?.getD undef) = .pointer (some ⟨b3, 1, none⟩) := hd 10 28 (by kernel_rfl) (by kernel_rfl) (by kernel_rfl)
          refine growsG_none (E := fun W W' => Below W.heap.size W W') rfl ?_
          have k0 := (hW.cell (p := ⟨b3, 1, none⟩) (s3)).trans (q3)
          have k1 := (hW.cell (p := ⟨b2, 0, none⟩) (s2)).trans (p2)
          have k2 := (hW.cell (p := ⟨fb, fo + j * 2, none⟩) (zF)).trans (d1)
          have k3 := (hW.cell (p := ⟨fb, fo + j * 2 + 1, none⟩) (zF)).trans (d2)
          clear hs hd
          unfold GrowsE
          go_simp
          exact Below.refl _ _
        · intro a W hC hs hd
          have hW : Below w4.heap.size w4 W := hC
          have e6 : a.tmps[6]?.getD undef = .int .i64 j := hs 6 (by kernel_rfl)
          refine growsG_none (E := fun W W' => Below W.heap.size W W') rfl ?_
          clear hs hd
          unfold GrowsE
          go_simp
          exact Below.refl _ _
        · intro a W hC hs hd
          have hW : Below w4.heap.size w4 W := hC
          have e29 : (a.tmps[29]?.getD undef) = .slice (some ⟨fb, fo, none⟩) l fc := hd 11 29 (by kernel_rfl) (by kernel_rfl) (by kernel_rfl)
          have e30 : (a.tmps[30]?.getD undef) = .int .i64 j := hd 12 30 (by kernel_rfl) (by kernel_rfl) (by kernel_rfl)
          refine growsG_none (E := fun W W' => Below W.heap.size W W') rfl ?_
          have k0 := (hW.cell (p := ⟨b3, 1, none⟩) (s3)).trans (q3)
          have k1 := (hW.cell (p := ⟨b2, 0, none⟩) (s2)).trans (p2)
          have k2 := (hW.cell (p := ⟨fb, fo + j * 2, none⟩) (zF)).trans (d1)
          have k3 := (hW.cell (p := ⟨fb, fo + j * 2 + 1, none⟩) (zF)).trans (d2)
          clear hs hd
          unfold GrowsE
          go_simp
          exact Below.refl _ _
        · intro a W hC hs hd
          have hW : Below w4.heap.size w4 W := hC
          have e31 : (a.tmps[31]?.getD undef) = .pointer (some ⟨fb, fo + j * 2, none⟩) := hd 13 31 (by kernel_rfl) (by kernel_rfl) (by kernel_rfl)
          refine growsG_none (E := fun W W' => Below W.heap.size W W') rfl ?_
          have k0 := (hW.cell (p := ⟨b3, 1, none⟩) (s3)).trans (q3)
          have k1 := (hW.cell (p := ⟨b2, 0, none⟩) (s2)).trans (p2)
          have k2 := (hW.cell (p := ⟨fb, fo + j * 2, none⟩) (zF)).trans (d1)
          have k3 := (hW.cell (p := ⟨fb, fo + j * 2 + 1, none⟩) (zF)).trans (d2)
          clear hs hd
          unfold GrowsE
          go_simp
          exact Below.refl _ _
        · intro a W hC hs hd
          have hW : Below w4.heap.size w4 W := hC
          have e32 : (a.tmps[32]?.getD undef) = .pointer (some ⟨fb, fo + j * 2 + 1, none⟩) := hd 14 32 (by kernel_rfl) (by kernel_rfl) (by kernel_rfl)
          refine growsG_none (E := fun W W' => Below W.heap.size W W') rfl ?_
          have k0 := (hW.cell (p := ⟨b3, 1, none⟩) (s3)).trans (q3)
          have k1 := (hW.cell (p := ⟨b2, 0, none⟩) (s2)).trans (p2)
          have k2 := (hW.cell (p := ⟨fb, fo + j * 2, none⟩) (zF)).trans (d1)
          have k3 := (hW.cell (p := ⟨fb, fo + j * 2 + 1, none⟩) (zF)).trans (d2)
          clear hs hd
          unfold GrowsE
          go_simp
          exact Below.refl _ _
        · intro a W hC hs hd
          have hW : Below w4.heap.size w4 W := hC
          have e2 : a.tmps[2]?.getD undef = .pointer (some ⟨b2, 0, none⟩) := hs 2 (by kernel_rfl)
          refine growsG_none (E := fun W W' => Below W.heap.size W W') rfl ?_
          have k0 := (hW.cell (p := ⟨b3, 1, none⟩) (s3)).trans (q3)
          have k1 := (hW.cell (p := ⟨b2, 0, none⟩) (s2)).trans (p2)
          have k2 := (hW.cell (p := ⟨fb, fo + j * 2, none⟩) (zF)).trans (d1)
          have k3 := (hW.cell (p := ⟨fb, fo + j * 2 + 1, none⟩) (zF)).trans (d2)
          clear hs hd
          unfold GrowsE
          go_simp
          exact Below.refl _ _
        · intro a W hC hs hd
          have hW : Below w4.heap.size w4 W := hC
          have e34 : (a.tmps[34]?.getD undef) = .pointer (some ⟨b2, 0, none⟩) := hd 16 34 (by kernel_rfl) (by kernel_rfl) (by kernel_rfl)
          refine growsG_none (E := fun W W' => Below W.heap.size W W') rfl ?_
          have k0 := (hW.cell (p := ⟨b3, 1, none⟩) (s3)).trans (q3)
          have k1 := (hW.cell (p := ⟨b2, 0, none⟩) (s2)).trans (p2)
          have k2 := (hW.cell (p := ⟨fb, fo + j * 2, none⟩) (zF)).trans (d1)
          have k3 := (hW.cell (p := ⟨fb, fo + j * 2 + 1, none⟩) (zF)).trans (d2)
          clear hs hd
          unfold GrowsE
          go_simp
          exact Below.refl _ _
        · intro a W hC hs hd
          have hW : Below w4.heap.size w4 W := hC
          have e33 : (a.tmps[33]?.getD undef) = .int .i64 (eb fs j) := hd 15 33 (by kernel_rfl) (by kernel_rfl) (by kernel_rfl)
          have e35 : (a.tmps[35]?.getD undef) = .int .i64 n1 := hd 17 35 (by kernel_rfl) (by kernel_rfl) (by kernel_rfl)
          refine growsG_none (E := fun W W' => Below W.heap.size W W') rfl ?_
          clear hs hd
          unfold GrowsE
          go_simp
          exact Below.refl _ _
        · intro a W hC hs hd
          have hW : Below w4.heap.size w4 W := hC
          have e27 : (a.tmps[27]?.getD undef) = .int .i64 (ea fs j + n1) := hd 9 27 (by kernel_rfl) (by kernel_rfl) (by kernel_rfl)
          have e36 : (a.tmps[36]?.getD undef) = .int .i64 (eb fs j + n1) := hd 18 36 (by kernel_rfl) (by kernel_rfl) (by kernel_rfl)
          refine growsG_none (E := fun W W' => Below W.heap.size W W') rfl ?_
          clear hs hd
          unfold GrowsE
          go_simp
          exact Below.refl _ _
        · intro a W hC hs hd
          have hW : Below w4.heap.size w4 W := hC
          have e37 : (a.tmps[37]?.getD undef) = .agg #[.int .i64 (ea fs j + n1), .int .i64 (eb fs j + n1)] := hd 19 37 (by kernel_rfl) (by kernel_rfl) (by kernel_rfl)
          refine growsG_none (E := fun W W' => Below W.heap.size W W') rfl ?_
          clear hs hd
          unfold GrowsE
          go_simp
          exact ⟨(Below.refl _ _).alloc (Nat.le_refl _) _, _, rfl, hW.size, heap_alloc_new _ _⟩
      intro vs W hW hf
      have f18 : (vs 18) = .slice (some ⟨g, 0, none⟩) (m + j) c' := hf 0 18 (by decide) (by kernel_rfl) (fun _ hk => by cases hk)
      have f19 : (vs 19) = .pointer (some ⟨b3, 1, none⟩) := hf 1 19 (by decide) (by kernel_rfl) (fun _ hk => by cases hk)
      have f20 : (vs 20) = .slice (some ⟨fb, fo, none⟩) l fc := hf 2 20 (by decide) (by kernel_rfl) (fun _ hk => by cases hk)
      have f21 : (vs 21) = .int .i64 j := hf 3 21 (by decide) (by kernel_rfl) (fun _ hk => by cases hk)
      have f22 : (vs 22) = .pointer (some ⟨fb, fo + j * 2, none⟩) := hf 4 22 (by decide) (by kernel_rfl) (fun _ hk => by cases hk)
      have f23 : (vs 23) = .pointer (some ⟨fb, fo + j * 2, none⟩) := hf 5 23 (by decide) (by kernel_rfl) (fun _ hk => by cases hk)
      have f24 : (vs 24) = .int .i64 (ea fs j) := hf 6 24 (by decide) (by kernel_rfl) (fun _ hk => by cases hk)
      have f25 : (vs 25) = .pointer (some ⟨b2, 0, none⟩) := hf 7 25 (by decide) (by kernel_rfl) (fun _ hk => by cases hk)
      have f26 : (vs 26) = .int .i64 n1 := hf 8 26 (by decide) (by kernel_rfl) (fun _ hk => by cases hk)
      have f27 : (vs 27) = .int .i64 (ea fs j + n1) := hf 9 27 (by decide) (by kernel_rfl) (fun _ hk => by cases hk)
      have f28 : (vs 28) = .pointer (some ⟨b3, 1, none⟩) := hf 10 28 (by decide) (by kernel_rfl) (fun _ hk => by cases hk)
      have f29 : (vs 29) = .slice (some ⟨fb, fo, none⟩) l fc := hf 11 29 (by decide) (by kernel_rfl) (fun _ hk => by cases hk)
      have f30 : (vs 30) = .int .i64 j := hf 12 30 (by decide) (by kernel_rfl) (fun _ hk => by cases hk)
      have f31 : (vs 31) = .pointer (some ⟨fb, fo + j * 2, none⟩) := hf 13 31 (by decide) (by kernel_rfl) (fun _ hk => by cases hk)
      have f32 : (vs 32) = .pointer (some ⟨fb, fo + j * 2 + 1, none⟩) := hf 14 32 (by decide) (by kernel_rfl) (fun _ hk => by cases hk)
      have f33 : (vs 33) = .int .i64 (eb fs j) := hf 15 33 (by decide) (by kernel_rfl) (fun _ hk => by cases hk)
      have f34 : (vs 34) = .pointer (some ⟨b2, 0, none⟩) := hf 16 34 (by decide) (by kernel_rfl) (fun _ hk => by cases hk)
      have f35 : (vs 35) = .int .i64 n1 := hf 17 35 (by decide) (by kernel_rfl) (fun _ hk => by cases hk)
      have f36 : (vs 36) = .int .i64 (eb fs j + n1) := hf 18 36 (by decide) (by kernel_rfl) (fun _ hk => by cases hk)
      have f37 : (vs 37) = .agg #[.int .i64 (ea fs j + n1), .int .i64 (eb fs j + n1)] := hf 19 37 (by decide) (by kernel_rfl) (fun _ hk => by cases hk)
      have f38 : NewB w4.heap.size (ea fs j + n1) (eb fs j + n1) (vs 38) W := hf 20 38 (by decide) (by kernel_rfl) (fun _ hk => by cases hk)
      obtain ⟨H38, f38, hg38, h38⟩ := f38
      simp only [dsts, List.take_succ_cons, List.take_zero, List.drop_succ_cons, List.drop_zero, List.filterMap_cons, List.filterMap_nil, List.foldl_cons, List.foldl_nil, Act.put, List.setIfInBounds_toArray, List.set_cons_succ, List.set_cons_zero, f18, f19, f20, f21, f22, f23, f24, f25, f26, f27, f28, f29, f30, f31, f32, f33, f34, f35, f36, f37, f38]
      clear hf
      have OW := (OG.below hW).any
      have hbW := hbr.andB hW
      have hzW := hW.size
      have X2 := X2.below hW
      have X3 := X3.below hW
      have X4 := X4.below hW
      clear s2 p2 q2 s3 p3 q3 d1 d2 zF OG hbr hW
      go_wp2_with (first
        | (at_builtin; refine wp_appEA2 rfl rfl rfl rfl h38 OW (by omega) (by omega) ?_; intro A6 c6 w6 OX6 hg6 hat6))
      have hR : ∀ g', blkOf (some (⟨g, 0, none⟩ : Addr)) = some g' → w3.heap.size ≤ g' := fun g' hg' => (OW.blk g' hg').1
      have X2 := X2.kept hg6 (fun e => by have := hR b2 e.symm; omega)
      have X3 := X3.kept hg6 (fun e => by have := hR b3 e.symm; omega)
      have X4 := X4.kept hg6 (fun e => by have := hR b4 e.symm; omega)
      have hb7 := hbW.grown hg6 (by omega) (fun y hy => by have := hR y hy; omega)
      have hz7 := hg6.size
      go_roundw
      case rel => exact ⟨j + 1, A6, c6, by omega, by go_num, by rw [← Nat.add_assoc], by rw [HST.out, ← Nat.add_assoc]; exact OX6, X2, X3, X4, hb7, by omega⟩
      case measure => simp [intOf]; omega
    · obtain rfl : j = l := by omega
      obtain ⟨g, rfl, OG⟩ : ∃ g, A = some ⟨g, 0, none⟩ ∧ OwnE w3.heap.size wr g (m + j) c' (es ++ (fs.take j).map (shE n1)) := by
        rcases OX.cases with ⟨_, h0, _⟩ | h0
        · omega
        · exact h0
      have HBL : Hid (es ++ (fs.take j).map (shE n1) = besL n1 es fs) := by show _ = _; rw [List.take_of_length_le (by rw [hll.out]; exact Nat.le_refl _)]; rfl
      have HMD := Lib.hid (l01Made_any (n1 + n2) g 0 (m + j) c' _ wr OG.eds (by omega))
      have hwn : IntKind.i64.wrap (n1 + n2) = n1 + n2 := IntWalk.i64_in _ (by omega)
      clear OX OG
      go_wp2_with fail
      refine HMD.out.mono ?_
      rw [HBL.out]
      rintro e w5 ⟨g6, c2, rfl, O, hb5⟩
      have PW := X4.below hb5
      have hBW := hbr.andB hb5
      have hgO := O.ge
      clear s2 p2 q2 s3 p3 q3 X2 X3 HBL
      have O8 := (O.setOther (a := ⟨b4, 0, none⟩) (by simp; omega) (.int .i64 (n1 + n2))).setOther (a := ⟨b4, 1, none⟩) (by simp; omega) (.slice (some ⟨g6, 0, none⟩) (srtE (besL n1 es fs)).length c2)
      have P8 := PW.set2 (.int .i64 (n1 + n2)) (.slice (some ⟨g6, 0, none⟩) (srtE (besL n1 es fs)).length c2)
      have hB8 := (hBW.setCell (p := ⟨b4, 0, none⟩) hww.2.2.2.2 (.int .i64 (n1 + n2))).setCell (p := ⟨b4, 1, none⟩) hww.2.2.2.2 (.slice (some ⟨g6, 0, none⟩) (srtE (besL n1 es fs)).length c2)
      have PWx := PW
      obtain ⟨⟨sW, pW, qW⟩, fW, gW⟩ := PWx
      clear O
      go_wp2_with fail
      generalize hw9 : (World.setCell (World.setCell _ ⟨b4, 0, none⟩ (.int .i64 (n1 + n2))) ⟨b4, 1, none⟩ (.slice (some ⟨g6, 0, none⟩) (srtE (besL n1 es fs)).length c2)) = w9 at O8 P8 hB8 ⊢
      clear hw9 pW qW
      obtain ⟨⟨k0, k1, k2⟩, _, _⟩ := P8
      refine bodyPost_ret (v := .agg #[.int .i64 (n1 + n2), .slice (some ⟨g6, 0, none⟩) (srtE (besL n1 es fs)).length c2]) ?_ rfl ⟨g6, c2, rfl, O8.mono (by have := hbr.size; omega), hB8⟩
      simp [results, Tryz.results89, go_sem, k1, k2]
end Go.Proofs.YtajnhkkiddeegaaGreat
namespace Go.Proofs.YtajnhkkiddeegaaGreat
open Go.RowKit Go.Sort
theorem cloneE_any (b o l c : Nat) (es : List (Int × Int)) (w : World) (hE : Eds w b o l es) (hl0 : 0 < l) (hl : l ≤ 1048576) : Calls Tryz.prog 87 #[.slice (some ⟨b, o, none⟩) l c] w (fun e w' => ∃ A c', e = .returned (.slice A l c') ∧ OwnEA w.heap.size w' A l c' es ∧ Below w.heap.size w w') := by
  have HL0 := Lib.hid hl0
  have hq0 : ∀ W, (binOp .eql 24 (.slice (some ⟨b, o, none⟩) l c) (.slice none 0 0)).run Tryz.prog W = .ok (.bool false) W := fun W => by kernel_rfl
  clear hl0
  go_enter Tryz.func87, Tryz.ntmps87
  go_wp2_with (at_builtin; refine wp_appE0 rfl rfl rfl rfl (by simp) hE HL0.out hl ?_; intro A' c' w' O hb)
  go_ret
  exact ⟨A', c', rfl, O, hb⟩
end Go.Proofs.YtajnhkkiddeegaaGreat
