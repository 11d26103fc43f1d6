import Derived.Deep.RegionHeld3
import Derived.Deep.DeepCutAuto
import Derived.Test.YtajnhkkiddeegaaGreatZp11
set_option linter.unusedVariables false
set_option linter.unusedSimpArgs false
namespace Go.Proofs.YtajnhkkiddeegaaGreat
open Go.RowKit Go.Sort
def mmE (e : Int × Int) : Int × Int := (min e.1 e.2, max e.1 e.2)
def befE (x y : Int × Int) : Bool := befB x.1 x.2 y.1 y.2
def leE (x y : Int × Int) : Bool := !befE y x
theorem befE_iff (x y : Int × Int) : befE x y = true ↔ (x.1 < y.1 ∨ (x.1 = y.1 ∧ x.2 < y.2)) := by unfold befE befB; simp
theorem leE_iff (x y : Int × Int) : leE x y = true ↔ ¬ (y.1 < x.1 ∨ (y.1 = x.1 ∧ y.2 < x.2)) := by rw [← befE_iff]; simp [leE]
def SortedQ (xs : List (Int × Int)) : Prop := xs.Pairwise (fun x y => leE x y = true)
def srtE (es : List (Int × Int)) : List (Int × Int) := (es.map mmE).mergeSort leE
theorem srt_uniq {es xs : List (Int × Int)} (hp : xs.Perm (es.map mmE)) (hs : SortedQ xs) : xs = srtE es := by
  refine List.Perm.eq_of_pairwise (le := fun x y => leE x y = true) ?_ hs ?_ (hp.trans (List.mergeSort_perm _ _).symm)
  · intro a b _ _ h1 h2
    rw [leE_iff] at h1 h2
    obtain ⟨a1, a2⟩ := a; obtain ⟨b1, b2⟩ := b
    simp only at h1 h2
    rw [show a1 = b1 by omega, show a2 = b2 by omega]
  · exact List.pairwise_mergeSort (le := leE) (fun a b c h1 h2 => by rw [leE_iff] at *; omega) (fun a b => by
      cases h : leE a b with
      | true => rfl
      | false =>
        have h' : ¬ leE a b = true := by simp [h]
        rw [leE_iff] at h'
        have : leE b a = true := by rw [leE_iff]; omega
        simp [this]) _
theorem srt_len (es : List (Int × Int)) : (srtE es).length = es.length := by simp [srtE]
theorem ins_perm (xs : List (Int × Int)) (a : Nat) (e : Int × Int) : (xs.take a ++ e :: xs.drop a).Perm (xs ++ [e]) := by
  have h := List.perm_middle (a := e) (l₁ := xs.take a) (l₂ := xs.drop a)
  rw [List.take_append_drop] at h
  exact h.trans (List.perm_append_comm (l₁ := [e]) (l₂ := xs))
theorem ins_sorted {xs : List (Int × Int)} (hs : SortedQ xs) {a : Nat} {e : Int × Int} (ha : a ≤ xs.length) (h1 : ∀ j (h : j < xs.length), a ≤ j → befE e xs[j] = true) (h2 : ∀ p (h : p < xs.length), a = p + 1 → befE e xs[p] = false) :
    SortedQ (xs.take a ++ e :: xs.drop a) := by
  unfold SortedQ at hs ⊢
  have hs' := List.pairwise_iff_getElem.1 hs
  rw [List.pairwise_append, List.pairwise_cons]
  refine ⟨hs.sublist (List.take_sublist _ _), ⟨fun y hy => ?_, hs.sublist (List.drop_sublist _ _)⟩, fun x hx y hy => ?_⟩
  · obtain ⟨j, hj, rfl⟩ := List.mem_iff_getElem.1 hy
    rw [List.getElem_drop]
    rw [List.length_drop] at hj
    have := h1 (a + j) (by omega) (by omega)
    rw [befE_iff] at this
    rw [leE_iff]; omega
  · obtain ⟨i, hi, rfl⟩ := List.mem_iff_getElem.1 hx
    rw [List.getElem_take]
    rw [List.length_take] at hi
    rcases List.mem_cons.1 hy with rfl | hy
    · have h3 := h2 (a - 1) (by omega) (by omega)
      have h4 : ¬ befE y xs[a - 1] = true := by simp [h3]
      rw [befE_iff] at h4
      rw [leE_iff]
      by_cases h5 : i = a - 1
      · subst h5; exact h4
      · have h6 := hs' i (a - 1) (by omega) (by omega) (by omega)
        rw [leE_iff] at h6
        omega
    · obtain ⟨j, hj, rfl⟩ := List.mem_iff_getElem.1 hy
      rw [List.getElem_drop]
      rw [List.length_drop] at hj
      exact hs' i (a + j) (by omega) (by omega) (by omega)
theorem Box2.made2 (w : World) (a b : Value) (t : TypeId) : Box2 (w.alloc (.cells #[a, b] t)).drew w.heap.size a b := by
  obtain ⟨x1, x2, x3⟩ := Box2.made w a b t
  exact ⟨x1, x2, x3⟩
theorem Box2.setOther {w : World} {b : Nat} {v0 v1 : Value} (h : Box2 w b v0 v1) {a : Addr} (ha : a.block ≠ b) (v : Value) : Box2 (w.setCell a v) b v0 v1 :=
  h.kept (row := some a.block) ⟨rfl, rfl, rfl, by simp, fun k _ hk => Below.heap_setCell _ _ _ _ (fun e => hk (by rw [e]))⟩ (by simp; exact fun e => ha e.symm)
theorem mid_set (xs : List (Int × Int)) (p : Nat) (hp : p < xs.length) (y : Int × Int) : (xs.take (p + 1) ++ y :: xs.drop (p + 1)).set (p + 1) xs[p] = xs.take p ++ xs[p] :: xs.drop p := by
  rw [List.set_append_right _ _ (by rw [List.length_take]; omega)]
  rw [List.length_take, Nat.min_eq_left (by omega), Nat.sub_self, List.set_cons_zero, List.take_succ_eq_append_getElem hp, List.append_assoc, List.singleton_append, ← List.drop_eq_getElem_cons hp]
theorem mid_set0 (xs : List (Int × Int)) (a : Nat) (ha : a ≤ xs.length) (y e : Int × Int) : (xs.take a ++ y :: xs.drop a).set a e = xs.take a ++ e :: xs.drop a := by
  rw [List.set_append_right _ _ (by rw [List.length_take]; omega), List.length_take, Nat.min_eq_left ha, Nat.sub_self, List.set_cons_zero]
theorem mid_at (xs : List (Int × Int)) (p : Nat) (hp : p < xs.length) (y : Int × Int) : ea (xs.take (p + 1) ++ y :: xs.drop (p + 1)) p = (xs[p]).1 ∧ eb (xs.take (p + 1) ++ y :: xs.drop (p + 1)) p = (xs[p]).2 := by
  have hl : p < (xs.take (p + 1)).length := by rw [List.length_take]; omega
  have : (xs.take (p + 1) ++ y :: xs.drop (p + 1))[p]? = some xs[p] := by
    rw [List.getElem?_append_left hl, List.getElem?_eq_getElem hl, List.getElem_take]
  simp [ea, eb, this]
set_option maxRecDepth 100000 in
set_option maxHeartbeats 2000000 in
theorem l01Sort_any (b o m c : Nat) (es : List (Int × Int)) (w : World) (h : Eds w b o m es) (hm : m ≤ 1048576) :
    Calls Tryz.prog 136 #[.slice (some ⟨b, o, none⟩) m c] w (RetE (srtE es) w) := by
  have KC := cell_rg
  have hl := Lib.hid h.len
  go_enter Tryz.func136, Tryz.ntmps136
  go_wp2_with fail
  have O : OwnE w.heap.size (w.alloc (.cells #[] 78)) w.heap.size 0 0 [] := OwnE.empty _ _ _ (Nat.le_refl _) (heap_alloc_new w _)
  have hb0 : Below w.heap.size w (w.alloc (.cells #[] 78)) := (Below.refl _ _).alloc (Nat.le_refl _) _
  go_loopw [3, 4] (fun lv iv wr => ∃ (i g c' : Nat) (xs : List (Int × Int)), i ≤ m ∧ iv = .int .i64 i ∧ lv = .slice (some ⟨g, 0, none⟩) i c' ∧ Hid (xs.Perm ((es.take i).map mmE)) ∧ Hid (SortedQ xs) ∧ OwnE w.heap.size wr g i c' xs ∧ Below w.heap.size w wr) (fun _ i _ => m - (intOf i).toNat)
  case atStart => exact ⟨0, _, _, [], Nat.zero_le _, rfl, rfl, by simp [Hid], List.Pairwise.nil, O, hb0⟩
  case round =>
    clear O hb0
    obtain ⟨i, g, c', xs, hi, rfl, rfl, HPM, HSQ, OX, hbr⟩ := hrel
    by_cases hlt : i < m
    · obtain ⟨w4, rfl⟩ : ∃ w4, w4 = wr := ⟨wr, rfl⟩
      have E := h.below hbr
      have d1 := E.ca i hlt
      have d2 := E.cb i hlt
      have zE := E.blk
      have HXL := Lib.hid OX.1
      go_wp2_with fail
      go_cut [5, 6] (fun s5 s6 wx => ∃ mn mx : Int, s5 = .pointer (some ⟨w4.heap.size, 0, none⟩) ∧ s6 = .int .i64 i ∧ Hid (mmE (ea es i, eb es i) = (mn, mx)) ∧ Box2 wx w4.heap.size (.int .i64 mn) (.int .i64 mx) ∧ Below w4.heap.size w4 wx ∧ w4.heap.size < wx.heap.size)
      case first =>
        go_region_held3 (fun W => W.cell? ⟨b, o + i * 2, none⟩ = some (.int .i64 (ea es i)) ∧ W.cell? ⟨b, o + i * 2 + 1, none⟩ = some (.int .i64 (eb es i))) (first | go_keep) (fail)
        all_goals (go_wp2_with fail; all_goals (go_meet; refine ⟨_, _, rfl, rfl, ?_, Box2.made2 w4 _ _ _, ((Below.refl _ _).alloc (Nat.le_refl _) _).drew, by simp [go_sem]⟩; show _ = _; simp only [mmE, Prod.mk.injEq]; constructor <;> omega))
      obtain ⟨mn, mx, rfl, rfl, HMM, PB, hb5, hs5⟩ := hcut
      clear d1 d2 zE E
      obtain ⟨w5, rfl⟩ : ∃ w5, w5 = wc := ⟨wc, rfl⟩
      obtain ⟨g5, hg5⟩ : ∃ g5, g5 = w4.heap.size := ⟨_, rfl⟩
      rw [← hg5] at PB ⊢
      have hg55 : g5 < w5.heap.size := by omega
      have hgw : w.heap.size ≤ g5 := by have := hbr.size; omega
      have OX5 := OX.below hb5
      have hgg : g ≠ g5 := by have := OX.ge; omega
      have hbr5 := hbr.andB hb5
      have hsz5 := hbr5.size
      have PB5 := PB
      obtain ⟨x1, x2, x3⟩ := PB
      clear hg5 hb5 OX hbr hs5
      go_wp2_with (first
        | (at_builtin; refine wp_appE1 rfl rfl rfl rfl (by simp) OX5 hsz5 (by omega) ?_; intro g6 c6 w6 OX6 hg6 hat6))
      have HMI : Hid (mmE (es[i]'(by rw [hl.out]; exact hlt)) = (mn, mx)) := by
        show _ = _; rw [e_pair]; exact HMM.out
      have HTK : Hid ((es.take (i + 1)).map mmE = (es.take i).map mmE ++ [(mn, mx)]) := by
        show _ = _
        rw [List.take_succ_eq_append_getElem (by rw [hl.out]; exact hlt), List.map_append, List.map_singleton, HMI.out]
      have hb6 := hbr5.grown hg6 hsz5 (fun y hy => by simp at hy; subst hy; exact OX5.ge.1)
      have h66 : some g5 ≠ some g6 := hat6.ne x1 (by simp [blkOf]; exact fun e => hgg e.symm)
      have PB6 := PB5.kept hg6 (by simp; exact fun e => hgg e.symm)
      clear x1 x2 x3 PB5 hat6 hg6 OX5 hbr5
      obtain ⟨s1, p1, q1⟩ := PB6
      go_loopw [6] (fun av wr => ∃ (a : Nat) (y : Int × Int), a ≤ i ∧ av = .int .i64 a ∧ Hid (∀ j (h : j < xs.length), a ≤ j → befE (mn, mx) xs[j] = true) ∧ OwnE w.heap.size wr g6 (i + 1) c6 (xs.take a ++ y :: xs.drop a) ∧ Box2 wr g5 (.int .i64 mn) (.int .i64 mx) ∧ Below w.heap.size w wr) (fun av _ => (intOf av).toNat)
      case atStart => exact ⟨i, (mn, mx), Nat.le_refl _, rfl, fun j hj hij => absurd hj (by rw [HXL.out]; omega), by rw [List.take_of_length_le (by rw [HXL.out]; exact Nat.le_refl _), List.drop_of_length_le (by rw [HXL.out]; exact Nat.le_refl _)]; exact OX6, ⟨s1, p1, q1⟩, hb6⟩
      case round =>
        clear OX6 s1 p1 q1 hb6
        obtain ⟨a, y, hai, rfl, HGT, OX6, PB6, hb6⟩ := hrel
        have PB6x := PB6
        obtain ⟨s1, p1, q1⟩ := PB6x
        have zE := OX6.ge.2
        cases a with
        | zero =>
          have c00 : ((0 : Nat) : Int) = 0 := rfl
          rw [c00]
          have HPL := Lib.hid (ins_perm xs 0 (mn, mx))
          have HSL := Lib.hid (ins_sorted (e := (mn, mx)) HSQ.out (a := 0) (by omega) HGT.out (fun p _ h => by omega))
          have HST := Lib.hid (mid_set0 xs 0 (Nat.zero_le _) y (mn, mx))
          clear s1 p1 q1 zE
          go_wp2_with fail
          (refine wp_region_quiet_below (by kernel_rfl) (by kernel_rfl) ?_
           repeat (any_goals (go_big_quiet_step (first | (go_at_call 109; exact Ret.rg (before_any _ _ _ _ _)))))
           all_goals (refine wpQuiet_nil ?_; intro wq7 hq7; replace hq7 := below_of_rg hq7))
          have OX6 := OX6.below hq7
          obtain ⟨s1, p1, q1⟩ := PB6.below hq7
          have zE := OX6.ge.2
          have hb7 := hb6.andB hq7
          have hgw6 := OX6.ge.1
          have d1 := OX6.eds.ca 0 (by omega)
          have d2 := OX6.eds.cb 0 (by omega)
          have fz1 := OX6.2.frozenAt 0
          have fz2 := OX6.2.frozenAt 1
          have OY := Lib.hid (OX6.store 0 mn mx)
          simp only [Nat.zero_mul, Nat.zero_add] at OY d1 d2
          clear OX6 hq7 hb6
          go_wp2_with fail
          go_roundw
          case rel => exact ⟨i + 1, g6, c6, xs.take 0 ++ (mn, mx) :: xs.drop 0, by omega, by go_num, rfl, by show List.Perm _ _; rw [HTK.out]; exact HPL.out.trans (HPM.out.append_right _), HSL.out, by have := OY.out; rw [HST.out] at this; exact this, (hb7.setCell hgw6 _).setCell hgw6 _⟩
          case measure => simp [intOf]; omega
        | succ p =>
          have hpi : p < xs.length := by rw [HXL.out]; omega
          obtain ⟨z, hz⟩ : ∃ z : Int × Int, z = xs[p] := ⟨_, rfl⟩
          obtain ⟨z1, z2⟩ := z
          have hma := mid_at xs p hpi y
          rw [← hz] at hma
          cases hB : befB mn mx z1 z2 with
          | true =>
            have HST := Lib.hid (mid_set xs p hpi y)
            rw [← hz] at HST
            have HGT2 : Hid (∀ j (h : j < xs.length), p ≤ j → befE (mn, mx) xs[j] = true) := fun j hj hpj => by
              by_cases e : j = p
              · subst e; show befB mn mx (xs[j]).1 (xs[j]).2 = true; rw [← hz]; exact hB
              · exact HGT.out j hj (by omega)
            have e1 := OX6.eds.ca p (by omega)
            have e2 := OX6.eds.cb p (by omega)
            rw [hma.1, Nat.zero_add] at e1
            rw [hma.2, Nat.zero_add] at e2
            have HBF : Hid (∀ W, Calls Tryz.prog 109 #[.agg #[.int .i64 mn, .int .i64 mx], .agg #[.int .i64 z1, .int .i64 z2]] W (Ret (.bool true) W)) := fun W => hB ▸ before_any mn mx z1 z2 W
            clear hma hz hB
            go_wp2_with fail
            (refine wp_region_quiet_below (by kernel_rfl) (by kernel_rfl) ?_
             repeat (any_goals (go_big_quiet_step (first | (go_at_call 109; exact Ret.rg (HBF.out _)))))
             all_goals (refine wpQuiet_nil ?_; intro wq7 hq7; replace hq7 := below_of_rg hq7))
            have OX6 := OX6.below hq7
            have PB7 := PB6.below hq7
            have hgw6 := OX6.ge.1
            have e1 := (hq7.cell (p := ⟨g6, p * 2, none⟩) zE).trans e1
            have e2 := (hq7.cell (p := ⟨g6, p * 2 + 1, none⟩) zE).trans e2
            have zE := OX6.ge.2
            have hb7 := hb6.andB hq7
            have d1 := OX6.eds.ca (p + 1) (by omega)
            have d2 := OX6.eds.cb (p + 1) (by omega)
            simp only [Nat.zero_add] at d1 d2
            have fz1 := OX6.2.frozenAt ((p + 1) * 2)
            have fz2 := OX6.2.frozenAt ((p + 1) * 2 + 1)
            have OY := Lib.hid (OX6.store (p + 1) z1 z2)
            clear OX6 hq7 hb6 s1 p1 q1 PB6
            go_wp2_with fail
            have hne : g6 ≠ g5 := fun e => h66 (by rw [e])
            have PB8 := (PB7.setOther (a := ⟨g6, (p + 1) * 2, none⟩) hne (.int .i64 z1)).setOther (a := ⟨g6, (p + 1) * 2 + 1, none⟩) hne (.int .i64 z2)
            refine ⟨⟨p, (z1, z2), by omega, rfl, HGT2, by have := OY.out; rw [HST.out] at this; exact this, PB8, (hb7.setCell hgw6 _).setCell hgw6 _⟩, ?_⟩
            simp [intOf]
          | false =>
            have HPL := Lib.hid (ins_perm xs (p + 1) (mn, mx))
            have HSL := Lib.hid (ins_sorted (e := (mn, mx)) HSQ.out (a := p + 1) (by omega) HGT.out (fun q hq h => by obtain rfl : p = q := (by omega); show befB mn mx (xs[p]).1 (xs[p]).2 = false; rw [← hz]; exact hB))
            have HST := Lib.hid (mid_set0 xs (p + 1) (by omega) y (mn, mx))
            have e1 := OX6.eds.ca p (by omega)
            have e2 := OX6.eds.cb p (by omega)
            rw [hma.1, Nat.zero_add] at e1
            rw [hma.2, Nat.zero_add] at e2
            have HBF : Hid (∀ W, Calls Tryz.prog 109 #[.agg #[.int .i64 mn, .int .i64 mx], .agg #[.int .i64 z1, .int .i64 z2]] W (Ret (.bool false) W)) := fun W => hB ▸ before_any mn mx z1 z2 W
            clear hma hz hB
            go_wp2_with fail
            (refine wp_region_quiet_below (by kernel_rfl) (by kernel_rfl) ?_
             repeat (any_goals (go_big_quiet_step (first | (go_at_call 109; exact Ret.rg (HBF.out _)))))
             all_goals (refine wpQuiet_nil ?_; intro wq7 hq7; replace hq7 := below_of_rg hq7))
            clear e1 e2 s1 p1 q1
            have OX6 := OX6.below hq7
            obtain ⟨s1, p1, q1⟩ := PB6.below hq7
            have hgw6 := OX6.ge.1
            have zE := OX6.ge.2
            have hb7 := hb6.andB hq7
            have d1 := OX6.eds.ca (p + 1) (by omega)
            have d2 := OX6.eds.cb (p + 1) (by omega)
            simp only [Nat.zero_add] at d1 d2
            have fz1 := OX6.2.frozenAt ((p + 1) * 2)
            have fz2 := OX6.2.frozenAt ((p + 1) * 2 + 1)
            have OY := Lib.hid (OX6.store (p + 1) mn mx)
            clear OX6 hq7 hb6 PB6
            go_wp2_with fail
            go_roundw
            case rel => exact ⟨i + 1, g6, c6, xs.take (p + 1) ++ (mn, mx) :: xs.drop (p + 1), by omega, by go_num, rfl, by show List.Perm _ _; rw [HTK.out]; exact HPL.out.trans (HPM.out.append_right _), HSL.out, by have := OY.out; rw [HST.out] at this; exact this, (hb7.setCell hgw6 _).setCell hgw6 _⟩
            case measure => simp [intOf]; omega
    · obtain rfl : i = m := by omega
      have HE : Hid (xs = srtE es) := srt_uniq (by have := HPM.out; rwa [← hl.out, List.take_length] at this) HSQ.out
      go_wp2_with fail
      go_ret
      exact ⟨g, c', by rw [srt_len, hl.out]; rfl, by rw [srt_len, hl.out, ← HE.out]; exact OX, hbr⟩
end Go.Proofs.YtajnhkkiddeegaaGreat
