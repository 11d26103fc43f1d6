import Derived.Test.YtccinfmphkihoaaSp1
namespace Go.Proofs.Ytccinfmphkihoaa
open Go.RowKit Go.Sort
noncomputable def szE (m : Nat) (l : Int) : Int := if l - m < 0 then -1 else l - m
theorem szEdgeS_any (A : Option Addr) (m c : Nat) (l : Int) (w : World) (hm : m ≤ 9223372036854775807) (hl : 0 ≤ l) (hl2 : l ≤ 1048576) : Calls Try.prog 50 #[.slice A m c, .int .i64 l] w (Is (.int .i64 (szE m l)) w) := by
  go_enter Try.func50, Try.ntmps50
  go_wp2
  all_goals (go_ret; exact ⟨ret_int (by simp only [szE]; split <;> omega), rfl⟩)
theorem szGraph_any (n : Int) (A : Option Addr) (m c : Nat) (l : Int) (w : World) (hm : m ≤ 9223372036854775807) (hl : 0 ≤ l) (hl2 : l ≤ 1048576) : Calls Try.prog 15 #[.agg #[.int .i64 n, .slice A m c], .int .i64 l] w (Ret (.int .i64 (szE m l)) w) := by
  have hz : szE m l < 0 ∨ 0 ≤ szE m l := by omega
  have hz1 : szE m l < 0 → szE m l = -1 := by simp only [szE]; split <;> omega
  go_enter Try.func15, Try.ntmps15
  go_wp2_with (go_at_call 50; refine (szEdgeS_any _ _ _ _ _ hm hl hl2).mono ?_; rintro e w' ⟨rfl, rfl⟩)
  · rename_i h
    go_ret
    exact ⟨ret_int (hz1 h).symm, by go_grown⟩
  · go_ret
    exact ⟨rfl, by go_grown⟩
theorem infE : (Try.prog.info? 65).map (fun i => (i.zero, i.size, i.bytes)) = some (some (.agg #[.int .i64 0, .int .i64 0]), 2, 16) := by kernel_rfl
theorem toEdgeS_any (A : Option Addr) (m c : Nat) (es : List (Int × Int)) (w : World) (h : SrcE w A m es) (hm : m ≤ 1048576) : Calls Try.prog 56 #[.slice A m c] w (RetE es w) := by
  obtain ⟨i0, hi, hz0, hz1, hz2⟩ := info_parts infE
  have hl := Lib.hid h.1
  go_enter Try.func56, Try.ntmps56
  go_wp2_with (at_make; refine wpList_make_full _ rfl _ _ 28 rfl w.heap.size 65 i0 _ 2 Try.underlying28 hi hz0 hz1 _ _ _ _ m rfl rfl rfl rfl ?_ ?_ ?_ ?_)
  · rw [hz2]; omega
  · unfold maxLen; omega
  · omega
  intro w1 hown hgrow
  have hb1 : Below w.heap.size w w1 := (Below.refl _ _).grown hgrow (Nat.le_refl _) (by simp)
  have hown0 : OwnE w.heap.size w1 w.heap.size m m (es.take 0 ++ List.replicate (m - 0) (0, 0)) := ⟨by simp, by rw [List.take_zero, List.nil_append, Nat.sub_zero, ← flatE_zeros]; exact hown⟩
  clear hown hgrow
  go_wp2_with fail
  go_loopw [4] (fun i wr => ∃ k : Nat, k ≤ m ∧ i = .int .i64 k ∧ OwnE w.heap.size wr w.heap.size m m (es.take k ++ List.replicate (m - k) (0, 0)) ∧ Below w.heap.size w wr) (fun i _ => m - (intOf i).toNat)
  case atStart => exact ⟨0, Nat.zero_le _, rfl, hown0, hb1⟩
  case round =>
    obtain ⟨k, hk, rfl, hown, hbw⟩ := hrel
    clear hown0 hb1
    by_cases hlt : k < m
    · obtain ⟨b, o, rfl, E0⟩ := h.2 (by omega)
      have E := E0.upto E0.blk hbw
      have e1 := E.ca k hlt
      have e2 := E.cb k hlt
      have r1 := hown.eds.ca k hlt
      have r2 := hown.eds.cb k hlt
      rw [Nat.zero_add] at r1 r2
      have fz1 := hown.2.frozenAt (k * 2)
      have fz2 := hown.2.frozenAt (k * 2 + 1)
      have gz := hown.ge.2
      have HO := Lib.hid hown
      clear hown E E0
      go_wp2_with fail
      refine (toEdge_any _ _ _).mono ?_
      rintro e w2 ⟨rfl, hb2⟩
      have g1 := (bcell hb2).1 w.heap.size (k * 2) gz
      have g2 := (bcell hb2).1 w.heap.size (k * 2 + 1) gz
      have g3 := (bcell hb2).2 w.heap.size (k * 2) gz
      have g4 := (bcell hb2).2 w.heap.size (k * 2 + 1) gz
      rw [r1] at g1
      rw [r2] at g2
      rw [fz1] at g3
      rw [fz2] at g4
      go_wp2_with fail
      go_roundw
      case rel =>
        have hs := (HO.out.below hb2).store k (ea es k) (eb es k)
        rw [fill_step hl.out hlt] at hs
        exact ⟨k + 1, by omega, by go_num, hs, ((hbw.andB hb2).setCell (Nat.le_refl _) _).setCell (Nat.le_refl _) _⟩
      case measure => simp [intOf]; omega
    · go_wp2_with fail
      go_ret
      obtain rfl : k = m := by omega
      rw [Nat.sub_self, List.replicate_zero, List.append_nil, List.take_of_length_le (by rw [hl.out]; exact Nat.le_refl _)] at hown
      refine ⟨w.heap.size, k, ?_, ?_, hbw⟩
      · rw [hl.out]; rfl
      · rw [hl.out]; exact hown
theorem toGraph_any (n : Int) (A : Option Addr) (m c : Nat) (es : List (Int × Int)) (w : World) (h : SrcE w A m es) (hm : m ≤ 1048576) : Calls Try.prog 17 #[.agg #[.int .i64 n, .slice A m c]] w (RetG n es w) := by
  go_enter Try.func17, Try.ntmps17
  go_wp2_with fail
  refine (toEdgeS_any A m c es _ (h.below (by go_grown)) hm).mono ?_
  rintro e w2 ⟨g, c2, rfl, hown, hb2⟩
  have hc1 := bcell hb2
  have s2 := bsz hb2 (w.heap.size + 1 + 1) (by simp)
  simp only [World.size_alloc] at hown
  have g0 := hown.ge
  have HO := Lib.hid hown
  have hc0 := hc1.1
  have hc2 := hc1.2
  have sz := hb2.size
  simp only [World.size_alloc] at sz
  clear hown hc1
  go_wp2_with fail
  have hb := (by go_grown : Below w.heap.size w (((w.alloc (Obj.cells #[Value.int IntKind.i64 n, Value.slice A m c] 24)).alloc (Obj.cells #[Value.int IntKind.i64 0, Value.slice none 0 0] 30)).alloc (Obj.cells #[Value.int IntKind.i64 n, Value.slice none 0 0] 30)))
  refine bodyPost_ret (v := .agg #[.int .i64 n, .slice (some ⟨g, 0, none⟩) es.length c2]) ?_ rfl ⟨g, c2, rfl, ?_, ?_⟩
  · simp [results, Try.results17, go_sem, hc0]
  · exact (((HO.out.setOther (by simp; omega) _).setOther (by simp; omega) _).setOther (by simp; omega) _).mono (by omega)
  · exact (((hb.thenB (by simp; omega) hb2).setCell (by simp; omega) _).setCell (by simp) _).setCell (by simp) _
theorem eqEdgeS_any (b1 o1 m1 c1 b2 o2 m2 c2 : Nat) (es fs : List (Int × Int)) (w : World) (h1 : Eds w b1 o1 m1 es) (h2 : Eds w b2 o2 m2 fs) (hm : m1 ≤ 1048576) (hm2 : m2 ≤ 1048576) :
    Calls Try.prog 61 #[.slice (some ⟨b1, o1, none⟩) m1 c1, .slice (some ⟨b2, o2, none⟩) m2 c2] w (Ret (.bool (B (es = fs))) w) := by
  have KC := cell_rg
  have l1 := Lib.hid h1.len
  have l2 := Lib.hid h2.len
  by_cases hmm : m1 = m2
  · subst hmm
    go_enter Try.func61, Try.ntmps61
    go_wp2_with fail
    go_loopw [5] (fun i wr => ∃ k : Nat, k ≤ m1 ∧ i = .int .i64 k ∧ Hid (∀ j, j < k → ea es j = ea fs j ∧ eb es j = eb fs j) ∧ Below w.heap.size w wr) (fun i _ => m1 - (intOf i).toNat)
    case atStart => exact ⟨0, Nat.zero_le _, rfl, fun j hj => by omega, Below.refl _ _⟩
    case round =>
      obtain ⟨k, hk, rfl, HP, hbw⟩ := hrel
      by_cases hlt : k < m1
      · have E1 := h1.below hbw
        have E2 := h2.below hbw
        have a1 := E1.ca k hlt
        have a2 := E1.cb k hlt
        have a3 := E2.ca k hlt
        have a4 := E2.cb k hlt
        have a5 := E1.blk
        have a6 := E2.blk
        cases hq : eqB (ea es k) (eb es k) (ea fs k) (eb fs k) with
        | true =>
          have HP' : Hid (∀ j, j < k + 1 → ea es j = ea fs j ∧ eb es j = eb fs j) := fun j hj => by
            by_cases hjk : j < k
            · exact HP.out j hjk
            · obtain rfl : j = k := by omega
              exact eqB_iff.1 hq
          go_wp2_with fail
          (refine wp_region_quiet_below (by kernel_rfl) (by kernel_rfl) ?_
           repeat (any_goals (go_big_quiet_step (first | (go_at_call 91; exact Ret.rg (eqEdge_any _ _ _ _ _)))))
           all_goals (refine wpQuiet_nil ?_; intro wq1 hq1; replace hq1 := below_of_rg hq1))
          go_wp2_with fail
          go_roundw
          case rel => exact ⟨k + 1, by omega, by go_num, HP', hbw.andB hq1⟩
          case measure => simp [intOf]; omega
        | false =>
          go_wp2_with fail
          (refine wp_region_quiet_below (by kernel_rfl) (by kernel_rfl) ?_
           repeat (any_goals (go_big_quiet_step (first | (go_at_call 91; exact Ret.rg (eqEdge_any _ _ _ _ _)))))
           all_goals (refine wpQuiet_nil ?_; intro wq1 hq1; replace hq1 := below_of_rg hq1))
          go_wp2_with fail
          go_ret
          exact ⟨ret_bool (B_false fun x => eqB_not.1 hq (by rw [x]; exact ⟨rfl, rfl⟩)).symm, hbw.andB hq1⟩
      · go_wp2_with fail
        go_ret
        exact ⟨ret_bool (B_true (es_ext (by rw [l1.out, l2.out]) fun j hj => HP.out j (by rw [l1.out] at hj; omega))).symm, hbw⟩
  · have hne : ((m1 : Int) != (m2 : Int)) = true := by simp; omega
    go_enter Try.func61, Try.ntmps61
    go_wp2_with fail
    go_ret
    exact ⟨ret_bool (B_false fun x => hmm (by rw [← l1.out, ← l2.out, x])).symm, Below.refl _ _⟩
theorem eqGraph_any (n1 n2 : Int) (b1 o1 m1 c1 b2 o2 m2 c2 : Nat) (es fs : List (Int × Int)) (w : World) (h1 : Eds w b1 o1 m1 es) (h2 : Eds w b2 o2 m2 fs) (hm : m1 ≤ 1048576) (hm2 : m2 ≤ 1048576) :
    Calls Try.prog 19 #[.agg #[.int .i64 n1, .slice (some ⟨b1, o1, none⟩) m1 c1], .agg #[.int .i64 n2, .slice (some ⟨b2, o2, none⟩) m2 c2]] w (Ret (.bool (B (n1 = n2 ∧ es = fs))) w) := by
  cases hn : (n1 != n2) with
  | true =>
    go_enter Try.func19, Try.ntmps19
    go_wp2_with fail
    go_ret
    exact ⟨ret_bool (B_false fun x => by simp [x.1] at hn).symm, by go_grown⟩
  | false =>
    have hn' : n1 = n2 := by simpa using hn
    have hB : B (n1 = n2 ∧ es = fs) = B (es = fs) := by rw [hn']; simp
    have HB := Lib.hid hB
    clear hB hn'
    cases hq : B (es = fs) with
    | true =>
      go_enter Try.func19, Try.ntmps19
      go_wp2_with fail
      refine (eqEdgeS_any _ _ _ _ _ _ _ _ es fs _ ((h1.alloc _).alloc _) ((h2.alloc _).alloc _) hm hm2).mono ?_
      rintro e w1 ⟨rfl, hb1⟩
      go_wp2_with fail
      go_ret
      exact ⟨ret_bool (by rw [HB.out, hq]), (by go_grown : Below _ _ ((w.alloc _).alloc _)).thenB (by simp; omega) hb1⟩
    | false =>
      go_enter Try.func19, Try.ntmps19
      go_wp2_with fail
      refine (eqEdgeS_any _ _ _ _ _ _ _ _ es fs _ ((h1.alloc _).alloc _) ((h2.alloc _).alloc _) hm hm2).mono ?_
      rintro e w1 ⟨rfl, hb1⟩
      go_wp2_with fail
      go_ret
      exact ⟨ret_bool (by rw [HB.out, hq]), (by go_grown : Below _ _ ((w.alloc _).alloc _)).thenB (by simp; omega) hb1⟩
end Go.Proofs.Ytccinfmphkihoaa
