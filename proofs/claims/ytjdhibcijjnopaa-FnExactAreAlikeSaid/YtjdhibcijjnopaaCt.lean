import Derived.Test.YtjdhibcijjnopaaLk
import Derived.Test.YtjdhibcijjnopaaCq
import Derived.Test.YtjdhibcijjnopaaEdgesLeaving
import Derived.Test.YtjdhibcijjnopaaFw
import Derived.Test.YtjdhibcijjnopaaLg
namespace Go.Proofs.Ytjdhibcijjnopaa
open Go.RowKit Go.Sort
/-! ### Numbers of a cut -/
theorem isColouring_all (n : Int) (b o m c b2 o2 l c2 : Nat) (es : List (Int × Int)) (cs : Nat → Int) (w : World) (h : Eds w b o m es) (hm : m ≤ 1048576) (h2 : Ints w b2 o2 l cs) (hl2 : l ≤ 1048576) :
    Calls Try.prog 50 #[.agg #[.int .i64 n, .slice (some ⟨b, o, none⟩) m c], .slice (some ⟨b2, o2, none⟩) l c2] w (Ret (.bool (B (IsG n es) && colB es cs l)) w) := by
  by_cases hG : IsG n es
  · rw [B_true hG, Bool.true_and]
    exact isColouring_any n b o m c b2 o2 l c2 es cs w h hm hG h2 hl2
  · have KC := cell_rg
    have hbb := (by go_grown : Below w.heap.size w (w.alloc (.cells #[.int .i64 n, .slice (some ⟨b, o, none⟩) m c] 31)))
    have hbx := Box2.made w (.int .i64 n) (.slice (some ⟨b, o, none⟩) m c) 31
    have HIM := Lib.hid (implIs_any n b o m c es _ (h.alloc (.cells #[.int .i64 n, .slice (some ⟨b, o, none⟩) m c] 31)) hm)
    rw [B_false hG] at HIM ⊢
    clear hG
    go_enter Try.func50, Try.ntmps50
    go_wp2_with fail
    refine HIM.out.mono ?_
    rintro e w1 ⟨rfl, hb1⟩
    go_wp2_with fail
    go_ret
    exact ⟨rfl, hbb.thenB (by simp) hb1⟩
def ctv (cs : Nat → Int) (xs : List Int) (v : Nat) : Int := ((xs.countP (fun x => decide (cs x.toNat = (v : Int))) : Nat) : Int)
theorem ctv_nil (cs : Nat → Int) (v : Nat) : ctv cs [] v = 0 := rfl
theorem ctv_app (cs : Nat → Int) (xs : List Int) (x : Int) (v : Nat) : ctv cs (xs ++ [x]) v = if cs x.toNat = (v : Int) then ctv cs xs v + 1 else ctv cs xs v := by
  simp only [ctv, List.countP_append, List.countP_cons, List.countP_nil, decide_eq_true_eq]
  split <;> simp
theorem ctv_le (cs : Nat → Int) (xs : List Int) (v : Nat) : ∃ q : Nat, ctv cs xs v = q ∧ q ≤ xs.length := ⟨_, rfl, List.countP_le_length⟩
noncomputable def cuB (n : Int) (es : List (Int × Int)) (cs : Nat → Int) (l : Nat) (ls : Nat → Int) (l3 : Nat) : Bool := colB es cs l && setB ls l3 (n - 1)
noncomputable def cuC (n : Int) (es : List (Int × Int)) (cs : Nat → Int) (l : Nat) (ls : Nat → Int) (l3 : Nat) : Int := gcC n es (cuB n es cs l ls l3)
noncomputable def cuL (n : Int) (es : List (Int × Int)) (cs : Nat → Int) (l : Nat) (ls : Nat → Int) (l3 : Nat) : List Int := if cuC n es cs l ls l3 = 0 then (List.range 3).map (ctv cs (lvL es ls l3)) else []
theorem cuL_len (n : Int) (es : List (Int × Int)) (cs : Nat → Int) (l : Nat) (ls : Nat → Int) (l3 : Nat) : (cuL n es cs l ls l3).length ≤ 3 := by
  unfold cuL; split <;> simp
theorem cu_cases (n : Int) (es : List (Int × Int)) (cs : Nat → Int) (l : Nat) (ls : Nat → Int) (l3 : Nat) :
    (gcC n es (colB es cs l) = 1 ∧ cuC n es cs l ls l3 = 1 ∧ cuL n es cs l ls l3 = []) ∨
    (gcC n es (colB es cs l) = 2 ∧ cuC n es cs l ls l3 = 2 ∧ cuL n es cs l ls l3 = []) ∨
    (gcC n es (colB es cs l) = 0 ∧ IsG n es ∧ colB es cs l = true ∧ (¬ SetP ls l3 (n - 1) → cuC n es cs l ls l3 = 2 ∧ cuL n es cs l ls l3 = []) ∧ (SetP ls l3 (n - 1) → cuC n es cs l ls l3 = 0 ∧ cuL n es cs l ls l3 = (List.range 3).map (ctv cs (lvL es ls l3)))) := by
  by_cases h1 : IsG n es
  · have hb := B_true h1
    cases h2 : colB es cs l with
    | false => right; left; simp [gcC, hb, cuC, cuB, cuL, h2]
    | true =>
      right; right
      refine ⟨by simp [gcC, hb], h1, rfl, fun h3 => ?_, fun h3 => ?_⟩
      · have : setB ls l3 (n - 1) = false := B_false h3
        simp [gcC, hb, cuC, cuB, cuL, h2, this]
      · have : setB ls l3 (n - 1) = true := B_true h3
        simp [gcC, hb, cuC, cuB, cuL, h2, this]
  · have hb := B_false h1
    left; simp [gcC, hb, cuC, cuL]
theorem lvTo_mem {es : List (Int × Int)} {f : Int → Bool} {x : Int} : ∀ {k : Nat}, x ∈ lvTo es f k → ∃ e : Nat, e < k ∧ x = e := by
  intro k
  induction k with
  | zero => intro h; simp [lvTo] at h
  | succ k ih =>
    intro h
    simp only [lvTo, List.mem_append] at h
    rcases h with h | h
    · obtain ⟨e, he, r⟩ := ih h; exact ⟨e, by omega, r⟩
    · split at h
      · simp at h
      · simp at h; exact ⟨k, by omega, h⟩
theorem take_ia {L : List Int} {j : Nat} (hj : j < L.length) : L.take (j + 1) = L.take j ++ [ia L j] := by
  rw [List.take_add_one]; simp [ia, hj]
theorem cell_one (w : World) (v : Value) (t : TypeId) (j : Nat) (hj : j < 1) : (w.alloc (.cells #[v] t)).cell? ⟨w.heap.size, j, none⟩ = some v := by
  obtain rfl : j = 0 := by omega
  rw [cell_of_row _ w.heap.size 0 _ _ _ (heap_alloc_new w _)]; rfl
set_option maxRecDepth 100000 in
set_option maxHeartbeats 2000000 in
theorem spCutNumbers_any (n : Int) (b o m c : Nat) (es : List (Int × Int)) (b2 o2 l c2 : Nat) (cs : Nat → Int) (b3 o3 l3 c3 : Nat) (ls : Nat → Int) (w : World) (h : Eds w b o m es) (hm : m ≤ 1048576) (h2 : Ints w b2 o2 l cs) (hl : l ≤ 1048576) (h3 : Ints w b3 o3 l3 ls) (hl3 : l3 ≤ 1048576) :
    Calls Try.prog 34 #[.agg #[.int .i64 n, .slice (some ⟨b, o, none⟩) m c], .slice (some ⟨b2, o2, none⟩) l c2, .slice (some ⟨b3, o3, none⟩) l3 c3] w (RetLC (cuL n es cs l ls l3) (cuC n es cs l ls l3) w) := by
  have KC := cell_rg
  have hbb := (by go_grown : Below w.heap.size w (w.alloc (.cells #[.int .i64 n, .slice (some ⟨b, o, none⟩) m c] 31)))
  have hbx := Box2.made w (.int .i64 n) (.slice (some ⟨b, o, none⟩) m c) 31
  have hlm := Lib.hid h.len
  obtain ⟨w1, hw1⟩ : ∃ w1, w1 = w.alloc (.cells #[.int .i64 n, .slice (some ⟨b, o, none⟩) m c] 31) := ⟨_, rfl⟩
  have hs1 : w1.heap.size = w.heap.size + 1 := by rw [hw1]; simp [go_sem]
  have HLK := Lib.hid (l02Code_any n b o m c es (w1.alloc (.cells #[.slice (some ⟨b2, o2, none⟩) l c2] 25)) ((hw1 ▸ h.below hbb : Eds w1 b o m es).alloc _) hm w1.heap.size 1 1 (fun _ => b2) (fun _ => o2) (fun _ => l) (fun _ => c2) (fun _ => cs) (by simp [go_sem]) (by omega) (fun j hj => cell_one _ _ _ j hj) (fun _ _ => ⟨(hw1 ▸ h2.below hbb : Ints w1 b2 o2 l cs).alloc _, hl⟩))
  rw [lkC_1, hs1] at HLK
  rw [← hw1] at hbb hbx
  have hw1s := hs1
  have hbl : Below w1.heap.size w1 (w1.alloc (.cells #[.slice (some ⟨b2, o2, none⟩) l c2] 25)) := (Below.refl _ _).alloc (Nat.le_refl _) _
  have hB0 := hbb.andB hbl
  have hB0x := hbx.below hbl
  rcases cu_cases n es cs l ls l3 with ⟨hg, hc, hL⟩ | ⟨hg, hc, hL⟩ | ⟨hg, h1, h4, h5, h6⟩
  · have HL := Lib.hid hL
    rw [hg] at HLK
    rw [hc]
    clear hg hc hL
    go_enter Try.func34, Try.ntmps34
    go_wp2_with fail
    rw [← hw1]
    refine HLK.out.mono ?_
    rintro e w2 ⟨rfl, hb2⟩
    go_wp2_with fail
    go_ret2
    exact retLC_nil HL.out (hB0.andB hb2)
  · have HL := Lib.hid hL
    rw [hg] at HLK
    rw [hc]
    clear hg hc hL
    go_enter Try.func34, Try.ntmps34
    go_wp2_with fail
    rw [← hw1]
    refine HLK.out.mono ?_
    rintro e w2 ⟨rfl, hb2⟩
    go_wp2_with fail
    go_ret2
    exact retLC_nil HL.out (hB0.andB hb2)
  have hn2 := h1.wf.1
  have hn20 := h1.wf.2.1
  obtain ⟨N, rfl⟩ : ∃ N : Nat, n = N := ⟨n.toNat, by omega⟩
  have HW := Lib.hid h1.wf
  have hu : IntKind.i64.wrap ((N : Int) - 1) = (N : Int) - 1 := IntWalk.i64_in _ (by omega)
  obtain ⟨hle, hcol⟩ : l = es.length ∧ ColP es cs := B_iff.1 h4
  obtain rfl : l = m := by rw [hle, hlm.out]
  clear hle
  have HCO := Lib.hid hcol
  have H5 := Lib.hid h5
  have H6 := Lib.hid h6
  rw [hg] at HLK
  clear hg h1 h4 h5 h6 hcol
  have hmk := run_make_row' (P := Try.prog) 81 4 (.bool false) 1 Try.underlying81 infB rfl .i64 .i64 N (by omega) (by omega)
  have hmk3 := run_make_row' (P := Try.prog) 25 2 (.int .i64 0) 8 Try.underlying25 inf2 rfl .i64 .i64 3 (by omega) (by omega)
  rw [show ((3 : Nat) : Int) = 3 from rfl] at hmk3
  go_enter Try.func34, Try.ntmps34
  go_wp2_with fail
  rw [← hw1]
  refine HLK.out.mono ?_
  rintro e w2 ⟨rfl, hb2⟩
  obtain ⟨s1, p1, q1⟩ := hB0x.below hb2
  have hB2 := hB0.andB hb2
  clear hb2 hB0 hB0x hbl hbb hbx hw1 HLK hs1 hw1s w1
  go_wp2_with fail
  have R := World.rowIs_made w2 (.bool false) N 4
  have hb3 : Below w2.heap.size w2 (w2.alloc (.cells (madeCells #[.bool false] N) 4)) := (Below.refl _ _).alloc (Nat.le_refl _) _
  obtain ⟨w3, hw3⟩ : ∃ w3, w3 = w2.alloc (.cells (madeCells #[.bool false] N) 4) := ⟨_, rfl⟩
  rw [← hw3] at R hb3 ⊢
  clear hw3
  go_loopw [10] (fun i wr => ∃ j : Nat, j ≤ l3 ∧ i = .int .i64 j ∧ Hid (SetP ls j ((N : Int) - 1)) ∧ wr.rowIs w2.heap.size 4 N (fun v => .bool (hasB (setN ls j) v)) ∧ Below w2.heap.size w2 wr) (fun i _ => l3 - (intOf i).toNat)
  case atStart => exact ⟨0, Nat.zero_le _, rfl, (fun j hj => absurd hj (by omega)), R.congr (fun v _ => by simp [hasB, setN]), hb3⟩
  case round =>
    clear R hb3
    obtain ⟨j, hj, rfl, HP, hrow, hbr⟩ := hrel
    have hB := hB2.andB hbr
    obtain ⟨s2, p2, q2⟩ := Box2.below ⟨s1, p1, q1⟩ hbr
    have I := h3.below hB
    have s3 := I.blk
    by_cases hlt : j < l3
    · have c1 := I.c j hlt
      cases hA : inB (ls j) 0 ((N : Int) - 1) with
      | false =>
        obtain ⟨HC, HL⟩ := H5.out (fun x : SetP ls l3 ((N : Int) - 1) => inB_not.1 hA (x j hlt).1)
        rw [HC]
        have HL := Lib.hid HL
        clear I HC s1 p1 q1 hrow
        go_wp2_with fail
        (refine wp_region_quiet_below (by kernel_rfl) (by kernel_rfl) ?_
         repeat (any_goals (go_big_quiet_step (first | (go_at_call 70; exact Is.rg (in_any _ _ _ _)))))
         all_goals (refine wpQuiet_nil ?_; intro wq1 hq1; replace hq1 := below_of_rg hq1))
        go_wp2_with fail
        go_ret2
        exact retLC_nil HL.out (hB.andB hq1)
      | true =>
        obtain ⟨u, hx⟩ : ∃ u : Nat, ls j = u := ⟨(ls j).toNat, by have := inB_iff.1 hA; omega⟩
        have huN : u < N := by have := inB_iff.1 hA; omega
        have HR := fun (W : World) (hr : W.rowIs w2.heap.size 4 N (fun v => .bool (hasB (setN ls j) v))) => (hr.set u (.bool true)).congr (g := fun v => .bool (hasB (setN ls (j + 1)) v)) (fun v _ => by
          rw [hasB_succ, hx, Int.toNat_natCast]; split <;> rfl)
        have HR := Lib.hid HR
        rcases Nat.eq_zero_or_pos j with h0 | h0
        · have HP' : Hid (SetP ls (j + 1) ((N : Int) - 1)) := HP.out.succ hA (by omega)
          have hz : ¬ 0 < j := by omega
          rw [hx] at c1 hA
          have HX := Lib.hid hx
          clear h0 I s1 p1 q1 hx
          go_wp2_with fail
          (refine wp_region_quiet_below (by kernel_rfl) (by kernel_rfl) ?_
           repeat (any_goals (go_big_quiet_step (first | (go_at_call 70; exact Is.rg (in_any _ _ _ _)))))
           all_goals (refine wpQuiet_nil ?_; intro wq1 hq1; replace hq1 := below_of_rg hq1))
          have c1 := (h3.below (hB.andB hq1)).c j hlt
          rw [HX.out] at c1
          have s3 := (h3.below (hB.andB hq1)).blk
          have hrow := hrow.of_block (hq1.block _ hrow.lt)
          have e1 := hrow.cell huN
          have f1 := hrow.frozen u
          have HR2 := HR.out _ hrow
          have hb5 := hbr.andB hq1
          clear hrow hbr hq1
          go_wp2_with fail
          go_roundw
          case rel => exact ⟨j + 1, by omega, by go_num, HP', HR2, hb5.setCell (Nat.le_refl _) _⟩
          case measure => simp [intOf]; omega
        · have c2 := I.c (j - 1) (by omega)
          have hw : IntKind.i64.wrap ((j : Int) - 1) = ((j - 1 : Nat) : Int) := by rw [IntWalk.i64_in _ (by omega)]; omega
          by_cases hle : (u : Int) ≤ ls (j - 1)
          · obtain ⟨HC, HL⟩ := H5.out (fun x : SetP ls l3 ((N : Int) - 1) => by have := (x j hlt).2 h0; omega)
            rw [HC]
            have HL := Lib.hid HL
            rw [hx] at c1 hA
            clear I HC s1 p1 q1 hrow hx HR
            go_wp2_with fail
            (refine wp_region_quiet_below (by kernel_rfl) (by kernel_rfl) ?_
             repeat (any_goals (go_big_quiet_step (first | (go_at_call 70; exact Is.rg (in_any _ _ _ _)))))
             all_goals (refine wpQuiet_nil ?_; intro wq1 hq1; replace hq1 := below_of_rg hq1))
            go_wp2_with fail
            go_ret2
            exact retLC_nil HL.out (hB.andB hq1)
          · have HP' : Hid (SetP ls (j + 1) ((N : Int) - 1)) := HP.out.succ hA (by omega)
            rw [hx] at c1 hA
            have HX := Lib.hid hx
            clear I s1 p1 q1 hx
            go_wp2_with fail
            (refine wp_region_quiet_below (by kernel_rfl) (by kernel_rfl) ?_
             repeat (any_goals (go_big_quiet_step (first | (go_at_call 70; exact Is.rg (in_any _ _ _ _)))))
             all_goals (refine wpQuiet_nil ?_; intro wq1 hq1; replace hq1 := below_of_rg hq1))
            have c1 := (h3.below (hB.andB hq1)).c j hlt
            rw [HX.out] at c1
            have s3 := (h3.below (hB.andB hq1)).blk
            have hrow := hrow.of_block (hq1.block _ hrow.lt)
            have e1 := hrow.cell huN
            have f1 := hrow.frozen u
            have HR2 := HR.out _ hrow
            have hb5 := hbr.andB hq1
            clear hrow hbr hq1
            go_wp2_with fail
            go_roundw
            case rel => exact ⟨j + 1, by omega, by go_num, HP', HR2, hb5.setCell (Nat.le_refl _) _⟩
            case measure => simp [intOf]; omega
    · obtain rfl : j = l3 := by omega
      obtain ⟨S, hS⟩ : ∃ S, S = setN ls j := ⟨_, rfl⟩
      have HCC : Hid (cuC N es cs l ls j = 0) := (H6.out HP.out).1
      have HLL : Hid (cuL N es cs l ls j = (List.range 3).map (ctv cs (lvTo es (hasB S) l))) := by
        show _ = _
        rw [(H6.out HP.out).2, hS]; simp only [lvL, hlm.out]
      rw [← hS] at hrow
      clear hS HP I H5 H6 s1 p1 q1 hj
      have hE := h.below hB
      have hI := h2.below hB
      have hbk := hrow.lt
      go_wp2_with fail
      obtain ⟨w9, rfl⟩ : ∃ w9, w9 = wr := ⟨wr, rfl⟩
      have O := World.rowIs_made w9 (.int .i64 0) 3 2
      have hb3 : Below w9.heap.size w9 (w9.alloc (.cells (madeCells #[.int .i64 0] 3) 2)) := (Below.refl _ _).alloc (Nat.le_refl _) _
      obtain ⟨w3, hw3⟩ : ∃ w3, w3 = w9.alloc (.cells (madeCells #[.int .i64 0] 3) 2) := ⟨_, rfl⟩
      rw [← hw3] at O hb3 ⊢
      clear hw3
      go_loopw [12] (fun i wv => ∃ k : Nat, k ≤ l ∧ i = .int .i64 k ∧ wv.rowIs w9.heap.size 2 3 (fun v => .int .i64 (ctv cs (lvTo es (hasB S) k) v)) ∧ Below w9.heap.size w9 wv) (fun i _ => l - (intOf i).toNat)
      case atStart => exact ⟨0, Nat.zero_le _, rfl, O.congr (fun v _ => by simp [lvTo, ctv_nil]), hb3⟩
      case round =>
        clear O hb3
        obtain ⟨k, hk, rfl, ho, hbv⟩ := hrel
        obtain ⟨s4, p4, q4⟩ := Box2.below ⟨s2, p2, q2⟩ hbv
        have hrow' := hrow.of_block (hbv.block _ hbk)
        by_cases hltk : k < l
        · have E := hE.below hbv
          have I := hI.below hbv
          have c1 := E.ca k hltk
          have c2 := E.cb k hltk
          have s5 := E.blk
          have s6 := I.blk
          have hx := HW.out.2.2.2.2 k (by rw [hlm.out]; exact hltk)
          obtain ⟨x, hxa⟩ : ∃ x : Nat, ea es k = x := ⟨(ea es k).toNat, by omega⟩
          obtain ⟨y, hya⟩ : ∃ y : Nat, eb es k = y := ⟨(eb es k).toNat, by omega⟩
          have hxN : x < N := by omega
          have hyN : y < N := by omega
          have r1 := hrow'.cell hxN
          have r2 := hrow'.cell hyN
          have r3 := hrow'.lt
          rw [hxa] at c1
          rw [hya] at c2
          clear hx hrow' p2 q2 s2
          by_cases hf : hasB S (x : Int) = hasB S (y : Int)
          · have e : Hid (lvTo es (hasB S) (k + 1) = lvTo es (hasB S) k) := lvTo_no (by rw [hxa, hya]; exact hf)
            clear E I hxa hya
            go_wp2_with fail
            (refine wp_region_quiet_below (by kernel_rfl) (by kernel_rfl) ?_
             repeat (any_goals (go_big_quiet_step (first | fail)))
             all_goals (refine wpQuiet_nil ?_; intro wq1 hq1; replace hq1 := below_of_rg hq1))
            go_wp2_with fail
            go_roundw
            case rel => exact ⟨k + 1, by omega, by go_num, by rw [e.out]; exact ho.of_block (hq1.block _ ho.lt), hbv.andB hq1⟩
            case measure => simp [intOf]; omega
          · have e : lvTo es (hasB S) (k + 1) = lvTo es (hasB S) k ++ [(k : Int)] := lvTo_yes (by rw [hxa, hya]; exact hf)
            have hf' : (!hasB S (x : Int) == hasB S (y : Int)) = true := by revert hf; cases hasB S (x : Int) <;> cases hasB S (y : Int) <;> simp
            have hck := HCO.out.1 k (by rw [hlm.out]; exact hltk)
            obtain ⟨u, hu⟩ : ∃ u : Nat, cs k = u := ⟨(cs k).toNat, by omega⟩
            have hu3 : u < 3 := by omega
            obtain ⟨q, hq, hqle⟩ := ctv_le cs (lvTo es (hasB S) k) u
            have hlen := lvTo_len es (hasB S) k
            have HR := fun (W : World) (hr : W.rowIs w9.heap.size 2 3 (fun v => .int .i64 (ctv cs (lvTo es (hasB S) k) v))) => (hr.set u (.int .i64 ((q : Int) + 1))).congr (g := fun v => .int .i64 (ctv cs (lvTo es (hasB S) (k + 1)) v)) (fun v _ => by
              rw [e, ctv_app, Int.toNat_natCast, hu]
              by_cases hv : v = u
              · subst hv; rw [if_pos rfl, if_pos rfl, hq]
              · rw [if_neg hv, if_neg (by omega)])
            have HR := Lib.hid HR
            have HQ := Lib.hid hq
            have HU := Lib.hid hu
            have hq20 : q ≤ 1048576 := by omega
            clear E I hxa hya e hf hck hu hq hqle hlen
            go_wp2_with fail
            (refine wp_region_quiet_below (by kernel_rfl) (by kernel_rfl) ?_
             repeat (any_goals (go_big_quiet_step (first | fail)))
             all_goals (refine wpQuiet_nil ?_; intro wq1 hq1; replace hq1 := below_of_rg hq1))
            have c1 := (hI.below (hbv.andB hq1)).c k hltk
            rw [HU.out] at c1
            have s6 := (hI.below (hbv.andB hq1)).blk
            have ho := ho.of_block (hq1.block _ ho.lt)
            have e1 := ho.cell hu3
            rw [HQ.out] at e1
            have f1 := ho.frozen u
            have HR2 := HR.out _ ho
            have hb5 := hbv.andB hq1
            clear ho hbv hq1
            go_wp2_with fail
            go_roundw
            case rel => exact ⟨k + 1, by omega, by go_num, HR2, hb5.setCell (Nat.le_refl _) _⟩
            case measure => simp [intOf]; omega
        · obtain rfl : k = l := by omega
          clear p2 q2 s2 hrow'
          go_wp2_with fail
          go_ret2
          rw [HCC.out, HLL.out]
          exact ⟨some ⟨w9.heap.size, 0, none⟩, 3, rfl, (OwnL.ofRow (m := 3) ho (by have := hB.size; omega) (by omega) : OwnL w.heap.size _ _ 3 3 _), hB.andB hbv⟩
end Go.Proofs.Ytjdhibcijjnopaa
