import Derived.Test.YtppfplhbfgjjhaaPq
import Derived.Test.YtppfplhbfgjjhaaM28
namespace Go.Proofs.Ytppfplhbfgjjhaa
open Go.RowKit Go.Sort
/-! ### HasColouring, FirstColouring: both sides -/
theorem l02Normal_any (N b o m c most : Nat) (es : List (Int × Int)) (w : World) (h : Eds w b o m es) (hm : m ≤ 1048576) (hG : IsG N es) (hmost : most ≤ 300) :
    Calls Try.prog 56 #[.agg #[.int .i64 N, .slice (some ⟨b, o, none⟩) m c], .int .i64 most] w (RetLL (tkL most ((allC es (ia [])).map (lsN m))) w) := by
  have hl : es.length = m := h.len
  have HV : Hid (tkL most ([] ++ lvs es (gN es 0) m ([] : List Int).length (ia [])) = tkL most ((allC es (ia [])).map (lsN m))) := by
    show _ = _
    rw [List.nil_append, ← hl]
    show tkL most (lvs es (gN es 0) es.length 0 (ia [])) = _
    rw [lvs_all hG]
  have hbox := Box2.made w (.int .i64 N) (.slice (some ⟨b, o, none⟩) m c) 30
  have hbb := (by go_grown : Below w.heap.size w (w.alloc (.cells #[.int .i64 N, .slice (some ⟨b, o, none⟩) m c] 30)))
  obtain ⟨w1, hw1⟩ : ∃ w1, w1 = w.alloc (Obj.cells #[Value.int IntKind.i64 N, Value.slice (some ⟨b, o, none⟩) m c] 30) := ⟨_, rfl⟩
  have sw1 : w1.heap.size = w.heap.size + 1 := by rw [hw1]; simp [go_sem]
  obtain ⟨w2, hw2⟩ : ∃ w2, w2 = (w1.alloc (.cells #[] 2)).alloc (.cells #[] 36) := ⟨_, rfl⟩
  rw [← hw1] at hbb
  have hb2 : Below w1.heap.size w1 w2 := by rw [hw2]; exact ((Below.refl _ _).alloc (Nat.le_refl _) _).alloc (by simp [go_sem]) _
  have sa : (w1.alloc (.cells #[] 2)).heap.size = w.heap.size + 1 + 1 := by simp [go_sem, sw1]
  have O : OwnLL w1.heap.size w2.heap.size w2 (some ⟨w.heap.size + 1 + 1, 0, none⟩) 0 0 [] := by
    have := OwnLL.empty (base := w1.heap.size) (w1.alloc (.cells #[] 2)) (by rw [sa, sw1]; omega)
    rw [sa] at this
    rw [hw2]
    have hs2 : ((w1.alloc (.cells #[] 2)).alloc (.cells #[] 36)).heap.size = w.heap.size + 1 + 1 + 1 := by simp [go_sem, sw1]
    rw [hs2]; exact this
  have z2 : w2.heap.size = w.heap.size + 1 + 1 + 1 := by rw [hw2]; simp [go_sem, sw1]
  have hB := hbb.andB hb2
  have HL := Lib.hid (l02List_any N b o m c es most w1.heap.size hm hG hmost (m + 1) [] (some ⟨w.heap.size + 1, 0, none⟩) 0 [] (some ⟨w.heap.size + 1 + 1, 0, none⟩) 0 w2 (by simp) (by simp) (h.below hB) (fun h0 => absurd h0 (by simp)) ⟨_, O⟩ (by simp) (by omega) (fun g hg => by
    simp only [blkOf, Option.map_some, Option.some.injEq] at hg
    have := h.blk
    exact ⟨by omega, fun hh => by simp only [blkOf, Option.map_some, Option.some.injEq] at hh; omega⟩) (fun g hg => by simp only [blkOf, Option.map_some, Option.some.injEq] at hg; omega))
  rw [HV.out] at HL
  clear hbox O
  go_enter Try.func56, Try.ntmps56
  go_wp2_with fail
  rw [← hw1, ← hw2]
  refine HL.out.mono ?_
  rintro e w3 ⟨A2, c2, rfl, ⟨top, O3⟩, k3, n3⟩
  have ht := O3.2.1
  have hk : Below w.heap.size w w3 := hB.trans (k3.below (by omega) (fun k hk => by simp only [blkOf, Option.map_some, Option.some.injEq] at hk; omega))
  have HF : Hid (RetLL (tkL most ((allC es (ia [])).map (lsN m))) w (.returned (.slice A2 (tkL most ((allC es (ia [])).map (lsN m))).length c2)) w3) :=
    ⟨A2, c2, rfl, (O3.mono (by omega)).raise ht (Nat.le_refl _), hk⟩
  go_wp2_with fail
  go_ret
  exact HF.out
noncomputable def hcR (n : Int) (es : List (Int × Int)) : Bool := B (IsG n es) && B (allC es (ia []) ≠ [])
theorem tk0_len (es : List (Int × Int)) (m : Nat) : (decide ((((tkL 0 ((allC es (ia [])).map (lsN m))).length : Nat) : Int) > 0)) = B (allC es (ia []) ≠ []) := by
  rw [Bool.eq_iff_iff, decide_eq_true_eq, B_iff]
  unfold tkL
  cases allC es (ia []) <;> simp
set_option maxHeartbeats 400000 in
theorem spHasColouring_any (n : Int) (b o m c : Nat) (es : List (Int × Int)) (w : World) (h : Eds w b o m es) (hm : m ≤ 1048576) :
    Calls Try.prog 16 #[.agg #[.int .i64 n, .slice (some ⟨b, o, none⟩) m c]] w (Ret (.tuple #[.bool (hcR n es), .int .i64 (imC n es)]) w) := by
  have hbox := Box2.made w (.int .i64 n) (.slice (some ⟨b, o, none⟩) m c) 30
  have hbb := (by go_grown : Below w.heap.size w (w.alloc (.cells #[.int .i64 n, .slice (some ⟨b, o, none⟩) m c] 30)))
  have HSP := Lib.hid (l01Is_any n b o m c es _ (h.alloc (.cells #[.int .i64 n, .slice (some ⟨b, o, none⟩) m c] 30)) hm)
  by_cases hG : IsG n es
  · have HC : Hid (imC n es = 0) := by simp [Hid, imC, B_true hG]
    have HR : Hid (hcR n es = B (allC es (ia []) ≠ [])) := by simp [Hid, hcR, B_true hG]
    rw [B_true hG] at HSP
    have hn2 := hG.wf.1
    obtain ⟨N, rfl⟩ : ∃ N : Nat, n = N := ⟨n.toNat, by omega⟩
    have HLN := Lib.hid (fun W hE => l02Normal_any N b o m c 0 es W hE hm hG (by omega))
    obtain ⟨ll, hll⟩ : ∃ ll, ll = tkL 0 ((allC es (ia [])).map (lsN m)) := ⟨_, rfl⟩
    have HT : Hid (decide (((ll.length : Nat) : Int) > 0) = B (allC es (ia []) ≠ [])) := by rw [hll]; exact tk0_len es m
    rw [← hll] at HLN
    clear hG hll
    go_enter Try.func16, Try.ntmps16
    go_wp2_with fail
    refine HSP.out.mono ?_
    rintro e w1 ⟨rfl, hb1⟩
    have hB1 := hbb.thenB (by simp) hb1
    obtain ⟨s1, p1, q1⟩ := hbox.below hb1
    clear hb1 hbb hbox
    have c00 : ((0 : Nat) : Int) = 0 := rfl
    rw [c00] at HLN
    go_wp2_with fail
    refine (HLN.out _ (h.below hB1)).mono ?_
    rintro e w2 ⟨A2, c2, rfl, O2, hb2⟩
    go_wp2_with fail
    go_ret2
    refine ⟨retBC ?_ HC.out.symm, hB1.andB hb2⟩
    rw [HR.out, ← HT.out]
    simp
  · have HC : Hid (imC n es = 1) := by simp [Hid, imC, B_false hG]
    have HR : Hid (hcR n es = false) := by simp [Hid, hcR, B_false hG]
    rw [B_false hG] at HSP
    clear hG hbox
    go_enter Try.func16, Try.ntmps16
    go_wp2_with fail
    refine HSP.out.mono ?_
    rintro e w1 ⟨rfl, hb1⟩
    have hB1 := hbb.thenB (by simp) hb1
    clear hb1 hbb
    go_wp2_with fail
    go_ret2
    exact ⟨retBC HR.out.symm HC.out.symm, hB1⟩
theorem first_iff {N : Nat} {es : List (Int × Int)} (hG : IsG N es) : (∀ j, j < (sdTo es noSk N N).length → foB es (fun j => inTo es (ra (sdTo es noSk N N) j) es.length) j = true) ↔ allC es (ia []) ≠ [] := by
  have := (first_all hG (ia [])).1
  rw [← this]
  have hl : (sdTo es noSk N N).length = (LV es N).length := by rw [sd_LV]; simp
  rw [hl]
  rfl
theorem first_val {N : Nat} {es : List (Int × Int)} (hG : IsG N es) {g : Nat → Int} {T : List (Nat → Int)} (h : allC es (ia []) = g :: T) : lsN es.length (foF es (fun j => inTo es (ra (sdTo es noSk N N) j) es.length) (sdTo es noSk N N).length) = lsN es.length g := by
  have := (first_all hG (ia [])).2 g T h
  have hl : (sdTo es noSk N N).length = (LV es N).length := by rw [sd_LV]; simp
  rw [hl]
  exact this.symm
/-- first, in the reference's words. -/
def RetF (es : List (Int × Int)) (m : Nat) (w : World) (e : Ending) (w' : World) : Prop :=
  match allC es (ia []) with
  | [] => e = .returned (.slice none 0 0) ∧ Below w.heap.size w w'
  | g :: _ => ∃ A c, e = .returned (.slice A (lsN m g).length c) ∧ A ≠ none ∧ OwnL w.heap.size w' A (lsN m g).length c (lsN m g) ∧ Below w.heap.size w w'
theorem row_own {w w' : World} {g m : Nat} {f : Nat → Int} (R : w'.rowIs g 2 m (fun d => .int .i64 (f d))) (hg : w.heap.size ≤ g) (hm : m ≤ 1048576) : OwnL w.heap.size w' (some ⟨g, 0, none⟩) m m (lsN m f) := by
  obtain ⟨c, hc, hs, hv⟩ := R
  refine ⟨lsN_len m f, by simp [nums, lsN], .inr ⟨g, m, c, rfl, hg, hc, Nat.le_refl _, by unfold maxLen; omega, by omega, ?_⟩⟩
  apply List.ext_getElem?
  intro j
  by_cases hj : j < m
  · rw [List.getElem?_take, if_pos (by omega)]
    rw [Array.getElem?_toList, hv j hj, nums_at _ j (by rw [lsN_len]; exact hj)]
    simp [ia, lsN, hj]
  · rw [List.getElem?_eq_none (by simp; omega), List.getElem?_eq_none (by simp [nums, lsN]; omega)]
theorem first_F (N b o m c : Nat) (es : List (Int × Int)) (w : World) (h : Eds w b o m es) (hm : m ≤ 1048576) (hG : IsG N es) :
    Calls Try.prog 58 #[.agg #[.int .i64 N, .slice (some ⟨b, o, none⟩) m c]] w (RetF es m w) := by
  have hl : es.length = m := h.len
  subst hl
  refine (first_any N b o es.length c es w h hm hG).mono ?_
  intro e w' hr
  unfold RetF
  have hi := first_iff hG
  cases hA : allC es (ia []) with
  | nil =>
    rw [hA] at hi
    rcases hr with ⟨hq, _⟩ | ⟨_, he, hb⟩
    · exact absurd rfl (hi.1 hq)
    · exact ⟨he, hb⟩
  | cons g T =>
    rw [hA] at hi
    rcases hr with ⟨_, g', he, hg, R, hb⟩ | ⟨hq, _⟩
    · have hv := first_val hG hA
      have O := row_own (w := w) R hg hm
      rw [hv] at O
      have hll := lsN_len es.length g
      exact ⟨some ⟨g', 0, none⟩, es.length, by rw [hll]; exact he, by simp, by rw [hll]; exact O, hb⟩
    · exact absurd (hi.2 (by simp)) hq
set_option maxHeartbeats 400000 in
theorem imHasColouring_any (n : Int) (b o m c : Nat) (es : List (Int × Int)) (w : World) (h : Eds w b o m es) (hm : m ≤ 1048576) :
    Calls Try.prog 18 #[.agg #[.int .i64 n, .slice (some ⟨b, o, none⟩) m c]] w (Ret (.tuple #[.bool (hcR n es), .int .i64 (imC n es)]) w) := by
  have hbox := Box2.made w (.int .i64 n) (.slice (some ⟨b, o, none⟩) m c) 30
  have hbb := (by go_grown : Below w.heap.size w (w.alloc (.cells #[.int .i64 n, .slice (some ⟨b, o, none⟩) m c] 30)))
  have HGC := Lib.hid (graphCode_any n b o m c es true _ (h.alloc (.cells #[.int .i64 n, .slice (some ⟨b, o, none⟩) m c] 30)) hm)
  by_cases hG : IsG n es
  · have HC : Hid (imC n es = 0) := by simp [Hid, imC, B_true hG]
    have HR : Hid (hcR n es = B (allC es (ia []) ≠ [])) := by simp [Hid, hcR, B_true hG]
    rw [show gcC n es true = 0 by simp [gcC, B_true hG]] at HGC
    have hn2 := hG.wf.1
    obtain ⟨N, rfl⟩ : ∃ N : Nat, n = N := ⟨n.toNat, by omega⟩
    have HF := Lib.hid (fun W hE => first_F N b o m c es W hE hm hG)
    clear hG
    go_enter Try.func18, Try.ntmps18
    go_wp2_with fail
    refine HGC.out.mono ?_
    rintro e w1 ⟨rfl, hb1⟩
    have hB1 := hbb.thenB (by simp) hb1
    obtain ⟨s1, p1, q1⟩ := hbox.below hb1
    clear hb1 hbb hbox
    go_wp2_with fail
    refine (HF.out _ (h.below hB1)).mono ?_
    intro e w2 hr
    unfold RetF at hr
    cases hA : allC es (ia []) with
    | nil =>
      rw [hA] at hr
      obtain ⟨rfl, hb2⟩ := hr
      have HV : Hid (hcR N es = false) := by show _ = _; rw [HR.out, hA]; exact B_false (by simp)
      clear hA
      go_wp2_with fail
      go_ret2
      exact ⟨retBC HV.out.symm HC.out.symm, hB1.andB hb2⟩
    | cons g T =>
      rw [hA] at hr
      obtain ⟨A2, c2, rfl, hne, O2, hb2⟩ := hr
      have HV : Hid (hcR N es = true) := by show _ = _; rw [HR.out, hA]; exact B_true (by simp)
      obtain ⟨a2, rfl⟩ : ∃ a, A2 = some a := Option.ne_none_iff_exists'.1 hne
      clear hA hne O2
      go_wp2_with fail
      go_ret2
      exact ⟨retBC HV.out.symm HC.out.symm, hB1.andB hb2⟩
  · have HC : Hid (imC n es = 1) := by simp [Hid, imC, B_false hG]
    have HR : Hid (hcR n es = false) := by simp [Hid, hcR, B_false hG]
    rw [show gcC n es true = 1 by simp [gcC, B_false hG]] at HGC
    clear hG hbox
    go_enter Try.func18, Try.ntmps18
    go_wp2_with fail
    refine HGC.out.mono ?_
    rintro e w1 ⟨rfl, hb1⟩
    have hB1 := hbb.thenB (by simp) hb1
    clear hb1 hbb
    go_wp2_with fail
    go_ret2
    exact ⟨retBC HR.out.symm HC.out.symm, hB1⟩
end Go.Proofs.Ytppfplhbfgjjhaa
