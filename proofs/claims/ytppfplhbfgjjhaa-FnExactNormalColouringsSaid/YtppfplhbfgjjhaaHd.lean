import Derived.Test.YtppfplhbfgjjhaaHc
namespace Go.Proofs.Ytppfplhbfgjjhaa
open Go.RowKit Go.Sort
/-! ### FirstColouring: both sides -/
noncomputable def fcL (n : Int) (es : List (Int × Int)) : List Int := if B (IsG n es) then (match allC es (ia []) with | [] => [] | g :: _ => lsN es.length g) else []
noncomputable def fcC (n : Int) (es : List (Int × Int)) : Int := if B (IsG n es) then (match allC es (ia []) with | [] => 4 | _ :: _ => 0) else 1
theorem fcL_len (n : Int) (es : List (Int × Int)) : (fcL n es).length ≤ es.length := by
  unfold fcL
  split
  · split
    · simp
    · rw [lsN_len]; exact Nat.le_refl _
  · simp
theorem retLCnil {w w' : World} {xs : List Int} {k : Int} (hx : xs = []) (hb : Below w.heap.size w w') : RetLC xs k w (.returned (.tuple #[.slice none 0 0, .int .i64 k])) w' := by
  subst hx; exact ⟨none, 0, rfl, OwnL.nil _ _, hb⟩
set_option maxRecDepth 100000 in
set_option maxHeartbeats 400000 in
theorem spFirstColouring_any (n : Int) (b o m c : Nat) (es : List (Int × Int)) (w : World) (h : Eds w b o m es) (hm : m ≤ 1048576) :
    Calls Try.prog 22 #[.agg #[.int .i64 n, .slice (some ⟨b, o, none⟩) m c]] w (RetLC (fcL n es) (fcC n es) w) := by
  have hbox := Box2.made w (.int .i64 n) (.slice (some ⟨b, o, none⟩) m c) 30
  have hbb := (by go_grown : Below w.heap.size w (w.alloc (.cells #[.int .i64 n, .slice (some ⟨b, o, none⟩) m c] 30)))
  have HSP := Lib.hid (l01Is_any n b o m c es _ (h.alloc (.cells #[.int .i64 n, .slice (some ⟨b, o, none⟩) m c] 30)) hm)
  by_cases hG : IsG n es
  · have hl : es.length = m := h.len
    have hFL : fcL n es = match allC es (ia []) with | [] => [] | g :: _ => lsN m g := by unfold fcL; rw [if_pos (B_true hG), ← hl]
    have hFC : fcC n es = match allC es (ia []) with | [] => 4 | _ :: _ => 0 := by unfold fcC; rw [if_pos (B_true hG)]
    rw [B_true hG] at HSP
    have hn2 := hG.wf.1
    obtain ⟨N, rfl⟩ : ∃ N : Nat, n = N := ⟨n.toNat, by omega⟩
    have HLN := Lib.hid (fun W hE => l02Normal_any N b o m c 0 es W hE hm hG (by omega))
    have c00 : ((0 : Nat) : Int) = 0 := rfl
    rw [c00] at HLN
    clear hG
    cases hA : allC es (ia []) with
    | nil =>
      rw [hA] at hFL hFC HLN
      have HX : Hid (fcL N es = []) := hFL
      have HC : Hid (fcC N es = 4) := hFC
      have HLN2 : Hid (∀ W, Eds W b o m es → Calls Try.prog 56 #[.agg #[.int .i64 N, .slice (some ⟨b, o, none⟩) m c], .int .i64 0] W (RetLL [] W)) := HLN
      rw [HC.out]
      clear hA hFL hFC HLN
      go_enter Try.func22, Try.ntmps22
      go_wp2_with fail
      refine HSP.out.mono ?_
      rintro e w1 ⟨rfl, hb1⟩
      have hB1 := hbb.thenB (by simp) hb1
      obtain ⟨s1, p1, q1⟩ := hbox.below hb1
      clear hb1 hbb hbox
      go_wp2_with fail
      refine (HLN2.out _ (h.below hB1)).mono ?_
      rintro e w2 ⟨A2, c2, rfl, O2, hb2⟩
      go_wp2_with fail
      go_ret2
      exact retLCnil HX.out (hB1.andB hb2)
    | cons g T =>
      rw [hA] at hFL hFC HLN
      have HX : Hid (fcL N es = lsN m g) := hFL
      have HC : Hid (fcC N es = 0) := hFC
      have HLN2 : Hid (∀ W, Eds W b o m es → Calls Try.prog 56 #[.agg #[.int .i64 N, .slice (some ⟨b, o, none⟩) m c], .int .i64 0] W (RetLL [lsN m g] W)) := HLN
      rw [HC.out, HX.out]
      clear hA hFL hFC HLN
      go_enter Try.func22, Try.ntmps22
      go_wp2_with fail
      refine HSP.out.mono ?_
      rintro e w1 ⟨rfl, hb1⟩
      have hB1 := hbb.thenB (by simp) hb1
      obtain ⟨s1, p1, q1⟩ := hbox.below hb1
      clear hb1 hbb hbox
      go_wp2_with fail
      refine (HLN2.out _ (h.below hB1)).mono ?_
      rintro e w2 ⟨A2, c2, rfl, O2, hb2⟩
      obtain ⟨g2, Aj, cj, rfl, hg, hg', rc, OJ⟩ := O2.at (j := 0) (by simp)
      have hra : ra [lsN m g] 0 = lsN m g := rfl
      rw [hra] at rc OJ
      have hB2 := hB1.andB hb2
      have OJ2 := OJ.mono hB1.size
      have HF : Hid (RetLC (lsN m g) 0 w (.returned (.tuple #[.slice Aj (lsN m g).length cj, .int .i64 0])) w2) := ⟨Aj, cj, rfl, OJ2, hB2⟩
      clear OJ OJ2 O2 hra
      go_wp2_with fail
      go_ret2
      exact HF.out
  · have HX : Hid (fcL n es = []) := by show _ = _; unfold fcL; rw [if_neg (by rw [B_false hG]; decide)]
    have HC : Hid (fcC n es = 1) := by show _ = _; unfold fcC; rw [if_neg (by rw [B_false hG]; decide)]
    rw [B_false hG] at HSP
    rw [HC.out]
    clear hG hbox
    go_enter Try.func22, Try.ntmps22
    go_wp2_with fail
    refine HSP.out.mono ?_
    rintro e w1 ⟨rfl, hb1⟩
    have hB1 := hbb.thenB (by simp) hb1
    clear hb1 hbb
    go_wp2_with fail
    go_ret2
    exact retLCnil HX.out hB1
set_option maxRecDepth 100000 in
set_option maxHeartbeats 400000 in
theorem imFirstColouring_any (n : Int) (b o m c : Nat) (es : List (Int × Int)) (w : World) (h : Eds w b o m es) (hm : m ≤ 1048576) :
    Calls Try.prog 23 #[.agg #[.int .i64 n, .slice (some ⟨b, o, none⟩) m c]] w (RetLC (fcL n es) (fcC n es) w) := by
  have hbox := Box2.made w (.int .i64 n) (.slice (some ⟨b, o, none⟩) m c) 30
  have hbb := (by go_grown : Below w.heap.size w (w.alloc (.cells #[.int .i64 n, .slice (some ⟨b, o, none⟩) m c] 30)))
  have HGC := Lib.hid (graphCode_any n b o m c es true _ (h.alloc (.cells #[.int .i64 n, .slice (some ⟨b, o, none⟩) m c] 30)) hm)
  by_cases hG : IsG n es
  · have hl : es.length = m := h.len
    have hFL : fcL n es = match allC es (ia []) with | [] => [] | g :: _ => lsN m g := by unfold fcL; rw [if_pos (B_true hG), ← hl]
    have hFC : fcC n es = match allC es (ia []) with | [] => 4 | _ :: _ => 0 := by unfold fcC; rw [if_pos (B_true hG)]
    rw [show gcC n es true = 0 by simp [gcC, B_true hG]] at HGC
    have hn2 := hG.wf.1
    obtain ⟨N, rfl⟩ : ∃ N : Nat, n = N := ⟨n.toNat, by omega⟩
    have HF := Lib.hid (fun W hE => first_F N b o m c es W hE hm hG)
    clear hG
    cases hA : allC es (ia []) with
    | nil =>
      rw [hA] at hFL hFC
      have HX : Hid (fcL N es = []) := hFL
      have HC : Hid (fcC N es = 4) := hFC
      have HF2 : Hid (∀ W, Eds W b o m es → Calls Try.prog 58 #[.agg #[.int .i64 N, .slice (some ⟨b, o, none⟩) m c]] W (fun e w' => e = .returned (.slice none 0 0) ∧ Below W.heap.size W w')) := fun W hE => (HF.out W hE).mono fun e w' hr => by unfold RetF at hr; rw [hA] at hr; exact hr
      rw [HC.out]
      clear hA hFL hFC HF
      go_enter Try.func23, Try.ntmps23
      go_wp2_with fail
      refine HGC.out.mono ?_
      rintro e w1 ⟨rfl, hb1⟩
      have hB1 := hbb.thenB (by simp) hb1
      obtain ⟨s1, p1, q1⟩ := hbox.below hb1
      clear hb1 hbb hbox
      go_wp2_with fail
      refine (HF2.out _ (h.below hB1)).mono ?_
      rintro e w2 ⟨rfl, hb2⟩
      have hq0 : ∀ W, (binOp .eql 36 (.slice none 0 0) (.slice none 0 0)).run Try.prog W = .ok (.bool true) W := fun W => by kernel_rfl
      go_wp2_with fail
      go_ret2
      exact retLCnil HX.out (hB1.andB hb2)
    | cons g T =>
      rw [hA] at hFL hFC
      have HX : Hid (fcL N es = lsN m g) := hFL
      have HC : Hid (fcC N es = 0) := hFC
      have HF2 : Hid (∀ W, Eds W b o m es → Calls Try.prog 58 #[.agg #[.int .i64 N, .slice (some ⟨b, o, none⟩) m c]] W (fun e w' => ∃ a c, e = .returned (.slice (some a) (lsN m g).length c) ∧ OwnL W.heap.size w' (some a) (lsN m g).length c (lsN m g) ∧ Below W.heap.size W w')) := fun W hE => (HF.out W hE).mono fun e w' hr => by
        unfold RetF at hr; rw [hA] at hr
        obtain ⟨A2, c2, he, hne, O2, hb2⟩ := hr
        obtain ⟨a2, rfl⟩ : ∃ a, A2 = some a := Option.ne_none_iff_exists'.1 hne
        exact ⟨a2, c2, he, O2, hb2⟩
      rw [HC.out, HX.out]
      clear hA hFL hFC HF
      go_enter Try.func23, Try.ntmps23
      go_wp2_with fail
      refine HGC.out.mono ?_
      rintro e w1 ⟨rfl, hb1⟩
      have hB1 := hbb.thenB (by simp) hb1
      obtain ⟨s1, p1, q1⟩ := hbox.below hb1
      clear hb1 hbb hbox
      go_wp2_with fail
      refine (HF2.out _ (h.below hB1)).mono ?_
      rintro e w2 ⟨a2, c2, rfl, O2, hb2⟩
      have HFF : Hid (RetLC (lsN m g) 0 w (.returned (.tuple #[.slice (some a2) (lsN m g).length c2, .int .i64 0])) w2) := ⟨some a2, c2, rfl, O2.mono hB1.size, hB1.andB hb2⟩
      have hq0 : ∀ W, (binOp .eql 36 (.slice (some a2) (lsN m g).length c2) (.slice none 0 0)).run Try.prog W = .ok (.bool false) W := fun W => by kernel_rfl
      clear O2
      go_wp2_with fail
      go_ret2
      exact HFF.out
  · have HX : Hid (fcL n es = []) := by show _ = _; unfold fcL; rw [if_neg (by rw [B_false hG]; decide)]
    have HC : Hid (fcC n es = 1) := by show _ = _; unfold fcC; rw [if_neg (by rw [B_false hG]; decide)]
    rw [show gcC n es true = 1 by simp [gcC, B_false hG]] at HGC
    rw [HC.out]
    clear hG hbox
    go_enter Try.func23, Try.ntmps23
    go_wp2_with fail
    refine HGC.out.mono ?_
    rintro e w1 ⟨rfl, hb1⟩
    have hB1 := hbb.thenB (by simp) hb1
    clear hb1 hbb
    go_wp2_with fail
    go_ret2
    exact retLCnil HX.out hB1
end Go.Proofs.Ytppfplhbfgjjhaa
