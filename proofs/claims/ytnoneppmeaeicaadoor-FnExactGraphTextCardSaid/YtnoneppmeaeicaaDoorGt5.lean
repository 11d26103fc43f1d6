import Derived.Test.YtnoneppmeaeicaaDoorGt4
namespace Go.Proofs.YtnoneppmeaeicaaDoor
open Go.RowKit Go.Sort
/-! ### GraphText: both sides -/
noncomputable def gtL (n : Int) (es : List (Int × Int)) : List UInt8 := if B (IsG n es) then txT n.toNat es es.length else []
def RetST (L : List UInt8) (c : Int) (w : World) (e : Ending) (w' : World) : Prop := ∃ S : ByteArray, e = .returned (.tuple #[.string S, .int .i64 c]) ∧ S.data.toList = L ∧ Below w.heap.size w w'
theorem retST {S S' : ByteArray} {k k' : Int} (h0 : S = S') (h : k = k') : Ending.returned (.tuple #[.string S, .int .i64 k]) = .returned (.tuple #[.string S', .int .i64 k']) := by rw [h, h0]
set_option maxRecDepth 100000 in
set_option maxHeartbeats 800000 in
theorem spGraphText_any (n : Int) (b o m c : Nat) (es : List (Int × Int)) (w : World) (h : Eds w b o m es) (hm : m ≤ 1048576) :
    Calls Tryd.prog 5 #[.agg #[.int .i64 n, .slice (some ⟨b, o, none⟩) m c]] w (RetST (gtL n es) (imC n es) w) := by
  have hbox := Box2.made w (.int .i64 n) (.slice (some ⟨b, o, none⟩) m c) 30
  have hbb := (by go_grown : Below w.heap.size w (w.alloc (.cells #[.int .i64 n, .slice (some ⟨b, o, none⟩) m c] 30)))
  have HSP := Lib.hid (l01Is_any n b o m c es _ (h.alloc (.cells #[.int .i64 n, .slice (some ⟨b, o, none⟩) m c] 30)) hm)
  by_cases hG : IsG n es
  · have HC : Hid (imC n es = 0) := by simp [Hid, imC, B_true hG]
    have HG := Lib.hid hG
    have hn2 := hG.wf.1
    have hn20 := hG.wf.2.1
    have hm30 : m ≤ 30 := by have := hG.wf.2.2.2.1; have := h.len; omega
    obtain ⟨N, rfl⟩ : ∃ N : Nat, n = N := ⟨n.toNat, by omega⟩
    have HR : Hid (gtL N es = txT N es m) := by simp [Hid, gtL, B_true hG, h.len]
    rw [B_true hG] at HSP
    clear hG
    go_enter Tryd.func5, Tryd.ntmps5
    go_wp2_with fail
    refine HSP.out.mono ?_
    rintro e w1 ⟨rfl, hb1⟩
    have hB1 := hbb.thenB (by simp) hb1
    obtain ⟨s1, p1, q1⟩ := hbox.below hb1
    clear hb1 hbb hbox
    go_wp2_with fail
    refine (l01Text_any N b o m c es _ (h.below hB1) hm30 HG.out.wf).mono ?_
    rintro e w2 ⟨S, rfl, hS, hb2⟩
    go_wp2_with fail
    go_ret2
    exact ⟨S, retST rfl HC.out.symm, hS.trans HR.out.symm, hB1.andB hb2⟩
  · have HC : Hid (imC n es = 1) := by simp [Hid, imC, B_false hG]
    have HR : Hid (gtL n es = []) := by simp [Hid, gtL, B_false hG]
    rw [B_false hG] at HSP
    clear hG hbox
    go_enter Tryd.func5, Tryd.ntmps5
    go_wp2_with fail
    refine HSP.out.mono ?_
    rintro e w1 ⟨rfl, hb1⟩
    have hB1 := hbb.thenB (by simp) hb1
    clear hb1 hbb
    go_wp2_with fail
    go_ret2
    exact ⟨⟨#[]⟩, retST rfl HC.out.symm, HR.out.symm, hB1⟩
set_option maxRecDepth 100000 in
set_option maxHeartbeats 800000 in
theorem imGraphText_any (n : Int) (b o m c : Nat) (es : List (Int × Int)) (w : World) (h : Eds w b o m es) (hm : m ≤ 1048576) :
    Calls Tryd.prog 7 #[.agg #[.int .i64 n, .slice (some ⟨b, o, none⟩) m c]] w (RetST (gtL n es) (imC n es) w) := by
  have hbox := Box2.made w (.int .i64 n) (.slice (some ⟨b, o, none⟩) m c) 30
  have hbb := (by go_grown : Below w.heap.size w (w.alloc (.cells #[.int .i64 n, .slice (some ⟨b, o, none⟩) m c] 30)))
  have HGC := Lib.hid (graphCode_any n b o m c es true _ (h.alloc (.cells #[.int .i64 n, .slice (some ⟨b, o, none⟩) m c] 30)) hm)
  by_cases hG : IsG n es
  rotate_left
  · have HC : Hid (imC n es = 1) := by simp [Hid, imC, B_false hG]
    have HR : Hid (gtL n es = []) := by simp [Hid, gtL, B_false hG]
    rw [show gcC n es true = 1 by simp [gcC, B_false hG]] at HGC
    clear hG hbox
    go_enter Tryd.func7, Tryd.ntmps7
    go_wp2_with fail
    refine HGC.out.mono ?_
    rintro e w1 ⟨rfl, hb1⟩
    have hB1 := hbb.thenB (by simp) hb1
    clear hb1 hbb
    go_wp2_with fail
    go_ret2
    exact ⟨⟨#[]⟩, retST rfl HC.out.symm, HR.out.symm, hB1⟩
  have HC : Hid (imC n es = 0) := by simp [Hid, imC, B_true hG]
  have HG := Lib.hid hG
  have hn2 := hG.wf.1
  have hn20 := hG.wf.2.1
  have hm30 : m ≤ 30 := by have := hG.wf.2.2.2.1; have := h.len; omega
  obtain ⟨N, rfl⟩ : ∃ N : Nat, n = N := ⟨n.toNat, by omega⟩
  have HR : Hid (gtL N es = txT N es m) := by simp [Hid, gtL, B_true hG, h.len]
  rw [show gcC N es true = 0 by simp [gcC, B_true hG]] at HGC
  clear hG
  go_enter Tryd.func7, Tryd.ntmps7
  go_wp2_with fail
  refine HGC.out.mono ?_
  rintro e w1 ⟨rfl, hb1⟩
  have hB1 := hbb.thenB (by simp) hb1
  obtain ⟨s1, p1, q1⟩ := hbox.below hb1
  clear hb1 hbb hbox
  go_wp2_with fail
  refine (text_any N b o m c es _ (h.below hB1) hm30 HG.out.wf).mono ?_
  rintro e w2 ⟨S, rfl, hS, hb2⟩
  go_wp2_with fail
  go_ret2
  exact ⟨S, retST rfl HC.out.symm, hS.trans HR.out.symm, hB1.andB hb2⟩
end Go.Proofs.YtnoneppmeaeicaaDoor
