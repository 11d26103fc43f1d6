import Derived.Test.YtjdhibcijjnopaaCv
import Derived.Test.YtjdhibcijjnopaaMb
namespace Go.Proofs.Ytjdhibcijjnopaa
open Go.RowKit Go.Sort
/-! ### IsConnected -/
noncomputable def icnV (n : Int) (es : List (Int × Int)) : Bool := B (IsG n es) && cnB' n es
set_option maxHeartbeats 400000 in
theorem spIsConnected_any (n : Int) (b o m c : Nat) (es : List (Int × Int)) (w : World) (h : Eds w b o m es) (hm : m ≤ 1048576) :
    Calls Try.prog 30 #[.agg #[.int .i64 n, .slice (some ⟨b, o, none⟩) m c]] w (Ret (.tuple #[.bool (icnV n es), .int .i64 (imC n es)]) w) := by
  have hbox := Box2.made w (.int .i64 n) (.slice (some ⟨b, o, none⟩) m c) 31
  have hbb := (by go_grown : Below w.heap.size w (w.alloc (.cells #[.int .i64 n, .slice (some ⟨b, o, none⟩) m c] 31)))
  have HSP := Lib.hid (l01Is_any n b o m c es _ (h.alloc (.cells #[.int .i64 n, .slice (some ⟨b, o, none⟩) m c] 31)) hm)
  by_cases hG : IsG n es
  · have HC : Hid (imC n es = 0) := by simp [Hid, imC, B_true hG]
    have HR : Hid (icnV n es = cnB' n es) := by simp [Hid, icnV, B_true hG]
    have HG := Lib.hid hG
    rw [B_true hG] at HSP
    clear hG
    go_enter Try.func30, Try.ntmps30
    go_wp2_with fail
    refine HSP.out.mono ?_
    rintro e w1 ⟨rfl, hb1⟩
    have hB1 := hbb.thenB (by simp) hb1
    obtain ⟨s1, p1, q1⟩ := hbox.below hb1
    clear hb1 hbb hbox
    go_wp2_with fail
    refine (l01Connected_any n b o m c es _ (h.below hB1) hm HG.out.wf).mono ?_
    rintro e w2 ⟨rfl, hb2⟩
    go_wp2_with fail
    go_ret2
    exact ⟨retBC HR.out.symm HC.out.symm, hB1.andB hb2⟩
  · have HC : Hid (imC n es = 1) := by simp [Hid, imC, B_false hG]
    have HR : Hid (icnV n es = false) := by simp [Hid, icnV, B_false hG]
    rw [B_false hG] at HSP
    clear hG hbox
    go_enter Try.func30, Try.ntmps30
    go_wp2_with fail
    refine HSP.out.mono ?_
    rintro e w1 ⟨rfl, hb1⟩
    have hB1 := hbb.thenB (by simp) hb1
    clear hb1 hbb
    go_wp2_with fail
    go_ret2
    exact ⟨retBC HR.out.symm HC.out.symm, hB1⟩
set_option maxHeartbeats 400000 in
theorem imIsConnected_any (n : Int) (b o m c : Nat) (es : List (Int × Int)) (w : World) (h : Eds w b o m es) (hm : m ≤ 1048576) :
    Calls Try.prog 31 #[.agg #[.int .i64 n, .slice (some ⟨b, o, none⟩) m c]] w (Ret (.tuple #[.bool (icnV n es), .int .i64 (imC n es)]) w) := by
  have hbox := Box2.made w (.int .i64 n) (.slice (some ⟨b, o, none⟩) m c) 31
  have hbb := (by go_grown : Below w.heap.size w (w.alloc (.cells #[.int .i64 n, .slice (some ⟨b, o, none⟩) m c] 31)))
  have HGC := Lib.hid (graphCode_any n b o m c es true _ (h.alloc (.cells #[.int .i64 n, .slice (some ⟨b, o, none⟩) m c] 31)) hm)
  by_cases hG : IsG n es
  · have HC : Hid (imC n es = 0) := by simp [Hid, imC, B_true hG]
    have HR : Hid (icnV n es = cnB' n es) := by simp [Hid, icnV, B_true hG]
    have HG := Lib.hid hG
    rw [show gcC n es true = 0 by simp [gcC, B_true hG]] at HGC
    clear hG
    go_enter Try.func31, Try.ntmps31
    go_wp2_with fail
    refine HGC.out.mono ?_
    rintro e w1 ⟨rfl, hb1⟩
    have hB1 := hbb.thenB (by simp) hb1
    obtain ⟨s1, p1, q1⟩ := hbox.below hb1
    clear hb1 hbb hbox
    go_wp2_with fail
    refine (isConnected_any n b o m c es _ (h.below hB1) hm HG.out.wf).mono ?_
    rintro e w2 ⟨rfl, hb2⟩
    go_wp2_with fail
    go_ret2
    exact ⟨retBC HR.out.symm HC.out.symm, hB1.andB hb2⟩
  · have HC : Hid (imC n es = 1) := by simp [Hid, imC, B_false hG]
    have HR : Hid (icnV n es = false) := by simp [Hid, icnV, B_false hG]
    rw [show gcC n es true = 1 by simp [gcC, B_false hG]] at HGC
    clear hG hbox
    go_enter Try.func31, Try.ntmps31
    go_wp2_with fail
    refine HGC.out.mono ?_
    rintro e w1 ⟨rfl, hb1⟩
    have hB1 := hbb.thenB (by simp) hb1
    clear hb1 hbb
    go_wp2_with fail
    go_ret2
    exact ⟨retBC HR.out.symm HC.out.symm, hB1⟩
end Go.Proofs.Ytjdhibcijjnopaa
