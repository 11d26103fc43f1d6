import Derived.Test.YtccinfmphkihoaaCv
import Derived.Test.YtccinfmphkihoaaMb
import Derived.Test.YtccinfmphkihoaaFs
namespace Go.Proofs.Ytccinfmphkihoaa
open Go.RowKit Go.Sort
/-! ### DiameterOf -/
def mxF (f : Int → Int) : Nat → Int → Int
  | 0, a => a
  | k + 1, a => max (mxF f k a) (f k)
theorem mxF_max (f : Int → Int) (k : Nat) (a b : Int) : mxF f k (max a b) = max a (mxF f k b) := by
  induction k with
  | zero => rfl
  | succ k ih => simp only [mxF, ih]; omega
theorem mxF_has (f : Int → Int) (k : Nat) (a : Int) (hk : 1 ≤ k) : f 0 ≤ mxF f k a := by
  induction k with
  | zero => omega
  | succ k ih =>
    simp only [mxF]
    rcases Nat.eq_zero_or_pos k with h | h
    · subst h; show f 0 ≤ max a (f ((0 : Nat) : Int)); rw [show ((0 : Nat) : Int) = 0 from rfl]; omega
    · have := ih h; omega
theorem mxF_first (f : Int → Int) (k : Nat) (a : Int) (hk : 1 ≤ k) : max a (mxF f k (f 0)) = mxF f k a := by
  have h1 := mxF_max f k a (f 0)
  have h2 := mxF_max f k (f 0) a
  have h3 := mxF_has f k a hk
  rw [← h1, Int.max_comm a (f 0), h2]; omega
theorem mxF_bd {f : Int → Int} {lo hi : Int} (hf : ∀ v, lo ≤ f v ∧ f v ≤ hi) (k : Nat) (a : Int) (h1 : lo ≤ a) (h2 : a ≤ hi) : lo ≤ mxF f k a ∧ mxF f k a ≤ hi := by
  induction k with
  | zero => exact ⟨h1, h2⟩
  | succ k ih => have := hf k; simp only [mxF]; omega
-- left out in this seat
noncomputable def ccC (n : Int) (es : List (Int × Int)) : Int := if B (IsG n es) then (if cnB' n es then 0 else 5) else 1
set_option maxHeartbeats 400000 in
theorem connectedCode_any (n : Int) (b o m c : Nat) (es : List (Int × Int)) (w : World) (h : Eds w b o m es) (hm : m ≤ 1048576) :
    Calls Try.prog 57 #[.agg #[.int .i64 n, .slice (some ⟨b, o, none⟩) m c]] w (Ret (.int .i64 (ccC n es)) w) := by
  have hbox := Box2.made w (.int .i64 n) (.slice (some ⟨b, o, none⟩) m c) 30
  have hbb := (by go_grown : Below w.heap.size w (w.alloc (.cells #[.int .i64 n, .slice (some ⟨b, o, none⟩) m c] 30)))
  have HGC := Lib.hid (graphCode_any n b o m c es true _ (h.alloc (.cells #[.int .i64 n, .slice (some ⟨b, o, none⟩) m c] 30)) hm)
  by_cases hG : IsG n es
  · have HG := Lib.hid hG
    rw [show gcC n es true = 0 by simp [gcC, B_true hG]] at HGC
    have HIC := Lib.hid (fun W hE => isConnected_any n b o m c es W hE hm hG.wf)
    cases hq : cnB' n es with
    | false =>
      have HC : Hid (ccC n es = 5) := by simp [Hid, ccC, B_true hG, hq]
      rw [hq] at HIC
      clear hG hq
      go_enter Try.func57, Try.ntmps57
      go_wp2_with fail
      refine HGC.out.mono ?_
      rintro e w1 ⟨rfl, hb1⟩
      have hB1 := hbb.thenB (by simp) hb1
      obtain ⟨s1, p1, q1⟩ := hbox.below hb1
      clear hb1 hbb hbox
      go_wp2_with fail
      refine (HIC.out _ (h.below hB1)).mono ?_
      rintro e w2 ⟨rfl, hb2⟩
      go_wp2_with fail
      go_ret
      exact ⟨ret_int HC.out.symm, hB1.andB hb2⟩
    | true =>
      have HC : Hid (ccC n es = 0) := by simp [Hid, ccC, B_true hG, hq]
      rw [hq] at HIC
      clear hG hq
      go_enter Try.func57, Try.ntmps57
      go_wp2_with fail
      refine HGC.out.mono ?_
      rintro e w1 ⟨rfl, hb1⟩
      have hB1 := hbb.thenB (by simp) hb1
      obtain ⟨s1, p1, q1⟩ := hbox.below hb1
      clear hb1 hbb hbox
      go_wp2_with fail
      refine (HIC.out _ (h.below hB1)).mono ?_
      rintro e w2 ⟨rfl, hb2⟩
      go_wp2_with fail
      go_ret
      exact ⟨ret_int HC.out.symm, hB1.andB hb2⟩
  · have HC : Hid (ccC n es = 1) := by simp [Hid, ccC, B_false hG]
    rw [show gcC n es true = 1 by simp [gcC, B_false hG]] at HGC
    clear hG hbox
    go_enter Try.func57, Try.ntmps57
    go_wp2_with fail
    refine HGC.out.mono ?_
    rintro e w1 ⟨rfl, hb1⟩
    have hB1 := hbb.thenB (by simp) hb1
    clear hb1 hbb
    go_wp2_with fail
    go_ret
    exact ⟨ret_int HC.out.symm, hB1⟩
def dmTo (n : Int) (es : List (Int × Int)) (N : Nat) : Nat → Int
  | 0 => 0
  | v + 1 => mxF (farF es noSk n v) N (dmTo n es N v)
theorem dmTo_bd {n : Int} {es : List (Int × Int)} (hn : WfP n es) (N : Nat) (v : Nat) (hv : (v : Int) ≤ n) : -1 ≤ dmTo n es N v ∧ dmTo n es N v ≤ 19 := by
  induction v with
  | zero => simp [dmTo]
  | succ v ih => have := ih (by omega); exact mxF_bd (fun u => farF_bd hn (by omega) (by omega) u) N _ this.1 this.2
noncomputable def dmV (n : Int) (es : List (Int × Int)) : Int := if ccC n es = 0 then dmTo n es n.toNat n.toNat else 0
theorem dm_cases (n : Int) (es : List (Int × Int)) : (¬ IsG n es ∧ ccC n es = 1 ∧ dmV n es = 0) ∨ (IsG n es ∧ cnB' n es = false ∧ ccC n es = 5 ∧ dmV n es = 0) ∨ (IsG n es ∧ cnB' n es = true ∧ ccC n es = 0 ∧ dmV n es = dmTo n es n.toNat n.toNat) := by
  by_cases hG : IsG n es
  · cases hq : cnB' n es with
    | false => right; left; exact ⟨hG, rfl, by simp [ccC, B_true hG, hq], by simp [dmV, ccC, B_true hG, hq]⟩
    | true => right; right; exact ⟨hG, rfl, by simp [ccC, B_true hG, hq], by simp [dmV, ccC, B_true hG, hq]⟩
  · left; exact ⟨hG, by simp [ccC, B_false hG], by simp [dmV, ccC, B_false hG]⟩
-- left out in this seat
-- left out in this seat
end Go.Proofs.Ytccinfmphkihoaa
