import Derived.Test.YtjdhibcijjnopaaSt
namespace Go.Proofs.Ytjdhibcijjnopaa
open Go.RowKit Go.Sort
/-! ### Edges that leave a set -/
def lvTo (es : List (Int × Int)) (f : Int → Bool) : Nat → List Int
  | 0 => []
  | k + 1 => lvTo es f k ++ (if f (ea es k) = f (eb es k) then [] else [(k : Int)])
theorem lvTo_len (es : List (Int × Int)) (f : Int → Bool) (k : Nat) : (lvTo es f k).length ≤ k := by
  induction k with
  | zero => simp [lvTo]
  | succ k ih => simp only [lvTo, List.length_append]; split <;> simp <;> omega
theorem lvTo_yes {es : List (Int × Int)} {f : Int → Bool} {k : Nat} (h : ¬ f (ea es k) = f (eb es k)) : lvTo es f (k + 1) = lvTo es f k ++ [(k : Int)] := by simp [lvTo, h]
theorem lvTo_no {es : List (Int × Int)} {f : Int → Bool} {k : Nat} (h : f (ea es k) = f (eb es k)) : lvTo es f (k + 1) = lvTo es f k := by simp [lvTo, h]
def lvL (es : List (Int × Int)) (ls : Nat → Int) (l : Nat) : List Int := lvTo es (hasB (setN ls l)) es.length
theorem hasB_succ (ls : Nat → Int) (k v : Nat) : hasB (setN ls (k + 1)) (v : Int) = if v = (ls k).toNat then true else hasB (setN ls k) (v : Int) := by
  simp only [hasB, setN, Nat.testBit_or, Nat.testBit_two_pow, Int.toNat_natCast]
  by_cases h : v = (ls k).toNat
  · simp [h]
  · rw [if_neg h, decide_eq_false (fun e => h e.symm), Bool.or_false]
set_option maxRecDepth 100000 in
set_option maxHeartbeats 800000 in
theorem leaving_any (n : Int) (b o m c s : Nat) (es : List (Int × Int)) (w : World) (h : Eds w b o m es) (hm : m ≤ 1048576) (hn : WfP n es) (hs : s < 18446744073709551616) :
    Calls Try.prog 72 #[.agg #[.int .i64 n, .slice (some ⟨b, o, none⟩) m c], .int .u64 s] w (RetL (lvTo es (hasB s) es.length) w) := by
  have KC := cell_rg
  have hl := Lib.hid h.len
  have HW := Lib.hid hn
  have hn20 := hn.2.1
  clear hn
  go_enter Try.func72, Try.ntmps72
  go_wp2_with fail
  go_loopw [5, 11] (fun v1 i wr => ∃ j : Nat, j ≤ m ∧ i = .int .i64 j ∧ (∃ A c', v1 = .slice A (lvTo es (hasB s) j).length c' ∧ OwnL w.heap.size wr A (lvTo es (hasB s) j).length c' (lvTo es (hasB s) j)) ∧ Below w.heap.size w wr) (fun _ i _ => m - (intOf i).toNat)
  case atStart => exact ⟨0, Nat.zero_le _, rfl, ⟨_, _, rfl, OwnL.nil _ _⟩, (Below.refl _ _).alloc (Nat.le_refl _) _⟩
  case round =>
    obtain ⟨j, hj, rfl, ⟨A, c', rfl, hown⟩, hbr⟩ := hrel
    have hE := h.below hbr
    have hsz := hbr.size
    have hle := lvTo_len es (hasB s) j
    by_cases hlt : j < m
    · have c1 := hE.ca j hlt
      have c2 := hE.cb j hlt
      have hx := Lib.hid (HW.out.2.2.2.2 j (by rw [hl.out]; exact hlt))
      clear hE
      go_wp2_with fail
      have X := Box2.made wr (.int .i64 (ea es j)) (.int .i64 (eb es j)) 63
      have hb3 : Below wr.heap.size wr (wr.alloc (.cells #[.int .i64 (ea es j), .int .i64 (eb es j)] 63)) := (Below.refl _ _).alloc (Nat.le_refl _) _
      obtain ⟨w5, hw5⟩ : ∃ w5, w5 = wr.alloc (.cells #[.int .i64 (ea es j), .int .i64 (eb es j)] 63) := ⟨_, rfl⟩
      rw [← hw5] at X hb3 ⊢
      clear hw5 c1 c2
      obtain ⟨s1, p1, q1'⟩ := X
      by_cases hf : hasB s (ea es j) = hasB s (eb es j)
      · have e := lvTo_no hf
        (refine wp_region_quiet_below (by kernel_rfl) (by kernel_rfl) ?_
         repeat (any_goals (go_big_quiet_step (first | (go_at_call 76; exact Is.rg (has_any s _ _ hs (by have := hx.out; omega) (by have := hx.out; omega))))))
         all_goals (refine wpQuiet_nil ?_; intro wq1 hq1; replace hq1 := below_of_rg hq1))
        have hb4 := hb3.andB hq1
        go_wp2_with fail
        go_roundw
        case rel => exact ⟨j + 1, by omega, by go_num, ⟨A, c', by rw [e], by rw [e]; exact hown.below hb4⟩, hbr.andB hb4⟩
        case measure => simp [intOf]; omega
      · have e := lvTo_yes hf
        have e2 : (lvTo es (hasB s) (j + 1)).length = (lvTo es (hasB s) j).length + 1 := by rw [e]; simp
        have hf' : (!hasB s (ea es j) == hasB s (eb es j)) = true := by revert hf; cases hasB s (ea es j) <;> cases hasB s (eb es j) <;> simp
        (refine wp_region_quiet_below (by kernel_rfl) (by kernel_rfl) ?_
         repeat (any_goals (go_big_quiet_step (first | (go_at_call 76; exact Is.rg (has_any s _ _ hs (by have := hx.out; omega) (by have := hx.out; omega))))))
         all_goals (refine wpQuiet_nil ?_; intro wq1 hq1; replace hq1 := below_of_rg hq1))
        have hb4 := hb3.andB hq1
        go_wp2_with (first
          | (at_builtin; refine wp_app1 rfl rfl rfl rfl (hown.below hb4) (by have := hb4.size; omega) (by omega) ?_; intro A' c'' w4 hown' hbel' hgr'))
        go_roundw
        case rel => exact ⟨j + 1, by omega, by go_num, ⟨A', c'', by rw [e2], by rw [e2, e]; exact hown'⟩, hbel' _ _ (hbr.andB hb4) (Nat.le_refl _)⟩
        case measure => simp [intOf]; omega
    · obtain rfl : j = m := by omega
      have e : lvTo es (hasB s) es.length = lvTo es (hasB s) j := by rw [hl.out]
      go_wp2_with fail
      go_ret
      exact ⟨A, c', by rw [e]; rfl, by rw [e]; exact hown, hbr⟩
theorem infB : (Try.prog.info? 4).map (fun i => (i.zero, i.size, i.bytes)) = some (some (.bool false), 1, 1) := by kernel_rfl
-- left out in this seat
end Go.Proofs.Ytjdhibcijjnopaa
