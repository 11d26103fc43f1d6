import Derived.Test.YtppfplhbfgjjhaaM21
import Derived.Test.YtppfplhbfgjjhaaM22
import Derived.Test.YtppfplhbfgjjhaaM8
import Derived.Test.YtppfplhbfgjjhaaM13
namespace Go.Proofs.Ytppfplhbfgjjhaa
open Go.RowKit Go.Sort
/-! ### The code of a graph and colourings -/
noncomputable def lkC (n : Int) (es : List (Int × Int)) (N : Nat) (cs : Nat → Nat → Int) (ll : Nat → Nat) : Int := if B (IsG n es) then (if B (∀ j, j < N → colB es (cs j) (ll j) = true) then 0 else 2) else 1
set_option maxRecDepth 100000 in
set_option maxHeartbeats 3200000 in
theorem l02Code_any (n : Int) (b o m c : Nat) (es : List (Int × Int)) (w : World) (h : Eds w b o m es) (hm : m ≤ 1048576) (B2 N c2 : Nat) (bs os ll cc : Nat → Nat) (cs : Nat → Nat → Int) (hB2 : B2 < w.heap.size) (hN : N ≤ 1048576)
    (hr : ∀ j, j < N → w.cell? ⟨B2, j, none⟩ = some (.slice (some ⟨bs j, os j, none⟩) (ll j) (cc j))) (hI : ∀ j, j < N → Ints w (bs j) (os j) (ll j) (cs j) ∧ ll j ≤ 1048576) :
    Calls Try.prog 77 #[.agg #[.int .i64 n, .slice (some ⟨b, o, none⟩) m c], .slice (some ⟨B2, 0, none⟩) N c2] w (Ret (.int .i64 (lkC n es N cs ll)) w) := by
  have KC := cell_rg
  have HR := Lib.hid hr
  have HI := Lib.hid hI
  clear hr hI
  have hbx := Box2.made w (.int .i64 n) (.slice (some ⟨b, o, none⟩) m c) 30
  have hbb := (by go_grown : Below w.heap.size w (w.alloc (.cells #[.int .i64 n, .slice (some ⟨b, o, none⟩) m c] 30)))
  have HSP := Lib.hid (l01Is_any n b o m c es _ (h.alloc (.cells #[.int .i64 n, .slice (some ⟨b, o, none⟩) m c] 30)) hm)
  by_cases hG : IsG n es
  rotate_left
  · rw [B_false hG] at HSP
    have HC : Hid (lkC n es N cs ll = 1) := by simp [Hid, lkC, B_false hG]
    rw [HC.out]
    clear hG
    go_enter Try.func77, Try.ntmps77
    go_wp2_with fail
    refine HSP.out.mono ?_
    rintro e w1 ⟨rfl, hb1⟩
    go_wp2_with fail
    go_ret
    exact ⟨rfl, hbb.thenB (by simp) hb1⟩
  rw [B_true hG] at HSP
  have HG := Lib.hid hG
  clear hG
  go_enter Try.func77, Try.ntmps77
  go_wp2_with fail
  refine HSP.out.mono ?_
  rintro e w1 ⟨rfl, hb1⟩
  have hB1 := hbb.thenB (by simp) hb1
  obtain ⟨s1, p1, q1⟩ := hbx.below hb1
  clear hb1 hbx hbb
  go_wp2_with fail
  go_loopw [5] (fun i wr => ∃ j : Nat, j ≤ N ∧ i = .int .i64 j ∧ Hid (∀ j', j' < j → colB es (cs j') (ll j') = true) ∧ Below w1.heap.size w1 wr) (fun i _ => N - (intOf i).toNat)
  case atStart => exact ⟨0, Nat.zero_le _, rfl, (fun _ hh => absurd hh (by omega)), Below.refl _ _⟩
  case round =>
    obtain ⟨j, hj, rfl, HP, hbr⟩ := hrel
    have hB := hB1.andB hbr
    obtain ⟨s2, p2, q2⟩ := Box2.below ⟨s1, p1, q1⟩ hbr
    by_cases hlt : j < N
    · have c1 := (hB.cell (p := ⟨B2, j, none⟩) hB2).trans (HR.out j hlt)
      have s3 : B2 < wr.heap.size := Nat.lt_of_lt_of_le hB2 hB.size
      cases hx : colB es (cs j) (ll j) with
      | false =>
        have HC : Hid (lkC n es N cs ll = 2) := by
          have : ¬ ∀ j, j < N → colB es (cs j) (ll j) = true := fun x => by have := x j hlt; rw [hx] at this; cases this
          simp only [Hid, lkC, B_true HG.out, B_false this]; rfl
        have hIS : ∀ d oz, Calls Try.prog 135 #[.agg #[.int .i64 n, .slice (some ⟨b, o, none⟩) m c], .slice (some ⟨bs j, os j, none⟩) (ll j) (cc j)] (grow (redrawn wr d) oz) fun e w'' => e = .returned (.bool false) ∧ ∃ p : Regrown, w'' = grow (redrawn wr p.d) p.os := fun d oz =>
          Ret.rg (hx ▸ l02Is_any n b o m c (bs j) (os j) (ll j) (cc j) es (cs j) _ ((h.below hB).below (below_regrown _ _ _)) hm HG.out (((HI.out j hlt).1.below hB).below (below_regrown _ _ _)) (HI.out j hlt).2)
        have HIS := Lib.hid hIS
        clear p1 q1 s1 hIS hx
        go_wp2_with fail
        (refine wp_region_quiet_below (by kernel_rfl) (by kernel_rfl) ?_
         repeat (any_goals (go_big_quiet_step (first | (go_at_call 135; exact HIS.out _ _))))
         all_goals (refine wpQuiet_nil ?_; intro wq1 hq1; replace hq1 := below_of_rg hq1))
        go_wp2_with fail
        go_ret
        exact ⟨ret_int HC.out.symm, hB.andB hq1⟩
      | true =>
        have HX := Lib.hid hx
        have hIS : ∀ d oz, Calls Try.prog 135 #[.agg #[.int .i64 n, .slice (some ⟨b, o, none⟩) m c], .slice (some ⟨bs j, os j, none⟩) (ll j) (cc j)] (grow (redrawn wr d) oz) fun e w'' => e = .returned (.bool true) ∧ ∃ p : Regrown, w'' = grow (redrawn wr p.d) p.os := fun d oz =>
          Ret.rg (hx ▸ l02Is_any n b o m c (bs j) (os j) (ll j) (cc j) es (cs j) _ ((h.below hB).below (below_regrown _ _ _)) hm HG.out (((HI.out j hlt).1.below hB).below (below_regrown _ _ _)) (HI.out j hlt).2)
        have HIS := Lib.hid hIS
        clear p1 q1 s1 hIS hx
        go_wp2_with fail
        (refine wp_region_quiet_below (by kernel_rfl) (by kernel_rfl) ?_
         repeat (any_goals (go_big_quiet_step (first | (go_at_call 135; exact HIS.out _ _))))
         all_goals (refine wpQuiet_nil ?_; intro wq1 hq1; replace hq1 := below_of_rg hq1))
        go_wp2_with fail
        go_roundw
        case rel =>
          refine ⟨j + 1, by omega, by go_num, ?_, hbr.andB hq1⟩
          intro j' hj'
          by_cases e : j' = j
          · subst e; exact HX.out
          · exact HP.out j' (by omega)
        case measure => simp [intOf]; omega
    · obtain rfl : j = N := by omega
      have HC : Hid (lkC n es j cs ll = 0) := by
        simp only [Hid, lkC, B_true HG.out, B_true HP.out]; rfl
      clear p1 q1 s1
      go_wp2_with fail
      go_ret
      exact ⟨ret_int HC.out.symm, hB⟩
theorem lkC_1 (n : Int) (es : List (Int × Int)) (cs : Nat → Int) (l : Nat) : lkC n es 1 (fun _ => cs) (fun _ => l) = gcC n es (colB es cs l) := by
  have e : B (∀ j, j < 1 → colB es ((fun _ : Nat => cs) j) ((fun _ : Nat => l) j) = true) = colB es cs l := by
    cases hx : colB es cs l with
    | false => exact B_false fun x => by have := x 0 (by omega); simp only [hx] at this; cases this
    | true => exact B_true fun _ _ => hx
  unfold lkC gcC
  rw [e]
theorem lkC_2 (n : Int) (es : List (Int × Int)) (a b : Nat → Int) (la lb : Nat) : lkC n es 2 (fun j => if j = 0 then a else b) (fun j => if j = 0 then la else lb) = gcC n es (colB es a la && colB es b lb) := by
  have e : B (∀ j, j < 2 → colB es ((fun j => if j = 0 then a else b) j) ((fun j => if j = 0 then la else lb) j) = true) = (colB es a la && colB es b lb) := by
    by_cases h : ∀ j, j < 2 → colB es ((fun j => if j = 0 then a else b) j) ((fun j => if j = 0 then la else lb) j) = true
    · have h0 := h 0 (by omega)
      have h1 := h 1 (by omega)
      have h0' : colB es a la = true := h0
      have h1' : colB es b lb = true := h1
      rw [B_true h, h0', h1']; rfl
    · rw [B_false h]
      cases ha : colB es a la <;> cases hb : colB es b lb <;> try rfl
      refine absurd (fun j hj => ?_) h
      rcases (show j = 0 ∨ j = 1 by omega) with rfl | rfl
      · exact ha
      · exact hb
  unfold lkC gcC
  rw [e]
end Go.Proofs.Ytppfplhbfgjjhaa
namespace Go.Proofs.Ytppfplhbfgjjhaa
open Go.RowKit Go.Sort
/-! ### Numbers of a cut -/
theorem isColouring_all (n : Int) (b o m c b2 o2 l c2 : Nat) (es : List (Int × Int)) (cs : Nat → Int) (w : World) (h : Eds w b o m es) (hm : m ≤ 1048576) (h2 : Ints w b2 o2 l cs) (hl2 : l ≤ 1048576) :
    Calls Try.prog 79 #[.agg #[.int .i64 n, .slice (some ⟨b, o, none⟩) m c], .slice (some ⟨b2, o2, none⟩) l c2] w (Ret (.bool (B (IsG n es) && colB es cs l)) w) := by
  by_cases hG : IsG n es
  · rw [B_true hG, Bool.true_and]
    exact isColouring_any n b o m c b2 o2 l c2 es cs w h hm hG h2 hl2
  · have KC := cell_rg
    have hbb := (by go_grown : Below w.heap.size w (w.alloc (.cells #[.int .i64 n, .slice (some ⟨b, o, none⟩) m c] 30)))
    have hbx := Box2.made w (.int .i64 n) (.slice (some ⟨b, o, none⟩) m c) 30
    have HIM := Lib.hid (implIs_any n b o m c es _ (h.alloc (.cells #[.int .i64 n, .slice (some ⟨b, o, none⟩) m c] 30)) hm)
    rw [B_false hG] at HIM ⊢
    clear hG
    go_enter Try.func79, Try.ntmps79
    go_wp2_with fail
    refine HIM.out.mono ?_
    rintro e w1 ⟨rfl, hb1⟩
    go_wp2_with fail
    go_ret
    exact ⟨rfl, hbb.thenB (by simp) hb1⟩
def ctv (cs : Nat → Int) (xs : List Int) (v : Nat) : Int := ((xs.countP (fun x => decide (cs x.toNat = (v : Int))) : Nat) : Int)
theorem ctv_nil (cs : Nat → Int) (v : Nat) : ctv cs [] v = 0 := rfl
theorem ctv_app (cs : Nat → Int) (xs : List Int) (x : Int) (v : Nat) : ctv cs (xs ++ [x]) v = if cs x.toNat = (v : Int) then ctv cs xs v + 1 else ctv cs xs v := by
  simp only [ctv, List.countP_append, List.countP_cons, List.countP_nil, decide_eq_true_eq]
  split <;> simp
theorem ctv_le (cs : Nat → Int) (xs : List Int) (v : Nat) : ∃ q : Nat, ctv cs xs v = q ∧ q ≤ xs.length := ⟨_, rfl, List.countP_le_length⟩
noncomputable def cuB (n : Int) (es : List (Int × Int)) (cs : Nat → Int) (l : Nat) (ls : Nat → Int) (l3 : Nat) : Bool := colB es cs l && setB ls l3 (n - 1)
noncomputable def cuC (n : Int) (es : List (Int × Int)) (cs : Nat → Int) (l : Nat) (ls : Nat → Int) (l3 : Nat) : Int := gcC n es (cuB n es cs l ls l3)
noncomputable def cuL (n : Int) (es : List (Int × Int)) (cs : Nat → Int) (l : Nat) (ls : Nat → Int) (l3 : Nat) : List Int := if cuC n es cs l ls l3 = 0 then (List.range 3).map (ctv cs (lvL es ls l3)) else []
theorem cuL_len (n : Int) (es : List (Int × Int)) (cs : Nat → Int) (l : Nat) (ls : Nat → Int) (l3 : Nat) : (cuL n es cs l ls l3).length ≤ 3 := by
  unfold cuL; split <;> simp
theorem cu_cases (n : Int) (es : List (Int × Int)) (cs : Nat → Int) (l : Nat) (ls : Nat → Int) (l3 : Nat) :
    (gcC n es (colB es cs l) = 1 ∧ cuC n es cs l ls l3 = 1 ∧ cuL n es cs l ls l3 = []) ∨
    (gcC n es (colB es cs l) = 2 ∧ cuC n es cs l ls l3 = 2 ∧ cuL n es cs l ls l3 = []) ∨
    (gcC n es (colB es cs l) = 0 ∧ IsG n es ∧ colB es cs l = true ∧ (¬ SetP ls l3 (n - 1) → cuC n es cs l ls l3 = 2 ∧ cuL n es cs l ls l3 = []) ∧ (SetP ls l3 (n - 1) → cuC n es cs l ls l3 = 0 ∧ cuL n es cs l ls l3 = (List.range 3).map (ctv cs (lvL es ls l3)))) := by
  by_cases h1 : IsG n es
  · have hb := B_true h1
    cases h2 : colB es cs l with
    | false => right; left; simp [gcC, hb, cuC, cuB, cuL, h2]
    | true =>
      right; right
      refine ⟨by simp [gcC, hb], h1, rfl, fun h3 => ?_, fun h3 => ?_⟩
      · have : setB ls l3 (n - 1) = false := B_false h3
        simp [gcC, hb, cuC, cuB, cuL, h2, this]
      · have : setB ls l3 (n - 1) = true := B_true h3
        simp [gcC, hb, cuC, cuB, cuL, h2, this]
  · have hb := B_false h1
    left; simp [gcC, hb, cuC, cuL]
theorem lvTo_mem {es : List (Int × Int)} {f : Int → Bool} {x : Int} : ∀ {k : Nat}, x ∈ lvTo es f k → ∃ e : Nat, e < k ∧ x = e := by
  intro k
  induction k with
  | zero => intro h; simp [lvTo] at h
  | succ k ih =>
    intro h
    simp only [lvTo, List.mem_append] at h
    rcases h with h | h
    · obtain ⟨e, he, r⟩ := ih h; exact ⟨e, by omega, r⟩
    · split at h
      · simp at h
      · simp at h; exact ⟨k, by omega, h⟩
theorem take_ia {L : List Int} {j : Nat} (hj : j < L.length) : L.take (j + 1) = L.take j ++ [ia L j] := by
  rw [List.take_add_one]; simp [ia, hj]
theorem cell_one (w : World) (v : Value) (t : TypeId) (j : Nat) (hj : j < 1) : (w.alloc (.cells #[v] t)).cell? ⟨w.heap.size, j, none⟩ = some v := by
  obtain rfl : j = 0 := by omega
  rw [cell_of_row _ w.heap.size 0 _ _ _ (heap_alloc_new w _)]; rfl
-- left out in this seat
end Go.Proofs.Ytppfplhbfgjjhaa
