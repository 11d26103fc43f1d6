import Derived.Test.YtppfplhbfgjjhaaM13
import Derived.Test.YtppfplhbfgjjhaaM14
import Derived.Test.YtppfplhbfgjjhaaM15
import Derived.Test.YtppfplhbfgjjhaaM7
namespace Go.Proofs.Ytppfplhbfgjjhaa
open Go.RowKit Go.Sort
/-! ### Connected graphs, cuts -/
noncomputable def cutB (n : Int) (es : List (Int × Int)) (sk : Nat → Bool) : Bool := decide (ldCnt es noSk n.toNat < ldCnt es sk n.toNat)
noncomputable def cnB' (n : Int) (es : List (Int × Int)) : Bool := decide (ldCnt es noSk n.toNat = 1)
-- left out in this seat
-- left out in this seat
set_option maxRecDepth 100000 in
set_option maxHeartbeats 800000 in
theorem isCut_any (n : Int) (b o m c s : Nat) (es : List (Int × Int)) (w : World) (h : Eds w b o m es) (hm : m ≤ 1048576) (hn : WfP n es) (hs : s < 18446744073709551616) :
    Calls Try.prog 133 #[.agg #[.int .i64 n, .slice (some ⟨b, o, none⟩) m c], .int .u64 s] w (Ret (.bool (cutB n es (skS s))) w) := by
  have hn2 := hn.1
  have hn20 := hn.2.1
  obtain ⟨N, rfl⟩ : ∃ N : Nat, n = N := ⟨n.toNat, by omega⟩
  have HS0 := Lib.hid (fun W hE => skS_none ▸ sides_any N b o m c 0 es W hE hm hn (by omega))
  have HS1 := Lib.hid (fun W hE => sides_any N b o m c s es W hE hm hn hs)
  rw [Int.toNat_natCast] at HS0 HS1
  have hlc := ldCnt_le es noSk N
  have hlc2 := ldCnt_le es (skS s) N
  clear hn
  go_enter Try.func133, Try.ntmps133
  go_wp2_with fail
  have hbb := (by go_grown : Below w.heap.size w (w.alloc (.cells #[.int .i64 N, .slice (some ⟨b, o, none⟩) m c] 30)))
  have hbx := Box2.made w (.int .i64 N) (.slice (some ⟨b, o, none⟩) m c) 30
  obtain ⟨w1, hw1⟩ : ∃ w1, w1 = w.alloc (Obj.cells #[Value.int IntKind.i64 N, Value.slice (some ⟨b, o, none⟩) m c] 30) := ⟨_, rfl⟩
  rw [← hw1] at hbb hbx ⊢
  clear hw1
  obtain ⟨z1, p1, q1⟩ := hbx
  have E := h.below hbb
  refine wp_region_facts (fun i v W => match i with
    | 0 => v = .agg #[.int .i64 N, .slice (some ⟨b, o, none⟩) m c]
    | 1 => v = .int .u64 s
    | 2 => NewLL w1.heap.size (sdTo es (skS s) N N) v W
    | 3 => v = .int .i64 (ldCnt es (skS s) N)
    | 4 => v = .agg #[.int .i64 N, .slice (some ⟨b, o, none⟩) m c]
    | 5 => NewLL w1.heap.size (sdTo es noSk N N) v W
    | 6 => v = .int .i64 (ldCnt es noSk N)
    | 7 => v = .bool (decide (ldCnt es noSk N < ldCnt es (skS s) N))
    | _ => v = .bool (decide (ldCnt es noSk N < ldCnt es (skS s) N))) (by kernel_rfl) (by kernel_rfl) ?_ ?_ ?_
  · intro i v W W' hf hb
    match i, hf with
    | 0, hf => exact hf
    | 1, hf => exact hf
    | 2, hf => exact NewLL.below hf hb
    | 3, hf => exact hf
    | 4, hf => exact hf
    | 5, hf => exact NewLL.below hf hb
    | 6, hf => exact hf
    | 7, hf => exact hf
    | (i + 8), hf => exact hf
  · refine ⟨?_, ?_, ?_, ?_, ?_, ?_, ?_, ?_, ?_, trivial⟩
    · intro a W hW hs hd
      have e2 : a.tmps[2]?.getD undef = .pointer (some ⟨w.heap.size, 0, none⟩) := hs 2 (by kernel_rfl)
      have k0 := (hW.cell (p := ⟨w.heap.size, 0, none⟩) (z1)).trans (p1)
      have k1 := (hW.cell (p := ⟨w.heap.size, 1, none⟩) (z1)).trans (q1)
      clear hs hd
      unfold Grows
      go_simp
      exact Below.refl _ _
    · intro a W hW hs hd
      have e1 : a.tmps[1]?.getD undef = .int .u64 s := hs 1 (by kernel_rfl)
      clear hs hd
      unfold Grows
      go_simp
      exact Below.refl _ _
    · intro a W hW hs hd
      have e5 : (a.tmps[5]?.getD undef) = .agg #[.int .i64 N, .slice (some ⟨b, o, none⟩) m c] := hd 0 5 (by kernel_rfl) (by kernel_rfl)
      have e6 : (a.tmps[6]?.getD undef) = .int .u64 s := hd 1 6 (by kernel_rfl) (by kernel_rfl)
      clear hs hd
      unfold Grows
      go_simp
      refine ⟨Below.refl _ _, (HS1.out W (E.below hW)).mono ?_⟩
      rintro e w6 ⟨A6, c6, rfl, ho6, hb6⟩
      exact ⟨_, rfl, hb6, A6, c6, rfl, _, ho6.mono (hW.size)⟩
    · intro a W hW hs hd
      have e7 : NewLL w1.heap.size (sdTo es (skS s) N N) (a.tmps[7]?.getD undef) W := hd 2 7 (by kernel_rfl) (by kernel_rfl)
      obtain ⟨A7, c7, e7, T7, O7⟩ := e7
      rw [sdTo_len] at e7
      clear hs hd
      unfold Grows
      go_simp
      exact Below.refl _ _
    · intro a W hW hs hd
      have e2 : a.tmps[2]?.getD undef = .pointer (some ⟨w.heap.size, 0, none⟩) := hs 2 (by kernel_rfl)
      have k0 := (hW.cell (p := ⟨w.heap.size, 0, none⟩) (z1)).trans (p1)
      have k1 := (hW.cell (p := ⟨w.heap.size, 1, none⟩) (z1)).trans (q1)
      clear hs hd
      unfold Grows
      go_simp
      exact Below.refl _ _
    · intro a W hW hs hd
      have e9 : (a.tmps[9]?.getD undef) = .agg #[.int .i64 N, .slice (some ⟨b, o, none⟩) m c] := hd 4 9 (by kernel_rfl) (by kernel_rfl)
      clear hs hd
      unfold Grows
      go_simp
      refine ⟨Below.refl _ _, (HS0.out W (E.below hW)).mono ?_⟩
      rintro e w6 ⟨A6, c6, rfl, ho6, hb6⟩
      exact ⟨_, rfl, hb6, A6, c6, rfl, _, ho6.mono (hW.size)⟩
    · intro a W hW hs hd
      have e10 : NewLL w1.heap.size (sdTo es noSk N N) (a.tmps[10]?.getD undef) W := hd 5 10 (by kernel_rfl) (by kernel_rfl)
      obtain ⟨A10, c10, e10, T10, O10⟩ := e10
      rw [sdTo_len] at e10
      clear hs hd
      unfold Grows
      go_simp
      exact Below.refl _ _
    · intro a W hW hs hd
      have e8 : (a.tmps[8]?.getD undef) = .int .i64 (ldCnt es (skS s) N) := hd 3 8 (by kernel_rfl) (by kernel_rfl)
      have e11 : (a.tmps[11]?.getD undef) = .int .i64 (ldCnt es noSk N) := hd 6 11 (by kernel_rfl) (by kernel_rfl)
      clear hs hd
      unfold Grows
      go_simp
      exact Below.refl _ _
    · intro a W hW hs hd
      have e12 : (a.tmps[12]?.getD undef) = .bool (decide (ldCnt es noSk N < ldCnt es (skS s) N)) := hd 7 12 (by kernel_rfl) (by kernel_rfl)
      clear hs hd
      unfold Grows
      go_simp
      exact Below.refl _ _
  intro vs W hW hf
  have f4 : vs 4 = .bool (decide (ldCnt es noSk N < ldCnt es (skS s) N)) := hf 8 4 (by kernel_rfl)
  simp only [dsts, List.filterMap_cons, List.filterMap_nil, List.foldl_cons, List.foldl_nil, Act.put, List.setIfInBounds_toArray, List.set_cons_succ, List.set_cons_zero, f4]
  clear hf
  go_wp2_with fail
  go_ret
  exact ⟨ret_bool (by simp [cutB]), hbb.andB hW⟩
end Go.Proofs.Ytppfplhbfgjjhaa
namespace Go.Proofs.Ytppfplhbfgjjhaa
open Go.RowKit Go.Sort
/-! ### Laws whose result is a list of lists -/
theorem ra_set {rows : List (List Int)} {j : Nat} {ys : List Int} (hj : j < rows.length) (i : Nat) : ra (rows.set j ys) i = if i = j then ys else ra rows i := by
  by_cases h : i = j
  · subst h; simp [ra, hj]
  · rw [if_neg h]; simp [ra, List.getElem?_set_ne (fun e => h e.symm)]
theorem Box2.upto {w w' : World} {b B : Nat} {v0 v1 : Value} (h : Box2 w b v0 v1) (hB : b < B) (hb : Below B w w') : Box2 w' b v0 v1 :=
  ⟨Nat.lt_of_lt_of_le h.lt hb.size, (hb.cell (p := ⟨b, 0, none⟩) hB).trans h.c0, (hb.cell (p := ⟨b, 1, none⟩) hB).trans h.c1⟩
theorem OwnLL.keptLow {base top : Nat} {w w' : World} {A : Option Addr} {m c : Nat} {rows : List (List Int)} {row : Option Nat} (h : OwnLL base top w A m c rows) (hg : w.grownBy w' row) (hr : ∀ k, row = some k → k < base) : OwnLL base top w' A m c rows := by
  have hb := h.blk
  obtain ⟨hl, ht, hA, As, cs, ho, hro, hp⟩ := h
  refine ⟨hl, Nat.le_trans ht hg.size, hA, As, cs, ?_, fun j hj => ⟨(hro j hj).1.kept hg ?_, (hro j hj).2⟩, hp⟩
  · have hne : (Value.slice A m c).ownBlock = none ∨ (Value.slice A m c).ownBlock ≠ row := by
      cases A with
      | none => exact .inl rfl
      | some a => exact .inr (fun e => by have := hr a.block e.symm; have := (hb a.block rfl).1; omega)
    exact ho.kept hg hne
  · cases e : blkOf (As j) with
    | none => exact .inl rfl
    | some g => exact .inr (fun e2 => by have := hr g e2.symm; have := ((hro j hj).1.blk g e).1; omega)
theorem OwnLL.upto {base top B : Nat} {w w' : World} {A : Option Addr} {m c : Nat} {rows : List (List Int)} (h : OwnLL base top w A m c rows) (hB : top ≤ B) (hb : Below B w w') : OwnLL base top w' A m c rows := by
  obtain ⟨hl, ht, hA, As, cs, ho, hro, hp⟩ := h
  have cell : ∀ g, g < top → w'.heap[g]? = w.heap[g]? := fun g hg => hb.block g (by omega)
  refine ⟨hl, Nat.le_trans ht hb.size, hA, As, cs, ?_, fun j hj => ⟨?_, (hro j hj).2⟩, hp⟩
  · refine ⟨ho.1, ho.2.imp id fun ⟨g, cap, cur, e, hbg, hh, r⟩ => ⟨g, cap, cur, e, hbg, ?_, r⟩⟩
    rw [cell g (hA g (by injection e with e1; rw [e1]; rfl))]; exact hh
  · obtain ⟨h1, h2, h3⟩ := (hro j hj).1
    refine ⟨h1, h2, h3.imp id fun ⟨g, cap, cur, e, hbg, hh, r⟩ => ⟨g, cap, cur, e, hbg, ?_, r⟩⟩
    rw [cell g ((hro j hj).2.1 g (by injection e with e1; rw [e1]; rfl))]; exact hh
/-- A row of it, and what a change of its numbers comes to. -/
theorem OwnLL.at2 {base top : Nat} {w : World} {A : Option Addr} {m c : Nat} {rows : List (List Int)} (h : OwnLL base top w A m c rows) {j : Nat} (hj : j < m) :
    ∃ g Aj cj, A = some ⟨g, 0, none⟩ ∧ base ≤ g ∧ g < w.heap.size ∧ w.cell? ⟨g, j, none⟩ = some (.slice Aj (ra rows j).length cj) ∧ OwnL base w Aj (ra rows j).length cj (ra rows j) ∧
      ∀ ys w', ys.length = (ra rows j).length → OwnL base w' Aj (ra rows j).length cj ys → w.grownBy w' (blkOf Aj) → OwnLL base top w' A m c (rows.set j ys) := by
  obtain ⟨hl, ht, hA, As, cs, ho, hr, hp⟩ := h
  rcases ho.2 with ⟨_, h0⟩ | ⟨g, cap, cur, e, hb, hg, hrest⟩
  · omega
  · injection e with e1 e2 e3
    subst e1
    refine ⟨g, As j, cs j, rfl, hb, (Array.getElem?_eq_some_iff.1 hg).1, ?_, (hr j hj).1, ?_⟩
    · rw [ho.cellAt j (by omega)]; exact rowV_at hj
    · intro ys w' hy hown hgr
      have hlen : ∀ i, (ra (rows.set j ys) i).length = (ra rows i).length := fun i => by
        rw [ra_set (by omega)]; split
        · rw [hy]; subst i; rfl
        · rfl
      have hV : rowV As cs (rows.set j ys) m = rowV As cs rows m := by
        unfold rowV; apply List.map_congr_left; intro i _; rw [hlen]
      refine ⟨by simp [hl], Nat.le_trans ht hgr.size, hA, As, cs, ?_, fun i hi => ⟨?_, (hr i hi).2⟩, hp⟩
      · rw [hV]
        have hne : (Value.slice (some ⟨g, 0, none⟩) m c).ownBlock = none ∨ (Value.slice (some ⟨g, 0, none⟩) m c).ownBlock ≠ blkOf (As j) := by
          right
          rcases (hr j hj).2.2 with e | e
          · rw [e]; simp [Value.ownBlock]
          · exact fun e2 => e (by rw [← e2]; rfl)
        exact ho.kept hgr hne
      · by_cases hij : i = j
        · subst hij
          rw [ra_set (by omega), if_pos rfl, hy]; exact hown
        · rw [ra_set (by omega), if_neg hij]
          refine (hr i hi).1.kept hgr ?_
          rcases Nat.lt_or_ge i j with hlt | hge
          · exact hp i j hlt hj
          · rcases hp j i (by omega) hi with e | e
            · cases e3 : blkOf (As i) with
              | none => exact .inl rfl
              | some y => exact .inr (by rw [e]; simp)
            · exact .inr (fun e4 => e e4.symm)
/-- What is read in a list of lists. -/
def SrcLL (w : World) (A : Option Addr) (rows : List (List Int)) : Prop := ∀ j, j < rows.length → ∃ g o Aj cj, A = some ⟨g, o, none⟩ ∧ g < w.heap.size ∧ w.cell? ⟨g, o + j, none⟩ = some (.slice Aj (ra rows j).length cj) ∧ SrcI w Aj (ra rows j).length (ia (ra rows j))
theorem OwnLL.src {base top : Nat} {w : World} {A : Option Addr} {m c : Nat} {rows : List (List Int)} (h : OwnLL base top w A m c rows) : SrcLL w A rows := fun j hj => by
  obtain ⟨g, Aj, cj, e, _, hg, hc, ho⟩ := h.at (j := j) (by have := h.1; omega)
  exact ⟨g, 0, Aj, cj, e, hg, by rw [Nat.zero_add]; exact hc, ho.src⟩
theorem SrcLL.below {w w' : World} {A : Option Addr} {rows : List (List Int)} (h : SrcLL w A rows) (hb : Below w.heap.size w w') : SrcLL w' A rows := fun j hj => by
  obtain ⟨g, o, Aj, cj, e, hg, hc, hs⟩ := h j hj
  exact ⟨g, o, Aj, cj, e, Nat.lt_of_lt_of_le hg hb.size, (hb.cell (p := ⟨g, o + j, none⟩) hg).trans hc, hs.below hb⟩
set_option maxHeartbeats 400000 in
theorem eqInt64SS_any (A1 A2 : Option Addr) (m c1 c2 : Nat) (rows : List (List Int)) (w : World) (hl : rows.length = m) (h1 : SrcLL w A1 rows) (h2 : SrcLL w A2 rows) (hm : m ≤ 1048576) (hr : ∀ j, j < m → (ra rows j).length ≤ 1048576) :
    Calls Try.prog 30 #[.slice A1 m c1, .slice A2 m c2] w (Ret (.bool true) w) := by
  have KC := cell_rg
  have HL := Lib.hid hl
  have HR := Lib.hid hr
  clear hr hl
  go_enter Try.func30, Try.ntmps30
  go_wp2_with fail
  go_loopw [5] (fun i wr => ∃ k : Nat, k ≤ m ∧ i = .int .i64 k ∧ Below w.heap.size w wr) (fun i _ => m - (intOf i).toNat)
  case atStart => exact ⟨0, Nat.zero_le _, rfl, Below.refl _ _⟩
  case round =>
    obtain ⟨k, hk, rfl, hb⟩ := hrel
    by_cases hlt : k < m
    · obtain ⟨g1, o1, B1, d1, rfl, z1, e1, s1⟩ := h1.below hb k (by rw [HL.out]; exact hlt)
      obtain ⟨g2, o2, B2, d2, rfl, z2, e2, s2⟩ := h2.below hb k (by rw [HL.out]; exact hlt)
      have HE : Hid (∀ d os, Calls Try.prog 24 #[.slice B1 (ra rows k).length d1, .slice B2 (ra rows k).length d2] (grow (redrawn wr d) os) fun e w'' => e = .returned (.bool true) ∧ ∃ p : Regrown, w'' = grow (redrawn wr p.d) p.os) := fun d os =>
        Ret.rg (eqInt64S_eq B1 B2 _ d1 d2 (ia (ra rows k)) _ (s1.below (below_regrown _ _ _)) (s2.below (below_regrown _ _ _)) (HR.out k hlt))
      obtain ⟨lk, hlk⟩ : ∃ lk, (ra rows k).length = lk := ⟨_, rfl⟩
      rw [hlk] at e1 e2 HE
      clear s1 s2 hlk
      go_wp2_with fail
      (refine wp_region_quiet_below (by kernel_rfl) (by kernel_rfl) ?_
       repeat (any_goals (go_big_quiet_step (first | (go_at_call 24; exact HE.out _ _))))
       all_goals (refine wpQuiet_nil ?_; intro wq1 hq1; replace hq1 := below_of_rg hq1))
      go_wp2_with fail
      go_roundw
      case rel => exact ⟨k + 1, by omega, by go_num, hb.andB hq1⟩
      case measure => simp [intOf]; omega
    · go_wp2_with fail
      go_ret
      exact ⟨rfl, hb⟩
def tot (rows : List (List Int)) : Nat → Nat
  | 0 => 0
  | j + 1 => tot rows j + (ra rows j).length
theorem tot_le {rows : List (List Int)} {b : Nat} (h : ∀ j, j < rows.length → (ra rows j).length ≤ b) : ∀ k, k ≤ rows.length → tot rows k ≤ k * b := by
  intro k
  induction k with
  | zero => intro _; exact Nat.zero_le _
  | succ k ih => intro hk; have := ih (by omega); have := h k (by omega); simp only [tot]; rw [Nat.succ_mul]; omega
/-- The rows hold numbers that follow each other. -/
def MarkP (rows rs : List (List Int)) (q : Int) (i : Nat) : Prop := rs.length = rows.length ∧ (∀ j, (ra rs j).length = (ra rows j).length) ∧ ∀ j, j < i → ∀ u, u < (ra rows j).length → ia (ra rs j) u = q + tot rows j + u
theorem MarkP.start (rows : List (List Int)) (q : Int) : MarkP rows rows q 0 := ⟨rfl, fun _ => rfl, fun j hj => absurd hj (by omega)⟩
theorem MarkP.next {rows rs : List (List Int)} {q : Int} {i : Nat} {ys : List Int} (h : MarkP rows rs q i) (hi : i < rows.length) (hy : ys.length = (ra rs i).length) (hm : ∀ u, u < (ra rs i).length → ia ys u = q + tot rows i + u) : MarkP rows (rs.set i ys) q (i + 1) := by
  have hi' : i < rs.length := by rw [h.1]; exact hi
  refine ⟨by simp [h.1], fun j => ?_, fun j hj u hu => ?_⟩
  · rw [ra_set hi']; split
    · rw [hy, h.2.1]; subst j; rfl
    · exact h.2.1 j
  · rw [ra_set hi']; split
    · subst j; exact hm u (by rw [h.2.1]; exact hu)
    · exact h.2.2 j (by omega) u hu
set_option maxHeartbeats 800000 in
theorem markInt64SS_any (base top : Nat) (A : Option Addr) (m c : Nat) (rows : List (List Int)) (q : Int) (w : World) (h : OwnLL base top w A m c rows) (hm : m ≤ 1048576) (hr : ∀ j, j < m → (ra rows j).length ≤ 1048576) (hq : 0 ≤ q) (hq2 : q ≤ 1024) :
    Calls Try.prog 31 #[.slice A m c, .int .i64 q] w fun e w' => e = .returned (.int .i64 (q + tot rows m)) ∧ (∃ rs, OwnLL base top w' A m c rs ∧ MarkP rows rs q m) ∧ Below base w w' := by
  have hl := Lib.hid h.1
  have HR := Lib.hid hr
  have HT := Lib.hid (fun k (hk : k ≤ m) => tot_le (b := 1048576) (fun j hj => hr j (by have := h.1; omega)) k (by have := h.1; omega))
  have HH := Lib.hid h
  clear h hr
  go_enter Try.func31, Try.ntmps31
  go_wp2_with fail
  go_loopw [1, 5] (fun qv iv wr => ∃ i : Nat, i ≤ m ∧ iv = .int .i64 i ∧ qv = .int .i64 (q + tot rows i) ∧ (∃ rs, OwnLL base top wr A m c rs ∧ Hid (MarkP rows rs q i)) ∧ Below base w wr) (fun _ i _ => m - (intOf i).toNat)
  case atStart => exact ⟨0, Nat.zero_le _, rfl, by simp [tot], ⟨rows, HH.out, MarkP.start _ _⟩, Below.refl _ _⟩
  case round =>
    obtain ⟨i, hi, rfl, rfl, ⟨rs, ho, HM⟩, hb⟩ := hrel
    have ht : tot rows i ≤ i * 1048576 := HT.out i hi
    by_cases hlt : i < m
    · obtain ⟨g, Aj, cj, rfl, hbg, hg, hc, hown, hset⟩ := ho.at2 hlt
      have hlen := Lib.hid (HM.out.2.1 i)
      have hrl : (ra rs i).length ≤ 1048576 := by rw [hlen.out]; exact HR.out i hlt
      have HST := Lib.hid hset
      have HT1 : Hid (tot rows (i + 1) = tot rows i + (ra rs i).length) := by show _ = _; rw [hlen.out]; rfl
      obtain ⟨T, hT⟩ : ∃ T, tot rows i = T := ⟨_, rfl⟩
      have HTI := Lib.hid hT
      rw [hT] at ht HT1 ⊢
      obtain ⟨lk, hlk⟩ : ∃ lk, (ra rs i).length = lk := ⟨_, rfl⟩
      have HLK := Lib.hid hlk
      rw [hlk] at hc hown hrl HT1
      have hbound : q + T ≤ 1099511627776 := by have : i * 1048576 ≤ 1048576 * 1048576 := Nat.mul_le_mul_right _ (by omega); omega
      have hnn : 0 ≤ q + T := by omega
      clear hset hT hlk ho
      go_wp2_with (go_at_call 26; refine (markInt64S_any base Aj lk cj (ra rs i) (q + T) _ hown hrl hnn hbound).mono ?_; rintro e w2 ⟨rfl, ⟨ys, hoy, hys⟩, hgr⟩)
      have hb2 := Lib.hid (hb.grown hgr (by omega) (fun y hy => (hown.blk y hy).1))
      have HLL := Lib.hid (HST.out ys w2 (by rw [HLK.out]; exact hoy.1) (by rw [HLK.out]; exact hoy) hgr)
      have HM2 := Lib.hid (HM.out.next (ys := ys) (by rw [hl.out]; exact hlt) (by rw [HLK.out]; exact hoy.1) (fun u hu => by rw [HTI.out]; exact hys u (by rw [HLK.out] at hu; exact hu)))
      clear hys hgr
      go_roundw
      case rel => exact ⟨i + 1, by omega, by go_num, by rw [HT1.out]; push_cast; rw [Int.add_assoc], ⟨_, HLL.out, HM2.out⟩, hb2.out⟩
      case measure => simp [intOf]; omega
    · obtain rfl : i = m := by omega
      go_wp2_with fail
      go_ret
      exact ⟨rfl, ⟨rs, ho, HM.out⟩, hb⟩
set_option maxHeartbeats 800000 in
theorem heldInt64SS_any (A : Option Addr) (m c : Nat) (rows rs : List (List Int)) (q : Int) (w : World) (hl : rows.length = m) (h : SrcLL w A rs) (hM : MarkP rows rs q m) (hm : m ≤ 1048576) (hr : ∀ j, j < m → (ra rows j).length ≤ 1048576) (hq : 0 ≤ q) (hq2 : q ≤ 1024) :
    Calls Try.prog 32 #[.slice A m c, .int .i64 q] w (Is (.int .i64 (q + tot rows m)) w) := by
  have HL := Lib.hid hl
  have HR := Lib.hid hr
  have HM := Lib.hid hM
  have HT := Lib.hid (fun k (hk : k ≤ m) => tot_le (b := 1048576) (fun j hj => hr j (by omega)) k (by omega))
  clear hr hM hl
  go_enter Try.func32, Try.ntmps32
  go_wp2_with fail
  go_loop [1, 5] (fun qv iv => ∃ i : Nat, i ≤ m ∧ iv = .int .i64 i ∧ qv = .int .i64 (q + tot rows i)) (fun _ i => m - (intOf i).toNat)
  case atStart => exact ⟨0, Nat.zero_le _, rfl, by simp [tot]⟩
  case round =>
    obtain ⟨i, hi, rfl, rfl⟩ := hrel
    have ht : tot rows i ≤ i * 1048576 := HT.out i hi
    by_cases hlt : i < m
    · obtain ⟨g, o, Aj, cj, rfl, hg, hc, hs⟩ := h i (by rw [HM.out.1, HL.out]; exact hlt)
      have hlen := Lib.hid (HM.out.2.1 i)
      have hrl : (ra rs i).length ≤ 1048576 := by rw [hlen.out]; exact HR.out i hlt
      have HT1 : Hid (tot rows (i + 1) = tot rows i + (ra rs i).length) := by show _ = _; rw [hlen.out]; rfl
      have HV : Hid (∀ u, u < (ra rs i).length → ia (ra rs i) u = q + tot rows i + u) := fun u hu => HM.out.2.2 i hlt u (by rw [← hlen.out]; exact hu)
      obtain ⟨T, hT⟩ : ∃ T, tot rows i = T := ⟨_, rfl⟩
      rw [hT] at ht HT1 HV ⊢
      obtain ⟨lk, hlk⟩ : ∃ lk, (ra rs i).length = lk := ⟨_, rfl⟩
      rw [hlk] at hc hs hrl HT1 HV
      have hbound : q + T ≤ 1099511627776 := by have : i * 1048576 ≤ 1048576 * 1048576 := Nat.mul_le_mul_right _ (by omega); omega
      have hnn : 0 ≤ q + T := by omega
      have hnn2 : ¬ q + T + lk < 0 := by omega
      clear hT hlk
      go_wp2_with (go_at_call 27; refine (heldInt64S_any Aj lk cj (ia (ra rs i)) (q + T) _ hs hrl hnn hbound HV.out).mono ?_; rintro e w' ⟨rfl, rfl⟩)
      go_round
      case rel => exact ⟨i + 1, by omega, by go_num, by rw [HT1.out]; push_cast; rw [Int.add_assoc]⟩
      case measure => simp [intOf]; omega
    · obtain rfl : i = m := by omega
      go_wp2_with fail
      go_ret
      exact ⟨rfl, rfl⟩
/-- The call returns a new list of lists and a code. -/
def RetLLC (rows : List (List Int)) (k : Int) (w : World) (e : Ending) (w' : World) : Prop := ∃ A c, e = .returned (.tuple #[.slice A rows.length c, .int .i64 k]) ∧ OwnLL w.heap.size w'.heap.size w' A rows.length c rows ∧ Below w.heap.size w w'
theorem retLLC_nil {rows : List (List Int)} {k : Int} {w w' : World} (h : rows = []) (hb : Below w.heap.size w w') : RetLLC rows k w (.returned (.tuple #[.slice none 0 0, .int .i64 k])) w' := by
  subst h
  exact ⟨none, 0, rfl, OwnLL.nil _ _, hb⟩
theorem retLLC_of {rows ys : List (List Int)} {k : Int} {w w1 w' : World} {A : Option Addr} {c : Nat} (h : rows = ys) (hb : Below w.heap.size w w1) (ho : OwnLL w1.heap.size w'.heap.size w' A rows.length c rows) (hk : Below w1.heap.size w1 w') : RetLLC ys k w (.returned (.tuple #[.slice A rows.length c, .int .i64 k])) w' := by
  subst h
  exact ⟨A, c, rfl, ho.mono hb.size, hb.andB hk⟩
/-- Rows of different kinds lie in different blocks. -/
theorem OwnLL.neL {base base' top : Nat} {w : World} {A : Option Addr} {m c gl N cl : Nat} {rows : List (List Int)} {xs : List Int} (h : OwnLL base top w A m c rows) (hl : OwnL base' w (some ⟨gl, 0, none⟩) N cl xs) : ∀ y, blkOf A = some y → y ≠ gl := fun y hy e => by
  subst e
  obtain ⟨_, _, _, As, cs, ho, _⟩ := h
  rcases ho.2 with ⟨e1, _⟩ | ⟨g, cap, cur, e1, _, hg, _⟩
  · injection e1 with e2; rw [e2] at hy; cases hy
  · rcases hl.2.2 with ⟨e3, _⟩ | ⟨g2, cap2, cur2, e3, _, hg2, _⟩
    · cases e3
    · injection e1 with e4
      injection e3 with e5
      rw [e4] at hy
      simp only [blkOf, Option.map_some, Option.some.injEq] at hy
      simp only [Option.some.injEq, Addr.mk.injEq, and_true] at e5
      rw [hy] at hg
      rw [← e5, hg] at hg2
      injection hg2 with hg3
      injection hg3 with _ h5
      exact absurd h5 (by decide)
end Go.Proofs.Ytppfplhbfgjjhaa
