import Derived.Test.YtajnhkkiddeegaaGreatZp18
import Derived.Test.YtajnhkkiddeegaaGreatZp20
set_option linter.unusedVariables false
set_option linter.unusedSimpArgs false
namespace Go.Proofs.YtajnhkkiddeegaaGreat
open Go.RowKit Go.Sort
def WfE (n : Int) (e : Int × Int) : Prop := 0 ≤ e.1 ∧ e.1 ≤ n - 1 ∧ 0 ≤ e.2 ∧ e.2 ≤ n - 1 ∧ e.1 ≠ e.2
instance (n : Int) (e : Int × Int) : Decidable (WfE n e) := by unfold WfE; infer_instance
theorem wfP_of {n : Int} {es : List (Int × Int)} (h1 : 2 ≤ n ∧ n ≤ 20 ∧ n % 2 = 0) (hl : (es.length : Int) = 3 * n / 2) (he : ∀ e ∈ es, WfE n e) : WfP n es := by
  refine ⟨h1.1, h1.2.1, h1.2.2, hl, fun j hj => ?_⟩
  have := he es[j] (List.getElem_mem hj)
  rw [e_pair hj] at this
  exact this
theorem wfP_mem {n : Int} {es : List (Int × Int)} (h : WfP n es) : ∀ e ∈ es, WfE n e := fun e he => by
  obtain ⟨j, hj, rfl⟩ := List.mem_iff_getElem.1 he
  rw [e_pair hj]
  exact h.2.2.2.2 j hj
theorem wfP_srt {n : Int} {es : List (Int × Int)} (h1 : 2 ≤ n ∧ n ≤ 20 ∧ n % 2 = 0) (hl : (es.length : Int) = 3 * n / 2) (he : ∀ e ∈ es, WfE n e) : WfP n (srtE es) := by
  refine wfP_of h1 (by rw [srt_len]; exact hl) fun e hm => ?_
  have hm' : e ∈ es.map mmE := (List.mergeSort_perm _ _).subset hm
  obtain ⟨x, hx, rfl⟩ := List.mem_map.1 hm'
  have := he x hx
  unfold WfE at this ⊢
  unfold mmE
  simp only
  omega
/-- The numbers 0 to n - 1 in any order. -/
def OrdL (n : Nat) (xs : List Int) : Prop := xs.Perm ((List.range n).map fun k : Nat => (k : Int))
theorem OrdL.len {n : Nat} {xs : List Int} (h : OrdL n xs) : xs.length = n := by rw [h.length_eq]; simp
theorem OrdL.nil : OrdL 0 [] := List.Perm.nil
theorem OrdL.rng {n : Nat} {xs : List Int} (h : OrdL n xs) {x : Int} (hx : x ∈ xs) : 0 ≤ x ∧ x ≤ n - 1 := by
  obtain ⟨k, hk, rfl⟩ := List.mem_map.1 (h.subset hx)
  have := List.mem_range.1 hk
  omega
theorem OrdL.nodup {n : Nat} {xs : List Int} (h : OrdL n xs) : xs.Nodup := by
  refine h.nodup_iff.2 (List.pairwise_map.2 (List.nodup_range.imp fun h => ?_))
  omega
theorem OrdL.put {n a : Nat} {xs : List Int} (h : OrdL n xs) : OrdL (n + 1) (xs.take a ++ [(n : Int)] ++ xs.drop a) := by
  unfold OrdL
  rw [List.range_succ, List.map_append, List.map_cons, List.map_nil]
  have h1 : (xs.take a ++ [(n : Int)] ++ xs.drop a).Perm (xs ++ [(n : Int)]) := by
    rw [List.append_assoc]
    refine (List.Perm.append_left _ List.perm_append_comm).trans ?_
    rw [← List.append_assoc, List.take_append_drop]
  exact h1.trans (h.append_right _)
theorem OrdL.inj {n : Nat} {xs : List Int} (h : OrdL n xs) {i j : Nat} (hi : i < n) (hj : j < n) (he : ia xs i = ia xs j) : i = j := by
  have hl := h.len
  have e1 : ia xs i = xs[i]'(by omega) := by simp [ia, show i < xs.length by omega]
  have e2 : ia xs j = xs[j]'(by omega) := by simp [ia, show j < xs.length by omega]
  rw [e1, e2] at he
  exact (List.getElem_inj (h₀ := by omega) (h₁ := by omega) h.nodup).1 he
theorem OrdL.at {n : Nat} {xs : List Int} (h : OrdL n xs) {i : Nat} (hi : i < n) : 0 ≤ ia xs i ∧ ia xs i ≤ n - 1 := h.rng (ia_mem (by rw [h.len]; exact hi))
theorem wfP_ren {N : Nat} {es : List (Int × Int)} (h : WfP N es) {p : List Int} (hp : OrdL N p) : WfP N (srtE (es.map (rnE (ia p)))) := by
  refine wfP_srt ⟨h.1, h.2.1, h.2.2.1⟩ (by rw [List.length_map]; exact h.2.2.2.1) fun e he => ?_
  obtain ⟨x, hx, rfl⟩ := List.mem_map.1 he
  have hw := wfP_mem h x hx
  unfold WfE at hw
  have h1 := hp.at (i := x.1.toNat) (by omega)
  have h2 := hp.at (i := x.2.toNat) (by omega)
  refine ⟨h1.1, h1.2, h2.1, h2.2, fun heq => ?_⟩
  have := hp.inj (i := x.1.toNat) (j := x.2.toNat) (by omega) (by omega) heq
  omega
theorem mem_bes {n : Int} {es fs : List (Int × Int)} {e : Int × Int} (h : e ∈ besL n es fs) : e ∈ es ∨ ∃ f ∈ fs, e = (f.1 + n, f.2 + n) := by
  rcases List.mem_append.1 h with h | h
  · exact .inl h
  · obtain ⟨f, hf, rfl⟩ := List.mem_map.1 h; exact .inr ⟨f, hf, rfl⟩
theorem wf_theta : WfP 2 (srtE ([(0, 1), (0, 1), (0, 1)])) := wfP_srt (by decide) (by decide) (by decide +kernel)
theorem wf_k4 : WfP 4 (srtE ([(0, 1), (0, 2), (0, 3), (1, 2), (1, 3), (2, 3)])) := wfP_srt (by decide) (by decide) (by decide +kernel)
theorem wf_k33 : WfP 6 (srtE (stars33 3)) := wfP_srt (by decide) (by decide +kernel) (by decide +kernel)
theorem wf_prism : WfP 6 (srtE (([] ++ cycL [0, 1, 2]) ++ cycL [3, 4, 5] ++ [(0, 3), (1, 4), (2, 5)])) := wfP_srt (by decide) (by decide +kernel) (by decide +kernel)
theorem wf_cube : WfP 8 (srtE (cubT 8)) := wfP_srt (by decide) (by decide +kernel) (by decide +kernel)
theorem wf_petersen : WfP 10 (srtE (petT 5)) := wfP_srt (by decide) (by decide +kernel) (by decide +kernel)
theorem wf_tietze : WfP 12 (srtE (tie2 15 ++ cycL [0, 10, 11] ++ [(0, 1), (10, 4), (11, 5)])) := wfP_srt (by decide) (by decide +kernel) (by decide +kernel)
theorem wf_flower5 : WfP 20 (srtE ((flo2 5 ++ cycL [5, 6, 7, 8, 9]) ++ cycL [10, 11, 12, 13, 14, 15, 16, 17, 18, 19])) := wfP_srt (by decide) (by decide +kernel) (by decide +kernel)
theorem wf_bridge : WfP 10 (srtE (bri2 2 ++ [(4, 9)])) := wfP_srt (by decide) (by decide +kernel) (by decide +kernel)
end Go.Proofs.YtajnhkkiddeegaaGreat
namespace Go.Proofs.YtajnhkkiddeegaaGreat
open Go.RowKit Go.Sort
theorem Kept.grown {p : Nat} {w w' : World} (k : Kept (isP p) w w') : w.grownBy w' (some p) := ⟨k.os, k.tape, k.output, k.size, fun i hi hne => k.block i hi (fun e => hne (by rw [show i = p from e]))⟩
theorem OwnL.keptP {base p : Nat} {w w' : World} {A : Option Addr} {m c : Nat} {xs : List Int} (h : OwnL base w A m c xs) (k : Kept (isP p) w w') (hp : p < base) : OwnL base w' A m c xs :=
  h.kept k.grown (by
    cases hA : blkOf A with
    | none => exact .inl rfl
    | some g => right; have := h.blk g hA; intro e; injection e with e; omega)
theorem DR.grown {A : Option Addr} {l c p : Nat} {w W w6 : World} (S : SR A l c p w) (D : DR A l c p w W) {row : Option Nat} (hg : W.grownBy w6 row) (h : ∀ g, row = some g → w.heap.size ≤ g) : DR A l c p w w6 := by
  have hp := S.lt
  have hblk : w6.heap[p]? = W.heap[p]? := hg.block p D.2.lt (fun e => by have := h p e.symm; omega)
  have K : Kept (isP p) w w6 := ⟨hg.os.trans D.1.os, hg.tape.trans D.1.tape, hg.output.trans D.1.output, Nat.le_trans D.1.size hg.size, fun k hk hn => (hg.block k (Nat.lt_of_lt_of_le hk D.1.size) (fun e => by have := h k e.symm; omega)).trans (D.1.block k hk hn)⟩
  have hc : ∀ j : Nat, w6.cell? ⟨p, j, none⟩ = W.cell? ⟨p, j, none⟩ := fun j => World.cell?_of_block (w := W) hblk
  have hf : ∀ j : Nat, w6.frozen? ⟨p, j, none⟩ = W.frozen? ⟨p, j, none⟩ := fun j => World.frozen?_of_block (w := W) hblk
  refine ⟨K, Nat.lt_of_lt_of_le D.2.lt hg.size, (hc 0).trans D.2.code, ?_, ?_, (hf 1).trans D.2.f1, (hf 2).trans D.2.f2, S.bys.kept K⟩
  · obtain ⟨k, hk, e⟩ := D.2.at_; exact ⟨k, hk, (hc 1).trans e⟩
  · obtain ⟨k, hk, e⟩ := D.2.hash; exact ⟨k, hk, (hc 2).trans e⟩
theorem run_appZ (w : World) (ty : TypeId) (g m cw : Nat) (a : Addr) (c : Nat) (hm : m ≤ cw) : (Builtin.append_ #[34, 34] ty #[.slice (some ⟨g, 0, none⟩) m cw, .slice (some a) 0 c]).run Tryz.prog w = .ok (.slice (some ⟨g, 0, none⟩) m cw) w := by
  obtain ⟨i0, hi, hz0, hz1, hz2⟩ := info_parts inf2
  have h1 : ¬ cw < m := by omega
  simp [Builtin.append_, run_underlying Tryz.underlying34, sizeOf, typeInfo, hi, Builtin.lenOf, Builtin.firstCells, storeCells, loadCells, loadCellsFrom, storeCells, Result.andThen, hm, h1]
theorem wp_appG {ops : Array Oper} {rest : List Oper} {o : Oper} {a : Act} {Q : Exit → Act → World → Prop} {s x : Operand} (hgd : o.guard = none)
    (ho : o.op = .call { callee := .builtin .append, args := #[s, x], argTypes := #[34, 34] })
    {base : Nat} {g m c : Nat} {xs ys : List Int} {w1 : World} {B o2 l c2 : Nat} (hs : a.eval s = .slice (some ⟨g, 0, none⟩) m c) (hx : a.eval x = .slice (some ⟨B, o2, none⟩) l c2)
    (hown : OwnL base w1 (some ⟨g, 0, none⟩) m c xs) (I : Ints w1 B o2 l (ia ys)) (hyl : ys.length = l) (hbase : base ≤ w1.heap.size) (hm : m ≤ 1048576) (hl : l ≤ 1048576)
    (h : ∀ g' c' w', OwnL base w' (some ⟨g', 0, none⟩) (m + l) c' (xs ++ ys) → w1.grownBy w' (some g) → wpList Tryz.prog ops Q rest (a.put o.dst (.slice (some ⟨g', 0, none⟩) (m + l) c')) w') :
    wpList Tryz.prog ops Q (o :: rest) a w1 := by
  by_cases h0 : l = 0
  · subst h0
    have hy : ys = [] := List.length_eq_zero_iff.1 hyl
    subst hy
    have hmc : m ≤ c := by
      rcases hown.2.2 with ⟨e, e2⟩ | ⟨g', cap, cur, e, hb, hg2, hle, _⟩
      · injection e with e1 e2 e3; cases e1
      · injection e with e1 e2 e3; omega
    refine wpList_plain hgd fun K hK => ?_
    have hrun := run_appZ w1 o.type g m c ⟨B, o2, none⟩ c2 hmc
    unfold Oper.wp
    simp [execOp, ho, resolve, invoke, builtin, hs, hx, hrun, Result.andThen]
    exact hK _ _ (h g c w1 (by simpa using hown) (below_grownBy (Below.refl _ _) _))
  · obtain ⟨i0, hi, hz0, hz1, hz2⟩ := info_parts inf2
    refine wpList_plain hgd fun K hK => wp_append_lies w1 s x 34 ho base 2 i0 (.int .i64 0) 1 8 Tryz.underlying34 hi hz0 hz1 hz2 rfl (by decide) (.slice (some ⟨g, 0, none⟩) m c) m (nums xs) hs hown.2
      ⟨B, o2, none⟩ l c2 (nums ys) hx (by simp [nums, hyl]) (fun j u hj => ?_) (fun u hu => ?_) (by omega) (by unfold maxLen; omega) (by omega) hbase _ rfl ?_
    · have hjl : j < ys.length := by
        have := (List.getElem?_eq_some_iff.1 hj).1
        simpa [nums] using this
      rw [Addr.add_lit, I.c j (by omega), ← hj, nums_at ys j hjl]
    · simp only [nums, List.mem_map] at hu
      obtain ⟨y, _, rfl⟩ := hu
      rfl
    · intro g2 cap w2 hown' hgrow hat _
      exact hK _ _ (h g2 cap w2 ⟨by simp [hown.1, hyl], by rw [nums_append]; exact hown'⟩ hgrow)
end Go.Proofs.YtajnhkkiddeegaaGreat
namespace Go.Proofs.YtajnhkkiddeegaaGreat
open Go.RowKit Go.Sort
theorem SrcI.take {base : Nat} {w : World} {A : Option Addr} {m c : Nat} {xs : List Int} (h : OwnL base w A m c xs) {a : Nat} (ha : a ≤ m) : SrcI w A a (ia (xs.take a)) := fun h0 => by
  obtain ⟨b, o, e, I⟩ := h.src (by omega)
  refine ⟨b, o, e, I.blk, fun j hj => ?_⟩
  rw [I.c j (by omega)]
  simp [ia, List.getElem?_take, hj]
theorem Ints.drop {base : Nat} {w : World} {g m c : Nat} {xs : List Int} (h : OwnL base w (some ⟨g, 0, none⟩) m c xs) {a : Nat} (ha : a ≤ m) : Ints w g a (m - a) (ia (xs.drop a)) := by
  refine ⟨(h.blk g rfl).2, fun j hj => ?_⟩
  obtain ⟨b, o, e, I⟩ := h.src (by omega)
  injection e with e
  injection e with e1 e2
  subst e1 e2
  have := I.c (a + j) (by omega)
  rw [Nat.zero_add] at this
  rw [this]
  simp [ia, List.getElem?_drop]
/-- The call returns the numbers 0 to n - 1 in any order. -/
def RetOd (A : Option Addr) (l c p n : Nat) (w : World) (e : Ending) (w' : World) : Prop := ∃ (g c' : Nat) (xs : List Int), e = .returned (.slice (some ⟨g, 0, none⟩) n c') ∧ OwnL w.heap.size w' (some ⟨g, 0, none⟩) n c' xs ∧ OrdL n xs ∧ DR A l c p w w'
set_option maxRecDepth 100000 in
set_option maxHeartbeats 2000000 in
theorem l01DrawOrder_any (A : Option Addr) (l c p n : Nat) (w : World) (S : SR A l c p w) (hl : l ≤ 4096) (hn : n ≤ 100) :
    Calls Tryz.prog 75 #[.pointer (some ⟨p, 0, none⟩), .int .i64 n] w (RetOd A l c p n w) := by
  have KC := cell_rg
  have hpw := S.lt
  have S1 := S.below ((Below.refl _ _).alloc (Nat.le_refl _) (.cells #[] 2))
  have k1 : Kept (isP p) w (w.alloc (.cells #[] 2)) := Kept.of ((Below.refl _ _).alloc (Nat.le_refl _) _)
  have O1 : OwnL w.heap.size (w.alloc (.cells #[] 2)) (some ⟨w.heap.size, 0, none⟩) 0 0 [] := OwnL.empty _ _ _ (Nat.le_refl _) (heap_alloc_new w _)
  have HNX := Lib.hid (fun (k : Int) W (hS : SR A l c p W) => l01Next_any A l c p k W hS hl)
  have HS0 := Lib.hid S
  clear S
  go_enter Tryz.func75, Tryz.ntmps75
  go_wp2_with fail
  obtain ⟨w1, hw1⟩ : ∃ w1, w1 = w.alloc (.cells #[] 2) := ⟨_, rfl⟩
  rw [← hw1] at S1 k1 O1 ⊢
  clear hw1
  go_loopw [5, 6] (fun lv kv wv => ∃ (i g c1 : Nat) (xs : List Int), i ≤ n ∧ kv = .int .i64 i ∧ lv = .slice (some ⟨g, 0, none⟩) i c1 ∧ OwnL w.heap.size wv (some ⟨g, 0, none⟩) i c1 xs ∧ OrdL i xs ∧ DR A l c p w wv) (fun _ k _ => n - (intOf k).toNat)
  case atStart => exact ⟨0, _, _, [], Nat.zero_le _, rfl, rfl, O1, OrdL.nil, k1, S1⟩
  case round =>
    clear S1 O1 k1
    obtain ⟨i, g, c1, xs, hi, rfl, rfl, O, HO, D⟩ := hrel
    by_cases hlt : i < n
    · have hwi : IntKind.i64.wrap ((i : Int) + 1) = (i : Int) + 1 := IntWalk.i64_in _ (by omega)
      go_wp2_with fail
      refine (HNX.out _ _ D.2).mono ?_
      rintro e w5 ⟨x, rfl, hx, D5⟩
      obtain ⟨q, rfl⟩ : ∃ q : Nat, x = q := ⟨x.toNat, by have := hx.1; omega⟩
      have hai : q ≤ i := by have := hx.2.1 (by omega); omega
      have O5 := O.keptP D5.1 hpw
      have D5 := D.trans D5
      clear hx O D
      have HOWN := Lib.hid (fun W (hW : Below w5.heap.size w5 W) => l01Own_any (some ⟨g, 0, none⟩) q c1 (xs.take q) W (SrcI.take (O5.below hW) hai) (by rw [List.length_take, O5.1]; omega) (by omega))
      have hci : i ≤ c1 := by
        rcases O5.2.2 with ⟨e, e2⟩ | ⟨g', cap, cur, e, hb, hg2, hle, _⟩
        · injection e with e1 e2 e3; cases e1
        · injection e with e1 e2 e3; omega
      have hqc : q ≤ c1 := by omega
      have hqs : (xs.take q).length ≤ 1048576 := by rw [List.length_take]; omega
      obtain ⟨q2, hq2⟩ : ∃ q2, q2 = if c1 = q then 0 else q := ⟨_, rfl⟩
      go_wp2_with fail
      refine wp_region_then 10 (fun i9 v W => match i9 with
        | 0 => v = .slice (some ⟨g, 0, none⟩) i c1
        | 1 => v = .int .i64 (q : Int)
        | 2 => v = .slice (some ⟨g, 0, none⟩) q c1
        | 3 => NewL w5.heap.size (xs.take q) v W
        | 4 => v = .int .i64 (i : Int)
        | 5 => NewS (i) v W
        | 6 => NewL w5.heap.size (xs.take q ++ [(i : Int)]) v W
        | 7 => v = .slice (some ⟨g, 0, none⟩) i c1
        | 8 => v = .int .i64 (q : Int)
        | _ => v = .slice (some ⟨g, q2, none⟩) (i - q) (c1 - q))
        (fun i => match i with
        | 3 => some 6
        | 5 => some 6
        | _ => none)
        (fun k W W' => if k = 6 then Below w5.heap.size W W' else Below W.heap.size W W')  (fun W => Below w5.heap.size w5 W) (by kernel_rfl) (by kernel_rfl) ?_ ?_ ?_ ?_ ?_
      · exact (Below.refl _ _).drew
      · intro i k v W W' hne hd hC hf hE
        by_cases hk6 : k = 6
        · subst hk6
          replace hE : Below w5.heap.size W W' := hE
          match i, hne, hd, hf with
          | 0, hne, hd, hf => exact hf
          | 1, hne, hd, hf => exact hf
          | 2, hne, hd, hf => exact hf
          | 3, hne, hd, hf => exact absurd rfl hd
          | 4, hne, hd, hf => exact hf
          | 5, hne, hd, hf => exact absurd rfl hd
          | 6, hne, hd, hf => exact absurd rfl hne
          | 7, hne, hd, hf => exact hf
          | 8, hne, hd, hf => exact hf
          | _ + 9, hne, hd, hf => exact hf
        simp only [if_neg hk6] at hE
        match i, hf with
        | 0, hf => exact hf
        | 1, hf => exact hf
        | 2, hf => exact hf
        | 3, hf => exact NewL.below hf hE
        | 4, hf => exact hf
        | 5, hf => exact NewS.below hf hE
        | 6, hf => exact NewL.below hf hE
        | 7, hf => exact hf
        | 8, hf => exact hf
        | _ + 9, hf => exact hf
      · intro k W W' hC hE
        by_cases hk6 : k = 6
        · subst hk6; exact Below.trans hC hE
        simp only [if_neg hk6] at hE
        exact Below.andB hC hE
      · simp only [List.take_succ_cons, List.take_zero]
        refine ⟨?_, ?_, ?_, ?_, ?_, ?_, ?_, ?_, ?_, ?_, trivial⟩
        · intro a W hC hs hd
          have hW : Below w5.heap.size w5 W := hC
          have e5 : a.tmps[5]?.getD undef = .slice (some ⟨g, 0, none⟩) i c1 := hs 5 (by kernel_rfl)
          refine growsG_none (E := fun W W' => Below W.heap.size W W') rfl ?_
          clear hs hd
          unfold GrowsE
          go_simp
          exact Below.refl _ _
        · intro a W hC hs hd
          have hW : Below w5.heap.size w5 W := hC
          have e7 : a.tmps[7]?.getD undef = .int .i64 (q : Int) := hs 7 (by kernel_rfl)
          refine growsG_none (E := fun W W' => Below W.heap.size W W') rfl ?_
          clear hs hd
          unfold GrowsE
          go_simp
          exact Below.refl _ _
        · intro a W hC hs hd
          have hW : Below w5.heap.size w5 W := hC
          have e18 : (a.tmps[18]?.getD undef) = .slice (some ⟨g, 0, none⟩) i c1 := hd 0 18 (by kernel_rfl) (by kernel_rfl) (by kernel_rfl)
          have e19 : (a.tmps[19]?.getD undef) = .int .i64 (q : Int) := hd 1 19 (by kernel_rfl) (by kernel_rfl) (by kernel_rfl)
          refine growsG_none (E := fun W W' => Below W.heap.size W W') rfl ?_
          clear hs hd
          unfold GrowsE
          go_simp
          exact Below.refl _ _
        · intro a W hC hs hd
          have hW : Below w5.heap.size w5 W := hC
          have e20 : (a.tmps[20]?.getD undef) = .slice (some ⟨g, 0, none⟩) q c1 := hd 2 20 (by kernel_rfl) (by kernel_rfl) (by kernel_rfl)
          refine growsG_none (E := fun W W' => Below W.heap.size W W') rfl ?_
          clear hs hd
          unfold GrowsE
          go_simp
          refine ⟨Below.refl _ _, (HOWN.out W hW).mono ?_⟩
          rintro e w6 ⟨A6, c6, rfl, ho6, hb6⟩
          exact ⟨_, rfl, hb6, A6, c6, rfl, ho6.mono hW.size⟩
        · intro a W hC hs hd
          have hW : Below w5.heap.size w5 W := hC
          have e6 : a.tmps[6]?.getD undef = .int .i64 (i : Int) := hs 6 (by kernel_rfl)
          refine growsG_none (E := fun W W' => Below W.heap.size W W') rfl ?_
          clear hs hd
          unfold GrowsE
          go_simp
          exact Below.refl _ _
        · intro a W hC hs hd
          have hW : Below w5.heap.size w5 W := hC
          have e22 : (a.tmps[22]?.getD undef) = .int .i64 (i : Int) := hd 4 22 (by kernel_rfl) (by kernel_rfl) (by kernel_rfl)
          refine growsG_none (E := fun W W' => Below W.heap.size W W') rfl ?_
          clear hs hd
          unfold GrowsE
          go_simp
          exact ⟨(Below.refl _ _).alloc (Nat.le_refl _) _, _, rfl, ints1 _ _ _⟩
        · intro a W hC hs hd
          have hW : Below w5.heap.size w5 W := hC
          have e21 : NewL w5.heap.size (xs.take q) (a.tmps[21]?.getD undef) W := hd 3 21 (by kernel_rfl) (by kernel_rfl) (by kernel_rfl)
          obtain ⟨A21, c21, e21, O21⟩ := e21
          have e23 : NewS (i) (a.tmps[23]?.getD undef) W := hd 5 23 (by kernel_rfl) (by kernel_rfl) (by kernel_rfl)
          obtain ⟨g23, e23, I23⟩ := e23
          refine growsG_none rfl ?_
          refine grows_appL rfl ((eval_tmp a 21).trans e21) ((eval_tmp a 23).trans e23) I23 (O21.mono (Nat.le_refl _)) (hW.size) (by omega) ?_
          intro A6 c6 w6 ho6 hg6
          exact ⟨(Below.refl _ _).grown hg6 hW.size (fun y hy => (O21.blk y hy).1), A6, c6, (by rw [List.length_append]; rfl), (by rw [List.length_append]; exact ho6)⟩
        · intro a W hC hs hd
          have hW : Below w5.heap.size w5 W := hC
          have e5 : a.tmps[5]?.getD undef = .slice (some ⟨g, 0, none⟩) i c1 := hs 5 (by kernel_rfl)
          refine growsG_none (E := fun W W' => Below W.heap.size W W') rfl ?_
          clear hs hd
          unfold GrowsE
          go_simp
          exact Below.refl _ _
        · intro a W hC hs hd
          have hW : Below w5.heap.size w5 W := hC
          have e7 : a.tmps[7]?.getD undef = .int .i64 (q : Int) := hs 7 (by kernel_rfl)
          refine growsG_none (E := fun W W' => Below W.heap.size W W') rfl ?_
          clear hs hd
          unfold GrowsE
          go_simp
          exact Below.refl _ _
        · intro a W hC hs hd
          have hW : Below w5.heap.size w5 W := hC
          have e25 : (a.tmps[25]?.getD undef) = .slice (some ⟨g, 0, none⟩) i c1 := hd 7 25 (by kernel_rfl) (by kernel_rfl) (by kernel_rfl)
          have e26 : (a.tmps[26]?.getD undef) = .int .i64 (q : Int) := hd 8 26 (by kernel_rfl) (by kernel_rfl) (by kernel_rfl)
          refine growsG_none (E := fun W W' => Below W.heap.size W W') rfl ?_
          clear hs hd
          unfold GrowsE
          go_simp
          exact ⟨Below.refl _ _, by split <;> rfl⟩
      intro vs W hW hf
      have f18 : (vs 18) = .slice (some ⟨g, 0, none⟩) i c1 := hf 0 18 (by decide) (by kernel_rfl) (fun _ hk => by cases hk)
      have f19 : (vs 19) = .int .i64 (q : Int) := hf 1 19 (by decide) (by kernel_rfl) (fun _ hk => by cases hk)
      have f20 : (vs 20) = .slice (some ⟨g, 0, none⟩) q c1 := hf 2 20 (by decide) (by kernel_rfl) (fun _ hk => by cases hk)
      have f22 : (vs 22) = .int .i64 (i : Int) := hf 4 22 (by decide) (by kernel_rfl) (fun _ hk => by cases hk)
      have f24 : NewL w5.heap.size (xs.take q ++ [(i : Int)]) (vs 24) W := hf 6 24 (by decide) (by kernel_rfl) (fun _ hk => by cases hk)
      obtain ⟨A24, c24, f24, O24⟩ := f24
      have f25 : (vs 25) = .slice (some ⟨g, 0, none⟩) i c1 := hf 7 25 (by decide) (by kernel_rfl) (fun _ hk => by cases hk)
      have f26 : (vs 26) = .int .i64 (q : Int) := hf 8 26 (by decide) (by kernel_rfl) (fun _ hk => by cases hk)
      have f27 : (vs 27) = .slice (some ⟨g, q2, none⟩) (i - q) (c1 - q) := hf 9 27 (by decide) (by kernel_rfl) (fun _ hk => by cases hk)
      simp only [dsts, List.take_succ_cons, List.take_zero, List.drop_succ_cons, List.drop_zero, List.filterMap_cons, List.filterMap_nil, List.foldl_cons, List.foldl_nil, Act.put, List.setIfInBounds_toArray, List.set_cons_succ, List.set_cons_zero, f18, f19, f20, f22, f24, f25, f26, f27]
      clear hf
      have hW : Below w5.heap.size w5 W := hW
      have hsz5 := D5.1.size
      have OW := (O24.mono hsz5)
      have OG := O5.below hW
      have ID := Lib.hid (Ints.drop OG hai)
      have DW := D5.thenB hW
      have hln : (xs.take q ++ [(i : Int)]).length = q + 1 := by rw [List.length_append, List.length_take, O5.1, Nat.min_eq_left hai]; rfl
      rw [hln] at OW f24
      obtain ⟨g4, rfl⟩ : ∃ g4, A24 = some ⟨g4, 0, none⟩ := by
        rcases OW.cases with ⟨_, h0, _⟩ | ⟨g4, e, _⟩
        · omega
        · exact ⟨g4, e⟩
      have hg4 := (OW.blk g4 rfl).1
      have hd2 : (xs.drop q).length = i - q := by rw [List.length_drop, O5.1]
      have IQ : Ints W g q2 (i - q) (ia (xs.drop q)) := by
        by_cases hcq : c1 = q
        · exact ⟨ID.out.blk, fun j hj => by omega⟩
        · rw [hq2, if_neg hcq]; exact ID.out
      have hzW : w.heap.size ≤ W.heap.size := DW.1.size
      clear hq2 hW hsz5 O24 OG ID O5 D5 hqs
      rw [hln]
      go_wp2_with (at_builtin; refine wp_appG rfl rfl rfl rfl OW IQ hd2 hzW (by omega) (by omega) ?_; intro g6 c6 w6 O6 hg6)
      have DF := DR.grown HS0.out DW hg6 (fun g hg => by injection hg with hg; omega)
      have hi1 : q + 1 + (i - q) = i + 1 := by omega
      rw [hi1] at O6
      go_roundw
      case rel => exact ⟨i + 1, g6, c6, xs.take q ++ [(i : Int)] ++ xs.drop q, by omega, by go_num, by rw [hi1], O6, HO.put, DF⟩
      case measure => simp [intOf]; omega
    · obtain rfl : i = n := by omega
      go_wp2_with fail
      go_ret
      exact ⟨g, c1, xs, rfl, O, HO, D⟩
end Go.Proofs.YtajnhkkiddeegaaGreat
namespace Go.Proofs.YtajnhkkiddeegaaGreat
open Go.RowKit Go.Sort
theorem Box2F.keptP {w w' : World} {b p : Nat} {v0 v1 : Value} (h : Box2F w b v0 v1) (k : Kept (isP p) w w') (hp : p ≠ b) : Box2F w' b v0 v1 := h.kept k.grown (fun e => by injection e with e; omega)
/-- The call returns a drawn graph. -/
def RetD (P : Int → List (Int × Int) → Prop) (A : Option Addr) (l c p : Nat) (w : World) (e : Ending) (w' : World) : Prop := ∃ (n : Int) (g o c' : Nat) (es : List (Int × Int)), e = .returned (.agg #[.int .i64 n, .slice (some ⟨g, o, none⟩) es.length c']) ∧ Eds w' g o es.length es ∧ w.heap.size ≤ g ∧ P n es ∧ DR A l c p w w'
theorem wf_snoc {es : List (Int × Int)} {a b : Int} {P : Int × Int → Prop} (h : ∀ e ∈ es, P e) (hab : P (a, b)) : ∀ e ∈ es ++ [(a, b)], P e := fun e he => by
  rcases List.mem_append.1 he with h1 | h1
  · exact h e h1
  · rw [List.mem_singleton.1 h1]; exact hab
theorem DR.set2 {A : Option Addr} {l c p b : Nat} {w W : World} (S : SR A l c p w) (D : DR A l c p w W) (hb : w.heap.size ≤ b) (u v : Value) : DR A l c p w ((W.setCell ⟨b, 0, none⟩ u).setCell ⟨b, 1, none⟩ v) :=
  (DR.grown S D (row := some b) ⟨rfl, rfl, rfl, by simp, fun k _ hk => (Below.heap_setCell _ _ _ _ (fun e => hk (by rw [e]))).trans (Below.heap_setCell _ _ _ _ (fun e => hk (by rw [e])))⟩ (fun g hg => by injection hg with hg; omega))
def RngE (n : Int) (e : Int × Int) : Prop := 0 ≤ e.1 ∧ e.1 ≤ n - 1 ∧ 0 ≤ e.2 ∧ e.2 ≤ n - 1
set_option maxRecDepth 100000 in
set_option maxHeartbeats 4000000 in
theorem l01DrawOf_any (A : Option Addr) (l c p N : Nat) (w : World) (S : SR A l c p w) (hl : l ≤ 4096) (hN : 2 ≤ N ∧ N ≤ 20 ∧ N % 2 = 0) :
    Calls Tryz.prog 121 #[.pointer (some ⟨p, 0, none⟩), .int .i64 N] w (RetD (fun n es => n = N ∧ WfP n es) A l c p w) := by
  have KC := cell_rg
  have hpw := S.lt
  have HS0 := Lib.hid S
  have HB := Lib.hid (Box2F.made w (.int .i64 0) (.slice none 0 0) 26)
  have D1 : DR A l c p w (w.alloc (.cells #[.int .i64 0, .slice none 0 0] 26)) := DR.ofB S ((Below.refl _ _).alloc (Nat.le_refl _) _)
  have HDO := Lib.hid (fun W (hS : SR A l c p W) => l01DrawOrder_any A l c p (3 * N) W hS hl (by omega))
  have h3N : IntKind.i64.wrap (3 * (N : Int)) = ((3 * N : Nat) : Int) := by rw [IntWalk.i64_in _ (by omega)]; omega
  obtain ⟨T, hT⟩ : ∃ T, T = 3 * N := ⟨_, rfl⟩
  have HT := Lib.hid hT
  rw [← hT] at HDO h3N
  clear hT
  have hT60 : T ≤ 60 := by have := HT.out; omega
  clear S
  go_enter Tryz.func121, Tryz.ntmps121
  go_wp2_with fail
  obtain ⟨w1, hw1⟩ : ∃ w1, w1 = w.alloc (.cells #[.int .i64 0, .slice none 0 0] 26) := ⟨_, rfl⟩
  rw [← hw1] at HB D1 ⊢
  obtain ⟨b4, hb4⟩ : ∃ b4, b4 = w.heap.size := ⟨_, rfl⟩
  have HB4 := Lib.hid hb4
  rw [← hb4] at HB ⊢
  have hpb : p < b4 := by omega
  clear hw1 hb4
  go_loopw [5] (fun kv wv => ∃ k : Nat, k ≤ 20 ∧ kv = .int .i64 k ∧ DR A l c p w wv ∧ Box2F wv b4 (.int .i64 0) (.slice none 0 0)) (fun k _ => 20 - (intOf k).toNat)
  case atStart => exact ⟨0, Nat.zero_le _, rfl, D1, HB.out⟩
  case round =>
    clear HB D1
    obtain ⟨k, hk, rfl, D, PB⟩ := hrel
    obtain ⟨w4, rfl⟩ : ∃ w4, w4 = wr := ⟨wr, rfl⟩
    by_cases hk20 : k < 20
    · go_wp2_with fail
      refine (HDO.out _ D.2).mono ?_
      rintro e w5 ⟨g, c5, xs, rfl, O5, HO, D5⟩
      have PB5 := PB.keptP D5.1 (by omega)
      have hz45 := D5.1.size
      have DD := D.trans D5
      clear D D5 PB
      go_wp2_with fail
      have hT2 := Lib.hid HT.out
      have O6 : OwnE w5.heap.size (w5.alloc (.cells #[] 78)) w5.heap.size 0 0 [] := OwnE.empty _ _ _ (Nat.le_refl _) (heap_alloc_new w5 _)
      have hb6 : Below w5.heap.size w5 (w5.alloc (.cells #[] 78)) := (Below.refl _ _).alloc (Nat.le_refl _) _
      obtain ⟨w6, hw6⟩ : ∃ w6, w6 = w5.alloc (.cells #[] 78) := ⟨_, rfl⟩
      rw [← hw6] at O6 hb6 ⊢
      clear hw6
      go_loopw [7, 8, 9] (fun ev gv kv wv => ∃ (j i : Nat) (A2 : Option Addr) (c2 : Nat) (es : List (Int × Int)) (gd : Bool), Hid (i = 2 * j) ∧ i ≤ T ∧ kv = .int .i64 i ∧ ev = .slice A2 j c2 ∧ gv = .bool gd ∧ OwnEA w5.heap.size wv A2 j c2 es ∧ (∀ e ∈ es, RngE N e) ∧ (gd = true → ∀ e ∈ es, e.1 ≠ e.2) ∧ Below w5.heap.size w5 wv) (fun _ _ k _ => T - (intOf k).toNat)
      case atStart => exact ⟨0, 0, _, _, [], true, rfl, Nat.zero_le _, rfl, rfl, rfl, O6.any, by simp, by simp, hb6⟩
      case round =>
        clear O6 hb6
        obtain ⟨j, i, A2, c2, es, gd, hij, hi, rfl, rfl, rfl, OE, hrg, hgd, hbv⟩ := hrel
        obtain ⟨w7, rfl⟩ : ∃ w7, w7 = wr := ⟨wr, rfl⟩
        have hHR := Lib.hid hrg
        have hHG := Lib.hid hgd
        clear hrg hgd
        by_cases hlt : i < T
        · have hi1 : i + 1 < T := by have := hij.out; have := HT.out; omega
          have hj30 : j ≤ 1048576 := by have := hij.out; omega
          have O7 := O5.below hbv
          obtain ⟨bb, oo, e0, I⟩ := O7.src (by omega)
          injection e0 with e0
          injection e0 with e1 e2
          subst e1 e2
          have d1 := I.c i hlt
          have d2 := I.c (i + 1) hi1
          rw [Nat.zero_add] at d1 d2
          have zb := I.blk
          have hr1 := HO.at hlt
          have hr2 := HO.at hi1
          obtain ⟨x, hx⟩ : ∃ x : Nat, ia xs i = x := ⟨(ia xs i).toNat, by omega⟩
          obtain ⟨y, hy⟩ : ∃ y : Nat, ia xs (i + 1) = y := ⟨(ia xs (i + 1)).toNat, by omega⟩
          rw [hx] at d1 hr1
          rw [hy] at d2 hr2
          have dv1 : (x : Int) / 3 = ((x / 3 : Nat) : Int) := by simp
          have dv2 : (y : Int) / 3 = ((y / 3 : Nat) : Int) := by simp
          have dw1 : (x : Int).tdiv 3 = ((x / 3 : Nat) : Int) := by rw [Int.tdiv_eq_ediv_of_nonneg (by omega), dv1]
          have dw2 : (y : Int).tdiv 3 = ((y / 3 : Nat) : Int) := by rw [Int.tdiv_eq_ediv_of_nonneg (by omega), dv2]
          obtain ⟨q1, hq1⟩ : ∃ q1, q1 = x / 3 := ⟨_, rfl⟩
          obtain ⟨q2, hq2⟩ : ∃ q2, q2 = y / 3 := ⟨_, rfl⟩
          have hl1 : q1 ≤ N - 1 := by have := HT.out; omega
          have hl2 : q2 ≤ N - 1 := by have := HT.out; omega
          rw [← hq1] at dv1 dw1
          rw [← hq2] at dv2 dw2
          have hwq1 : IntKind.i64.wrap (q1 : Int) = (q1 : Int) := IntWalk.i64_in _ (by omega)
          have hwq2 : IntKind.i64.wrap (q2 : Int) = (q2 : Int) := IntWalk.i64_in _ (by omega)
          clear hq1 hq2 hx hy hr1 hr2 O7 I
          go_wp2_with fail
          (refine wp_region_quiet_below (by kernel_rfl) (by kernel_rfl) ?_
           repeat (any_goals (go_big_quiet_step (first | fail)))
           all_goals (refine wpQuiet_nil ?_; intro wq1 hq1; replace hq1 := below_of_rg hq1))
          have OE := OE.below hq1
          have hbv := hbv.andB hq1
          have hz7 := hbv.size
          clear d1 d2 zb hq1
          have hbF : ∀ w8, wq1.grownBy w8 (blkOf A2) → Below w5.heap.size w5 w8 := fun w8 hg8 => hbv.grown hg8 hz7 (fun g hg => (OE.blk g hg).1)
          have hR6 := Lib.hid (wf_snoc (a := (q1 : Int)) (b := (q2 : Int)) hHR.out (by unfold RngE; simp only; omega))
          cases gd with
          | false =>
            go_wp2_with (at_builtin; refine wp_appEA1 rfl rfl rfl rfl rfl OE hz7 hj30 ?_; intro A6 c6 w8 O8 hg8 hat8)
            go_roundw
            case rel => exact ⟨j + 1, i + 2, A6, c6, _, false, (by show _ = _; have := hij.out; omega), by omega, by go_num, rfl, rfl, O8, hR6.out, (fun h => nomatch h), hbF _ hg8⟩
            case measure => simp [intOf]; omega
          | true =>
            go_wp2_with (at_builtin; refine wp_appEA1 rfl rfl rfl rfl rfl OE hz7 hj30 ?_; intro A6 c6 w8 O8 hg8 hat8)
            go_roundw
            case rel => exact ⟨j + 1, i + 2, A6, c6, _, ((q1 : Int) != q2), (by show _ = _; have := hij.out; omega), by omega, by go_num, rfl, rfl, O8, hR6.out, fun h => wf_snoc (P := fun e => e.1 ≠ e.2) (hHG.out rfl) (by simpa using h), hbF _ hg8⟩
            case measure => simp [intOf]; omega
        · obtain rfl : i = T := by omega
          have hj0 : 0 < j := by have := hij.out; have := HT.out; omega
          have PB7 := PB5.below hbv
          have DV := DD.thenB hbv
          cases gd with
          | false =>
            go_wp2_with fail
            go_roundw
            case rel => exact ⟨k + 1, by omega, by go_num, DV, PB7⟩
            case measure => simp [intOf]; omega
          | true =>
            obtain ⟨g2, rfl, OG⟩ : ∃ g2, A2 = some ⟨g2, 0, none⟩ ∧ OwnE w5.heap.size w7 g2 j c2 es := by
              rcases OE.cases with ⟨_, h0, _⟩ | h0
              · omega
              · exact h0
            have hes := OG.eds.len
            have hwf : WfP N (srtE es) := wfP_srt (by omega) (by have := hij.out; have := HT.out; omega) (fun e he => by
              have h1 := hHR.out e he
              have h2 := hHG.out rfl e he
              exact ⟨h1.1, h1.2.1, h1.2.2.1, h1.2.2.2, h2⟩)
            have HMD := Lib.hid (l01Made_any N g2 0 j c2 es w7 OG.eds (by have := hij.out; omega))
            have hbw4 : w.heap.size = b4 := HB4.out.symm
            have hwz := DV.1.size
            clear OE OG PB5 DD O5 hbv hHR hHG
            go_wp2_with fail
            refine HMD.out.mono ?_
            rintro e w8 ⟨g6, c6, rfl, O8, hb8⟩
            have PW := PB7.below hb8
            have DW := DV.thenB hb8
            have hgO := O8.ge
            have hb4l := PB7.box.lt
            have O9 := (O8.setOther (a := ⟨b4, 0, none⟩) (by simp; omega) (.int .i64 N)).setOther (a := ⟨b4, 1, none⟩) (by simp; omega) (.slice (some ⟨g6, 0, none⟩) (srtE es).length c6)
            have P9 := PW.set2 (.int .i64 N) (.slice (some ⟨g6, 0, none⟩) (srtE es).length c6)
            have D9 := DR.set2 HS0.out DW (b := b4) (by omega) (.int .i64 N) (.slice (some ⟨g6, 0, none⟩) (srtE es).length c6)
            obtain ⟨⟨sW, pW, qW⟩, fW, gW⟩ := PW
            clear O8 DW DV PB7
            go_wp2_with fail
            generalize hw9 : (World.setCell (World.setCell _ ⟨b4, 0, none⟩ (.int .i64 N)) ⟨b4, 1, none⟩ (.slice (some ⟨g6, 0, none⟩) (srtE es).length c6)) = w9 at O9 P9 D9 ⊢
            clear hw9 pW qW
            obtain ⟨⟨k0, k1, k2⟩, _, _⟩ := P9
            refine bodyPost_ret (v := .agg #[.int .i64 N, .slice (some ⟨g6, 0, none⟩) (srtE es).length c6]) ?_ rfl ⟨N, g6, 0, c6, srtE es, rfl, O9.eds, by omega, ⟨rfl, hwf⟩, D9⟩
            simp [results, Tryz.results121, go_sem, k1, k2]
    · have hM2 : (N : Int) / 2 = ((N / 2 : Nat) : Int) := by simp
      have hM3 : (N : Int).tdiv 2 = ((N / 2 : Nat) : Int) := by rw [Int.tdiv_eq_ediv_of_nonneg (by omega), hM2]
      obtain ⟨M, hM⟩ : ∃ M, M = N / 2 := ⟨_, rfl⟩
      rw [← hM] at hM2 hM3
      have HM : Hid (N = 2 * M) := by show _ = _; omega
      have hwM : IntKind.i64.wrap (M : Int) = (M : Int) := IntWalk.i64_in _ (by omega)
      clear hM
      have O6 : OwnE w4.heap.size (w4.alloc (.cells #[] 78)) w4.heap.size 0 0 [] := OwnE.empty _ _ _ (Nat.le_refl _) (heap_alloc_new w4 _)
      have hb6 : Below w4.heap.size w4 (w4.alloc (.cells #[] 78)) := (Below.refl _ _).alloc (Nat.le_refl _) _
      go_wp2_with fail
      obtain ⟨w6, hw6⟩ : ∃ w6, w6 = w4.alloc (.cells #[] 78) := ⟨_, rfl⟩
      rw [← hw6] at O6 hb6 ⊢
      clear hw6
      go_loopw [12, 13] (fun ev kv wv => ∃ (i j : Nat) (A2 : Option Addr) (c2 : Nat) (es : List (Int × Int)), i ≤ N ∧ Hid (j = i + min i M) ∧ kv = .int .i64 i ∧ ev = .slice A2 j c2 ∧ OwnEA w4.heap.size wv A2 j c2 es ∧ (∀ e ∈ es, WfE N e) ∧ Below w4.heap.size w4 wv) (fun _ k _ => N - (intOf k).toNat)
      case atStart => exact ⟨0, 0, _, _, [], Nat.zero_le _, by show _ = _; omega, rfl, rfl, O6.any, by simp, hb6⟩
      case round =>
        clear O6 hb6
        obtain ⟨i, j, A2, c2, es, hi, hij, rfl, rfl, OE, hrg, hbv⟩ := hrel
        obtain ⟨w7, rfl⟩ : ∃ w7, w7 = wr := ⟨wr, rfl⟩
        have hHR := Lib.hid hrg
        have hz7 := hbv.size
        have hj40 : j ≤ 1048576 := by have := hij.out; omega
        clear hrg
        by_cases hlt : i < N
        · have hr2 : ((i : Int) + 1) % N = (((i + 1) % N : Nat) : Int) := by simp
          have hr3 : ((i : Int) + 1).tmod N = (((i + 1) % N : Nat) : Int) := by rw [Int.tmod_eq_emod_of_nonneg (by omega), hr2]
          have hrN : (i + 1) % N < N := Nat.mod_lt _ (by omega)
          have hrne : (i + 1) % N ≠ i := by
            by_cases h1 : i + 1 < N
            · rw [Nat.mod_eq_of_lt h1]; omega
            · rw [show i + 1 = N by omega, Nat.mod_self]; omega
          obtain ⟨r, hr⟩ : ∃ r, r = (i + 1) % N := ⟨_, rfl⟩
          rw [← hr] at hr2 hr3 hrN hrne
          clear hr
          have hwi : IntKind.i64.wrap ((i : Int) + 1) = (i : Int) + 1 := IntWalk.i64_in _ (by omega)
          have hR6 := Lib.hid (wf_snoc (a := (i : Int)) (b := (r : Int)) hHR.out (by unfold WfE; simp only; omega))
          have hbF : ∀ w8, w7.grownBy w8 (blkOf A2) → Below w4.heap.size w4 w8 := fun w8 hg8 => hbv.grown hg8 hz7 (fun g hg => (OE.blk g hg).1)
          by_cases hiM : i < M
          · have hwm : IntKind.i64.wrap ((i : Int) + M) = (i : Int) + M := IntWalk.i64_in _ (by omega)
            have hR7 := Lib.hid (wf_snoc (a := (i : Int)) (b := (i : Int) + M) hR6.out (by unfold WfE; simp only; have := HM.out; omega))
            have hj41 : j + 1 ≤ 1048576 := by have := hij.out; omega
            go_wp2_with (first
              | (at_builtin; refine wp_appEA1 rfl rfl rfl rfl rfl OE hz7 hj40 ?_; intro A6 c6 w8 O8 hg8 hat8)
              | (at_builtin; refine wp_appEA1 rfl rfl rfl rfl rfl O8 (Nat.le_trans hz7 hg8.size) hj41 ?_; intro A9 c9 w9 O9 hg9 hat9))
            have hb8 := hbF _ hg8
            have hb9 : Below w4.heap.size w4 w9 := hb8.grown hg9 hb8.size (fun g hg => (O8.blk g hg).1)
            go_roundw
            case rel => exact ⟨i + 1, j + 1 + 1, A9, c9, _, by omega, (by show _ = _; have := hij.out; omega), by go_num, rfl, O9, hR7.out, hb9⟩
            case measure => simp [intOf]; omega
          · go_wp2_with (at_builtin; refine wp_appEA1 rfl rfl rfl rfl rfl OE hz7 hj40 ?_; intro A6 c6 w8 O8 hg8 hat8)
            have hb8 := hbF _ hg8
            go_roundw
            case rel => exact ⟨i + 1, j + 1, A6, c6, _, by omega, (by show _ = _; have := hij.out; omega), by go_num, rfl, O8, hR6.out, hb8⟩
            case measure => simp [intOf]; omega
        · obtain rfl : i = N := by omega
          have hj0 : 0 < j := by have := hij.out; omega
          have PB7 := PB.below hbv
          have DV := D.thenB hbv
          obtain ⟨g2, rfl, OG⟩ : ∃ g2, A2 = some ⟨g2, 0, none⟩ ∧ OwnE w4.heap.size w7 g2 j c2 es := by
            rcases OE.cases with ⟨_, h0, _⟩ | h0
            · omega
            · exact h0
          have hes := OG.eds.len
          have hwf : WfP i (srtE es) := wfP_srt (by omega) (by have := hij.out; have := HM.out; omega) hHR.out
          have HMD := Lib.hid (l01Made_any i g2 0 j c2 es w7 OG.eds hj40)
          have hbw4 : w.heap.size = b4 := HB4.out.symm
          have hwz := DV.1.size
          clear OE OG hbv hHR
          go_wp2_with fail
          refine HMD.out.mono ?_
          rintro e w8 ⟨g6, c6, rfl, O8, hb8⟩
          have PW := PB7.below hb8
          have DW := DV.thenB hb8
          have hgO := O8.ge
          have hb4l := PB7.box.lt
          have O9 := (O8.setOther (a := ⟨b4, 0, none⟩) (by simp; omega) (.int .i64 i)).setOther (a := ⟨b4, 1, none⟩) (by simp; omega) (.slice (some ⟨g6, 0, none⟩) (srtE es).length c6)
          have P9 := PW.set2 (.int .i64 i) (.slice (some ⟨g6, 0, none⟩) (srtE es).length c6)
          have D9 := DR.set2 HS0.out DW (b := b4) (by omega) (.int .i64 i) (.slice (some ⟨g6, 0, none⟩) (srtE es).length c6)
          obtain ⟨⟨sW, pW, qW⟩, fW, gW⟩ := PW
          clear O8 DW DV PB7
          go_wp2_with fail
          generalize hw9 : (World.setCell (World.setCell _ ⟨b4, 0, none⟩ (.int .i64 i)) ⟨b4, 1, none⟩ (.slice (some ⟨g6, 0, none⟩) (srtE es).length c6)) = w9 at O9 P9 D9 ⊢
          clear hw9 pW qW
          obtain ⟨⟨k0, k1, k2⟩, _, _⟩ := P9
          refine bodyPost_ret (v := .agg #[.int .i64 i, .slice (some ⟨g6, 0, none⟩) (srtE es).length c6]) ?_ rfl ⟨i, g6, 0, c6, srtE es, rfl, O9.eds, by omega, ⟨rfl, hwf⟩, D9⟩
          simp [results, Tryz.results121, go_sem, k1, k2]
end Go.Proofs.YtajnhkkiddeegaaGreat
namespace Go.Proofs.YtajnhkkiddeegaaGreat
open Go.RowKit Go.Sort
def nmL : List ByteArray := [⟨#[116, 104, 101, 116, 97]⟩, ⟨#[107, 52]⟩, ⟨#[107, 51, 51]⟩, ⟨#[112, 114, 105, 115, 109]⟩, ⟨#[99, 117, 98, 101]⟩, ⟨#[112, 101, 116, 101, 114, 115, 101, 110]⟩, ⟨#[116, 105, 101, 116, 122, 101]⟩, ⟨#[102, 108, 111, 119, 101, 114, 53]⟩, ⟨#[98, 114, 105, 100, 103, 101]⟩]
theorem nm_cell (w : World) (L : List ByteArray) (t : TypeId) (x : Nat) (hx : x < L.length) : (w.alloc (.cells (L.map Value.string).toArray t)).cell? ⟨w.heap.size, x, none⟩ = some (.string (L.getD x ⟨#[]⟩)) := by
  rw [cell_of_row _ _ _ _ _ _ (heap_alloc_new w _)]; simp [hx]
def RetNm (w : World) (e : Ending) (w' : World) : Prop := ∃ (N : Nat) (es : List (Int × Int)), RetGB N es true w e w' ∧ WfP N es
theorem named_any (w : World) (s : ByteArray) : ∀ k : Nat, k < 9 → s = nmL.getD k ⟨#[]⟩ → Calls Tryz.prog 120 #[.string s] w (RetNm w)
  | 0, _, h => (spN_theta s w (by rw [h]; exact Lib.toList_data _)).mono fun e w' h => ⟨2, _, h, wf_theta⟩
  | 1, _, h => (spN_k4 s w (by rw [h]; exact Lib.toList_data _)).mono fun e w' h => ⟨4, _, h, wf_k4⟩
  | 2, _, h => (spN_k33 s w (by rw [h]; exact Lib.toList_data _)).mono fun e w' h => ⟨6, _, h, wf_k33⟩
  | 3, _, h => (spN_prism s w (by rw [h]; exact Lib.toList_data _)).mono fun e w' h => ⟨6, _, h, wf_prism⟩
  | 4, _, h => (spN_cube s w (by rw [h]; exact Lib.toList_data _)).mono fun e w' h => ⟨8, _, h, wf_cube⟩
  | 5, _, h => (spN_petersen s w (by rw [h]; exact Lib.toList_data _)).mono fun e w' h => ⟨10, _, h, wf_petersen⟩
  | 6, _, h => (spN_tietze s w (by rw [h]; exact Lib.toList_data _)).mono fun e w' h => ⟨12, _, h, wf_tietze⟩
  | 7, _, h => (spN_flower5 s w (by rw [h]; exact Lib.toList_data _)).mono fun e w' h => ⟨20, _, h, wf_flower5⟩
  | 8, _, h => (spN_bridge s w (by rw [h]; exact Lib.toList_data _)).mono fun e w' h => ⟨10, _, h, wf_bridge⟩
  | k + 9, hk, _ => absurd hk (by omega)
theorem l01Names_any (w : World) : Calls Tryz.prog 119 #[] w (fun e w' => e = .returned (.slice (some ⟨w.heap.size, 0, none⟩) 9 9) ∧ w' = w.alloc (.cells (nmL.map Value.string).toArray 9)) := by
  go_enter Tryz.func119, Tryz.ntmps119
  go_wp2_with fail
  go_ret
  exact ⟨rfl, rfl⟩
def OrdV (p N : Nat) (v : Value) (W : World) : Prop := ∃ (g c' : Nat) (xs : List Int), v = .slice (some ⟨g, 0, none⟩) N c' ∧ g ≠ p ∧ Ints W g 0 N (ia xs) ∧ OrdL N xs
theorem OrdV.dr {A : Option Addr} {l c p N : Nat} {v : Value} {W W' : World} (h : OrdV p N v W) (hb : DR A l c p W W') : OrdV p N v W' := by
  obtain ⟨g, c', xs, e, hg, I, HO⟩ := h
  exact ⟨g, c', xs, e, hg, hb.1.ints I hg, HO⟩
theorem Eds.setOther {w : World} {b o m : Nat} {es : List (Int × Int)} (E : Eds w b o m es) {a : Addr} (ha : a.block ≠ b) (v : Value) : Eds (w.setCell a v) b o m es :=
  ((Kept.refl (fun k => k = a.block) w).setCell rfl v).eds E (fun h => ha h.symm)
theorem ints_of9 (w : World) (xs : List Int) (t : TypeId) : Ints (w.alloc (.cells (xs.map (Value.int .i64)).toArray t)) w.heap.size 0 xs.length (ia xs) :=
  ⟨by simp, fun j hj => by rw [cell_of_row _ _ _ _ _ _ (heap_alloc_new w _)]; simp [ia, hj]⟩
theorem even_lit {xs : List Int} (h : ∀ v ∈ xs, 2 ≤ v ∧ v ≤ 20 ∧ v % 2 = 0) {k : Nat} (hk : k < xs.length) : ∃ N : Nat, ia xs k = N ∧ 2 ≤ N ∧ N ≤ 20 ∧ N % 2 = 0 := by
  have := h _ (ia_mem hk)
  exact ⟨(ia xs k).toNat, by omega, by omega, by omega, by omega⟩
set_option maxRecDepth 100000 in
set_option maxHeartbeats 4000000 in
theorem l01Small_any (A : Option Addr) (l c p : Nat) (w : World) (S : SR A l c p w) (hl : l ≤ 4096) :
    Calls Tryz.prog 85 #[.pointer (some ⟨p, 0, none⟩)] w (RetD (fun n es => WfP n es) A l c p w) := by
  have KC := cell_rg
  have hpw := S.lt
  have HS0 := Lib.hid S
  have HB := Lib.hid (Box2F.made w (.int .i64 0) (.slice none 0 0) 26)
  have D1 : DR A l c p w (w.alloc (.cells #[.int .i64 0, .slice none 0 0] 26)) := DR.ofB S ((Below.refl _ _).alloc (Nat.le_refl _) _)
  have HNX := Lib.hid (fun (k : Int) W (hS : SR A l c p W) => l01Next_any A l c p k W hS hl)
  have HDOR := Lib.hid (fun (N : Nat) W (hS : SR A l c p W) (hN : N ≤ 100) => l01DrawOrder_any A l c p N W hS hl hN)
  have HDOF := Lib.hid (fun (N : Nat) W (hS : SR A l c p W) (hN : 2 ≤ N ∧ N ≤ 20 ∧ N % 2 = 0) => l01DrawOf_any A l c p N W hS hl hN)
  clear S
  go_enter Tryz.func85, Tryz.ntmps85
  go_wp2_with fail
  obtain ⟨w1, hw1⟩ : ∃ w1, w1 = w.alloc (.cells #[.int .i64 0, .slice none 0 0] 26) := ⟨_, rfl⟩
  rw [← hw1] at HB D1 ⊢
  obtain ⟨b4, hb4⟩ : ∃ b4, b4 = w.heap.size := ⟨_, rfl⟩
  have HB4 := Lib.hid hb4
  rw [← hb4] at HB ⊢
  have hpb : p < b4 := by omega
  clear hw1 hb4
  refine (HNX.out 4 _ D1.2).mono ?_
  rintro e w2 ⟨x, rfl, hx, D2⟩
  have PB := HB.out.keptP D2.1 (by omega)
  have D := D1.trans D2
  clear HB D1 D2
  by_cases hx0 : x = 0
  · subst hx0
    clear hx
    go_wp2_with fail
    have D3 : DR A l c p w (w2.alloc (.cells ((nmL.take 6).map Value.string).toArray 9)) := D.thenB ((Below.refl _ _).alloc (Nat.le_refl _) _)
    have PB3 : Box2F (w2.alloc (.cells ((nmL.take 6).map Value.string).toArray 9)) b4 (.int .i64 0) (.slice none 0 0) := PB.below ((Below.refl _ _).alloc (Nat.le_refl _) _)
    have HNC := Lib.hid (fun x hx => nm_cell w2 (nmL.take 6) 9 x hx)
    have hz3 : w2.heap.size < (w2.alloc (.cells ((nmL.take 6).map Value.string).toArray 9)).heap.size := by simp
    refine (HNX.out 6 (w2.alloc (.cells ((nmL.take 6).map Value.string).toArray 9)) D3.2).mono ?_
    rintro e w4 ⟨y, rfl, hy, D4⟩
    obtain ⟨yn, rfl⟩ : ∃ yn : Nat, y = yn := ⟨y.toNat, by have := hy.1; omega⟩
    have hy6 : yn < 6 := by have := hy.2.1 (by omega); omega
    have hz2 := D.1.size
    have hy9 : (nmL.take 6).getD yn ⟨#[]⟩ = nmL.getD yn ⟨#[]⟩ := by simp [List.getElem?_take, hy6]
    have cy := (D4.cell (a := ⟨w2.heap.size, yn, none⟩) hz3 (by simp only; omega) rfl).trans (HNC.out yn (by show yn < 6; omega))
    have zb : w2.heap.size < w4.heap.size := Nat.lt_of_lt_of_le hz3 D4.1.size
    have PB4 := PB3.keptP D4.1 (by omega)
    have D := D3.trans D4
    have hz4 := D.1.size
    obtain ⟨s, hs⟩ : ∃ s, s = (nmL.take 6).getD yn ⟨#[]⟩ := ⟨_, rfl⟩
    rw [← hs] at cy
    have HNM := Lib.hid (fun W => named_any W s yn (by omega) (hs.trans hy9))
    clear hy hs hy9 D3 D4 PB PB3 HNC hz3
    go_wp2_with fail
    refine (HNM.out w4).mono ?_
    rintro e w5 ⟨N, es, ⟨A5, c5, rfl, O5, hb5⟩, hwf⟩
    have hlen : (es.length : Int) = 3 * N / 2 := hwf.2.2.2.1
    have hN2 : 2 ≤ N ∧ N ≤ 20 := by have := hwf.1; have := hwf.2.1; omega
    obtain ⟨g, rfl, E5⟩ := O5.some (by omega)
    have hg := (O5.blk g rfl).1
    have D := D.thenB hb5
    have PB5 := PB4.below hb5
    clear O5 PB4 cy zb
    go_wp2_with fail
    have PG := Box2.made w5 (.int .i64 N) (.slice (some ⟨g, 0, none⟩) es.length c5) 26
    have hb6 : Below w5.heap.size w5 (w5.alloc (.cells #[.int .i64 N, .slice (some ⟨g, 0, none⟩) es.length c5] 26)) := (Below.refl _ _).alloc (Nat.le_refl _) _
    obtain ⟨w6, hw6⟩ : ∃ w6, w6 = w5.alloc (.cells #[.int .i64 N, .slice (some ⟨g, 0, none⟩) es.length c5] 26) := ⟨_, rfl⟩
    rw [← hw6] at PG hb6 ⊢
    clear hw6
    have hz5 := D.1.size
    obtain ⟨b5, hb5e⟩ : ∃ b5, b5 = w5.heap.size := ⟨_, rfl⟩
    rw [← hb5e] at PG ⊢
    have hb5p : p < b5 := by omega
    have E6 := E5.below hb6
    have PB6 := PB5.below hb6
    have D6 := D.thenB hb6
    have HSR := Lib.hid D6.2
    have HDO := Lib.hid (fun W (hS : SR A l c p W) => HDOR.out N W hS (by omega))
    have hgp : g ≠ p := by omega
    clear hb6 hb5 hb5e E5 PB5 D
    obtain ⟨s5, p5, q5⟩ := PG
    refine wp_region_then 5 (fun i9 v W => match i9 with
      | 0 => v = .agg #[.int .i64 (N : Int), .slice (some ⟨g, 0, none⟩) es.length c5]
      | 1 => v = .pointer (some ⟨p, 0, none⟩)
      | 2 => v = .pointer (some ⟨b5, 0, none⟩)
      | 3 => v = .int .i64 (N : Int)
      | _ => OrdV p N v W)
      (fun i => match i with
      | _ => none)
      (fun _ W W' => DR A l c p W W')  (fun W => DR A l c p w6 W) (by kernel_rfl) (by kernel_rfl) ?_ ?_ ?_ ?_ ?_
    · exact DR.ofB HSR.out ((Below.refl _ _).drew)
    · intro i k v W W' hne hd hC hf hE
      match i, hf with
      | 0, hf => exact hf
      | 1, hf => exact hf
      | 2, hf => exact hf
      | 3, hf => exact hf
      | _ + 4, hf => exact OrdV.dr hf hE
    · intro k W W' hC hE
      exact DR.trans hC hE
    · simp only [List.take_succ_cons, List.take_zero]
      refine ⟨?_, ?_, ?_, ?_, ?_, trivial⟩
      · intro a W hC hs hd
        have hW : DR A l c p w6 W := hC
        have e4 : a.tmps[4]?.getD undef = .pointer (some ⟨b5, 0, none⟩) := hs 4 (by kernel_rfl)
        refine growsG_none (E := fun W W' => DR A l c p W W') rfl ?_
        have k0 := (hW.cell (a := ⟨b5, 0, none⟩) (s5) (by simp only; omega) rfl).trans (p5)
        have k1 := (hW.cell (a := ⟨b5, 1, none⟩) (s5) (by simp only; omega) rfl).trans (q5)
        clear hs hd
        unfold GrowsE
        go_simp
        exact DR.refl hW.2
      · intro a W hC hs hd
        have hW : DR A l c p w6 W := hC
        have e0 : a.tmps[0]?.getD undef = .pointer (some ⟨p, 0, none⟩) := hs 0 (by kernel_rfl)
        refine growsG_none (E := fun W W' => DR A l c p W W') rfl ?_
        clear hs hd
        unfold GrowsE
        go_simp
        exact DR.refl hW.2
      · intro a W hC hs hd
        have hW : DR A l c p w6 W := hC
        have e4 : a.tmps[4]?.getD undef = .pointer (some ⟨b5, 0, none⟩) := hs 4 (by kernel_rfl)
        refine growsG_none (E := fun W W' => DR A l c p W W') rfl ?_
        have k0 := (hW.cell (a := ⟨b5, 0, none⟩) (s5) (by simp only; omega) rfl).trans (p5)
        have k1 := (hW.cell (a := ⟨b5, 1, none⟩) (s5) (by simp only; omega) rfl).trans (q5)
        clear hs hd
        unfold GrowsE
        go_simp
        exact DR.refl hW.2
      · intro a W hC hs hd
        have hW : DR A l c p w6 W := hC
        have e23 : (a.tmps[23]?.getD undef) = .pointer (some ⟨b5, 0, none⟩) := hd 2 23 (by kernel_rfl) (by kernel_rfl) (by kernel_rfl)
        refine growsG_none (E := fun W W' => DR A l c p W W') rfl ?_
        have k0 := (hW.cell (a := ⟨b5, 0, none⟩) (s5) (by simp only; omega) rfl).trans (p5)
        have k1 := (hW.cell (a := ⟨b5, 1, none⟩) (s5) (by simp only; omega) rfl).trans (q5)
        clear hs hd
        unfold GrowsE
        go_simp
        exact DR.refl hW.2
      · intro a W hC hs hd
        have hW : DR A l c p w6 W := hC
        have e22 : (a.tmps[22]?.getD undef) = .pointer (some ⟨p, 0, none⟩) := hd 1 22 (by kernel_rfl) (by kernel_rfl) (by kernel_rfl)
        have e24 : (a.tmps[24]?.getD undef) = .int .i64 (N : Int) := hd 3 24 (by kernel_rfl) (by kernel_rfl) (by kernel_rfl)
        refine growsG_none (E := fun W W' => DR A l c p W W') rfl ?_
        clear hs hd
        unfold GrowsE
        go_simp
        refine ⟨Below.refl _ _, (HDO.out W hW.2).mono ?_⟩
        rintro e w9 ⟨g9, c9, xs9, rfl, O9, HO9, D9⟩
        obtain ⟨bb, oo, e0, I9⟩ := O9.src (by omega)
        injection e0 with e0
        injection e0 with e1 e2
        subst e1 e2
        exact ⟨_, rfl, D9, g9, c9, xs9, rfl, (by have h1 := (O9.blk g9 rfl).1; have h2 := hW.2.lt; omega), I9, HO9⟩
    intro vs W hW hf
    have f21 : (vs 21) = .agg #[.int .i64 (N : Int), .slice (some ⟨g, 0, none⟩) es.length c5] := hf 0 21 (by decide) (by kernel_rfl) (fun _ hk => by cases hk)
    have f22 : (vs 22) = .pointer (some ⟨p, 0, none⟩) := hf 1 22 (by decide) (by kernel_rfl) (fun _ hk => by cases hk)
    have f23 : (vs 23) = .pointer (some ⟨b5, 0, none⟩) := hf 2 23 (by decide) (by kernel_rfl) (fun _ hk => by cases hk)
    have f24 : (vs 24) = .int .i64 (N : Int) := hf 3 24 (by decide) (by kernel_rfl) (fun _ hk => by cases hk)
    have f25 : OrdV p N (vs 25) W := hf 4 25 (by decide) (by kernel_rfl) (fun _ hk => by cases hk)
    obtain ⟨g25, c25, xs, f25, hg25, I25, HO25⟩ := f25
    simp only [dsts, List.take_succ_cons, List.take_zero, List.drop_succ_cons, List.drop_zero, List.filterMap_cons, List.filterMap_nil, List.foldl_cons, List.foldl_nil, Act.put, List.setIfInBounds_toArray, List.set_cons_succ, List.set_cons_zero, f21, f22, f23, f24, f25]
    clear hf
    have hW : DR A l c p w6 W := hW
    have E7 := hW.1.eds E6 hgp
    have PB7 := PB6.keptP hW.1 (by omega)
    have DV := D6.trans hW
    have hwz := DV.1.size
    have hbw4 : w.heap.size = b4 := HB4.out.symm
    have HRN := Lib.hid (l01Renamed_any N g 0 es.length c5 g25 0 N c25 es (ia xs) W E7 I25 hwf rfl)
    have hwf2 := Lib.hid (wfP_ren hwf HO25)
    obtain ⟨SL, hSL⟩ : ∃ SL, SL = srtE (es.map (rnE (ia xs))) := ⟨_, rfl⟩
    rw [← hSL] at HRN hwf2
    clear hW E6 PB6 D6 I25 HO25 hSL E7 s5 p5 q5
    go_wp2_with fail
    refine HRN.out.mono ?_
    rintro e w8 ⟨g6, c6, rfl, O8, hb8⟩
    have PW := PB7.below hb8
    have DW := DV.thenB hb8
    have hgO := O8.ge
    have hb4l := PB7.box.lt
    have O9 := (O8.setOther (a := ⟨b4, 0, none⟩) (by simp; omega) (.int .i64 N)).setOther (a := ⟨b4, 1, none⟩) (by simp; omega) (.slice (some ⟨g6, 0, none⟩) SL.length c6)
    have P9 := PW.set2 (.int .i64 N) (.slice (some ⟨g6, 0, none⟩) SL.length c6)
    have D9 := DR.set2 HS0.out DW (b := b4) (by omega) (.int .i64 N) (.slice (some ⟨g6, 0, none⟩) SL.length c6)
    obtain ⟨⟨sW, pW, qW⟩, fW, gW⟩ := PW
    clear O8 DW DV PB7
    go_wp2_with fail
    generalize hw9 : (World.setCell (World.setCell _ ⟨b4, 0, none⟩ (.int .i64 N)) ⟨b4, 1, none⟩ (.slice (some ⟨g6, 0, none⟩) SL.length c6)) = w9 at O9 P9 D9 ⊢
    clear hw9 pW qW
    obtain ⟨⟨k0, k1, k2⟩, _, _⟩ := P9
    refine bodyPost_ret (v := .agg #[.int .i64 N, .slice (some ⟨g6, 0, none⟩) SL.length c6]) ?_ rfl ⟨N, g6, 0, c6, SL, rfl, O9.eds, by omega, hwf2.out, D9⟩
    simp [results, Tryz.results85, go_sem, k1, k2]
  · go_wp2_with fail
    have D3 : DR A l c p w (w2.alloc (.cells (([2, 4, 4, 6, 6, 8, 8, 10] : List Int).map (Value.int .i64)).toArray 2)) := D.thenB ((Below.refl _ _).alloc (Nat.le_refl _) _)
    have PB3 : Box2F (w2.alloc (.cells (([2, 4, 4, 6, 6, 8, 8, 10] : List Int).map (Value.int .i64)).toArray 2)) b4 (.int .i64 0) (.slice none 0 0) := PB.below ((Below.refl _ _).alloc (Nat.le_refl _) _)
    have hz2 := D.1.size
    have HPK := Lib.hid (l01Pick_any A l c p w2.heap.size 0 8 8 (ia [2, 4, 4, 6, 6, 8, 8, 10]) _ D3.2 hl (ints_of9 w2 [2, 4, 4, 6, 6, 8, 8, 10] 2) (by omega) (by omega) (by omega))
    clear D PB
    go_wp2_with fail
    refine HPK.out.mono ?_
    rintro e w4 ⟨y, rfl, ⟨k, hk, hyk⟩, D4⟩
    obtain ⟨N, hN, hN2⟩ := even_lit (xs := [2, 4, 4, 6, 6, 8, 8, 10]) (by decide) (k := k) hk
    rw [hN] at hyk
    subst hyk
    have PB7 := PB3.keptP D4.1 (by omega)
    have DV := D3.trans D4
    have HOF := Lib.hid (HDOF.out N w4 DV.2 hN2)
    clear hN hk D3 D4 PB3 HPK
    go_wp2_with fail
    refine HOF.out.mono ?_
    rintro e w8 ⟨n8, g6, o6, c6, SL, rfl, E8, hg8, ⟨rfl, hwf⟩, D8⟩
    have PW := PB7.keptP D8.1 (by omega)
    have hwz := DV.1.size
    have DW := DV.trans D8
    have hb4l := PB7.box.lt
    have hbw4 : w.heap.size = b4 := HB4.out.symm
    have P9 := PW.set2 (.int .i64 N) (.slice (some ⟨g6, o6, none⟩) SL.length c6)
    have D9 := DR.set2 HS0.out DW (b := b4) (by omega) (.int .i64 N) (.slice (some ⟨g6, o6, none⟩) SL.length c6)
    have E9 := (E8.setOther (a := ⟨b4, 0, none⟩) (by simp only; omega) (.int .i64 N)).setOther (a := ⟨b4, 1, none⟩) (by simp only; omega) (.slice (some ⟨g6, o6, none⟩) SL.length c6)
    obtain ⟨⟨sW, pW, qW⟩, fW, gW⟩ := PW
    clear E8 DW DV PB7
    go_wp2_with fail
    generalize hw9 : (World.setCell (World.setCell _ ⟨b4, 0, none⟩ (.int .i64 N)) ⟨b4, 1, none⟩ (.slice (some ⟨g6, o6, none⟩) SL.length c6)) = w9 at E9 P9 D9 ⊢
    clear hw9 pW qW
    obtain ⟨⟨k0, k1, k2⟩, _, _⟩ := P9
    refine bodyPost_ret (v := .agg #[.int .i64 N, .slice (some ⟨g6, o6, none⟩) SL.length c6]) ?_ rfl ⟨N, g6, o6, c6, SL, rfl, E9, by omega, hwf, D9⟩
    simp [results, Tryz.results85, go_sem, k1, k2]
end Go.Proofs.YtajnhkkiddeegaaGreat
