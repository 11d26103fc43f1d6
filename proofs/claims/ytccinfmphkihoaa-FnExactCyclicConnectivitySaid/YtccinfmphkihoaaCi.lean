import Derived.Test.YtccinfmphkihoaaCk
import Derived.Test.YtccinfmphkihoaaAl
import Derived.Laws.EntriesVeiled
import Derived.Laws.AppendOwnNone
import Derived.Laws.OwnMore
namespace Go.Proofs.Ytccinfmphkihoaa
open Go.RowKit Go.Sort
/-! ### All sets of so many numbers -/
noncomputable def anyG (P : Nat → Bool) (m : Nat) : Nat → Nat → Nat → Bool
  | 0, _, s => P s
  | k + 1, from', s => B (∃ i, from' ≤ i ∧ i + (k + 1) ≤ m ∧ anyG P m k (i + 1) (s ||| 2 ^ i) = true)
theorem or_lt {s i m : Nat} (hs : s < 2 ^ m) (hi : i < m) : s ||| 2 ^ i < 2 ^ m := Nat.or_lt_two_pow hs (Nat.pow_lt_pow_of_lt (by decide) hi)
theorem pow30 {m : Nat} (hm : m ≤ 30) : 2 ^ m ≤ 1073741824 := Nat.pow_le_pow_right (n := 2) (by decide) hm
set_option maxRecDepth 100000 in
set_option maxHeartbeats 2000000 in
theorem grow_any (f : FuncId) (gv : Value) (P : Nat → Bool) (m bd bm bg : Nat) (w0 : World) (he : Enters f) (hm : m ≤ 30)
    (cd : w0.cell? ⟨bd, 0, none⟩ = some (.func (.func f) #[gv] #[])) (cm : w0.cell? ⟨bm, 0, none⟩ = some (.int .i64 m))
    (cg : w0.cell? ⟨bg, 0, none⟩ = some (.func (.func 90) #[] #[.pointer (some ⟨bd, 0, none⟩), .pointer (some ⟨bm, 0, none⟩), .pointer (some ⟨bg, 0, none⟩)]))
    (hf : ∀ s : Nat, s < 2 ^ m → ∀ W, Below w0.heap.size w0 W → Calls Try.prog f #[gv, .int .u64 s] W (Ret (.bool (P s)) W)) :
    ∀ (k from' s : Nat) (w : World), k ≤ 4 → from' ≤ m → s < 2 ^ m → Below w0.heap.size w0 w →
      Calls Try.prog 90 #[.int .u64 s, .int .i64 from', .int .i64 k, .pointer (some ⟨bd, 0, none⟩), .pointer (some ⟨bm, 0, none⟩), .pointer (some ⟨bg, 0, none⟩)] w (Ret (.bool (anyG P m k from' s)) w) := by
  have KC := cell_rg
  have hF := Lib.hid hf
  have he1 := he
  unfold Enters at he1
  have hbd : bd < w0.heap.size := World.block_lt_of_cell? w0 _ cd
  have hbm : bm < w0.heap.size := World.block_lt_of_cell? w0 _ cm
  have hbg : bg < w0.heap.size := World.block_lt_of_cell? w0 _ cg
  have CD := Lib.hid cd
  have CM := Lib.hid cm
  have CG := Lib.hid cg
  have h30 := pow30 hm
  clear hf he cd cm cg
  intro k
  induction k with
  | zero =>
    intro from' s w _ hfr hs hB
    have d1 := (hB.cell (p := ⟨bd, 0, none⟩) hbd).trans CD.out
    have d2 : bd < w.heap.size := Nat.lt_of_lt_of_le hbd hB.size
    rw [show ((0 : Nat) : Int) = 0 from rfl]
    go_enter Try.func90, Try.ntmps90
    go_wp2_with fail
    refine (hF.out s hs _ hB).mono ?_
    rintro e w1 ⟨rfl, hb1⟩
    go_wp2_with fail
    go_ret
    exact ⟨rfl, hb1⟩
  | succ k ih =>
    intro from' s w hk4 hfr hs hB
    obtain ⟨K, hK⟩ : ∃ K, K = k + 1 := ⟨_, rfl⟩
    have HAG : Hid (anyG P m (k + 1) from' s = B (∃ i, from' ≤ i ∧ i + K ≤ m ∧ anyG P m k (i + 1) (s ||| 2 ^ i) = true)) := by subst hK; rfl
    have hK4 : K ≤ 4 := by omega
    have hK1 : 1 ≤ K := by omega
    have hk0 : ((K : Int) == 0) = false := by simp; omega
    have hw1 : IntKind.i64.wrap ((K : Int) - 1) = (k : Int) := by rw [IntWalk.i64_in _ (by omega)]; omega
    have IH := Lib.hid ih
    rw [show (((k + 1 : Nat)) : Int) = (K : Int) by rw [hK]]
    clear ih hK
    go_enter Try.func90, Try.ntmps90
    go_wp2_with fail
    go_loopw [10] (fun iv wr => ∃ i : Nat, from' ≤ i ∧ i ≤ m ∧ iv = .int .i64 i ∧ Hid (∀ j, from' ≤ j → j < i → anyG P m k (j + 1) (s ||| 2 ^ j) = false) ∧ Below w.heap.size w wr) (fun i _ => m + 1 - (intOf i).toNat)
    case atStart => exact ⟨from', Nat.le_refl _, hfr, rfl, (fun j h1 h2 => absurd h2 (by omega)), Below.refl _ _⟩
    case round =>
      obtain ⟨i, hfi, hi, rfl, HP, hbr⟩ := hrel
      have hBr := hB.trans (hbr.mono hB.size)
      have m1 := (hBr.cell (p := ⟨bm, 0, none⟩) hbm).trans CM.out
      have m2 : bm < wr.heap.size := Nat.lt_of_lt_of_le hbm hBr.size
      have hwik : IntKind.i64.wrap ((i : Int) + (K : Int)) = (i : Int) + (K : Int) := IntWalk.i64_in _ (by omega)
      by_cases hlt : i + K ≤ m
      · have hlt' : (i : Int) + (K : Int) ≤ (m : Int) := by omega
        have g1 := (hBr.cell (p := ⟨bg, 0, none⟩) hbg).trans CG.out
        have g2 : bg < wr.heap.size := Nat.lt_of_lt_of_le hbg hBr.size
        have hp : (2 : Nat) ^ i < 18446744073709551616 := Nat.lt_of_lt_of_le (Nat.pow_lt_pow_of_lt (a := 2) (by decide) (by omega : i < 64)) (by decide)
        have hw : IntKind.u64.wrap (2 ^ i) = ((2 ^ i : Nat) : Int) := by
          rw [show ((2 : Int) ^ i) = ((2 ^ i : Nat) : Int) by simp, IntKind.wrap_u64]
          generalize (2 : Nat) ^ i = x at hp
          omega
        have ho : bits .or .u64 (s : Int) (IntKind.u64.wrap (2 ^ i)) = ((s ||| 2 ^ i : Nat) : Int) := by
          rw [hw, u64_or_nat _ _ (by omega) hp]
        obtain ⟨S, hS⟩ : ∃ S, S = s ||| 2 ^ i := ⟨_, rfl⟩
        obtain ⟨r, hr⟩ : ∃ r, r = anyG P m k (i + 1) S := ⟨_, rfl⟩
        have hSl : S < 2 ^ m := by rw [hS]; exact or_lt hs (by omega)
        have hREC : ∀ d oz, Calls Try.prog 90 #[.int .u64 S, .int .i64 ((i : Int) + 1), .int .i64 k, .pointer (some ⟨bd, 0, none⟩), .pointer (some ⟨bm, 0, none⟩), .pointer (some ⟨bg, 0, none⟩)] (grow (redrawn wr d) oz) fun e w'' => e = .returned (.bool r) ∧ ∃ p : Regrown, w'' = grow (redrawn wr p.d) p.os := fun d oz =>
          Ret.rg (hr ▸ IH.out (i + 1) S _ (by omega) (by omega) hSl (hBr.trans ((below_regrown _ _ _).mono hBr.size)))
        have HREC := Lib.hid hREC
        rw [← hS] at ho
        have HS := Lib.hid hS
        clear hREC hw hp hS hwik
        have hwik : IntKind.i64.wrap ((i : Int) + (K : Int)) = (i : Int) + (K : Int) := IntWalk.i64_in _ (by omega)
        cases r with
        | true =>
          have HV : Hid (anyG P m (k + 1) from' s = true) := by
            show _ = _
            rw [HAG.out]
            exact B_true ⟨i, hfi, hlt, by rw [← HS.out, ← hr]⟩
          clear hr
          go_wp2_with fail
          (refine wp_region_quiet_below (by kernel_rfl) (by kernel_rfl) ?_
           repeat (any_goals (go_big_quiet_step (first | (go_at_call 90; exact HREC.out _ _))))
           all_goals (refine wpQuiet_nil ?_; intro wq1 hq1; replace hq1 := below_of_rg hq1))
          go_wp2_with fail
          go_ret
          exact ⟨ret_bool HV.out.symm, hbr.andB hq1⟩
        | false =>
          have HP2 : Hid (∀ j, from' ≤ j → j < i + 1 → anyG P m k (j + 1) (s ||| 2 ^ j) = false) := fun j h1 h2 => by
            by_cases e : j = i
            · subst e; rw [← HS.out, ← hr]
            · exact HP.out j h1 (by omega)
          clear hr
          go_wp2_with fail
          (refine wp_region_quiet_below (by kernel_rfl) (by kernel_rfl) ?_
           repeat (any_goals (go_big_quiet_step (first | (go_at_call 90; exact HREC.out _ _))))
           all_goals (refine wpQuiet_nil ?_; intro wq1 hq1; replace hq1 := below_of_rg hq1))
          go_wp2_with fail
          go_roundw
          case rel => exact ⟨i + 1, by omega, by omega, by go_num, HP2, hbr.andB hq1⟩
          case measure => simp [intOf]; omega
      · have hlt' : ¬ (i : Int) + (K : Int) ≤ (m : Int) := by omega
        have HV : Hid (anyG P m (k + 1) from' s = false) := by
          show _ = _
          rw [HAG.out]
          refine B_false ?_
          rintro ⟨j, h1, h2, h3⟩
          rw [HP.out j h1 (by omega)] at h3
          cases h3
        go_wp2_with fail
        go_ret
        exact ⟨ret_bool HV.out.symm, hbr⟩
end Go.Proofs.Ytccinfmphkihoaa
namespace Go.Proofs.Ytccinfmphkihoaa
open Go.RowKit Go.Sort
/-! ### choose; the lists of all sets, plain -/
theorem one_at (v : Value) : ∀ i, i < (#[v] : Array Value).size → (#[v] : Array Value)[i]? = some v := by
  intro i hi
  have h0 : i = 0 := by simpa using hi
  subst h0
  rfl
set_option maxRecDepth 100000 in
set_option maxHeartbeats 2000000 in
theorem choose_any (f : FuncId) (gv : Value) (P : Nat → Bool) (m k : Nat) (w : World) (he : Enters f) (hm : m ≤ 30) (hk : k ≤ 4)
    (hf : ∀ s : Nat, s < 2 ^ m → ∀ W, Below w.heap.size w W → Calls Try.prog f #[gv, .int .u64 s] W (Ret (.bool (P s)) W)) :
    Calls Try.prog 58 #[.int .i64 m, .int .i64 k, .func (.func f) #[gv] #[]] w (Ret (.bool (anyG P m k 0 0)) w) := by
  have hF := Lib.hid hf
  have hE := Lib.hid he
  have he1 := he
  unfold Enters at he1
  clear hf he
  obtain ⟨gr, hgr⟩ : ∃ gr, gr = Value.func (.func 90) #[] #[.pointer (some ⟨w.heap.size + 1, 0, none⟩), .pointer (some ⟨w.heap.size, 0, none⟩), .pointer (some ⟨w.heap.size + 1 + 1, 0, none⟩)] := ⟨_, rfl⟩
  obtain ⟨wa, hwa⟩ : ∃ wa, wa = w.alloc (.cells #[.int .i64 m] 2) := ⟨_, rfl⟩
  obtain ⟨wb, hwb⟩ : ∃ wb, wb = wa.alloc (.cells #[.func (.func f) #[gv] #[]] 66) := ⟨_, rfl⟩
  obtain ⟨wc, hwc⟩ : ∃ wc, wc = wb.alloc (.cells #[gr] 99) := ⟨_, rfl⟩
  have sa : wa.heap.size = w.heap.size + 1 := by rw [hwa]; simp [go_sem]
  have sb : wb.heap.size = w.heap.size + 1 + 1 := by rw [hwb]; simp [go_sem]; omega
  have R1 : wc.rowIs w.heap.size 2 1 (fun _ => .int .i64 m) := by
    rw [hwc, hwb, hwa]
    exact ((World.rowIs_alloc w #[.int .i64 m] 2 (fun _ => .int .i64 m) (one_at _)).alloc _).alloc _
  have R2 : wc.rowIs (w.heap.size + 1) 66 1 (fun _ => .func (.func f) #[gv] #[]) := by
    rw [hwc, hwb, ← sa]
    exact (World.rowIs_alloc wa #[.func (.func f) #[gv] #[]] 66 (fun _ => .func (.func f) #[gv] #[]) (one_at _)).alloc _
  have R3 : wc.rowIs (w.heap.size + 1 + 1) 99 1 (fun _ => gr) := by
    rw [hwc, ← sb]
    exact World.rowIs_alloc wb #[gr] 99 (fun _ => gr) (one_at _)
  have hbc : Below w.heap.size w wc := by
    rw [hwc, hwb, hwa]
    exact (((Below.refl w.heap.size w).alloc (Nat.le_refl _) _).alloc (by simp [go_sem]) _).alloc (by simp [go_sem]; omega) _
  have c4 := R3.cell (i := 0) (by omega)
  have c5 := R1.cell (i := 0) (by omega)
  have c6 := R2.cell (i := 0) (by omega)
  have HG : Hid (Calls Try.prog 90 #[.int .u64 0, .int .i64 0, .int .i64 k, .pointer (some ⟨w.heap.size + 1, 0, none⟩), .pointer (some ⟨w.heap.size, 0, none⟩), .pointer (some ⟨w.heap.size + 1 + 1, 0, none⟩)] wc (Ret (.bool (anyG P m k 0 0)) wc)) :=
    grow_any f gv P m (w.heap.size + 1) w.heap.size (w.heap.size + 1 + 1) _ hE.out hm c6 c5 (by rw [c4, hgr]) (fun s hs W hW => hF.out s hs W (hbc.trans (hW.mono hbc.size))) k 0 0 _ hk (Nat.zero_le _) (Nat.two_pow_pos m) (Below.refl _ _)
  rw [hgr] at hwc
  clear R1 R2 R3 c4 c5 c6 sa sb hE hF hgr
  go_enter Try.func58, Try.ntmps58
  go_wp2_with fail
  rw [← hwa, ← hwb, ← hwc]
  refine HG.out.mono ?_
  rintro e w5 ⟨rfl, hb5⟩
  go_wp2_with fail
  go_ret
  exact ⟨rfl, hbc.andB hb5⟩
def lstS (rec : Nat → List (List Int)) (from' : Nat) : Nat → List (List Int)
  | 0 => []
  | j + 1 => lstS rec from' j ++ (rec (from' + j + 1)).map (fun r => ((from' + j : Nat) : Int) :: r)
def setsL (m : Nat) : Nat → Nat → List (List Int)
  | 0, _ => [[]]
  | k + 1, from' => lstS (setsL m k) from' (m - from')
theorem mem_lstS {rec : Nat → List (List Int)} {from' : Nat} {x : List Int} : ∀ {j : Nat}, x ∈ lstS rec from' j ↔ ∃ i r, from' ≤ i ∧ i < from' + j ∧ r ∈ rec (i + 1) ∧ x = (i : Int) :: r := by
  intro j
  induction j with
  | zero => simp only [lstS, List.not_mem_nil, false_iff]; rintro ⟨i, r, h1, h2, _⟩; omega
  | succ j ih =>
    simp only [lstS, List.mem_append, ih, List.mem_map]
    constructor
    · rintro (⟨i, r, h1, h2, h3, h4⟩ | ⟨r, h1, h2⟩)
      · exact ⟨i, r, h1, by omega, h3, h4⟩
      · exact ⟨from' + j, r, by omega, by omega, h1, h2.symm⟩
    · rintro ⟨i, r, h1, h2, h3, h4⟩
      by_cases e : i < from' + j
      · exact .inl ⟨i, r, h1, e, h3, h4⟩
      · obtain rfl : i = from' + j := by omega
        exact .inr ⟨r, h3, h4.symm⟩
theorem setsL_room {m : Nat} : ∀ {k from' : Nat} {x : List Int}, from' ≤ m → x ∈ setsL m k from' → from' + k ≤ m ∧ x.length = k := by
  intro k
  induction k with
  | zero => intro from' x h hx; simp [setsL] at hx; subst hx; exact ⟨by omega, rfl⟩
  | succ k ih =>
    intro from' x h hx
    obtain ⟨i, r, h1, h2, h3, rfl⟩ := mem_lstS.1 hx
    have := ih (by omega) h3
    exact ⟨by omega, by simp; omega⟩
theorem setsL_asc {m : Nat} : ∀ {k from' : Nat} {x : List Int}, from' ≤ m → x ∈ setsL m k from' → ∀ j, j < x.length → ((from' : Int) ≤ ia x j ∧ ia x j ≤ (m : Int) - 1) ∧ (0 < j → ia x (j - 1) < ia x j) := by
  intro k
  induction k with
  | zero => intro from' x h hx; simp [setsL] at hx; subst hx; intro j hj; simp at hj
  | succ k ih =>
    intro from' x h hx j hj
    obtain ⟨i, r, h1, h2, h3, rfl⟩ := mem_lstS.1 hx
    have ihr := ih (by omega : i + 1 ≤ m) h3
    cases j with
    | zero =>
      have : ia ((i : Int) :: r) 0 = i := by simp [ia]
      rw [this]
      exact ⟨by omega, fun h => absurd h (by omega)⟩
    | succ j =>
      have e : ∀ t, ia ((i : Int) :: r) (t + 1) = ia r t := fun t => by simp [ia]
      have hj' : j < r.length := by simpa using hj
      rw [e]
      have := ihr j hj'
      refine ⟨by omega, fun _ => ?_⟩
      cases j with
      | zero =>
        have e0 : ia ((i : Int) :: r) (0 + 1 - 1) = i := by simp [ia]
        rw [e0]; omega
      | succ t =>
        rw [show t + 1 + 1 - 1 = t + 1 from rfl, e]
        exact this.2 (by omega)
theorem setN_cons (i : Nat) (r : List Int) : setN (ia ((i : Int) :: r)) ((i : Int) :: r).length = 2 ^ i ||| setN (ia r) r.length := by
  apply Nat.eq_of_testBit_eq
  intro t
  rw [Bool.eq_iff_iff, setN_bit, Nat.testBit_or, Bool.or_eq_true, setN_bit, Nat.testBit_two_pow, decide_eq_true_eq]
  have e : ∀ t, ia ((i : Int) :: r) (t + 1) = ia r t := fun t => by simp [ia]
  have e0 : ia ((i : Int) :: r) 0 = i := by simp [ia]
  constructor
  · rintro ⟨j, hj, h⟩
    cases j with
    | zero => rw [e0] at h; left; omega
    | succ j => right; rw [e] at h; exact ⟨j, by simpa using hj, h⟩
  · rintro (h | ⟨j, hj, h⟩)
    · exact ⟨0, by simp, by rw [e0]; omega⟩
    · exact ⟨j + 1, by simpa using hj, by rw [e]; exact h⟩
theorem anyG_iff (P : Nat → Bool) (m : Nat) : ∀ (k from' s : Nat), from' ≤ m → (anyG P m k from' s = true ↔ ∃ x ∈ setsL m k from', P (s ||| setN (ia x) x.length) = true) := by
  intro k
  induction k with
  | zero =>
    intro from' s _
    simp [anyG, setsL, setN]
  | succ k ih =>
    intro from' s hfm
    simp only [anyG]
    rw [B_iff]
    constructor
    · rintro ⟨i, h1, h2, h3⟩
      obtain ⟨r, hr, h4⟩ := (ih (i + 1) (s ||| 2 ^ i) (by omega)).1 h3
      refine ⟨(i : Int) :: r, mem_lstS.2 ⟨i, r, h1, by omega, hr, rfl⟩, ?_⟩
      rw [setN_cons, ← Nat.or_assoc]; exact h4
    · rintro ⟨x, hx, h4⟩
      obtain ⟨i, r, h1, h2, h3, rfl⟩ := mem_lstS.1 hx
      rw [setN_cons, ← Nat.or_assoc] at h4
      have := setsL_room (by omega : i + 1 ≤ m) h3
      exact ⟨i, h1, by omega, (ih (i + 1) (s ||| 2 ^ i) (by omega)).2 ⟨r, h3, h4⟩⟩
end Go.Proofs.Ytccinfmphkihoaa
namespace Go.Proofs.Ytccinfmphkihoaa
open Go.RowKit Go.Sort
/-! ### One number ahead of a list -/
theorem OwnL.one (w : World) (k : Int) : OwnL w.heap.size (w.alloc (.cells #[.int .i64 k] 2)) (some ⟨w.heap.size, 0, none⟩) 1 1 [k] :=
  ⟨rfl, rfl, .inr ⟨w.heap.size, 1, #[.int .i64 k], rfl, Nat.le_refl _, heap_alloc_new w _, Nat.le_refl _, by unfold maxLen; omega, rfl, rfl⟩⟩
theorem run_app0 (w : World) (ty : TypeId) (g : Nat) (A : Option Addr) (c : Nat) : (Builtin.append_ #[34, 34] ty #[.slice (some ⟨g, 0, none⟩) 1 1, .slice A 0 c]).run Try.prog w = .ok (.slice (some ⟨g, 0, none⟩) 1 1) w := by
  obtain ⟨i0, hi, hz0, hz1, hz2⟩ := info_parts inf2
  cases A with
  | none => simp [Builtin.append_, run_underlying Try.underlying34, sizeOf, typeInfo, hi, Builtin.lenOf, Builtin.firstCells, storeCells]
  | some a => simp [Builtin.append_, run_underlying Try.underlying34, sizeOf, typeInfo, hi, Builtin.lenOf, Builtin.firstCells, storeCells, loadCells, loadCellsFrom, storeCells, Result.andThen]
theorem wp_appK {ops : Array Oper} {rest : List Oper} {o : Oper} {a : Act} {Q : Exit → Act → World → Prop} {s x : Operand} (hgd : o.guard = none)
    (ho : o.op = .call { callee := .builtin .append, args := #[s, x], argTypes := #[34, 34] })
    {base : Nat} {A : Option Addr} {l c : Nat} {ys : List Int} {wr : World} {k : Int} {H : Nat} (hs : a.eval s = .slice (some ⟨H, 0, none⟩) 1 1) (hx : a.eval x = .slice A l c) (hH : wr.heap.size = H)
    (hown : OwnL base wr A l c ys) (hl : l ≤ 1048576)
    (h : ∀ A' c' w', OwnL wr.heap.size w' A' (1 + l) c' (k :: ys) → Below wr.heap.size wr w' → wpList Try.prog ops Q rest (a.put o.dst (.slice A' (1 + l) c')) w') :
    wpList Try.prog ops Q (o :: rest) a (wr.alloc (.cells #[.int .i64 k] 2)) := by
  subst hH
  have hb1 : Below wr.heap.size wr (wr.alloc (.cells #[.int .i64 k] 2)) := (Below.refl _ _).alloc (Nat.le_refl _) _
  by_cases h0 : l = 0
  · subst h0
    have hy : ys = [] := List.length_eq_zero_iff.1 hown.1
    subst hy
    refine wpList_plain hgd fun K hK => ?_
    have hrun := run_app0 (wr.alloc (.cells #[.int .i64 k] 2)) o.type wr.heap.size A c
    unfold Oper.wp
    simp [execOp, ho, resolve, invoke, builtin, hs, hx, hrun, Result.andThen]
    exact hK _ _ (h _ _ _ (OwnL.one wr k) hb1)
  · obtain ⟨g, o2, hA, I⟩ := hown.src (by omega)
    subst hA
    have I' := I.below hb1
    obtain ⟨i0, hi, hz0, hz1, hz2⟩ := info_parts inf2
    have hyl : ys.length = l := hown.1
    refine wpList_plain hgd fun K hK => wp_append_lies (wr.alloc (.cells #[.int .i64 k] 2)) s x 34 ho wr.heap.size 2 i0 (.int .i64 0) 1 8 Try.underlying34 hi hz0 hz1 hz2 rfl (by decide) (.slice (some ⟨wr.heap.size, 0, none⟩) 1 1) 1 (nums [k]) hs (OwnL.one wr k).2
      ⟨g, o2, none⟩ l c (nums ys) hx (by simp [nums, hyl]) (fun j u hj => ?_) (fun u hu => ?_) (by omega) (by unfold maxLen; omega) (by omega) (by simp) _ rfl ?_
    · have hjl : j < ys.length := by
        have := (List.getElem?_eq_some_iff.1 hj).1
        simpa [nums] using this
      rw [Addr.add_lit, I'.c j (by omega), ← hj, nums_at ys j hjl]
    · simp only [nums, List.mem_map] at hu
      obtain ⟨y, _, rfl⟩ := hu
      rfl
    · intro g2 cap w2 hown' hgrow hat _
      refine hK _ _ (h _ _ _ ⟨by simp [hyl]; omega, ?_⟩ (hb1.grown hgrow (by simp) (fun y hy => by simp [Value.ownBlock] at hy; omega)))
      have : nums [k] ++ nums ys = nums (k :: ys) := rfl
      rw [← this]; exact hown'
end Go.Proofs.Ytccinfmphkihoaa
