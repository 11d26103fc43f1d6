import Derived.Test.YtccinfmphkihoaaCk
import Derived.Test.YtccinfmphkihoaaAl
import Derived.Laws.EntriesVeiled
import Derived.Laws.AppendOwnNone
import Derived.Laws.OwnMore
import Derived.Test.YtccinfmphkihoaaDm
import Derived.Test.YtccinfmphkihoaaAa
namespace Go.Proofs.Ytccinfmphkihoaa
open Go.RowKit Go.Sort
/-! ### All sets of so many numbers -/
noncomputable def anyG (P : Nat → Bool) (m : Nat) : Nat → Nat → Nat → Bool
  | 0, _, s => P s
  | k + 1, from', s => B (∃ i, from' ≤ i ∧ i + (k + 1) ≤ m ∧ anyG P m k (i + 1) (s ||| 2 ^ i) = true)
theorem or_lt {s i m : Nat} (hs : s < 2 ^ m) (hi : i < m) : s ||| 2 ^ i < 2 ^ m := Nat.or_lt_two_pow hs (Nat.pow_lt_pow_of_lt (by decide) hi)
theorem pow30 {m : Nat} (hm : m ≤ 30) : 2 ^ m ≤ 1073741824 := Nat.pow_le_pow_right (n := 2) (by decide) hm
set_option maxRecDepth 100000 in
set_option maxHeartbeats 2000000 in
theorem grow_any (f : FuncId) (gv : Value) (P : Nat → Bool) (m bd bm bg : Nat) (w0 : World) (he : Enters f) (hm : m ≤ 30)
    (cd : w0.cell? ⟨bd, 0, none⟩ = some (.func (.func f) #[gv] #[])) (cm : w0.cell? ⟨bm, 0, none⟩ = some (.int .i64 m))
    (cg : w0.cell? ⟨bg, 0, none⟩ = some (.func (.func 90) #[] #[.pointer (some ⟨bd, 0, none⟩), .pointer (some ⟨bm, 0, none⟩), .pointer (some ⟨bg, 0, none⟩)]))
    (hf : ∀ s : Nat, s < 2 ^ m → ∀ W, Below w0.heap.size w0 W → Calls Try.prog f #[gv, .int .u64 s] W (Ret (.bool (P s)) W)) :
    ∀ (k from' s : Nat) (w : World), k ≤ 4 → from' ≤ m → s < 2 ^ m → Below w0.heap.size w0 w →
      Calls Try.prog 90 #[.int .u64 s, .int .i64 from', .int .i64 k, .pointer (some ⟨bd, 0, none⟩), .pointer (some ⟨bm, 0, none⟩), .pointer (some ⟨bg, 0, none⟩)] w (Ret (.bool (anyG P m k from' s)) w) := by
  have KC := cell_rg
  have hF := Lib.hid hf
  have he1 := he
  unfold Enters at he1
  have hbd : bd < w0.heap.size := World.block_lt_of_cell? w0 _ cd
  have hbm : bm < w0.heap.size := World.block_lt_of_cell? w0 _ cm
  have hbg : bg < w0.heap.size := World.block_lt_of_cell? w0 _ cg
  have CD := Lib.hid cd
  have CM := Lib.hid cm
  have CG := Lib.hid cg
  have h30 := pow30 hm
  clear hf he cd cm cg
  intro k
  induction k with
  | zero =>
    intro from' s w _ hfr hs hB
    have d1 := (hB.cell (p := ⟨bd, 0, none⟩) hbd).trans CD.out
    have d2 : bd < w.heap.size := Nat.lt_of_lt_of_le hbd hB.size
    rw [show ((0 : Nat) : Int) = 0 from rfl]
    go_enter Try.func90, Try.ntmps90
    go_wp2_with fail
    refine (hF.out s hs _ hB).mono ?_
    rintro e w1 ⟨rfl, hb1⟩
    go_wp2_with fail
    go_ret
    exact ⟨rfl, hb1⟩
  | succ k ih =>
    intro from' s w hk4 hfr hs hB
    obtain ⟨K, hK⟩ : ∃ K, K = k + 1 := ⟨_, rfl⟩
    have HAG : Hid (anyG P m (k + 1) from' s = B (∃ i, from' ≤ i ∧ i + K ≤ m ∧ anyG P m k (i + 1) (s ||| 2 ^ i) = true)) := by subst hK; rfl
    have hK4 : K ≤ 4 := by omega
    have hK1 : 1 ≤ K := by omega
    have hk0 : ((K : Int) == 0) = false := by simp; omega
    have hw1 : IntKind.i64.wrap ((K : Int) - 1) = (k : Int) := by rw [IntWalk.i64_in _ (by omega)]; omega
    have IH := Lib.hid ih
    rw [show (((k + 1 : Nat)) : Int) = (K : Int) by rw [hK]]
    clear ih hK
    go_enter Try.func90, Try.ntmps90
    go_wp2_with fail
    go_loopw [10] (fun iv wr => ∃ i : Nat, from' ≤ i ∧ i ≤ m ∧ iv = .int .i64 i ∧ Hid (∀ j, from' ≤ j → j < i → anyG P m k (j + 1) (s ||| 2 ^ j) = false) ∧ Below w.heap.size w wr) (fun i _ => m + 1 - (intOf i).toNat)
    case atStart => exact ⟨from', Nat.le_refl _, hfr, rfl, (fun j h1 h2 => absurd h2 (by omega)), Below.refl _ _⟩
    case round =>
      obtain ⟨i, hfi, hi, rfl, HP, hbr⟩ := hrel
      have hBr := hB.trans (hbr.mono hB.size)
      have m1 := (hBr.cell (p := ⟨bm, 0, none⟩) hbm).trans CM.out
      have m2 : bm < wr.heap.size := Nat.lt_of_lt_of_le hbm hBr.size
      have hwik : IntKind.i64.wrap ((i : Int) + (K : Int)) = (i : Int) + (K : Int) := IntWalk.i64_in _ (by omega)
      by_cases hlt : i + K ≤ m
      · have hlt' : (i : Int) + (K : Int) ≤ (m : Int) := by omega
        have g1 := (hBr.cell (p := ⟨bg, 0, none⟩) hbg).trans CG.out
        have g2 : bg < wr.heap.size := Nat.lt_of_lt_of_le hbg hBr.size
        have hp : (2 : Nat) ^ i < 18446744073709551616 := Nat.lt_of_lt_of_le (Nat.pow_lt_pow_of_lt (a := 2) (by decide) (by omega : i < 64)) (by decide)
        have hw : IntKind.u64.wrap (2 ^ i) = ((2 ^ i : Nat) : Int) := by
          rw [show ((2 : Int) ^ i) = ((2 ^ i : Nat) : Int) by simp, IntKind.wrap_u64]
          generalize (2 : Nat) ^ i = x at hp
          omega
        have ho : bits .or .u64 (s : Int) (IntKind.u64.wrap (2 ^ i)) = ((s ||| 2 ^ i : Nat) : Int) := by
          rw [hw, u64_or_nat _ _ (by omega) hp]
        obtain ⟨S, hS⟩ : ∃ S, S = s ||| 2 ^ i := ⟨_, rfl⟩
        obtain ⟨r, hr⟩ : ∃ r, r = anyG P m k (i + 1) S := ⟨_, rfl⟩
        have hSl : S < 2 ^ m := by rw [hS]; exact or_lt hs (by omega)
        have hREC : ∀ d oz, Calls Try.prog 90 #[.int .u64 S, .int .i64 ((i : Int) + 1), .int .i64 k, .pointer (some ⟨bd, 0, none⟩), .pointer (some ⟨bm, 0, none⟩), .pointer (some ⟨bg, 0, none⟩)] (grow (redrawn wr d) oz) fun e w'' => e = .returned (.bool r) ∧ ∃ p : Regrown, w'' = grow (redrawn wr p.d) p.os := fun d oz =>
          Ret.rg (hr ▸ IH.out (i + 1) S _ (by omega) (by omega) hSl (hBr.trans ((below_regrown _ _ _).mono hBr.size)))
        have HREC := Lib.hid hREC
        rw [← hS] at ho
        have HS := Lib.hid hS
        clear hREC hw hp hS hwik
        have hwik : IntKind.i64.wrap ((i : Int) + (K : Int)) = (i : Int) + (K : Int) := IntWalk.i64_in _ (by omega)
        cases r with
        | true =>
          have HV : Hid (anyG P m (k + 1) from' s = true) := by
            show _ = _
            rw [HAG.out]
            exact B_true ⟨i, hfi, hlt, by rw [← HS.out, ← hr]⟩
          clear hr
          go_wp2_with fail
          (refine wp_region_quiet_below (by kernel_rfl) (by kernel_rfl) ?_
           repeat (any_goals (go_big_quiet_step (first | (go_at_call 90; exact HREC.out _ _))))
           all_goals (refine wpQuiet_nil ?_; intro wq1 hq1; replace hq1 := below_of_rg hq1))
          go_wp2_with fail
          go_ret
          exact ⟨ret_bool HV.out.symm, hbr.andB hq1⟩
        | false =>
          have HP2 : Hid (∀ j, from' ≤ j → j < i + 1 → anyG P m k (j + 1) (s ||| 2 ^ j) = false) := fun j h1 h2 => by
            by_cases e : j = i
            · subst e; rw [← HS.out, ← hr]
            · exact HP.out j h1 (by omega)
          clear hr
          go_wp2_with fail
          (refine wp_region_quiet_below (by kernel_rfl) (by kernel_rfl) ?_
           repeat (any_goals (go_big_quiet_step (first | (go_at_call 90; exact HREC.out _ _))))
           all_goals (refine wpQuiet_nil ?_; intro wq1 hq1; replace hq1 := below_of_rg hq1))
          go_wp2_with fail
          go_roundw
          case rel => exact ⟨i + 1, by omega, by omega, by go_num, HP2, hbr.andB hq1⟩
          case measure => simp [intOf]; omega
      · have hlt' : ¬ (i : Int) + (K : Int) ≤ (m : Int) := by omega
        have HV : Hid (anyG P m (k + 1) from' s = false) := by
          show _ = _
          rw [HAG.out]
          refine B_false ?_
          rintro ⟨j, h1, h2, h3⟩
          rw [HP.out j h1 (by omega)] at h3
          cases h3
        go_wp2_with fail
        go_ret
        exact ⟨ret_bool HV.out.symm, hbr⟩
end Go.Proofs.Ytccinfmphkihoaa
namespace Go.Proofs.Ytccinfmphkihoaa
open Go.RowKit Go.Sort
/-! ### choose; the lists of all sets, plain -/
theorem one_at (v : Value) : ∀ i, i < (#[v] : Array Value).size → (#[v] : Array Value)[i]? = some v := by
  intro i hi
  have h0 : i = 0 := by simpa using hi
  subst h0
  rfl
set_option maxRecDepth 100000 in
set_option maxHeartbeats 2000000 in
theorem choose_any (f : FuncId) (gv : Value) (P : Nat → Bool) (m k : Nat) (w : World) (he : Enters f) (hm : m ≤ 30) (hk : k ≤ 4)
    (hf : ∀ s : Nat, s < 2 ^ m → ∀ W, Below w.heap.size w W → Calls Try.prog f #[gv, .int .u64 s] W (Ret (.bool (P s)) W)) :
    Calls Try.prog 58 #[.int .i64 m, .int .i64 k, .func (.func f) #[gv] #[]] w (Ret (.bool (anyG P m k 0 0)) w) := by
  have hF := Lib.hid hf
  have hE := Lib.hid he
  have he1 := he
  unfold Enters at he1
  clear hf he
  obtain ⟨gr, hgr⟩ : ∃ gr, gr = Value.func (.func 90) #[] #[.pointer (some ⟨w.heap.size + 1, 0, none⟩), .pointer (some ⟨w.heap.size, 0, none⟩), .pointer (some ⟨w.heap.size + 1 + 1, 0, none⟩)] := ⟨_, rfl⟩
  obtain ⟨wa, hwa⟩ : ∃ wa, wa = w.alloc (.cells #[.int .i64 m] 2) := ⟨_, rfl⟩
  obtain ⟨wb, hwb⟩ : ∃ wb, wb = wa.alloc (.cells #[.func (.func f) #[gv] #[]] 66) := ⟨_, rfl⟩
  obtain ⟨wc, hwc⟩ : ∃ wc, wc = wb.alloc (.cells #[gr] 99) := ⟨_, rfl⟩
  have sa : wa.heap.size = w.heap.size + 1 := by rw [hwa]; simp [go_sem]
  have sb : wb.heap.size = w.heap.size + 1 + 1 := by rw [hwb]; simp [go_sem]; omega
  have R1 : wc.rowIs w.heap.size 2 1 (fun _ => .int .i64 m) := by
    rw [hwc, hwb, hwa]
    exact ((World.rowIs_alloc w #[.int .i64 m] 2 (fun _ => .int .i64 m) (one_at _)).alloc _).alloc _
  have R2 : wc.rowIs (w.heap.size + 1) 66 1 (fun _ => .func (.func f) #[gv] #[]) := by
    rw [hwc, hwb, ← sa]
    exact (World.rowIs_alloc wa #[.func (.func f) #[gv] #[]] 66 (fun _ => .func (.func f) #[gv] #[]) (one_at _)).alloc _
  have R3 : wc.rowIs (w.heap.size + 1 + 1) 99 1 (fun _ => gr) := by
    rw [hwc, ← sb]
    exact World.rowIs_alloc wb #[gr] 99 (fun _ => gr) (one_at _)
  have hbc : Below w.heap.size w wc := by
    rw [hwc, hwb, hwa]
    exact (((Below.refl w.heap.size w).alloc (Nat.le_refl _) _).alloc (by simp [go_sem]) _).alloc (by simp [go_sem]; omega) _
  have c4 := R3.cell (i := 0) (by omega)
  have c5 := R1.cell (i := 0) (by omega)
  have c6 := R2.cell (i := 0) (by omega)
  have HG : Hid (Calls Try.prog 90 #[.int .u64 0, .int .i64 0, .int .i64 k, .pointer (some ⟨w.heap.size + 1, 0, none⟩), .pointer (some ⟨w.heap.size, 0, none⟩), .pointer (some ⟨w.heap.size + 1 + 1, 0, none⟩)] wc (Ret (.bool (anyG P m k 0 0)) wc)) :=
    grow_any f gv P m (w.heap.size + 1) w.heap.size (w.heap.size + 1 + 1) _ hE.out hm c6 c5 (by rw [c4, hgr]) (fun s hs W hW => hF.out s hs W (hbc.trans (hW.mono hbc.size))) k 0 0 _ hk (Nat.zero_le _) (Nat.two_pow_pos m) (Below.refl _ _)
  rw [hgr] at hwc
  clear R1 R2 R3 c4 c5 c6 sa sb hE hF hgr
  go_enter Try.func58, Try.ntmps58
  go_wp2_with fail
  rw [← hwa, ← hwb, ← hwc]
  refine HG.out.mono ?_
  rintro e w5 ⟨rfl, hb5⟩
  go_wp2_with fail
  go_ret
  exact ⟨rfl, hbc.andB hb5⟩
def lstS (rec : Nat → List (List Int)) (from' : Nat) : Nat → List (List Int)
  | 0 => []
  | j + 1 => lstS rec from' j ++ (rec (from' + j + 1)).map (fun r => ((from' + j : Nat) : Int) :: r)
def setsL (m : Nat) : Nat → Nat → List (List Int)
  | 0, _ => [[]]
  | k + 1, from' => lstS (setsL m k) from' (m - from')
theorem mem_lstS {rec : Nat → List (List Int)} {from' : Nat} {x : List Int} : ∀ {j : Nat}, x ∈ lstS rec from' j ↔ ∃ i r, from' ≤ i ∧ i < from' + j ∧ r ∈ rec (i + 1) ∧ x = (i : Int) :: r := by
  intro j
  induction j with
  | zero => simp only [lstS, List.not_mem_nil, false_iff]; rintro ⟨i, r, h1, h2, _⟩; omega
  | succ j ih =>
    simp only [lstS, List.mem_append, ih, List.mem_map]
    constructor
    · rintro (⟨i, r, h1, h2, h3, h4⟩ | ⟨r, h1, h2⟩)
      · exact ⟨i, r, h1, by omega, h3, h4⟩
      · exact ⟨from' + j, r, by omega, by omega, h1, h2.symm⟩
    · rintro ⟨i, r, h1, h2, h3, h4⟩
      by_cases e : i < from' + j
      · exact .inl ⟨i, r, h1, e, h3, h4⟩
      · obtain rfl : i = from' + j := by omega
        exact .inr ⟨r, h3, h4.symm⟩
theorem setsL_room {m : Nat} : ∀ {k from' : Nat} {x : List Int}, from' ≤ m → x ∈ setsL m k from' → from' + k ≤ m ∧ x.length = k := by
  intro k
  induction k with
  | zero => intro from' x h hx; simp [setsL] at hx; subst hx; exact ⟨by omega, rfl⟩
  | succ k ih =>
    intro from' x h hx
    obtain ⟨i, r, h1, h2, h3, rfl⟩ := mem_lstS.1 hx
    have := ih (by omega) h3
    exact ⟨by omega, by simp; omega⟩
theorem setsL_asc {m : Nat} : ∀ {k from' : Nat} {x : List Int}, from' ≤ m → x ∈ setsL m k from' → ∀ j, j < x.length → ((from' : Int) ≤ ia x j ∧ ia x j ≤ (m : Int) - 1) ∧ (0 < j → ia x (j - 1) < ia x j) := by
  intro k
  induction k with
  | zero => intro from' x h hx; simp [setsL] at hx; subst hx; intro j hj; simp at hj
  | succ k ih =>
    intro from' x h hx j hj
    obtain ⟨i, r, h1, h2, h3, rfl⟩ := mem_lstS.1 hx
    have ihr := ih (by omega : i + 1 ≤ m) h3
    cases j with
    | zero =>
      have : ia ((i : Int) :: r) 0 = i := by simp [ia]
      rw [this]
      exact ⟨by omega, fun h => absurd h (by omega)⟩
    | succ j =>
      have e : ∀ t, ia ((i : Int) :: r) (t + 1) = ia r t := fun t => by simp [ia]
      have hj' : j < r.length := by simpa using hj
      rw [e]
      have := ihr j hj'
      refine ⟨by omega, fun _ => ?_⟩
      cases j with
      | zero =>
        have e0 : ia ((i : Int) :: r) (0 + 1 - 1) = i := by simp [ia]
        rw [e0]; omega
      | succ t =>
        rw [show t + 1 + 1 - 1 = t + 1 from rfl, e]
        exact this.2 (by omega)
theorem setN_cons (i : Nat) (r : List Int) : setN (ia ((i : Int) :: r)) ((i : Int) :: r).length = 2 ^ i ||| setN (ia r) r.length := by
  apply Nat.eq_of_testBit_eq
  intro t
  rw [Bool.eq_iff_iff, setN_bit, Nat.testBit_or, Bool.or_eq_true, setN_bit, Nat.testBit_two_pow, decide_eq_true_eq]
  have e : ∀ t, ia ((i : Int) :: r) (t + 1) = ia r t := fun t => by simp [ia]
  have e0 : ia ((i : Int) :: r) 0 = i := by simp [ia]
  constructor
  · rintro ⟨j, hj, h⟩
    cases j with
    | zero => rw [e0] at h; left; omega
    | succ j => right; rw [e] at h; exact ⟨j, by simpa using hj, h⟩
  · rintro (h | ⟨j, hj, h⟩)
    · exact ⟨0, by simp, by rw [e0]; omega⟩
    · exact ⟨j + 1, by simpa using hj, by rw [e]; exact h⟩
theorem anyG_iff (P : Nat → Bool) (m : Nat) : ∀ (k from' s : Nat), from' ≤ m → (anyG P m k from' s = true ↔ ∃ x ∈ setsL m k from', P (s ||| setN (ia x) x.length) = true) := by
  intro k
  induction k with
  | zero =>
    intro from' s _
    simp [anyG, setsL, setN]
  | succ k ih =>
    intro from' s hfm
    simp only [anyG]
    rw [B_iff]
    constructor
    · rintro ⟨i, h1, h2, h3⟩
      obtain ⟨r, hr, h4⟩ := (ih (i + 1) (s ||| 2 ^ i) (by omega)).1 h3
      refine ⟨(i : Int) :: r, mem_lstS.2 ⟨i, r, h1, by omega, hr, rfl⟩, ?_⟩
      rw [setN_cons, ← Nat.or_assoc]; exact h4
    · rintro ⟨x, hx, h4⟩
      obtain ⟨i, r, h1, h2, h3, rfl⟩ := mem_lstS.1 hx
      rw [setN_cons, ← Nat.or_assoc] at h4
      have := setsL_room (by omega : i + 1 ≤ m) h3
      exact ⟨i, h1, by omega, (ih (i + 1) (s ||| 2 ^ i) (by omega)).2 ⟨r, h3, h4⟩⟩
end Go.Proofs.Ytccinfmphkihoaa
namespace Go.Proofs.Ytccinfmphkihoaa
open Go.RowKit Go.Sort
/-! ### One number ahead of a list -/
theorem OwnL.one (w : World) (k : Int) : OwnL w.heap.size (w.alloc (.cells #[.int .i64 k] 2)) (some ⟨w.heap.size, 0, none⟩) 1 1 [k] :=
  ⟨rfl, rfl, .inr ⟨w.heap.size, 1, #[.int .i64 k], rfl, Nat.le_refl _, heap_alloc_new w _, Nat.le_refl _, by unfold maxLen; omega, rfl, rfl⟩⟩
theorem run_app0 (w : World) (ty : TypeId) (g : Nat) (A : Option Addr) (c : Nat) : (Builtin.append_ #[34, 34] ty #[.slice (some ⟨g, 0, none⟩) 1 1, .slice A 0 c]).run Try.prog w = .ok (.slice (some ⟨g, 0, none⟩) 1 1) w := by
  obtain ⟨i0, hi, hz0, hz1, hz2⟩ := info_parts inf2
  cases A with
  | none => simp [Builtin.append_, run_underlying Try.underlying34, sizeOf, typeInfo, hi, Builtin.lenOf, Builtin.firstCells, storeCells]
  | some a => simp [Builtin.append_, run_underlying Try.underlying34, sizeOf, typeInfo, hi, Builtin.lenOf, Builtin.firstCells, storeCells, loadCells, loadCellsFrom, storeCells, Result.andThen]
theorem wp_appK {ops : Array Oper} {rest : List Oper} {o : Oper} {a : Act} {Q : Exit → Act → World → Prop} {s x : Operand} (hgd : o.guard = none)
    (ho : o.op = .call { callee := .builtin .append, args := #[s, x], argTypes := #[34, 34] })
    {base : Nat} {A : Option Addr} {l c : Nat} {ys : List Int} {wr : World} {k : Int} {H : Nat} (hs : a.eval s = .slice (some ⟨H, 0, none⟩) 1 1) (hx : a.eval x = .slice A l c) (hH : wr.heap.size = H)
    (hown : OwnL base wr A l c ys) (hl : l ≤ 1048576)
    (h : ∀ A' c' w', OwnL wr.heap.size w' A' (1 + l) c' (k :: ys) → Below wr.heap.size wr w' → wpList Try.prog ops Q rest (a.put o.dst (.slice A' (1 + l) c')) w') :
    wpList Try.prog ops Q (o :: rest) a (wr.alloc (.cells #[.int .i64 k] 2)) := by
  subst hH
  have hb1 : Below wr.heap.size wr (wr.alloc (.cells #[.int .i64 k] 2)) := (Below.refl _ _).alloc (Nat.le_refl _) _
  by_cases h0 : l = 0
  · subst h0
    have hy : ys = [] := List.length_eq_zero_iff.1 hown.1
    subst hy
    refine wpList_plain hgd fun K hK => ?_
    have hrun := run_app0 (wr.alloc (.cells #[.int .i64 k] 2)) o.type wr.heap.size A c
    unfold Oper.wp
    simp [execOp, ho, resolve, invoke, builtin, hs, hx, hrun, Result.andThen]
    exact hK _ _ (h _ _ _ (OwnL.one wr k) hb1)
  · obtain ⟨g, o2, hA, I⟩ := hown.src (by omega)
    subst hA
    have I' := I.below hb1
    obtain ⟨i0, hi, hz0, hz1, hz2⟩ := info_parts inf2
    have hyl : ys.length = l := hown.1
    refine wpList_plain hgd fun K hK => wp_append_lies (wr.alloc (.cells #[.int .i64 k] 2)) s x 34 ho wr.heap.size 2 i0 (.int .i64 0) 1 8 Try.underlying34 hi hz0 hz1 hz2 rfl (by decide) (.slice (some ⟨wr.heap.size, 0, none⟩) 1 1) 1 (nums [k]) hs (OwnL.one wr k).2
      ⟨g, o2, none⟩ l c (nums ys) hx (by simp [nums, hyl]) (fun j u hj => ?_) (fun u hu => ?_) (by omega) (by unfold maxLen; omega) (by omega) (by simp) _ rfl ?_
    · have hjl : j < ys.length := by
        have := (List.getElem?_eq_some_iff.1 hj).1
        simpa [nums] using this
      rw [Addr.add_lit, I'.c j (by omega), ← hj, nums_at ys j hjl]
    · simp only [nums, List.mem_map] at hu
      obtain ⟨y, _, rfl⟩ := hu
      rfl
    · intro g2 cap w2 hown' hgrow hat _
      refine hK _ _ (h _ _ _ ⟨by simp [hyl]; omega, ?_⟩ (hb1.grown hgrow (by simp) (fun y hy => by simp [Value.ownBlock] at hy; omega)))
      have : nums [k] ++ nums ys = nums (k :: ys) := rfl
      rw [← this]; exact hown'
end Go.Proofs.Ytccinfmphkihoaa
namespace Go.Proofs.Ytccinfmphkihoaa
open Go.RowKit Go.Sort
/-! ### The reference's list of all sets -/
theorem lstS_len {rec : Nat → List (List Int)} {from' B : Nat} (h : ∀ i, (rec i).length ≤ B) : ∀ j, (lstS rec from' j).length ≤ j * B := by
  intro j
  induction j with
  | zero => simp [lstS]
  | succ j ih =>
    simp only [lstS, List.length_append, List.length_map]
    have := h (from' + j + 1)
    rw [Nat.succ_mul]; omega
theorem setsL_len {m : Nat} (hm : m ≤ 30) : ∀ k from', (setsL m k from').length ≤ 32 ^ k := by
  intro k
  induction k with
  | zero => intro from'; simp [setsL]
  | succ k ih =>
    intro from'
    have h1 := lstS_len (rec := setsL m k) (from' := from') (fun i => ih i) (m - from')
    have h2 : (m - from') * 32 ^ k ≤ 32 * 32 ^ k := Nat.mul_le_mul_right _ (by omega)
    rw [Nat.pow_succ, Nat.mul_comm]
    exact Nat.le_trans h1 h2
theorem pow32 {k : Nat} (hk : k ≤ 3) : 32 ^ k ≤ 32768 := Nat.pow_le_pow_right (n := 32) (by decide) hk
theorem OwnLL.one (w : World) : OwnLL w.heap.size (w.heap.size + 1 + 1) ((w.alloc (.cells #[] 2)).alloc (.cells #[.slice (some ⟨w.heap.size, 0, none⟩) 0 0] 34)) (some ⟨w.heap.size + 1, 0, none⟩) 1 1 [[]] := by
  have s1 : (w.alloc (.cells #[] 2)).heap.size = w.heap.size + 1 := by simp [go_sem]
  have h1 := heap_alloc_new (w.alloc (.cells #[] 2)) (.cells #[.slice (some ⟨w.heap.size, 0, none⟩) 0 0] 34)
  rw [s1] at h1
  have O : OwnL w.heap.size (w.alloc (.cells #[] 2)) (some ⟨w.heap.size, 0, none⟩) 0 0 [] := OwnL.empty _ _ _ (Nat.le_refl _) (heap_alloc_new w _)
  have O2 := O.below ((Below.refl (w.alloc (.cells #[] 2)).heap.size _).alloc (Nat.le_refl _) (.cells #[.slice (some ⟨w.heap.size, 0, none⟩) 0 0] 34))
  refine ⟨rfl, by simp [go_sem], fun g hg => by simp [blkOf] at hg; omega, fun _ => some ⟨w.heap.size, 0, none⟩, fun _ => 0, ⟨rfl, .inr ⟨w.heap.size + 1, 1, _, rfl, by omega, h1, Nat.le_refl _, by unfold maxLen; omega, rfl, rfl⟩⟩, fun j hj => ?_, fun i j h1 h2 => by omega⟩
  obtain rfl : j = 0 := by omega
  exact ⟨O2, fun g hg => by simp [blkOf] at hg; omega, .inr (by simp [blkOf])⟩
set_option maxRecDepth 100000 in
set_option maxHeartbeats 4000000 in
theorem l03Sets_any (m : Nat) (hm : m ≤ 30) : ∀ (k from' : Nat) (w : World), k ≤ 4 → from' ≤ m → Calls Try.prog 53 #[.int .i64 m, .int .i64 k, .int .i64 from'] w (RetLL (setsL m k from') w) := by
  intro k
  induction k with
  | zero =>
    intro from' w _ _
    have O := OwnLL.one w
    have hb : Below w.heap.size w ((w.alloc (.cells #[] 2)).alloc (.cells #[.slice (some ⟨w.heap.size, 0, none⟩) 0 0] 34)) := ((Below.refl _ _).alloc (Nat.le_refl _) _).alloc (by simp [go_sem]) _
    have hs : ((w.alloc (.cells #[] 2)).alloc (.cells #[.slice (some ⟨w.heap.size, 0, none⟩) 0 0] 34)).heap.size = w.heap.size + 1 + 1 := by simp [go_sem]
    obtain ⟨w2, hw2⟩ : ∃ w2, w2 = (w.alloc (.cells #[] 2)).alloc (.cells #[.slice (some ⟨w.heap.size, 0, none⟩) 0 0] 34) := ⟨_, rfl⟩
    rw [← hw2] at O hb hs
    rw [show ((0 : Nat) : Int) = 0 from rfl]
    go_enter Try.func53, Try.ntmps53
    go_wp2_with fail
    rw [← hw2]
    go_ret
    exact ⟨_, _, rfl, by rw [hs]; exact O, hb⟩
  | succ k ih =>
    intro from' w hk4 hfr
    obtain ⟨K, hK⟩ : ∃ K, K = k + 1 := ⟨_, rfl⟩
    have hk0 : ((K : Int) == 0) = false := by simp; omega
    have hw1 : IntKind.i64.wrap ((K : Int) - 1) = (k : Int) := by rw [IntWalk.i64_in _ (by omega)]; omega
    have IH := Lib.hid ih
    have hSL : Hid (setsL m (k + 1) from' = lstS (setsL m k) from' (m - from')) := rfl
    have hRL : Hid (∀ i, (setsL m k i).length ≤ 32768) := fun i => Nat.le_trans (setsL_len hm k i) (pow32 (by omega))
    have hLL : Hid (∀ j, j ≤ 30 → (lstS (setsL m k) from' j).length ≤ 983040) := fun j hj => by
      have h1 := lstS_len (rec := setsL m k) (from' := from') (fun i => hRL.out i) j
      have h2 : j * 32768 ≤ 30 * 32768 := Nat.mul_le_mul_right _ hj
      omega
    rw [show (((k + 1 : Nat)) : Int) = (K : Int) by rw [hK]]
    clear ih hK
    go_enter Try.func53, Try.ntmps53
    go_wp2_with fail
    have O0 : ∃ top, OwnLL w.heap.size top (w.alloc (.cells #[] 34)) (some ⟨w.heap.size, 0, none⟩) 0 0 [] := ⟨_, OwnLL.empty w (Nat.le_refl _)⟩
    have hb0 : Below w.heap.size w (w.alloc (.cells #[] 34)) := (Below.refl _ _).alloc (Nat.le_refl _) _
    go_loopw [7, 8] (fun ov iv wr => ∃ (j : Nat) (A : Option Addr) (c' : Nat), j ≤ m - from' ∧ iv = .int .i64 ((from' + j : Nat) : Int) ∧ ov = .slice A (lstS (setsL m k) from' j).length c' ∧ (∃ top, OwnLL w.heap.size top wr A (lstS (setsL m k) from' j).length c' (lstS (setsL m k) from' j)) ∧ Below w.heap.size w wr) (fun _ i _ => m - (intOf i).toNat)
    case atStart => exact ⟨0, _, _, Nat.zero_le _, rfl, rfl, O0, hb0⟩
    case round =>
      clear O0 hb0
      obtain ⟨j, A, c', hj, rfl, rfl, ⟨top, O⟩, hbr⟩ := hrel
      have hl1 := hLL.out j (by omega)
      obtain ⟨I, hI⟩ : ∃ I, I = from' + j := ⟨_, rfl⟩
      rw [← hI]
      have HI := Lib.hid hI
      have hIm : I ≤ m := by omega
      have hLS : Hid (lstS (setsL m k) from' (j + 1) = lstS (setsL m k) from' j ++ (setsL m k (I + 1)).map (fun r => (I : Int) :: r)) := by rw [hI]; rfl
      clear hI
      have hszr := hbr.size
      by_cases hlt : I < m
      · have hIH := Lib.hid (IH.out (I + 1) wr (by omega) (by omega))
        have hrl := hRL.out (I + 1)
        have hrm := Lib.hid (fun x (hx : x ∈ setsL m k (I + 1)) => (setsL_room (by omega : I + 1 ≤ m) hx).2)
        go_wp2_with fail
        refine hIH.out.mono ?_
        rintro e w2 ⟨AR, cR, rfl, OR, hb2⟩
        obtain ⟨rest, hrest⟩ : ∃ rest, rest = setsL m k (I + 1) := ⟨_, rfl⟩
        rw [← hrest] at OR hrl hLS hrm ⊢
        obtain ⟨rows, hrows⟩ : ∃ rows, rows = lstS (setsL m k) from' j := ⟨_, rfl⟩
        rw [← hrows] at O hl1 hLS ⊢
        have hO2 : ∃ top, OwnLL w.heap.size top w2 A rows.length c' rows := ⟨top, O.below hb2⟩
        have hA0 : ∀ g, blkOf A = some g → g < wr.heap.size ∨ w2.heap.size ≤ g := fun g hg => .inl (Nat.lt_of_lt_of_le (O.blk g hg).2 O.2.1)
        have hB2 : Below w.heap.size w w2 := hbr.andB hb2
        clear hrest hrows O hIH
        go_wp2_with fail
        obtain ⟨w9, rfl⟩ : ∃ w9, w9 = wr := ⟨wr, rfl⟩
        go_loopw [7, 10] (fun ov tv wv => ∃ (t : Nat) (A : Option Addr) (c' : Nat), t ≤ rest.length ∧ tv = .int .i64 t ∧ ov = .slice A (rows.length + t) c' ∧ (∃ top, OwnLL w.heap.size top wv A (rows.length + t) c' (rows ++ (rest.take t).map (fun r => (I : Int) :: r))) ∧ OwnLL w9.heap.size w2.heap.size wv AR rest.length cR rest ∧ (∀ g, blkOf A = some g → g < w9.heap.size ∨ w2.heap.size ≤ g) ∧ Below w.heap.size w wv) (fun _ t _ => rest.length - (intOf t).toNat)
        case atStart => exact ⟨0, A, c', Nat.zero_le _, rfl, rfl, by simpa using hO2, OR, hA0, hB2⟩
        case round =>
          clear hO2 OR hA0 hB2
          obtain ⟨t, A, c', ht, rfl, rfl, ⟨top, O⟩, OR, hA, hbv⟩ := hrel
          have hszv := hbv.size
          have hszR := OR.2.1
          by_cases hltt : t < rest.length
          · obtain ⟨g, Aj, cj, rfl, hg1, hg2, ca, ho⟩ := OR.at hltt
            have hlen : (ra rest t).length ≤ 4 := by
              have := hrm.out (ra rest t) (by simp [ra, hltt])
              omega
            have htk : Hid ((rest.take (t + 1)).map (fun r => (I : Int) :: r) = (rest.take t).map (fun r => (I : Int) :: r) ++ [(I : Int) :: ra rest t]) := by
              have e : rest.take (t + 1) = rest.take t ++ [ra rest t] := by rw [List.take_add_one]; simp [ra, hltt]
              show _ = _
              rw [e, List.map_append]; rfl
            have hA2 : (∀ y, blkOf A = some y → y < w9.heap.size) ∨ (∀ y, blkOf A = some y → w2.heap.size ≤ y) := by
              cases hb : blkOf A with
              | none => exact .inl (fun y hy => by cases hy)
              | some y => rcases hA y hb with h1 | h1
                          · exact .inl (fun z hz => by cases hz; exact h1)
                          · exact .inr (fun z hz => by cases hz; exact h1)
            have htop := O.2.1
            have hrl2 : rows.length + t ≤ 1048576 := by omega
            obtain ⟨q, hq⟩ : ∃ q, q = (ra rest t).length := ⟨_, rfl⟩
            rw [← hq] at ca ho hlen
            have HQ := Lib.hid hq
            clear hq
            go_wp2_with (first
              | (at_builtin; refine wp_appK rfl rfl rfl rfl rfl ho (by omega) ?_; intro A4 c4 w4 O4 hb4)
              | (at_builtin; refine wp_appR1 rfl rfl rfl rfl rfl (by have := HQ.out; simp only [List.length_cons]; omega) (O.below hb4) (O4.mono hszv) (fun y hy => Nat.le_trans htop (O4.blk y hy).1) (Nat.le_trans hszv hb4.size) hrl2 ?_; intro A6 c6 w6 O6 hg6 hat6))
            have O5 := O.below hb4
            have OR5 := OR.below hb4
            have hs4 := hb4.size
            have hbs : w.heap.size ≤ w4.heap.size := Nat.le_trans hszv hs4
            have hb6 := (hbv.andB hb4).grown hg6 hbs (fun y hy => (O5.blk y hy).1)
            have OR6 : OwnLL w9.heap.size w2.heap.size w6 (some ⟨g, 0, none⟩) rest.length cR rest := by
              rcases hA2 with h1 | h1
              · exact OR5.keptLow hg6 h1
              · exact OR5.kept hg6 h1
            have hA6 : ∀ y, blkOf A6 = some y → y < w9.heap.size ∨ w2.heap.size ≤ y := fun y hy => by
              rcases hat6 with h1 | ⟨g1, h1, h2⟩
              · exact hA y (by rw [← h1]; exact hy)
              · rw [h1] at hy; have := Option.some.inj hy; right; omega
            go_roundw
            case rel => exact ⟨t + 1, A6, c6, by omega, by go_num, rfl, ⟨_, by rw [htk.out, ← List.append_assoc]; exact O6⟩, OR6, hA6, hb6⟩
            case measure => simp [intOf]; omega
          · obtain rfl : t = rest.length := by omega
            have hLS2 : Hid ((lstS (setsL m k) from' (j + 1)).length = rows.length + rest.length) := by show _ = _; rw [hLS.out]; simp
            rw [List.take_length] at O
            have eI : Hid (((from' + (j + 1) : Nat) : Int) = (I : Int) + 1) := by have := HI.out; show _ = _; omega
            have hj1 : j + 1 ≤ m - from' := by have := HI.out; omega
            go_wp2_with fail
            go_roundw
            case rel => exact ⟨j + 1, A, c', hj1, by rw [eI.out], by rw [hLS2.out], ⟨_, by rw [hLS2.out, hLS.out]; exact O⟩, hbv⟩
            case measure => simp [intOf]; omega
      · obtain rfl : I = m := by omega
        have HE : Hid (setsL I (k + 1) from' = lstS (setsL I k) from' j) := by
          show _ = _
          rw [show j = I - from' by have := HI.out; omega]; rfl
        go_wp2_with fail
        go_ret
        exact ⟨A, c', by rw [HE.out] <;> rfl, by rw [HE.out]; exact O.raise O.2.1 (Nat.le_refl _), hbr⟩
end Go.Proofs.Ytccinfmphkihoaa
namespace Go.Proofs.Ytccinfmphkihoaa
open Go.RowKit Go.Sort
/-! ### CyclicConnectivity -/
noncomputable def cyK (n : Int) (es : List (Int × Int)) (k : Nat) : Bool := anyG (fun s => cyB n es (skS s)) es.length k 0 0
def ctK (p : Nat → Bool) : Nat := if p 1 then 1 else if p 2 then 2 else if p 3 then 3 else if p 4 then 4 else 0
theorem ctK_no {p : Nat → Bool} (h : ∀ k, 1 ≤ k → k < 5 → p k = false) : ctK p = 0 := by
  simp [ctK, h 1 (by omega) (by omega), h 2 (by omega) (by omega), h 3 (by omega) (by omega), h 4 (by omega) (by omega)]
theorem ctK_at {p : Nat → Bool} {k : Nat} (h1 : 1 ≤ k) (h2 : k < 5) (h : p k = true) (hl : ∀ j, 1 ≤ j → j < k → p j = false) : ctK p = k := by
  rcases (show k = 1 ∨ k = 2 ∨ k = 3 ∨ k = 4 by omega) with rfl | rfl | rfl | rfl
  · simp [ctK, h]
  · simp [ctK, h, hl 1 (by omega) (by omega)]
  · simp [ctK, h, hl 1 (by omega) (by omega), hl 2 (by omega) (by omega)]
  · simp [ctK, h, hl 1 (by omega) (by omega), hl 2 (by omega) (by omega), hl 3 (by omega) (by omega)]
noncomputable def ctV (n : Int) (es : List (Int × Int)) : Int := if ccC n es = 0 then (ctK (cyK n es) : Nat) else 0
noncomputable def ctC (n : Int) (es : List (Int × Int)) : Int := if ccC n es = 0 then (if ctK (cyK n es) = 0 then 4 else 0) else ccC n es
noncomputable def ctT (n : Int) (es : List (Int × Int)) : Value := .tuple #[.int .i64 (ctV n es), .int .i64 (ctC n es)]
theorem ctT_no {n : Int} {es : List (Int × Int)} (h0 : ccC n es = 0) (h : ∀ k, 1 ≤ k → k < 5 → cyK n es k = false) : ctT n es = .tuple #[.int .i64 0, .int .i64 4] := by
  simp [ctT, ctV, ctC, h0, ctK_no h]
theorem ctT_at {n : Int} {es : List (Int × Int)} {k : Nat} (h0 : ccC n es = 0) (h1 : 1 ≤ k) (h2 : k < 5) (h : cyK n es k = true) (hl : ∀ j, 1 ≤ j → j < k → cyK n es j = false) : ctT n es = .tuple #[.int .i64 k, .int .i64 0] := by
  have hne : k ≠ 0 := by omega
  simp [ctT, ctV, ctC, h0, ctK_at h1 h2 h hl, hne]
theorem ctT_n {n : Int} {es : List (Int × Int)} (h0 : ccC n es ≠ 0) : ctT n es = .tuple #[.int .i64 0, .int .i64 (ccC n es)] := by simp [ctT, ctV, ctC, h0]
theorem enCy : Enters 76 := fun args w => by kernel_rfl
set_option maxRecDepth 100000 in
set_option maxHeartbeats 2000000 in
theorem imCyclicConnectivity_any (n : Int) (b o m c : Nat) (es : List (Int × Int)) (w : World) (h : Eds w b o m es) (hm : m ≤ 1048576) :
    Calls Try.prog 45 #[.agg #[.int .i64 n, .slice (some ⟨b, o, none⟩) m c]] w (Ret (ctT n es) w) := by
  have KC := cell_rg
  have hbox := Box2.made w (.int .i64 n) (.slice (some ⟨b, o, none⟩) m c) 30
  have hbb := (by go_grown : Below w.heap.size w (w.alloc (.cells #[.int .i64 n, .slice (some ⟨b, o, none⟩) m c] 30)))
  have HGC := Lib.hid (connectedCode_any n b o m c es _ (h.alloc (.cells #[.int .i64 n, .slice (some ⟨b, o, none⟩) m c] 30)) hm)
  rcases (show ccC n es = 0 ∨ ccC n es ≠ 0 from Classical.em _) with h0 | h0
  rotate_left
  · have HT := Lib.hid (ctT_n h0)
    obtain ⟨K, hK⟩ : ∃ K, ccC n es = K := ⟨_, rfl⟩
    rw [hK] at HGC HT h0
    rw [HT.out]
    have hkb : (K != 0) = true := by simpa using h0
    clear hK h0
    go_enter Try.func45, Try.ntmps45
    go_wp2_with fail
    refine HGC.out.mono ?_
    rintro e w1 ⟨rfl, hb1⟩
    have hB1 := hbb.thenB (by simp) hb1
    clear hb1 hbb hbox
    go_wp2_with fail
    go_ret2
    exact ⟨rfl, hB1⟩
  have hG : IsG n es := by
    rcases dm_cases n es with ⟨hG, h1, h2⟩ | ⟨hG, hq, h1, h2⟩ | ⟨hG, hq, h1, h2⟩
    · rw [h0] at h1; cases h1
    · rw [h0] at h1; cases h1
    · exact hG
  have hm30 : m ≤ 30 := by have := hG.wf.2.2.2.1; have := hG.wf.2.1; have := h.len; omega
  have HNO := Lib.hid (fun (x : ∀ k, 1 ≤ k → k < 5 → cyK n es k = false) => ctT_no h0 x)
  have HAT := Lib.hid (fun (k : Nat) (h1 : 1 ≤ k) (h2 : k < 5) (x : cyK n es k = true) (y : ∀ j, 1 ≤ j → j < k → cyK n es j = false) => ctT_at h0 h1 h2 x y)
  rw [h0] at HGC
  have HCH : Hid (∀ (k : Nat) W, k ≤ 4 → Eds W b o m es → Calls Try.prog 58 #[.int .i64 m, .int .i64 k, .func (.func 76) #[.agg #[.int .i64 n, .slice (some ⟨b, o, none⟩) m c]] #[]] W (Ret (.bool (cyK n es k)) W)) := fun k W hk E => by
    have e : es.length = m := h.len
    have := choose_any 76 (.agg #[.int .i64 n, .slice (some ⟨b, o, none⟩) m c]) (fun s => cyB n es (skS s)) m k W enCy hm30 hk (fun s hs W' hW => isCyclic_any n b o m c s es W' (E.below hW) hm hG.wf (by have := pow30 hm30; omega))
    unfold cyK; rw [e]; exact this
  clear h0 hG
  go_enter Try.func45, Try.ntmps45
  go_wp2_with fail
  refine HGC.out.mono ?_
  rintro e w1 ⟨rfl, hb1⟩
  have hB1 := hbb.thenB (by simp) hb1
  obtain ⟨s1, p1, q1⟩ := hbox.below hb1
  clear hb1 hbb hbox HGC
  go_wp2_with fail
  go_loopw [5] (fun kv wr => ∃ k : Nat, 1 ≤ k ∧ k ≤ 5 ∧ kv = .int .i64 k ∧ Hid (∀ j, 1 ≤ j → j < k → cyK n es j = false) ∧ Below w1.heap.size w1 wr) (fun k _ => 5 - (intOf k).toNat)
  case atStart => exact ⟨1, Nat.le_refl _, by omega, rfl, (fun j h1 h2 => absurd h2 (by omega)), Below.refl _ _⟩
  case round =>
    obtain ⟨k, hk1, hk5, rfl, HP, hbr⟩ := hrel
    obtain ⟨s2, p2, q2⟩ := Box2.below ⟨s1, p1, q1⟩ hbr
    have hB := hB1.andB hbr
    by_cases hlt : k < 5
    · obtain ⟨r, hr⟩ : ∃ r, r = cyK n es k := ⟨_, rfl⟩
      have hC : ∀ d oz, Calls Try.prog 58 #[.int .i64 m, .int .i64 k, .func (.func 76) #[.agg #[.int .i64 n, .slice (some ⟨b, o, none⟩) m c]] #[]] (grow (redrawn wr d) oz) fun e w'' => e = .returned (.bool r) ∧ ∃ p : Regrown, w'' = grow (redrawn wr p.d) p.os := fun d oz =>
        Ret.rg (hr ▸ HCH.out k _ (by omega) ((h.below hB).below (below_regrown _ _ _)))
      have HC := Lib.hid hC
      clear hC s1 p1 q1
      cases r with
      | true =>
        have HT := Lib.hid (HAT.out k hk1 hlt hr.symm HP.out)
        clear hr
        go_wp2_with fail
        (refine wp_region_quiet_below (by kernel_rfl) (by kernel_rfl) ?_
         repeat (any_goals (go_big_quiet_step (first | (go_at_call 59; exact Is.rg (lengthE_any _ _ _ _ (by omega))) | (go_at_call 58; exact HC.out _ _))))
         all_goals (refine wpQuiet_nil ?_; intro wq2 hq2; replace hq2 := below_of_rg hq2))
        go_wp2_with fail
        go_ret2
        exact ⟨by rw [HT.out] <;> rfl, hB.andB hq2⟩
      | false =>
        have HP2 : Hid (∀ j, 1 ≤ j → j < k + 1 → cyK n es j = false) := fun j h1 h2 => by
          by_cases e : j = k
          · subst e; exact hr.symm
          · exact HP.out j h1 (by omega)
        clear hr
        go_wp2_with fail
        (refine wp_region_quiet_below (by kernel_rfl) (by kernel_rfl) ?_
         repeat (any_goals (go_big_quiet_step (first | (go_at_call 59; exact Is.rg (lengthE_any _ _ _ _ (by omega))) | (go_at_call 58; exact HC.out _ _))))
         all_goals (refine wpQuiet_nil ?_; intro wq2 hq2; replace hq2 := below_of_rg hq2))
        go_wp2_with fail
        go_roundw
        case rel => exact ⟨k + 1, by omega, by omega, by go_num, HP2, hbr.andB hq2⟩
        case measure => simp [intOf]; omega
    · obtain rfl : k = 5 := by omega
      have HT := Lib.hid (HNO.out (fun j h1 h2 => HP.out j h1 h2))
      go_wp2_with fail
      go_ret2
      exact ⟨by rw [HT.out] <;> rfl, hB⟩
end Go.Proofs.Ytccinfmphkihoaa
namespace Go.Proofs.Ytccinfmphkihoaa
open Go.RowKit Go.Sort
/-! ### CyclicConnectivity, the reference -/
theorem cyK_iff (n : Int) (es : List (Int × Int)) (k : Nat) : cyK n es k = true ↔ ∃ j, j < (setsL es.length k 0).length ∧ cyB n es (skS (setN (ia (ra (setsL es.length k 0) j)) (ra (setsL es.length k 0) j).length)) = true := by
  unfold cyK
  rw [anyG_iff _ _ _ _ _ (Nat.zero_le _)]
  constructor
  · rintro ⟨x, hx, h⟩
    obtain ⟨j, hj, e⟩ := List.mem_iff_getElem.1 hx
    have : ra (setsL es.length k 0) j = x := by simp [ra, hj, e]
    exact ⟨j, hj, by rw [this]; rw [Nat.zero_or] at h; exact h⟩
  · rintro ⟨j, hj, h⟩
    have : ra (setsL es.length k 0) j ∈ setsL es.length k 0 := by simp [ra, hj]
    exact ⟨_, this, by rw [Nat.zero_or]; exact h⟩
theorem ra_mem {rows : List (List Int)} {j : Nat} (h : j < rows.length) : ra rows j ∈ rows := by simp [ra, h]
set_option maxRecDepth 100000 in
set_option maxHeartbeats 2000000 in
theorem spCyclicConnectivity_any (n : Int) (b o m c : Nat) (es : List (Int × Int)) (w : World) (h : Eds w b o m es) (hm : m ≤ 1048576) :
    Calls Try.prog 44 #[.agg #[.int .i64 n, .slice (some ⟨b, o, none⟩) m c]] w (Ret (ctT n es) w) := by
  have KC := cell_rg
  have hbox := Box2.made w (.int .i64 n) (.slice (some ⟨b, o, none⟩) m c) 30
  have hbb := (by go_grown : Below w.heap.size w (w.alloc (.cells #[.int .i64 n, .slice (some ⟨b, o, none⟩) m c] 30)))
  have HSP := Lib.hid (l01Is_any n b o m c es _ (h.alloc (.cells #[.int .i64 n, .slice (some ⟨b, o, none⟩) m c] 30)) hm)
  rcases dm_cases n es with ⟨hG, h1, _⟩ | ⟨hG, hq, h1, _⟩ | ⟨hG, hq, h1, _⟩
  · have HT := Lib.hid (ctT_n (n := n) (es := es) (by rw [h1]; decide))
    rw [h1] at HT
    rw [HT.out]
    rw [B_false hG] at HSP
    clear hG h1
    go_enter Try.func44, Try.ntmps44
    go_wp2_with fail
    refine HSP.out.mono ?_
    rintro e w1 ⟨rfl, hb1⟩
    have hB1 := hbb.thenB (by simp) hb1
    clear hb1 hbb hbox
    go_wp2_with fail
    go_ret2
    exact ⟨rfl, hB1⟩
  · have HT := Lib.hid (ctT_n (n := n) (es := es) (by rw [h1]; decide))
    rw [h1] at HT
    rw [HT.out]
    rw [B_true hG] at HSP
    have HIC := Lib.hid (fun W hE => hq ▸ l01Connected_any n b o m c es W hE hm hG.wf)
    clear hG h1 hq
    go_enter Try.func44, Try.ntmps44
    go_wp2_with fail
    refine HSP.out.mono ?_
    rintro e w1 ⟨rfl, hb1⟩
    have hB1 := hbb.thenB (by simp) hb1
    obtain ⟨s1, p1, q1⟩ := hbox.below hb1
    clear hb1 hbb hbox
    go_wp2_with fail
    refine (HIC.out _ (h.below hB1)).mono ?_
    rintro e w2 ⟨rfl, hb2⟩
    go_wp2_with fail
    go_ret2
    exact ⟨rfl, hB1.andB hb2⟩
  have hm30 : m ≤ 30 := by have := hG.wf.2.2.2.1; have := hG.wf.2.1; have := h.len; omega
  have hl : es.length = m := h.len
  have HNO := Lib.hid (fun (x : ∀ k, 1 ≤ k → k < 5 → cyK n es k = false) => ctT_no h1 x)
  have HAT := Lib.hid (fun (k : Nat) (h1' : 1 ≤ k) (h2 : k < 5) (x : cyK n es k = true) (y : ∀ j, 1 ≤ j → j < k → cyK n es j = false) => ctT_at h1 h1' h2 x y)
  have HIF := Lib.hid (fun k => cyK_iff n es k)
  rw [hl] at HIF
  have HG := Lib.hid hG.wf
  rw [B_true hG] at HSP
  have HIC := Lib.hid (fun W hE => hq ▸ l01Connected_any n b o m c es W hE hm hG.wf)
  have HST := Lib.hid (fun (k : Nat) W (hk : k ≤ 4) => l03Sets_any m hm30 k 0 W hk (Nat.zero_le _))
  clear hG h1 hq hl
  go_enter Try.func44, Try.ntmps44
  go_wp2_with fail
  refine HSP.out.mono ?_
  rintro e w1 ⟨rfl, hb1⟩
  have hB1 := hbb.thenB (by simp) hb1
  have hbx := hbox.below hb1
  obtain ⟨s1, p1, q1⟩ := hbox.below hb1
  clear hb1 hbb hbox
  go_wp2_with fail
  refine (HIC.out _ (h.below hB1)).mono ?_
  rintro e w2 ⟨rfl, hb2⟩
  have hB2 := hB1.andB hb2
  obtain ⟨s1, p1, q1⟩ := hbx.below hb2
  clear hb2 hB1 HIC HSP hbx
  go_wp2_with fail
  go_loopw [4] (fun kv wr => ∃ k : Nat, 1 ≤ k ∧ k ≤ 5 ∧ kv = .int .i64 k ∧ Hid (∀ j, 1 ≤ j → j < k → cyK n es j = false) ∧ Below w2.heap.size w2 wr) (fun k _ => 5 - (intOf k).toNat)
  case atStart => exact ⟨1, Nat.le_refl _, by omega, rfl, (fun j h1 h2 => absurd h2 (by omega)), Below.refl _ _⟩
  case round =>
    obtain ⟨k, hk1, hk5, rfl, HP, hbr⟩ := hrel
    obtain ⟨s2, p2, q2⟩ := Box2.below ⟨s1, p1, q1⟩ hbr
    have hB := hB2.andB hbr
    by_cases hlt : k < 5
    · have hST : Hid (Calls Try.prog 53 #[.int .i64 m, .int .i64 k, .int .i64 0] wr (RetLL (setsL m k 0) wr)) := HST.out k wr (by omega)
      have hIF := Lib.hid (HIF.out k)
      have hRM : Hid (∀ j, j < (setsL m k 0).length → (ra (setsL m k 0) j).length = k ∧ SetP (ia (ra (setsL m k 0) j)) (ra (setsL m k 0) j).length ((m : Int) - 1)) := fun j hj => by
        have hx := ra_mem hj
        refine ⟨(setsL_room (Nat.zero_le _) hx).2, fun t ht => ?_⟩
        have := setsL_asc (Nat.zero_le _) hx t ht
        exact ⟨⟨by omega, by omega⟩, this.2⟩
      have hlen : (setsL m k 0).length ≤ 1048576 := Nat.le_trans (setsL_len hm30 k 0) (Nat.pow_le_pow_right (n := 32) (by decide) (by omega : k ≤ 4))
      have hHAT := Lib.hid (fun x => HAT.out k hk1 hlt x HP.out)
      obtain ⟨rows, hrows⟩ : ∃ rows, rows = setsL m k 0 := ⟨_, rfl⟩
      rw [← hrows] at hST hIF hRM hlen
      clear hrows
      go_wp2_with fail
      refine hST.out.mono ?_
      rintro e w3 ⟨AR, cR, rfl, OR, hb3⟩
      have hB3 := hB.andB hb3
      obtain ⟨s3, p3, q3⟩ := Box2.below ⟨s2, p2, q2⟩ hb3
      have hb23 := hbr.andB hb3
      clear hST s1 p1 q1 s2 p2 q2 hbr hb3 hB
      go_wp2_with fail
      obtain ⟨w9, rfl⟩ : ∃ w9, w9 = wr := ⟨wr, rfl⟩
      go_loopw [6] (fun jv wv => ∃ j : Nat, j ≤ rows.length ∧ jv = .int .i64 j ∧ Hid (∀ i, i < j → cyB n es (skS (setN (ia (ra rows i)) (ra rows i).length)) = false) ∧ Below w3.heap.size w3 wv) (fun j _ => rows.length - (intOf j).toNat)
      case atStart => exact ⟨0, Nat.zero_le _, rfl, (fun i hi => absurd hi (by omega)), Below.refl _ _⟩
      case round =>
        obtain ⟨j, hj, rfl, HQ, hbv⟩ := hrel
        obtain ⟨s4, p4, q4⟩ := Box2.below ⟨s3, p3, q3⟩ hbv
        have hBv := hB3.andB hbv
        by_cases hltj : j < rows.length
        · obtain ⟨g, Aj, cj, rfl, hg1, hg2, ca, ho⟩ := (OR.below hbv).at hltj
          obtain ⟨r1, r2⟩ := hRM.out j hltj
          obtain ⟨gj, oj, rfl, I⟩ := ho.src (by omega)
          obtain ⟨r, hr⟩ : ∃ r, r = cyB n es (skS (setN (ia (ra rows j)) (ra rows j).length)) := ⟨_, rfl⟩
          obtain ⟨xs, hxs⟩ : ∃ xs, xs = ra rows j := ⟨_, rfl⟩
          have hr' : r = cyB n es (skS (setN (ia xs) xs.length)) := by rw [hxs]; exact hr
          rw [← hxs] at ca I r1 r2
          have hC : ∀ d oz, Calls Try.prog 75 #[.agg #[.int .i64 n, .slice (some ⟨b, o, none⟩) m c], .slice (some ⟨gj, oj, none⟩) xs.length cj] (grow (redrawn wr d) oz) fun e w'' => e = .returned (.bool r) ∧ ∃ p : Regrown, w'' = grow (redrawn wr p.d) p.os := fun d oz =>
            Ret.rg (hr' ▸ l03Cyclic_any n b o m c gj oj xs.length cj es (ia xs) ((m : Int) - 1) _ ((h.below hBv).below (below_regrown _ _ _)) hm HG.out (I.below (below_regrown _ _ _)) (by omega) r2)
          have HC := Lib.hid hC
          have HR := Lib.hid hr
          clear hC hr hr' hxs ho I r1 r2 s3 p3 q3
          cases r with
          | true =>
            have HT := Lib.hid (hHAT.out (hIF.out.2 ⟨j, hltj, HR.out.symm⟩))
            go_wp2_with fail
            (refine wp_region_quiet_below (by kernel_rfl) (by kernel_rfl) ?_
             repeat (any_goals (go_big_quiet_step (first | (go_at_call 75; exact HC.out _ _))))
             all_goals (refine wpQuiet_nil ?_; intro wq2 hq2; replace hq2 := below_of_rg hq2))
            go_wp2_with fail
            go_ret2
            exact ⟨by rw [HT.out] <;> rfl, hBv.andB hq2⟩
          | false =>
            have HQ2 : Hid (∀ i, i < j + 1 → cyB n es (skS (setN (ia (ra rows i)) (ra rows i).length)) = false) := fun i hi => by
              by_cases e : i = j
              · subst e; exact HR.out.symm
              · exact HQ.out i (by omega)
            go_wp2_with fail
            (refine wp_region_quiet_below (by kernel_rfl) (by kernel_rfl) ?_
             repeat (any_goals (go_big_quiet_step (first | (go_at_call 75; exact HC.out _ _))))
             all_goals (refine wpQuiet_nil ?_; intro wq2 hq2; replace hq2 := below_of_rg hq2))
            go_wp2_with fail
            go_roundw
            case rel => exact ⟨j + 1, by omega, by go_num, HQ2, hbv.andB hq2⟩
            case measure => simp [intOf]; omega
        · obtain rfl : j = rows.length := by omega
          have hkf : Hid (cyK n es k = false) := by
            show _ = _
            cases hx : cyK n es k with
            | false => rfl
            | true =>
              obtain ⟨i, hi, h2⟩ := hIF.out.1 hx
              rw [HQ.out i hi] at h2; cases h2
          have HP2 : Hid (∀ j, 1 ≤ j → j < k + 1 → cyK n es j = false) := fun j h1 h2 => by
            by_cases e : j = k
            · subst e; exact hkf.out
            · exact HP.out j h1 (by omega)
          clear hkf
          go_wp2_with fail
          go_roundw
          case rel => exact ⟨k + 1, by omega, by omega, by go_num, HP2, hb23.andB hbv⟩
          case measure => simp [intOf]; omega
    · obtain rfl : k = 5 := by omega
      have HT := Lib.hid (HNO.out (fun j h1 h2 => HP.out j h1 h2))
      go_wp2_with fail
      go_ret2
      exact ⟨by rw [HT.out] <;> rfl, hB⟩
end Go.Proofs.Ytccinfmphkihoaa
namespace Go.Proofs.Ytccinfmphkihoaa
open Go.RowKit Go.Sort
theorem spCyclicConnectivity_t (n : Int) (b o m c : Nat) (es : List (Int × Int)) (w : World) (h : Eds w b o m es) (hm : m ≤ 1048576) :
    Calls Try.prog 44 #[.agg #[.int .i64 n, .slice (some ⟨b, o, none⟩) m c]] w (Ret (.tuple #[.int .i64 (ctV n es), .int .i64 (ctC n es)]) w) := spCyclicConnectivity_any n b o m c es w h hm
theorem imCyclicConnectivity_t (n : Int) (b o m c : Nat) (es : List (Int × Int)) (w : World) (h : Eds w b o m es) (hm : m ≤ 1048576) :
    Calls Try.prog 45 #[.agg #[.int .i64 n, .slice (some ⟨b, o, none⟩) m c]] w (Ret (.tuple #[.int .i64 (ctV n es), .int .i64 (ctC n es)]) w) := imCyclicConnectivity_any n b o m c es w h hm
end Go.Proofs.Ytccinfmphkihoaa
namespace Go.Proofs.Ytccinfmphkihoaa
open Go.RowKit Go.Sort
/-! ### EdgeConnectivity, plain: the three edges at vertex 0 are a cut -/
theorem not_rch0 {es : List (Int × Int)} {sk : Nat → Bool} (hs : ∀ f, f < es.length → (ea es f = 0 ∨ eb es f = 0) → sk f = true) {u : Int} (hu : u ≠ 0) : ¬ Rch es sk u 0 := by
  rintro ⟨k, hk⟩
  cases k with
  | zero => exact hu hk
  | succ k =>
    obtain ⟨x, _, e, he, hse, h⟩ := hk
    have : sk e = true := hs e he (by rcases h with ⟨_, h⟩ | ⟨_, h⟩ <;> simp [h])
    rw [this] at hse; cases hse
theorem ldCnt_mono (es : List (Int × Int)) (sk : Nat → Bool) {j k : Nat} (h : j ≤ k) : ldCnt es sk j ≤ ldCnt es sk k := by
  induction k with
  | zero => obtain rfl : j = 0 := by omega
            exact Nat.le_refl _
  | succ k ih =>
    by_cases e : j = k + 1
    · subst e; exact Nat.le_refl _
    · have := ih (by omega)
      simp only [ldCnt]; omega
theorem two_leads {es : List (Int × Int)} {sk : Nat → Bool} {N : Nat} (hN : 2 ≤ N) (hs : ∀ f, f < es.length → (ea es f = 0 ∨ eb es f = 0) → sk f = true) : 2 ≤ ldCnt es sk N := by
  have h0 : leadF es sk (0 : Nat) = (0 : Nat) := by
    have h1 := leadF_nonneg es sk ((0 : Nat) : Int)
    have h2 := leadF_le (es := es) (sk := sk) (v := ((0 : Nat) : Int)) (by omega)
    omega
  have a1 := leadF_nonneg es sk ((1 : Nat) : Int)
  have a2 := leadF_le (es := es) (sk := sk) (v := ((1 : Nat) : Int)) (by omega)
  have a3 := (leadF_spec (es := es) (sk := sk) (v := ((1 : Nat) : Int)) (by omega)).1
  have h1 : leadF es sk (1 : Nat) = (1 : Nat) := by
    by_cases e : leadF es sk ((1 : Nat) : Int) = 0
    · rw [e] at a3; exact absurd a3 (not_rch0 hs (by omega))
    · omega
  have c2 : ldCnt es sk 2 = 2 := by
    simp only [ldCnt]
    rw [if_pos h0, if_pos h1]
  have := ldCnt_mono es sk hN
  omega
theorem skS_or (s e f : Nat) : skS (s ||| 2 ^ e) f = if f = e then true else skS s f := hasB_or s e f
theorem any3 {n : Int} {es : List (Int × Int)} (hG : IsG n es) (hc : cnB' n es = true) : anyG (fun s => cutB n es (skS s)) es.length 3 0 0 = true := by
  have hn := hG.wf.1
  have hL := atL_3 hG (v := 0) (by omega) (by omega)
  have hm : ∀ i, i < 3 → ∃ f : Nat, f < es.length ∧ ia (atL es 0) i = f ∧ (ea es f = 0 ∨ eb es f = 0) := fun i hi => mem_atTo.1 (iaMem (xs := atL es 0) (i := i) (by omega))
  obtain ⟨e0, p0, q0, r0⟩ := hm 0 (by omega)
  obtain ⟨e1, p1, q1, r1⟩ := hm 1 (by omega)
  obtain ⟨e2, p2, q2, r2⟩ := hm 2 (by omega)
  have l1 := atTo_asc es.length 0 1 (by omega) (by show 1 < (atL es 0).length; omega) (es := es) (v := 0)
  have l2 := atTo_asc es.length 1 2 (by omega) (by show 2 < (atL es 0).length; omega) (es := es) (v := 0)
  have l1' : ia (atL es 0) 0 < ia (atL es 0) 1 := l1
  have l2' : ia (atL es 0) 1 < ia (atL es 0) 2 := l2
  rw [q0, q1] at l1'
  rw [q1, q2] at l2'
  have hcut : cutB n es (skS (0 ||| 2 ^ e0 ||| 2 ^ e1 ||| 2 ^ e2)) = true := by
    have h1 : ldCnt es noSk n.toNat = 1 := by simpa [cnB'] using hc
    have h2 : 2 ≤ ldCnt es (skS (0 ||| 2 ^ e0 ||| 2 ^ e1 ||| 2 ^ e2)) n.toNat := two_leads (by omega) (fun f hf hv => by
      have hmem : (f : Int) ∈ atL es 0 := mem_atTo.2 ⟨f, hf, rfl, hv⟩
      obtain ⟨i, hi, e⟩ := memIa hmem
      rw [skS_or, skS_or, skS_or]
      rcases (show i = 0 ∨ i = 1 ∨ i = 2 by omega) with rfl | rfl | rfl
      · have : f = e0 := by omega
        subst this; simp
      · have : f = e1 := by omega
        subst this; simp
      · have : f = e2 := by omega
        subst this; simp)
    simp only [cutB, h1, decide_eq_true_eq]; omega
  refine B_true ⟨e0, Nat.zero_le _, (show e0 + 3 ≤ es.length by omega), ?_⟩
  refine B_true ⟨e1, by omega, (show e1 + 2 ≤ es.length by omega), ?_⟩
  exact B_true ⟨e2, by omega, (show e2 + 1 ≤ es.length by omega), hcut⟩
noncomputable def ecK (n : Int) (es : List (Int × Int)) (k : Nat) : Bool := anyG (fun s => cutB n es (skS s)) es.length k 0 0
def ecE (p : Nat → Bool) : Nat := if p 1 then 1 else if p 2 then 2 else 3
theorem ecE_at {p : Nat → Bool} {k : Nat} (h1 : 1 ≤ k) (h2 : k ≤ 3) (h : p k = true) (hl : ∀ j, 1 ≤ j → j < k → p j = false) : ecE p = k := by
  rcases (show k = 1 ∨ k = 2 ∨ k = 3 by omega) with rfl | rfl | rfl
  · simp [ecE, h]
  · simp [ecE, h, hl 1 (by omega) (by omega)]
  · simp [ecE, hl 1 (by omega) (by omega), hl 2 (by omega) (by omega)]
theorem ecE_no {p : Nat → Bool} (hl : ∀ j, 1 ≤ j → j < 3 → p j = false) : ecE p = 3 := by
  simp [ecE, hl 1 (by omega) (by omega), hl 2 (by omega) (by omega)]
noncomputable def edV (n : Int) (es : List (Int × Int)) : Int := if ccC n es = 0 then (ecE (ecK n es) : Nat) else 0
noncomputable def edT (n : Int) (es : List (Int × Int)) : Value := .tuple #[.int .i64 (edV n es), .int .i64 (ccC n es)]
theorem edT_at {n : Int} {es : List (Int × Int)} {k : Nat} (h0 : ccC n es = 0) (h1 : 1 ≤ k) (h2 : k ≤ 3) (h : ecK n es k = true) (hl : ∀ j, 1 ≤ j → j < k → ecK n es j = false) : edT n es = .tuple #[.int .i64 k, .int .i64 0] := by
  simp [edT, edV, h0, ecE_at h1 h2 h hl]
theorem edT_no {n : Int} {es : List (Int × Int)} (h0 : ccC n es = 0) (hl : ∀ j, 1 ≤ j → j < 3 → ecK n es j = false) : edT n es = .tuple #[.int .i64 3, .int .i64 0] := by
  simp [edT, edV, h0, ecE_no hl]
theorem edT_n {n : Int} {es : List (Int × Int)} (h0 : ccC n es ≠ 0) : edT n es = .tuple #[.int .i64 0, .int .i64 (ccC n es)] := by simp [edT, edV, h0]
theorem enCt : Enters 60 := fun args w => by kernel_rfl
set_option maxRecDepth 100000 in
set_option maxHeartbeats 2000000 in
theorem imEdgeConnectivity_any (n : Int) (b o m c : Nat) (es : List (Int × Int)) (w : World) (h : Eds w b o m es) (hm : m ≤ 1048576) :
    Calls Try.prog 18 #[.agg #[.int .i64 n, .slice (some ⟨b, o, none⟩) m c]] w (Ret (edT n es) w) := by
  have KC := cell_rg
  have hbox := Box2.made w (.int .i64 n) (.slice (some ⟨b, o, none⟩) m c) 30
  have hbb := (by go_grown : Below w.heap.size w (w.alloc (.cells #[.int .i64 n, .slice (some ⟨b, o, none⟩) m c] 30)))
  have HGC := Lib.hid (connectedCode_any n b o m c es _ (h.alloc (.cells #[.int .i64 n, .slice (some ⟨b, o, none⟩) m c] 30)) hm)
  rcases (show ccC n es = 0 ∨ ccC n es ≠ 0 from Classical.em _) with h0 | h0
  rotate_left
  · have HT := Lib.hid (edT_n h0)
    obtain ⟨K, hK⟩ : ∃ K, ccC n es = K := ⟨_, rfl⟩
    rw [hK] at HGC HT h0
    rw [HT.out]
    have hkb : (K != 0) = true := by simpa using h0
    clear hK h0
    go_enter Try.func18, Try.ntmps18
    go_wp2_with fail
    refine HGC.out.mono ?_
    rintro e w1 ⟨rfl, hb1⟩
    have hB1 := hbb.thenB (by simp) hb1
    clear hb1 hbb hbox
    go_wp2_with fail
    go_ret2
    exact ⟨rfl, hB1⟩
  obtain ⟨hG, hq⟩ : IsG n es ∧ cnB' n es = true := by
    rcases dm_cases n es with ⟨hG, h1, h2⟩ | ⟨hG, hq, h1, h2⟩ | ⟨hG, hq, h1, h2⟩
    · rw [h0] at h1; cases h1
    · rw [h0] at h1; cases h1
    · exact ⟨hG, hq⟩
  have HA3 : Hid (ecK n es 3 = true) := any3 hG hq
  have hm30 : m ≤ 30 := by have := hG.wf.2.2.2.1; have := hG.wf.2.1; have := h.len; omega
  have HAT := Lib.hid (fun (k : Nat) (h1 : 1 ≤ k) (h2 : k ≤ 3) (x : ecK n es k = true) (y : ∀ j, 1 ≤ j → j < k → ecK n es j = false) => edT_at h0 h1 h2 x y)
  rw [h0] at HGC
  have HCH : Hid (∀ (k : Nat) W, k ≤ 4 → Eds W b o m es → Calls Try.prog 58 #[.int .i64 m, .int .i64 k, .func (.func 60) #[.agg #[.int .i64 n, .slice (some ⟨b, o, none⟩) m c]] #[]] W (Ret (.bool (ecK n es k)) W)) := fun k W hk E => by
    have e : es.length = m := h.len
    have := choose_any 60 (.agg #[.int .i64 n, .slice (some ⟨b, o, none⟩) m c]) (fun s => cutB n es (skS s)) m k W enCt hm30 hk (fun s hs W' hW => isCut_any n b o m c s es W' (E.below hW) hm hG.wf (by have := pow30 hm30; omega))
    unfold ecK; rw [e]; exact this
  clear h0 hG hq
  go_enter Try.func18, Try.ntmps18
  go_wp2_with fail
  refine HGC.out.mono ?_
  rintro e w1 ⟨rfl, hb1⟩
  have hB1 := hbb.thenB (by simp) hb1
  obtain ⟨s1, p1, q1⟩ := hbox.below hb1
  clear hb1 hbb hbox HGC
  go_wp2_with fail
  go_loopw [5] (fun kv wr => ∃ k : Nat, 1 ≤ k ∧ k ≤ 3 ∧ kv = .int .i64 k ∧ Hid (∀ j, 1 ≤ j → j < k → ecK n es j = false) ∧ Below w1.heap.size w1 wr) (fun k _ => 4 - (intOf k).toNat)
  case atStart => exact ⟨1, Nat.le_refl _, by omega, rfl, (fun j h1 h2 => absurd h2 (by omega)), Below.refl _ _⟩
  case round =>
    obtain ⟨k, hk1, hk3, rfl, HP, hbr⟩ := hrel
    obtain ⟨s2, p2, q2⟩ := Box2.below ⟨s1, p1, q1⟩ hbr
    have hB := hB1.andB hbr
    obtain ⟨r, hr⟩ : ∃ r, r = ecK n es k := ⟨_, rfl⟩
    have hC : ∀ d oz, Calls Try.prog 58 #[.int .i64 m, .int .i64 k, .func (.func 60) #[.agg #[.int .i64 n, .slice (some ⟨b, o, none⟩) m c]] #[]] (grow (redrawn wr d) oz) fun e w'' => e = .returned (.bool r) ∧ ∃ p : Regrown, w'' = grow (redrawn wr p.d) p.os := fun d oz =>
      Ret.rg (hr ▸ HCH.out k _ (by omega) ((h.below hB).below (below_regrown _ _ _)))
    have HC := Lib.hid hC
    clear hC s1 p1 q1
    cases r with
    | true =>
      have HT := Lib.hid (HAT.out k hk1 hk3 hr.symm HP.out)
      clear hr
      try go_wp2_with fail
      (refine wp_region_quiet_below (by kernel_rfl) (by kernel_rfl) ?_
       repeat (any_goals (go_big_quiet_step (first | (go_at_call 59; exact Is.rg (lengthE_any _ _ _ _ (by omega))) | (go_at_call 58; exact HC.out _ _))))
       all_goals (refine wpQuiet_nil ?_; intro wq2 hq2; replace hq2 := below_of_rg hq2))
      go_wp2_with fail
      go_ret2
      exact ⟨by rw [HT.out] <;> rfl, hB.andB hq2⟩
    | false =>
      have hk2 : k < 3 := by
        by_cases e : k = 3
        · subst e; rw [HA3.out] at hr; cases hr
        · omega
      have HP2 : Hid (∀ j, 1 ≤ j → j < k + 1 → ecK n es j = false) := fun j h1 h2 => by
        by_cases e : j = k
        · subst e; exact hr.symm
        · exact HP.out j h1 (by omega)
      clear hr
      try go_wp2_with fail
      (refine wp_region_quiet_below (by kernel_rfl) (by kernel_rfl) ?_
       repeat (any_goals (go_big_quiet_step (first | (go_at_call 59; exact Is.rg (lengthE_any _ _ _ _ (by omega))) | (go_at_call 58; exact HC.out _ _))))
       all_goals (refine wpQuiet_nil ?_; intro wq2 hq2; replace hq2 := below_of_rg hq2))
      go_wp2_with fail
      go_roundw
      case rel => exact ⟨k + 1, by omega, by omega, by go_num, HP2, hbr.andB hq2⟩
      case measure => simp [intOf]; omega
theorem ecK_iff (n : Int) (es : List (Int × Int)) (k : Nat) : ecK n es k = true ↔ ∃ j, j < (setsL es.length k 0).length ∧ cutB n es (skS (setN (ia (ra (setsL es.length k 0) j)) (ra (setsL es.length k 0) j).length)) = true := by
  unfold ecK
  rw [anyG_iff _ _ _ _ _ (Nat.zero_le _)]
  constructor
  · rintro ⟨x, hx, h⟩
    obtain ⟨j, hj, e⟩ := List.mem_iff_getElem.1 hx
    have : ra (setsL es.length k 0) j = x := by simp [ra, hj, e]
    exact ⟨j, hj, by rw [this]; rw [Nat.zero_or] at h; exact h⟩
  · rintro ⟨j, hj, h⟩
    have : ra (setsL es.length k 0) j ∈ setsL es.length k 0 := by simp [ra, hj]
    exact ⟨_, this, by rw [Nat.zero_or]; exact h⟩
set_option maxRecDepth 100000 in
set_option maxHeartbeats 2000000 in
theorem spEdgeConnectivity_any (n : Int) (b o m c : Nat) (es : List (Int × Int)) (w : World) (h : Eds w b o m es) (hm : m ≤ 1048576) :
    Calls Try.prog 16 #[.agg #[.int .i64 n, .slice (some ⟨b, o, none⟩) m c]] w (Ret (edT n es) w) := by
  have KC := cell_rg
  have hbox := Box2.made w (.int .i64 n) (.slice (some ⟨b, o, none⟩) m c) 30
  have hbb := (by go_grown : Below w.heap.size w (w.alloc (.cells #[.int .i64 n, .slice (some ⟨b, o, none⟩) m c] 30)))
  have HSP := Lib.hid (l01Is_any n b o m c es _ (h.alloc (.cells #[.int .i64 n, .slice (some ⟨b, o, none⟩) m c] 30)) hm)
  rcases dm_cases n es with ⟨hG, h1, _⟩ | ⟨hG, hq, h1, _⟩ | ⟨hG, hq, h1, _⟩
  · have HT := Lib.hid (edT_n (n := n) (es := es) (by rw [h1]; decide))
    rw [h1] at HT
    rw [HT.out]
    rw [B_false hG] at HSP
    clear hG h1
    go_enter Try.func16, Try.ntmps16
    go_wp2_with fail
    refine HSP.out.mono ?_
    rintro e w1 ⟨rfl, hb1⟩
    have hB1 := hbb.thenB (by simp) hb1
    clear hb1 hbb hbox
    go_wp2_with fail
    go_ret2
    exact ⟨rfl, hB1⟩
  · have HT := Lib.hid (edT_n (n := n) (es := es) (by rw [h1]; decide))
    rw [h1] at HT
    rw [HT.out]
    rw [B_true hG] at HSP
    have HIC := Lib.hid (fun W hE => hq ▸ l01Connected_any n b o m c es W hE hm hG.wf)
    clear hG h1 hq
    go_enter Try.func16, Try.ntmps16
    go_wp2_with fail
    refine HSP.out.mono ?_
    rintro e w1 ⟨rfl, hb1⟩
    have hB1 := hbb.thenB (by simp) hb1
    obtain ⟨s1, p1, q1⟩ := hbox.below hb1
    clear hb1 hbb hbox
    go_wp2_with fail
    refine (HIC.out _ (h.below hB1)).mono ?_
    rintro e w2 ⟨rfl, hb2⟩
    go_wp2_with fail
    go_ret2
    exact ⟨rfl, hB1.andB hb2⟩
  have hn2 := hG.wf.1
  have hn20 := hG.wf.2.1
  obtain ⟨N, rfl⟩ : ∃ N : Nat, n = N := ⟨n.toNat, by omega⟩
  have HC1 : Hid (∀ sk, cutB N es sk = decide (1 < ldCnt es sk N)) := fun sk => by
    have e : ldCnt es noSk N = 1 := by simpa [cnB'] using hq
    simp only [cutB, Int.toNat_natCast, e]
  have HLL := Lib.hid h.len
  have hm30 : m ≤ 30 := by have := hG.wf.2.2.2.1; have := hG.wf.2.1; have := h.len; omega
  have hl : es.length = m := h.len
  have HNO := Lib.hid (fun (x : ∀ k, 1 ≤ k → k < 3 → ecK N es k = false) => edT_no h1 x)
  have HAT := Lib.hid (fun (k : Nat) (h1' : 1 ≤ k) (h2 : k ≤ 3) (x : ecK N es k = true) (y : ∀ j, 1 ≤ j → j < k → ecK N es j = false) => edT_at h1 h1' h2 x y)
  have HIF := Lib.hid (fun k => ecK_iff N es k)
  rw [hl] at HIF
  have HG := Lib.hid hG.wf
  rw [B_true hG] at HSP
  have HIC := Lib.hid (fun W hE => hq ▸ l01Connected_any N b o m c es W hE hm hG.wf)
  have HST := Lib.hid (fun (k : Nat) W (hk : k ≤ 4) => l03Sets_any m hm30 k 0 W hk (Nat.zero_le _))
  clear hG h1 hq hl
  go_enter Try.func16, Try.ntmps16
  go_wp2_with fail
  refine HSP.out.mono ?_
  rintro e w1 ⟨rfl, hb1⟩
  have hB1 := hbb.thenB (by simp) hb1
  have hbx := hbox.below hb1
  obtain ⟨s1, p1, q1⟩ := hbox.below hb1
  clear hb1 hbb hbox
  go_wp2_with fail
  refine (HIC.out _ (h.below hB1)).mono ?_
  rintro e w2 ⟨rfl, hb2⟩
  have hB2 := hB1.andB hb2
  obtain ⟨s1, p1, q1⟩ := hbx.below hb2
  clear hb2 hB1 HIC HSP hbx
  go_wp2_with fail
  go_loopw [4] (fun kv wr => ∃ k : Nat, 1 ≤ k ∧ k ≤ 3 ∧ kv = .int .i64 k ∧ Hid (∀ j, 1 ≤ j → j < k → ecK N es j = false) ∧ Below w2.heap.size w2 wr) (fun k _ => 3 - (intOf k).toNat)
  case atStart => exact ⟨1, Nat.le_refl _, by omega, rfl, (fun j h1 h2 => absurd h2 (by omega)), Below.refl _ _⟩
  case round =>
    obtain ⟨k, hk1, hk5, rfl, HP, hbr⟩ := hrel
    obtain ⟨s2, p2, q2⟩ := Box2.below ⟨s1, p1, q1⟩ hbr
    have hB := hB2.andB hbr
    by_cases hlt : k < 3
    · have hST : Hid (Calls Try.prog 53 #[.int .i64 m, .int .i64 k, .int .i64 0] wr (RetLL (setsL m k 0) wr)) := HST.out k wr (by omega)
      have hIF := Lib.hid (HIF.out k)
      have hRM : Hid (∀ j, j < (setsL m k 0).length → (ra (setsL m k 0) j).length = k ∧ SetP (ia (ra (setsL m k 0) j)) (ra (setsL m k 0) j).length ((m : Int) - 1)) := fun j hj => by
        have hx := ra_mem hj
        refine ⟨(setsL_room (Nat.zero_le _) hx).2, fun t ht => ?_⟩
        have := setsL_asc (Nat.zero_le _) hx t ht
        exact ⟨⟨by omega, by omega⟩, this.2⟩
      have hlen : (setsL m k 0).length ≤ 1048576 := Nat.le_trans (setsL_len hm30 k 0) (Nat.pow_le_pow_right (n := 32) (by decide) (by omega : k ≤ 4))
      have hHAT := Lib.hid (fun x => HAT.out k hk1 (by omega) x HP.out)
      obtain ⟨rows, hrows⟩ : ∃ rows, rows = setsL m k 0 := ⟨_, rfl⟩
      rw [← hrows] at hST hIF hRM hlen
      clear hrows
      go_wp2_with fail
      refine hST.out.mono ?_
      rintro e w3 ⟨AR, cR, rfl, OR, hb3⟩
      have hB3 := hB.andB hb3
      obtain ⟨s3, p3, q3⟩ := Box2.below ⟨s2, p2, q2⟩ hb3
      have hb23 := hbr.andB hb3
      clear hST s1 p1 q1 s2 p2 q2 hbr hb3 hB
      go_wp2_with fail
      obtain ⟨w9, rfl⟩ : ∃ w9, w9 = wr := ⟨wr, rfl⟩
      go_loopw [6] (fun jv wv => ∃ j : Nat, j ≤ rows.length ∧ jv = .int .i64 j ∧ Hid (∀ i, i < j → cutB N es (skS (setN (ia (ra rows i)) (ra rows i).length)) = false) ∧ Below w3.heap.size w3 wv) (fun j _ => rows.length - (intOf j).toNat)
      case atStart => exact ⟨0, Nat.zero_le _, rfl, (fun i hi => absurd hi (by omega)), Below.refl _ _⟩
      case round =>
        obtain ⟨j, hj, rfl, HQ, hbv⟩ := hrel
        obtain ⟨s4, p4, q4⟩ := Box2.below ⟨s3, p3, q3⟩ hbv
        have hBv := hB3.andB hbv
        by_cases hltj : j < rows.length
        · obtain ⟨g, Aj, cj, rfl, hg1, hg2, ca, ho⟩ := (OR.below hbv).at hltj
          obtain ⟨r1, r2⟩ := hRM.out j hltj
          obtain ⟨gj, oj, rfl, I⟩ := ho.src (by omega)
          obtain ⟨p, hp⟩ : ∃ p, p = ldCnt es (skS (setN (ia (ra rows j)) (ra rows j).length)) N := ⟨_, rfl⟩
          have HV : Hid (cutB N es (skS (setN (ia (ra rows j)) (ra rows j).length)) = decide (1 < p)) := by show _ = _; rw [HC1.out, hp]
          have hpl : p ≤ N := by rw [hp]; exact ldCnt_le es _ N
          obtain ⟨xs, hxs⟩ : ∃ xs, xs = ra rows j := ⟨_, rfl⟩
          rw [← hxs] at ca I r1 r2 hp
          have HRE : Hid (∀ W, Eds W b o m es → Ints W gj oj xs.length (ia xs) → Calls Try.prog 55 #[.agg #[.int .i64 N, .slice (some ⟨b, o, none⟩) m c], .slice (some ⟨gj, oj, none⟩) xs.length cj] W (RetE (restE es (skS (setN (ia xs) xs.length))) W)) := fun W hE hI => rest_any N b o m c gj oj xs.length cj es (ia xs) _ W hE hm hI (by omega) r2
          have HPA : Hid (∀ W g c2, Eds W g 0 (restE es (skS (setN (ia xs) xs.length))).length (restE es (skS (setN (ia xs) xs.length))) → Calls Try.prog 54 #[.int .i64 N, .slice (some ⟨g, 0, none⟩) (restE es (skS (setN (ia xs) xs.length))).length c2] W (Ret (.int .i64 p) W)) := fun W g c2 hE => by
            rw [hp, ← ldCnt_rest]
            exact parts_any N g 0 _ c2 _ W hE (by have := restTo_len es (skS (setN (ia xs) xs.length)) es.length; have := HLL.out; show (restTo _ _ _).length ≤ _; omega) (inR_rest HG.out.inR) (by omega) (by omega)
          obtain ⟨sk, hsk⟩ : ∃ sk, sk = skS (setN (ia xs) xs.length) := ⟨_, rfl⟩
          rw [← hsk] at HRE HPA
          have E := h.below hBv
          clear hp hxs ho r1 r2 s3 p3 q3 hsk
          go_wp2_with fail
          refine wp_region_facts (fun i v W => match i with
            | 0 => v = .pointer (some ⟨w.heap.size, 0, none⟩)
            | 1 => v = .int .i64 N
            | 2 => v = .agg #[.int .i64 N, .slice (some ⟨b, o, none⟩) m c]
            | 3 => v = .slice (some ⟨g, 0, none⟩) rows.length cR
            | 4 => v = .int .i64 j
            | 5 => v = .pointer (some ⟨g, j, none⟩)
            | 6 => v = .slice (some ⟨gj, oj, none⟩) xs.length cj
            | 7 => NewE wr.heap.size (restE es sk) v W
            | 8 => v = .int .i64 p
            | _ => v = .bool (decide ((1 : Int) < (p : Int)))) (by kernel_rfl) (by kernel_rfl) ?_ ?_ ?_
          · intro i v W W' hf hb
            match i, hf with
            | 0, hf => exact hf
            | 1, hf => exact hf
            | 2, hf => exact hf
            | 3, hf => exact hf
            | 4, hf => exact hf
            | 5, hf => exact hf
            | 6, hf => exact hf
            | 7, hf => exact NewE.below hf hb
            | 8, hf => exact hf
            | (i + 9), hf => exact hf
          · refine ⟨?_, ?_, ?_, ?_, ?_, ?_, ?_, ?_, ?_, ?_, trivial⟩
            · intro a W hW hs hd
              have e1 : a.tmps[1]?.getD undef = .pointer (some ⟨w.heap.size, 0, none⟩) := hs 1 (by kernel_rfl)
              have k0 := (hW.cell (p := ⟨w.heap.size, 0, none⟩) (s4)).trans (p4)
              have k1 := (hW.cell (p := ⟨w.heap.size, 1, none⟩) (s4)).trans (q4)
              have k2 := (hW.cell (p := ⟨g, j, none⟩) (hg2)).trans (ca)
              clear hs hd
              unfold Grows
              go_simp
              exact Below.refl _ _
            · intro a W hW hs hd
              have e30 : (a.tmps[30]?.getD undef) = .pointer (some ⟨w.heap.size, 0, none⟩) := hd 0 30 (by kernel_rfl) (by kernel_rfl)
              have k0 := (hW.cell (p := ⟨w.heap.size, 0, none⟩) (s4)).trans (p4)
              have k1 := (hW.cell (p := ⟨w.heap.size, 1, none⟩) (s4)).trans (q4)
              have k2 := (hW.cell (p := ⟨g, j, none⟩) (hg2)).trans (ca)
              clear hs hd
              unfold Grows
              go_simp
              exact Below.refl _ _
            · intro a W hW hs hd
              have e1 : a.tmps[1]?.getD undef = .pointer (some ⟨w.heap.size, 0, none⟩) := hs 1 (by kernel_rfl)
              have k0 := (hW.cell (p := ⟨w.heap.size, 0, none⟩) (s4)).trans (p4)
              have k1 := (hW.cell (p := ⟨w.heap.size, 1, none⟩) (s4)).trans (q4)
              have k2 := (hW.cell (p := ⟨g, j, none⟩) (hg2)).trans (ca)
              clear hs hd
              unfold Grows
              go_simp
              exact Below.refl _ _
            · intro a W hW hs hd
              have e5 : a.tmps[5]?.getD undef = .slice (some ⟨g, 0, none⟩) rows.length cR := hs 5 (by kernel_rfl)
              clear hs hd
              unfold Grows
              go_simp
              exact Below.refl _ _
            · intro a W hW hs hd
              have e6 : a.tmps[6]?.getD undef = .int .i64 j := hs 6 (by kernel_rfl)
              clear hs hd
              unfold Grows
              go_simp
              exact Below.refl _ _
            · intro a W hW hs hd
              have e33 : (a.tmps[33]?.getD undef) = .slice (some ⟨g, 0, none⟩) rows.length cR := hd 3 33 (by kernel_rfl) (by kernel_rfl)
              have e34 : (a.tmps[34]?.getD undef) = .int .i64 j := hd 4 34 (by kernel_rfl) (by kernel_rfl)
              have k0 := (hW.cell (p := ⟨w.heap.size, 0, none⟩) (s4)).trans (p4)
              have k1 := (hW.cell (p := ⟨w.heap.size, 1, none⟩) (s4)).trans (q4)
              have k2 := (hW.cell (p := ⟨g, j, none⟩) (hg2)).trans (ca)
              clear hs hd
              unfold Grows
              go_simp
              exact Below.refl _ _
            · intro a W hW hs hd
              have e35 : (a.tmps[35]?.getD undef) = .pointer (some ⟨g, j, none⟩) := hd 5 35 (by kernel_rfl) (by kernel_rfl)
              have k0 := (hW.cell (p := ⟨w.heap.size, 0, none⟩) (s4)).trans (p4)
              have k1 := (hW.cell (p := ⟨w.heap.size, 1, none⟩) (s4)).trans (q4)
              have k2 := (hW.cell (p := ⟨g, j, none⟩) (hg2)).trans (ca)
              clear hs hd
              unfold Grows
              go_simp
              exact Below.refl _ _
            · intro a W hW hs hd
              have e32 : (a.tmps[32]?.getD undef) = .agg #[.int .i64 N, .slice (some ⟨b, o, none⟩) m c] := hd 2 32 (by kernel_rfl) (by kernel_rfl)
              have e36 : (a.tmps[36]?.getD undef) = .slice (some ⟨gj, oj, none⟩) xs.length cj := hd 6 36 (by kernel_rfl) (by kernel_rfl)
              clear hs hd
              unfold Grows
              go_simp
              refine ⟨Below.refl _ _, (HRE.out W (E.below hW) (I.below hW)).mono ?_⟩
              rintro e w6 ⟨g6, c6, rfl, ho6, hb6⟩
              exact ⟨_, rfl, hb6, g6, c6, rfl, ho6.1, (ho6.mono (hW.size)).2⟩
            · intro a W hW hs hd
              have e31 : (a.tmps[31]?.getD undef) = .int .i64 N := hd 1 31 (by kernel_rfl) (by kernel_rfl)
              have e37 : NewE wr.heap.size (restE es sk) (a.tmps[37]?.getD undef) W := hd 7 37 (by kernel_rfl) (by kernel_rfl)
              obtain ⟨g37, c37, e37, O37⟩ := e37
              clear hs hd
              unfold Grows
              go_simp
              refine ⟨Below.refl _ _, (HPA.out W _ _ O37.eds).mono ?_⟩
              rintro e w6 ⟨rfl, hb6⟩
              exact ⟨_, rfl, hb6, rfl⟩
            · intro a W hW hs hd
              have e38 : (a.tmps[38]?.getD undef) = .int .i64 p := hd 8 38 (by kernel_rfl) (by kernel_rfl)
              clear hs hd
              unfold Grows
              go_simp
              exact Below.refl _ _
          intro vs W hW hf
          have f39 : vs 39 = .bool (decide ((1 : Int) < (p : Int))) := hf 9 39 (by kernel_rfl)
          simp only [dsts, List.filterMap_cons, List.filterMap_nil, List.foldl_cons, List.foldl_nil, Act.put, List.setIfInBounds_toArray, List.set_cons_succ, List.set_cons_zero, f39]
          clear hf
          clear s4 p4 q4 ca E I
          by_cases h1p : (1 : Int) < (p : Int)
          · have HT := Lib.hid (hHAT.out (hIF.out.2 ⟨j, hltj, by rw [HV.out]; simp; omega⟩))
            go_wp2_with fail
            go_ret2
            exact ⟨by rw [HT.out] <;> rfl, hBv.andB hW⟩
          · have HQ2 : Hid (∀ i, i < j + 1 → cutB N es (skS (setN (ia (ra rows i)) (ra rows i).length)) = false) := fun i hi => by
              by_cases e : i = j
              · subst e; rw [HV.out]; simp; omega
              · exact HQ.out i (by omega)
            go_wp2_with fail
            go_roundw
            case rel => exact ⟨j + 1, by omega, by go_num, HQ2, hbv.andB hW⟩
            case measure => simp [intOf]; omega
        · obtain rfl : j = rows.length := by omega
          have hkf : Hid (ecK N es k = false) := by
            show _ = _
            cases hx : ecK N es k with
            | false => rfl
            | true =>
              obtain ⟨i, hi, h2⟩ := hIF.out.1 hx
              rw [HQ.out i hi] at h2; cases h2
          have HP2 : Hid (∀ j, 1 ≤ j → j < k + 1 → ecK N es j = false) := fun j h1 h2 => by
            by_cases e : j = k
            · subst e; exact hkf.out
            · exact HP.out j h1 (by omega)
          clear hkf
          go_wp2_with fail
          go_roundw
          case rel => exact ⟨k + 1, by omega, by omega, by go_num, HP2, hb23.andB hbv⟩
          case measure => simp [intOf]; omega
    · obtain rfl : k = 3 := by omega
      have HT := Lib.hid (HNO.out (fun j h1 h2 => HP.out j h1 h2))
      go_wp2_with fail
      go_ret2
      exact ⟨by rw [HT.out] <;> rfl, hB⟩
theorem spEdgeConnectivity_t (n : Int) (b o m c : Nat) (es : List (Int × Int)) (w : World) (h : Eds w b o m es) (hm : m ≤ 1048576) :
    Calls Try.prog 16 #[.agg #[.int .i64 n, .slice (some ⟨b, o, none⟩) m c]] w (Ret (.tuple #[.int .i64 (edV n es), .int .i64 (ccC n es)]) w) := spEdgeConnectivity_any n b o m c es w h hm
theorem imEdgeConnectivity_t (n : Int) (b o m c : Nat) (es : List (Int × Int)) (w : World) (h : Eds w b o m es) (hm : m ≤ 1048576) :
    Calls Try.prog 18 #[.agg #[.int .i64 n, .slice (some ⟨b, o, none⟩) m c]] w (Ret (.tuple #[.int .i64 (edV n es), .int .i64 (ccC n es)]) w) := imEdgeConnectivity_any n b o m c es w h hm
end Go.Proofs.Ytccinfmphkihoaa
