import Derived.Test.YtccinfmphkihoaaSp1
namespace Go.Proofs.Ytccinfmphkihoaa
open Go.RowKit Go.Sort
theorem within_any (n l h : Int) (w : World) : Calls Try.prog 111 #[.int .i64 n, .int .i64 l, .int .i64 h] w (Is (.bool (inB n l h)) w) := by
  go_enter Try.func111, Try.ntmps111
  go_wp2
  all_goals (go_ret; exact ⟨ret_bool (by simp [inB, *]; try omega), rfl⟩)
def szB (n : Int) : Bool := inB n 2 20 && decide (n % 2 = 0)
theorem szB_iff {n : Int} : szB n = true ↔ 2 ≤ n ∧ n ≤ 20 ∧ n % 2 = 0 := by simp [szB, inB_iff, and_assoc]
theorem isSize_any (n : Int) (w : World) : Calls Try.prog 131 #[.int .i64 n] w (Is (.bool (szB n)) w) := by
  cases hA : inB n 2 20 with
  | false =>
    go_enter Try.func131, Try.ntmps131
    go_wp2_with (go_at_call 111; refine (within_any _ _ _ _).mono ?_; rintro e w' ⟨rfl, rfl⟩)
    go_ret
    exact ⟨ret_bool (by simp [szB, hA]), rfl⟩
  | true =>
    obtain ⟨h1, h2⟩ := inB_iff.1 hA
    go_enter Try.func131, Try.ntmps131
    go_wp2_with (go_at_call 111; refine (within_any _ _ _ _).mono ?_; rintro e w' ⟨rfl, rfl⟩)
    go_ret
    exact ⟨ret_bool (by rw [Bool.eq_iff_iff]; simp [szB, hA]), rfl⟩
theorem lengthE_any (A : Option Addr) (m c : Nat) (w : World) (_hm : m ≤ 9223372036854775807) : Calls Try.prog 59 #[.slice A m c] w (Is (.int .i64 m) w) := by
  go_enter Try.func59, Try.ntmps59
  go_wp2
  go_ret
  exact ⟨rfl, rfl⟩
theorem isNaN_any (a : Int) (w : World) : Calls Try.prog 147 #[.int .i64 a] w (Is (.bool false) w) := by
  go_enter Try.func147, Try.ntmps147
  go_wp2
  all_goals (go_ret; exact ⟨ret_bool (by simp), rfl⟩)
def cmpI (a b : Int) : Int := if a < b then -1 else if b < a then 1 else 0
theorem cmp_any (a b : Int) (w : World) : Calls Try.prog 142 #[.int .i64 a, .int .i64 b] w (Is (.int .i64 (cmpI a b)) w) := by
  by_cases h1 : a < b
  · have hr : -1 = cmpI a b := by simp [cmpI, h1]
    go_enter Try.func142, Try.ntmps142
    go_wp2_with (go_at_call 147; refine (isNaN_any _ _).mono ?_; rintro e w' ⟨rfl, rfl⟩)
    go_ret
    exact ⟨ret_int hr, rfl⟩
  · by_cases h2 : b < a
    · have hr : 1 = cmpI a b := by simp [cmpI, h1, h2]
      go_enter Try.func142, Try.ntmps142
      go_wp2_with (go_at_call 147; refine (isNaN_any _ _).mono ?_; rintro e w' ⟨rfl, rfl⟩)
      go_ret
      exact ⟨ret_int hr, rfl⟩
    · have hr : 0 = cmpI a b := by simp [cmpI, h1, h2]
      go_enter Try.func142, Try.ntmps142
      go_wp2_with (go_at_call 147; refine (isNaN_any _ _).mono ?_; rintro e w' ⟨rfl, rfl⟩)
      go_ret
      exact ⟨ret_int hr, rfl⟩
/-- A function value that is called. -/
def Enters (f : FuncId) : Prop := ∀ args w, (callFunc f args).run Try.prog w = .ok (.enter f args) w
theorem closE_any (f : FuncId) (caps : Array Value) (bx : Nat) (a b : Int) (r : Bool) (w : World) (he : Enters f) (hc : w.cell? ⟨bx, 0, none⟩ = some (.func (.func f) #[] caps))
    (hf : ∀ w', Below w.heap.size w w' → Calls Try.prog f (#[.agg #[.int .i64 a, .int .i64 b]] ++ caps) w' (Ret (.bool r) w')) :
    Calls Try.prog 134 #[.agg #[.int .i64 a, .int .i64 b], .pointer (some ⟨bx, 0, none⟩)] w (Ret (.bool (!r)) w) := by
  have hbx : bx < w.heap.size := World.block_lt_of_cell? w _ hc
  have hF := Lib.hid hf
  have he1 := he
  unfold Enters at he1
  clear hf he
  go_enter Try.func134, Try.ntmps134
  go_wp2_with fail
  refine (hF.out _ (by go_grown)).mono ?_
  rintro e w1 ⟨rfl, hb1⟩
  go_wp2_with fail
  go_ret
  exact ⟨rfl, (by go_grown : Below _ _ (w.alloc _)).thenB (by simp) hb1⟩
noncomputable def fstI (q : Nat → Bool) (m : Nat) : Int := open Classical in if h : ∃ j, j < m ∧ q j = true ∧ ∀ i, i < j → q i = false then ((Classical.choose h : Nat) : Int) else -1
theorem fstI_at {q : Nat → Bool} {m k : Nat} (hk : k < m) (hq : q k = true) (h : ∀ j, j < k → q j = false) : fstI q m = k := by
  have hex : ∃ j, j < m ∧ q j = true ∧ ∀ i, i < j → q i = false := ⟨k, hk, hq, h⟩
  have hc := Classical.choose_spec hex
  rw [fstI, dif_pos hex]
  have : ¬ Classical.choose hex < k := fun hlt => by rw [h _ hlt] at hc; simp at hc
  have : ¬ k < Classical.choose hex := fun hlt => by have := hc.2.2 k hlt; rw [hq] at this; simp at this
  omega
theorem fstI_none {q : Nat → Bool} {m : Nat} (h : ∀ j, j < m → q j = false) : fstI q m = -1 := by
  rw [fstI, dif_neg]
  rintro ⟨j, hj, hq, _⟩
  rw [h j hj] at hq; simp at hq
theorem fstI_cases (q : Nat → Bool) (m : Nat) : (fstI q m = -1 ∧ ∀ j, j < m → q j = false) ∨ (0 ≤ fstI q m ∧ ∃ j, j < m ∧ q j = true) := by
  by_cases h : ∀ j, j < m → q j = false
  · exact .inl ⟨fstI_none h, h⟩
  · right
    have : ∃ j, j < m ∧ q j = true := by
      refine Classical.byContradiction fun hc => h fun j hj => ?_
      cases hq : q j with
      | false => rfl
      | true => exact absurd ⟨j, hj, hq⟩ hc
    obtain ⟨j, hj, hq⟩ := this
    refine ⟨?_, j, hj, hq⟩
    have key : ∀ n, ∀ j, j ≤ n → j < m → q j = true → 0 ≤ fstI q m := by
      intro n
      induction n with
      | zero => intro j h0 hj hq; (obtain rfl : j = 0 := (by omega)); rw [fstI_at hj hq (fun i hi => absurd hi (by omega))]; exact Int.le_refl _
      | succ n ih =>
        intro j hjn hj hq
        by_cases hx : ∃ i, i < j ∧ q i = true
        · obtain ⟨i, hi, hqi⟩ := hx; exact ih i (by omega) (by omega) hqi
        · rw [fstI_at hj hq (fun i hi => by
            cases h : q i with
            | false => rfl
            | true => exact absurd ⟨i, hi, h⟩ hx)]; omega
    exact key j j (Nat.le_refl _) hj hq
theorem indexFuncE_any (f : FuncId) (caps : Array Value) (bx : Nat) (r : Nat → Bool) (b o m c : Nat) (es : List (Int × Int)) (w : World) (h : Eds w b o m es) (hm : m ≤ 1048576) (he : Enters f) (hc : w.cell? ⟨bx, 0, none⟩ = some (.func (.func f) #[] caps))
    (hf : ∀ j, j < m → ∀ w', Below w.heap.size w w' → Calls Try.prog f (#[.agg #[.int .i64 (ea es j), .int .i64 (eb es j)]] ++ caps) w' (Ret (.bool (r j)) w')) :
    Calls Try.prog 141 #[.slice (some ⟨b, o, none⟩) m c, .func (.func 134) #[] #[.pointer (some ⟨bx, 0, none⟩)]] w (Ret (.int .i64 (fstI (fun j => !(r j)) m)) w) := by
  have hbx : bx < w.heap.size := World.block_lt_of_cell? w _ hc
  have hF := Lib.hid hf
  have hE := Lib.hid he
  have hC := Lib.hid hc
  clear hf he hc
  go_enter Try.func141, Try.ntmps141
  go_wp2_with fail
  go_loopw [8] (fun i wr => ∃ k : Nat, k ≤ m ∧ i = .int .i64 k ∧ Hid (∀ j, j < k → (!(r j)) = false) ∧ Below w.heap.size w wr) (fun i _ => m - (intOf i).toNat)
  case atStart => exact ⟨0, Nat.zero_le _, rfl, fun j hj => by omega, Below.refl _ _⟩
  case round =>
    obtain ⟨k, hk, rfl, HP, hbw⟩ := hrel
    by_cases hlt : k < m
    · have E := h.below hbw
      have e1 := E.ca k hlt
      have e2 := E.cb k hlt
      cases hq : r k with
      | true =>
        have HP' : Hid (∀ j, j < k + 1 → (!(r j)) = false) := fun j hj => by
          by_cases hjk : j < k
          · exact HP.out j hjk
          · obtain rfl : j = k := by omega
            rw [hq]; rfl
        clear E
        go_wp2_with fail
        refine (closE_any f caps bx _ _ (r k) _ hE.out ((hbw.cell (p := ⟨bx, 0, none⟩) hbx).trans hC.out) (fun w' hw' => hF.out k hlt w' (hbw.andB hw'))).mono ?_
        rintro e w2 ⟨rfl, hb2⟩
        rw [hq]
        go_wp2_with fail
        go_roundw
        case rel => exact ⟨k + 1, by omega, by go_num, HP', hbw.andB hb2⟩
        case measure => simp [intOf]; omega
      | false =>
        clear E
        go_wp2_with fail
        refine (closE_any f caps bx _ _ (r k) _ hE.out ((hbw.cell (p := ⟨bx, 0, none⟩) hbx).trans hC.out) (fun w' hw' => hF.out k hlt w' (hbw.andB hw'))).mono ?_
        rintro e w2 ⟨rfl, hb2⟩
        rw [hq]
        go_wp2_with fail
        go_ret
        exact ⟨ret_int (fstI_at hlt (by rw [hq]; rfl) HP.out).symm, hbw.andB hb2⟩
    · go_wp2_with fail
      go_ret
      exact ⟨ret_int (fstI_none fun j hj => HP.out j (by omega)).symm, hbw⟩
theorem areAllE_any (f : FuncId) (caps : Array Value) (r : Nat → Bool) (b o m c : Nat) (es : List (Int × Int)) (w : World) (h : Eds w b o m es) (hm : m ≤ 1048576) (he : Enters f)
    (hf : ∀ j, j < m → ∀ w', Below w.heap.size w w' → Calls Try.prog f (#[.agg #[.int .i64 (ea es j), .int .i64 (eb es j)]] ++ caps) w' (Ret (.bool (r j)) w')) :
    Calls Try.prog 119 #[.slice (some ⟨b, o, none⟩) m c, .func (.func f) #[] caps] w (Ret (.bool (allB m r)) w) := by
  have hF := Lib.hid hf
  have hE := Lib.hid he
  have hx := fstI_cases (fun j => !(r j)) m
  have hQ : ∃ t : Bool, allB m r = !t ∧ decide (0 ≤ fstI (fun j => !(r j)) m) = t := by
    rcases hx with ⟨h1, h2⟩ | ⟨h1, j, h2, h3⟩
    · exact ⟨false, B_true (fun j hj => by simpa using h2 j hj), by rw [h1]; rfl⟩
    · exact ⟨true, B_false (fun hh => by rw [hh j h2] at h3; simp at h3), by simp [h1]⟩
  obtain ⟨t, hQ1, hQ2⟩ := hQ
  have HQ := Lib.hid hQ1
  clear hf he hx hQ1
  go_enter Try.func119, Try.ntmps119
  go_wp2_with fail
  have hin : Calls Try.prog 133 #[.slice (some ⟨b, o, none⟩) m c, .func (.func 134) #[] #[.pointer (some ⟨w.heap.size, 0, none⟩)]] (w.alloc (.cells #[.func (.func f) #[] caps] 117)) (Ret (.bool t) (w.alloc (.cells #[.func (.func f) #[] caps] 117))) := by
    go_enter Try.func133, Try.ntmps133
    go_wp2_with fail
    refine (indexFuncE_any f caps w.heap.size r b o m c es _ (h.alloc _) hm hE.out (by simp) (fun j hj w' hw' => hF.out j hj w' ((by go_grown : Below _ _ (w.alloc _)).thenB (by simp) hw'))).mono ?_
    rintro e w2 ⟨rfl, hb2⟩
    go_wp2_with fail
    go_ret
    exact ⟨rfl, hb2⟩
  refine hin.mono ?_
  rintro e w2 ⟨rfl, hb2⟩
  go_wp2_with fail
  go_ret
  exact ⟨ret_bool HQ.out.symm, (by go_grown : Below _ _ (w.alloc _)).thenB (by simp) hb2⟩
theorem enE1 : Enters 120 := fun args w => by kernel_rfl
theorem enE2 : Enters 132 := fun args w => by kernel_rfl
theorem enE3 : Enters 137 := fun args w => by kernel_rfl
def cmp2 (a b c d : Int) : Int := if cmpI a c = 0 then cmpI b d else cmpI a c
theorem cmp2_lt (a b c d : Int) : cmp2 a b c d < 0 ↔ befB a b c d = true := by
  simp only [cmp2, cmpI, befB_iff]
  repeat' split
  all_goals omega
theorem sCompare2_any (p1 p2 o1 o2 : Nat) (c1 c2 : Nat) (a b c d : Int) (w : World) (h1 : w.cell? ⟨p1, o1, none⟩ = some (.int .i64 a)) (h2 : w.cell? ⟨p1, o1 + 1, none⟩ = some (.int .i64 b)) (h3 : w.cell? ⟨p2, o2, none⟩ = some (.int .i64 c)) (h4 : w.cell? ⟨p2, o2 + 1, none⟩ = some (.int .i64 d)) :
    Calls Try.prog 135 #[.slice (some ⟨p1, o1, none⟩) 2 c1, .slice (some ⟨p2, o2, none⟩) 2 c2] w (Is (.int .i64 (cmp2 a b c d)) w) := by
  go_enter Try.func135, Try.ntmps135
  go_wp2_with fail
  go_rounds 3
  all_goals (go_ret; exact ⟨ret_int (by simp only [cmp2, cmpI]; repeat' split <;> omega), rfl⟩)
theorem compareE_any (a b c d : Int) (w : World) : Calls Try.prog 122 #[.agg #[.int .i64 a, .int .i64 b], .agg #[.int .i64 c, .int .i64 d]] w (Ret (.int .i64 (cmp2 a b c d)) w) := by
  have KC := cell_rg
  go_enter Try.func122, Try.ntmps122
  go_wp2_with fail
  (refine wp_region_quiet_below (by kernel_rfl) (by kernel_rfl) ?_
   repeat (any_goals (go_big_quiet_step (first | (go_at_call 135; exact Is.rg (sCompare2_any _ _ _ _ _ _ a b c d _ (by rw [cell_rg _ _ _ _ _ (by simp; omega)]; simp) (by rw [cell_rg _ _ _ _ _ (by simp; omega)]; simp) (by rw [cell_rg _ _ _ _ _ (by simp)]; simp) (by rw [cell_rg _ _ _ _ _ (by simp)]; simp))))))
   all_goals (refine wpQuiet_nil ?_; intro wq1 hq1; replace hq1 := below_of_rg hq1))
  go_wp2_with fail
  go_ret
  exact ⟨rfl, (by go_grown : Below _ _ ((w.alloc _).alloc _)).thenB (by simp; omega) hq1⟩
def okE (n a b : Int) : Bool := inB a 0 (n - 1) && inB b 0 (n - 1) && (a != b)
theorem areEdges1_any (n a b : Int) (bx : Nat) (w : World) (h0 : 0 ≤ n) (h1 : n ≤ 20) (hc : w.cell? ⟨bx, 0, none⟩ = some (.int .i64 n)) : Calls Try.prog 132 #[.agg #[.int .i64 a, .int .i64 b], .pointer (some ⟨bx, 0, none⟩)] w (Ret (.bool (okE n a b)) w) := by
  have KC := cell_rg
  have hbx : bx < w.heap.size := World.block_lt_of_cell? w _ hc
  have hwn : IntKind.i64.wrap (n - 1) = n - 1 := IntWalk.i64_in _ (by omega)
  cases hA : inB a 0 (n - 1) with
  | false =>
    have hr : okE n a b = false := by simp [okE, hA]
    have HR := Lib.hid hr
    clear hr
    go_enter Try.func132, Try.ntmps132
    go_wp2_with (go_at_call 111; refine (within_any _ _ _ _).mono ?_; rintro e w' ⟨rfl, rfl⟩)
    go_ret
    exact ⟨ret_bool HR.out.symm, by go_grown⟩
  | true =>
    cases hA2 : inB b 0 (n - 1) with
    | false =>
      have hr : okE n a b = false := by simp [okE, hA, hA2]
      have HR := Lib.hid hr
      clear hr
      go_enter Try.func132, Try.ntmps132
      go_wp2_with (go_at_call 111; refine (within_any _ _ _ _).mono ?_; rintro e w' ⟨rfl, rfl⟩)
      go_ret
      exact ⟨ret_bool HR.out.symm, by go_grown⟩
    | true =>
      have hr : okE n a b = (a != b) := by simp [okE, hA, hA2]
      have HR := Lib.hid hr
      clear hr
      go_enter Try.func132, Try.ntmps132
      go_wp2_with (go_at_call 111; refine (within_any _ _ _ _).mono ?_; rintro e w' ⟨rfl, rfl⟩)
      go_ret
      exact ⟨ret_bool HR.out.symm, by go_grown⟩
theorem isGraph1_any (a b : Int) (w : World) : Calls Try.prog 120 #[.agg #[.int .i64 a, .int .i64 b]] w (Ret (.bool (decide (a < b))) w) := by
  have KC := cell_rg
  go_enter Try.func120, Try.ntmps120
  go_wp2_with fail
  go_ret
  exact ⟨rfl, by go_grown⟩
end Go.Proofs.Ytccinfmphkihoaa
