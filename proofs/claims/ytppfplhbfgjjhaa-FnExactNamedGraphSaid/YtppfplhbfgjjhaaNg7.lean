import Derived.Test.YtppfplhbfgjjhaaNg6
namespace Go.Proofs.Ytppfplhbfgjjhaa
open Go.RowKit Go.Sort
/-! ### slices.DeleteFunc at an own list of edges; tietze -/
theorem tie1_any (a b : Int) (w : World) : Calls Try.prog 141 #[.agg #[.int .i64 a, .int .i64 b]] w (Ret (.bool (decide (a = 0 ∨ b = 0))) w) := by
  have hbb := (by go_grown : Below w.heap.size w (w.alloc (.cells #[.int .i64 a, .int .i64 b] 98)))
  obtain ⟨r, hr⟩ : ∃ r, r = (decide (a = 0 ∨ b = 0)) := ⟨_, rfl⟩
  have HI : Hid (∀ W, Calls Try.prog 142 #[.agg #[.int .i64 a, .int .i64 b], .int .i64 0] W (Ret (.bool r) W)) := fun W => by rw [hr]; exact isOn_any a b 0 W
  rw [← hr]
  clear hr
  go_enter Try.func141, Try.ntmps141
  go_wp2_with fail
  refine (HI.out _).mono ?_
  rintro e w2 ⟨rfl, hb2⟩
  have hB := hbb.thenB (by simp) hb2
  clear hb2
  go_wp2_with fail
  go_ret
  exact ⟨rfl, hB⟩
theorem enTie : Enters 141 := fun args w => by kernel_rfl
def on0 (e : Int × Int) : Bool := decide (e.1 = 0 ∨ e.2 = 0)
set_option maxRecDepth 100000 in
theorem index0_any {m c b : Nat} {es : List (Int × Int)} (w : World) (E : Eds w b 0 m es) (h0 : 0 < m) (hp : decide (ea es 0 = 0 ∨ eb es 0 = 0) = true) :
    Calls Try.prog 164 #[.slice (some ⟨b, 0, none⟩) m c, .func (.func 141) #[] #[]] w (Ret (.int .i64 0) w) := by
  have he1 := enTie
  unfold Enters at he1
  have c1 := E.ca 0 h0
  have c2 := E.cb 0 h0
  have zb := E.blk
  have HT := Lib.hid (fun W => tie1_any (ea es 0) (eb es 0) W)
  rw [hp] at HT
  obtain ⟨x, hx⟩ : ∃ x, x = ea es 0 := ⟨_, rfl⟩
  obtain ⟨y, hy⟩ : ∃ y, y = eb es 0 := ⟨_, rfl⟩
  rw [← hx, ← hy] at HT
  rw [← hx] at c1
  rw [← hy] at c2
  clear hx hy E hp
  go_enter Try.func164, Try.ntmps164
  go_wp2_with fail
  go_loopw [8] (fun iv wv => iv = .int .i64 0 ∧ wv = w) (fun _ _ => 0)
  case atStart => exact ⟨rfl, rfl⟩
  case round =>
    obtain ⟨rfl, rfl⟩ := hrel
    obtain ⟨w, rfl⟩ : ∃ w', w' = wr := ⟨wr, rfl⟩
    have h0' : (0 : Int) < m := by omega
    go_wp2_with fail
    refine (HT.out _).mono ?_
    rintro e w2 ⟨rfl, hb2⟩
    go_wp2_with fail
    go_ret
    exact ⟨rfl, hb2⟩
theorem run_clearE (w : World) (ty : TypeId) (b o n c : Nat) (hn : 0 < n) (hc : ∀ j, j < n * 2 → (w.cell? ⟨b, o + j, none⟩).isSome = true) (hf : ∀ j, j < n * 2 → w.frozen? ⟨b, o + j, none⟩ = false) :
    (Builtin.clear_ #[28] ty #[.slice (some ⟨b, o, none⟩) n c]).run Try.prog w = .ok (.tuple #[]) (w.setCells b o (List.replicate (n * 2) (.int .i64 0))) := by
  have hv : ∀ w, (zeroValue 98).run Try.prog w = .ok (.agg #[.int .i64 0, .int .i64 0]) w := fun w => by kernel_rfl
  have hzc : (Builtin.zeroCells (Value.agg #[.int .i64 0, .int .i64 0]).cells n).toList = List.replicate (n * 2) (.int .i64 0) := by
    simp [Builtin.zeroCells, Value.cells]
    apply List.ext_getElem
    · simp
    · intro i h1 h2
      simp only [List.getElem_ofFn, List.getElem_replicate]
      have : i % 2 = 0 ∨ i % 2 = 1 := by omega
      rcases this with h | h <;> simp [h]
  have hst := run_storeCells_cells (P := Try.prog) b o (List.replicate (n * 2) (.int .i64 0)) 0 w (by simpa using hc) (by simpa using hf) (by intro v hv'; rw [List.eq_of_mem_replicate hv']; rfl)
  simp only [Nat.add_zero] at hst
  obtain ⟨m, rfl⟩ : ∃ m, n = m + 1 := ⟨n - 1, by omega⟩
  simp [Builtin.clear_, run_underlying Try.underlying28, hv, hzc, hst]
theorem OwnEA.setTails {base g m c : Nat} {es : List (Int × Int)} : ∀ (vs : List Value) (o : Nat) (w : World), OwnEA base w (some ⟨g, 0, none⟩) m c es → m * 2 ≤ o → OwnEA base (w.setCells g o vs) (some ⟨g, 0, none⟩) m c es := by
  intro vs
  induction vs with
  | nil => intro o w h _; exact h
  | cons v vs ih => intro o w h ho; exact ih (o + 1) _ (h.setTail ho v) (by omega)
theorem below_setCellsE {B g : Nat} {w0 : World} (hg : B ≤ g) : ∀ (vs : List Value) (o : Nat) (w : World), Below B w0 w → Below B w0 (w.setCells g o vs) := by
  intro vs
  induction vs with
  | nil => intro o w h; exact h
  | cons v vs ih => intro o w h; exact ih (o + 1) _ (h.setCell (p := ⟨g, o, none⟩) hg v)
def kep (es : List (Int × Int)) : List (Int × Int) := es.filter fun e => !on0 e
theorem kep_step {es : List (Int × Int)} {j : Nat} (h : j < es.length) : kep (es.take (j + 1)) = kep (es.take j) ++ (if on0 (ea es j, eb es j) then [] else [(ea es j, eb es j)]) := by
  unfold kep
  rw [List.take_succ_eq_append_getElem h, List.filter_append, e_pair h]
  cases hb : on0 (ea es j, eb es j) <;> simp [hb]
theorem kep_len (es : List (Int × Int)) (j : Nat) : (kep (es.take j)).length ≤ j := by
  have h1 := List.length_filter_le (fun e => !on0 e) (es.take j)
  have h2 := List.length_take_le j es
  show (List.filter _ _).length ≤ j
  omega
set_option maxRecDepth 100000 in
set_option maxHeartbeats 2000000 in
theorem delete_any {base m c g : Nat} {es : List (Int × Int)} (w : World) (O : OwnEA base w (some ⟨g, 0, none⟩) m c es) (hb : base ≤ w.heap.size) (h0 : 0 < m) (hm : m ≤ 100) (hp : on0 (ea es 0, eb es 0) = true) :
    Calls Try.prog 140 #[.slice (some ⟨g, 0, none⟩) m c, .func (.func 141) #[] #[]] w (fun e w' => e = .returned (.slice (some ⟨g, 0, none⟩) (kep es).length c) ∧ OwnEA base w' (some ⟨g, 0, none⟩) (kep es).length c (kep es) ∧ Below base w w') := by
  have he1 := enTie
  unfold Enters at he1
  have hE : OwnE base w g m c es := O
  have HIX := Lib.hid (index0_any (m := m) (c := c) w hE.eds h0 hp)
  have HP := Lib.hid hp
  have HL := Lib.hid O.1
  have hmc : Hid (m ≤ c) := by
    rcases O.2.2 with ⟨e, _⟩ | ⟨g', cap, cur, e, _, _, h1, _⟩
    · cases e
    · injection e with e1 e2 e3; subst e3; exact h1
  have HK1 : Hid (kep (es.take 1) = []) := by
    show _ = _
    have := kep_step (es := es) (j := 0) (by rw [O.1]; exact h0)
    rw [hp] at this
    simpa [kep] using this
  clear hp hE
  go_enter Try.func140, Try.ntmps140
  go_wp2_with fail
  refine HIX.out.mono ?_
  rintro e w1 ⟨rfl, hb1⟩
  have O1 := O.below hb1
  have hB1 : Below base w w1 := hb1.mono hb
  clear hb1 O HIX
  go_wp2_with fail
  go_loopw [5, 6] (fun iv jv wv => ∃ (i j : Nat) (ds : List (Int × Int)), 1 ≤ j ∧ j ≤ m ∧ i < j ∧ iv = .int .i64 i ∧ jv = .int .i64 j ∧ Hid (ds.take i = kep (es.take j) ∧ i = (kep (es.take j)).length ∧ ∀ t, j ≤ t → t < m → ea ds t = ea es t ∧ eb ds t = eb es t) ∧ OwnEA base wv (some ⟨g, 0, none⟩) m c ds ∧ Below base w wv) (fun _ j _ => m - (intOf j).toNat)
  case atStart => exact ⟨0, 1, es, by omega, by omega, by omega, rfl, rfl, ⟨by rw [HK1.out]; rfl, by rw [HK1.out]; rfl, fun _ _ _ => ⟨rfl, rfl⟩⟩, O1, hB1⟩
  case round =>
    clear O1 hB1
    obtain ⟨i, j, ds, hj1, hjm, hij, rfl, rfl, HD, O, hB⟩ := hrel
    obtain ⟨w4, rfl⟩ : ∃ w4, w4 = wr := ⟨wr, rfl⟩
    have hE : OwnE base w4 g m c ds := O
    have ge := hE.ge
    by_cases hlt : j < m
    · have E := hE.eds
      have c1 := E.ca j hlt
      have c2 := E.cb j hlt
      rw [(HD.out.2.2 j (Nat.le_refl _) hlt).1] at c1
      rw [(HD.out.2.2 j (Nat.le_refl _) hlt).2] at c2
      rw [Nat.zero_add] at c1 c2
      have HST := Lib.hid (kep_step (es := es) (j := j) (by rw [HL.out]; exact hlt))
      obtain ⟨r, hr⟩ : ∃ r, r = on0 (ea es j, eb es j) := ⟨_, rfl⟩
      have HT : Hid (∀ W, Calls Try.prog 141 #[.agg #[.int .i64 (ea es j), .int .i64 (eb es j)]] W (Ret (.bool r) W)) := fun W => by rw [hr]; exact tie1_any _ _ W
      rw [← hr] at HST
      obtain ⟨x, hx⟩ : ∃ x, x = ea es j := ⟨_, rfl⟩
      obtain ⟨y, hy⟩ : ∃ y, y = eb es j := ⟨_, rfl⟩
      rw [← hx, ← hy] at HT HST
      rw [← hx] at c1
      rw [← hy] at c2
      have HXY : Hid (x = ea es j ∧ y = eb es j) := ⟨hx, hy⟩
      have hz4 := hB.size
      clear hr hx hy E hE
      have O4 := Lib.hid O
      have hB4 := Lib.hid hB
      obtain ⟨we, hwe⟩ : ∃ we, we = w4.alloc (.cells #[.int .i64 x, .int .i64 y] 98) := ⟨_, rfl⟩
      have hbe : Below w4.heap.size w4 we := by rw [hwe]; exact (Below.refl _ _).alloc (Nat.le_refl _) _
      have k1 : we.cell? ⟨w4.heap.size, 0, none⟩ = some (.int .i64 x) := by rw [hwe]; simp [go_sem]
      have k2 : we.cell? ⟨w4.heap.size, 1, none⟩ = some (.int .i64 y) := by rw [hwe]; simp [go_sem]
      have ze : w4.heap.size < we.heap.size := by rw [hwe]; simp
      have zg := ge.2
      clear O hB
      go_wp2_with fail
      rw [← hwe]
      clear hwe
      refine (HT.out _).mono ?_
      rintro e w6 ⟨rfl, hb6⟩
      have hK6 := hbe.thenB (by omega) hb6
      have O6 := O4.out.below hK6
      have hB6 : Below base w w6 := hB4.out.trans (hK6.mono (by omega))
      have k1 := (hb6.cell (p := ⟨w4.heap.size, 0, none⟩) ze).trans k1
      have k2 := (hb6.cell (p := ⟨w4.heap.size, 1, none⟩) ze).trans k2
      have z6 : w4.heap.size < w6.heap.size := Nat.lt_of_lt_of_le ze hb6.size
      clear c1 c2 hb6 hbe ze hK6 O4 hB4
      cases r with
      | true =>
        have HD2 : Hid (ds.take i = kep (es.take (j + 1)) ∧ i = (kep (es.take (j + 1))).length ∧ ∀ t, j + 1 ≤ t → t < m → ea ds t = ea es t ∧ eb ds t = eb es t) := by
          show _ ∧ _ ∧ _
          rw [HST.out, if_pos rfl, List.append_nil]
          exact ⟨HD.out.1, HD.out.2.1, fun t h1 h2 => HD.out.2.2 t (by omega) h2⟩
        go_wp2_with fail
        go_roundw
        case rel => exact ⟨i, j + 1, ds, by omega, by omega, by omega, rfl, by go_num, HD2, O6, hB6⟩
        case measure => simp [intOf]; omega
      | false =>
        have hE6 : OwnE base w6 g m c ds := O6
        have E6 := hE6.eds
        have d1 := E6.ca i (by omega)
        have d2 := E6.cb i (by omega)
        rw [Nat.zero_add] at d1 d2
        have fz1 := hE6.2.frozenAt (i * 2)
        have fz2 := hE6.2.frozenAt (i * 2 + 1)
        have OY := Lib.hid (hE6.store i x y)
        have hgb := ge.1
        have hBY := Lib.hid ((hB6.setCell (p := ⟨g, i * 2, none⟩) hgb (.int .i64 x)).setCell (p := ⟨g, i * 2 + 1, none⟩) hgb (.int .i64 y))
        have HD2 : Hid ((ds.set i (x, y)).take (i + 1) = kep (es.take (j + 1)) ∧ i + 1 = (kep (es.take (j + 1))).length ∧ ∀ t, j + 1 ≤ t → t < m → ea (ds.set i (x, y)) t = ea es t ∧ eb (ds.set i (x, y)) t = eb es t) := by
          show _ ∧ _ ∧ _
          have hdl : ds.length = m := O6.1
          rw [HST.out, if_neg (by decide)]
          refine ⟨?_, ?_, fun t h1 h2 => ?_⟩
          · rw [List.take_succ_eq_append_getElem (by simp; omega), List.getElem_set_self, List.take_set_of_le (Nat.le_refl _), HD.out.1]
          · rw [List.length_append, ← HD.out.2.1]; rfl
          · have h3 := HD.out.2.2 t (by omega) h2
            have e : (ds.set i (x, y))[t]? = ds[t]? := List.getElem?_set_ne (by omega)
            unfold ea eb at h3 ⊢
            simp only [List.getD_eq_getElem?_getD, e] at h3 ⊢
            exact h3
        clear O6 hE6 E6 hB6
        go_wp2_with fail
        go_roundw
        case rel => exact ⟨i + 1, j + 1, ds.set i (x, y), by omega, by omega, by omega, by go_num, by go_num, HD2, OY.out, hBY.out⟩
        case measure => simp [intOf]; omega
    · obtain rfl : j = m := by omega
      have htk : Hid (es.take j = es) := by show _ = _; rw [← HL.out, List.take_length]
      have HK : Hid (ds.take i = kep es ∧ (kep es).length = i) := by
        show _ ∧ _
        have := HD.out
        rw [htk.out] at this
        exact ⟨this.1, this.2.1.symm⟩
      have hdl : ds.length = j := O.1
      have hcl := fun ty => run_clearE w4 ty g (i * 2) (j - i) (c - i) (by omega) (fun t ht => by
        have := hE.2.cellAt (i * 2 + t) (by omega)
        rw [this]
        have hlt2 : i * 2 + t < (flatE ds).length := by rw [flatE_length, hdl]; omega
        simp [hlt2]) (fun t ht => hE.2.frozenAt (i * 2 + t))
      have OC := (O.cut (k := i) (by omega)).setTails (List.replicate ((j - i) * 2) (.int .i64 0)) (i * 2) w4 |> fun h => h (Nat.le_refl _)
      have hBC := below_setCellsE ge.1 (List.replicate ((j - i) * 2) (.int .i64 0)) (i * 2) w4 hB
      obtain ⟨w5, hw5⟩ : ∃ w5, w5 = w4.setCells g (i * 2) (List.replicate ((j - i) * 2) (.int .i64 0)) := ⟨_, rfl⟩
      rw [← hw5] at hcl OC hBC
      rw [HK.out.1] at OC
      have hic : i ≤ c := by have := hmc.out; omega
      have hjc := hmc.out
      have hOC := Lib.hid OC
      have hwi : i < j := hij
      clear hw5 hdl O hE OC hB
      go_wp2_with fail
      go_ret
      rw [HK.out.2]
      exact ⟨rfl, hOC.out, hBC⟩
end Go.Proofs.Ytppfplhbfgjjhaa
