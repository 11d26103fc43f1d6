import Derived.Test.YtajnhkkiddeegaaGreatZc25
import Derived.Test.YtajnhkkiddeegaaGreatZc26
set_option linter.unusedVariables false
set_option linter.unusedSimpArgs false
namespace Go.Proofs.YtajnhkkiddeegaaGreat
open Go.RowKit Go.Sort
theorem nF_onT {L : List Int} (h : ∀ k, 0 ≤ ia L k) (d : Nat) : ∀ k, nF L k d = onT L d k := by
  intro k
  induction k with
  | zero => rfl
  | succ k ih =>
    have hk := h k
    simp only [nF, onT, upF, ih]
    by_cases e : d = (ia L k).toNat
    · rw [if_pos e, if_pos (by omega)]
    · rw [if_neg e, if_neg (by omega)]
theorem atL_nn (es : List (Int × Int)) (v : Int) (k : Nat) : 0 ≤ ia (atL es v) k := by
  by_cases h : k < (atL es v).length
  · obtain ⟨f, _, e, _⟩ := atL_at h; omega
  · simp [ia, show (atL es v).length ≤ k by omega]
theorem nF_gN (es : List (Int × Int)) (v : Int) : nF (atL es v) 3 = gN es v := funext fun d => nF_onT (atL_nn es v) d 3
theorem onT_at {L : List Int} {e : Int} : ∀ {k : Nat}, onT L e k ≠ -1 → ∃ i, i < k ∧ ia L i = e ∧ onT L e k = i := by
  intro k
  induction k with
  | zero => intro h; exact absurd rfl h
  | succ k ih =>
    intro h
    simp only [onT] at h ⊢
    by_cases e1 : ia L k = e
    · rw [if_pos e1]; exact ⟨k, by omega, e1, rfl⟩
    · rw [if_neg e1] at h ⊢
      obtain ⟨i, hi, h1, h2⟩ := ih h
      exact ⟨i, by omega, h1, h2⟩
theorem gN_inj {es : List (Int × Int)} {v : Int} {d e : Nat} (h : gN es v d ≠ -1) (h2 : gN es v d = gN es v e) : d = e := by
  obtain ⟨i, _, h3, h4⟩ := onT_at h
  obtain ⟨j, _, h5, h6⟩ := onT_at (h2 ▸ h : gN es v e ≠ -1)
  have h7 : (i : Int) = j := by
    have a1 : gN es v d = i := h4
    have a2 : gN es v e = j := h6
    omega
  have : i = j := by omega
  subst this
  omega
theorem gN_rng (es : List (Int × Int)) (v : Int) (d : Nat) : -1 ≤ gN es v d ∧ gN es v d ≤ 2 := by have := onT_rng (atL es v) d 3; unfold gN; omega
theorem pF_rng (r : Bool) (es : List (Int × Int)) (d : Nat) : -1 ≤ pF r (atL es 0) d ∧ pF r (atL es 0) d ≤ 2 := by
  cases r with
  | false => simp [pF]
  | true => rw [pF, if_pos rfl, nF_gN]; exact gN_rng es 0 d
theorem atL_ne {es : List (Int × Int)} {v : Int} {i j : Nat} (hij : i < j) (hj : j < (atL es v).length) : (ia (atL es v) i).toNat ≠ (ia (atL es v) j).toNat := by
  have h1 := atTo_asc es.length i j hij hj (es := es) (v := v)
  have h2 := atL_nn es v i
  have h3 : ia (atL es v) i < ia (atL es v) j := h1
  omega
theorem pF_nocl (r : Bool) (es : List (Int × Int)) : NoCl es (pF r (atL es 0)) := by
  intro v i j hij hj h1
  cases r with
  | false => exact absurd rfl h1
  | true =>
    rw [pF, if_pos rfl, nF_gN] at h1 ⊢
    exact fun h2 => atL_ne hij hj (gN_inj h1 h2)
theorem pU8 (r : Bool) (es : List (Int × Int)) (v : Nat) : pU r es (atL es 0) v < 8 := by
  cases r with
  | false => simp [pU]
  | true => rw [pU, if_pos rfl]; exact nU8 es _ 3 (Nat.le_refl _) v
/-- The colourings of a part, as the painter finds them. -/
def impT (es : List (Int × Int)) (L : List Nat) (r : Bool) : List (Nat → Int) := colF es L (pF r (atL es 0)) (pU r es (atL es 0))
/-- Laid over. -/
def ovr (L : List Nat) (f s : Nat → Int) (k : Nat) : Nat → Int := fun d => if d ∈ L.take k then f d else s d
theorem ovr_step {L : List Nat} {f s : Nat → Int} {k : Nat} (h : k < L.length) (d : Nat) : ovr L f s (k + 1) d = if d = L.getD k 0 then f (L.getD k 0) else ovr L f s k d := by
  simp only [ovr]
  rw [List.take_succ_eq_append_getElem h]
  have : L.getD k 0 = L[k] := by simp [h]
  rw [this]
  by_cases e : d = L[k]
  · subst e
    rw [if_pos rfl, if_pos (by simp only [List.mem_append, List.mem_singleton, or_true])]
  · have hm : (d ∈ L.take k ++ [L[k]]) ↔ d ∈ L.take k := by
      simp only [List.mem_append, List.mem_singleton]
      exact ⟨fun h => h.resolve_right e, .inl⟩
    simp only [hm, if_neg e]
structure St1 (be bo go m : Nat) (A : Option Addr) (cA : Nat) (L : List Nat) (s : Nat → Int) (w : World) : Prop where
  ce : w.cell? ⟨be, 0, none⟩ = some (.slice A L.length cA)
  co : w.cell? ⟨bo, 0, none⟩ = some (.slice (some ⟨go, 0, none⟩) m m)
  le : be < w.heap.size
  lo : bo < w.heap.size
  I : SrcI w A L.length (fun j => ((L.getD j 0 : Nat) : Int))
  row : w.rowIs go 2 m (fun d => .int .i64 (s d))
  n1 : be ≠ go
  n2 : bo ≠ go
  n3 : ∀ g, blkOf A = some g → g ≠ go
theorem St1.kept {be bo go m : Nat} {A : Option Addr} {cA : Nat} {L : List Nat} {s : Nat → Int} {w w' : World} {T : Nat → Prop} (h : St1 be bo go m A cA L s w) (k : Kept T w w') (t1 : ¬ T be) (t2 : ¬ T bo) (t3 : ¬ T go) (t4 : ∀ g, blkOf A = some g → ¬ T g) : St1 be bo go m A cA L s w' :=
  ⟨(k.cell h.le t1 0).trans h.ce, (k.cell h.lo t2 0).trans h.co, k.lt h.le, k.lt h.lo, k.srcI h.I t4, k.row h.row t3, h.n1, h.n2, h.n3⟩
set_option maxRecDepth 100000 in
set_option maxHeartbeats 2000000 in
theorem first1_any {be bo go bc m cc : Nat} {A : Option Addr} {cA : Nat} {L : List Nat} (s f : Nat → Int) (w : World) (st : St1 be bo go m A cA L s w) (hL : ∀ d, d ∈ L → d < m) (hLl : L.length ≤ 1048576) (rc : w.rowIs bc 2 m (fun j => .int .i64 (f j))) (hne : bc ≠ go) :
    Calls Tryz.prog 101 #[.slice (some ⟨bc, 0, none⟩) m cc, .pointer (some ⟨be, 0, none⟩), .pointer (some ⟨bo, 0, none⟩)] w (fun e w' => e = .returned (.bool true) ∧ w'.rowIs go 2 m (fun d => .int .i64 (ovr L f s L.length d)) ∧ Kept (fun k => k = go) w w') := by
  have HL := Lib.hid hL
  have ce := st.ce
  have le := st.le
  go_enter Tryz.func101, Tryz.ntmps101
  go_wp2_with fail
  clear ce
  go_loopw [9] (fun kv wv => ∃ k : Nat, k ≤ L.length ∧ kv = .int .i64 k ∧ wv.rowIs go 2 m (fun d => .int .i64 (ovr L f s k d)) ∧ Kept (fun k => k = go) w wv) (fun k _ => L.length - (intOf k).toNat)
  case atStart => exact ⟨0, Nat.zero_le _, rfl, st.row.congr (fun d _ => by simp [ovr]), Kept.refl _ _⟩
  case round =>
    obtain ⟨k, hk, rfl, R, K⟩ := hrel
    by_cases hlt : k < L.length
    · have st2 := st
      obtain ⟨g, og, rfl, I⟩ := K.srcI st.I st.n3 (by omega)
      have i1 := I.c k hlt
      have HOV := Lib.hid (ovr_step (f := f) (s := s) hlt)
      obtain ⟨d, hd⟩ : ∃ d, d = L.getD k 0 := ⟨_, rfl⟩
      have hdm : d < m := by rw [hd]; exact HL.out _ (gd_mem hlt)
      rw [← hd] at i1 HOV
      clear hd
      have co := (K.cell st2.lo st2.n2 0).trans st2.co
      have R2 := K.row rc hne
      have r1 := R.cell hdm
      have f1 := R.frozen d
      have r2 := R2.cell hdm
      have zg := I.blk
      have RN := Lib.hid ((R.set d (.int .i64 (f d))).congr (g := fun j => .int .i64 (ovr L f s (k + 1) j)) (fun j _ => by rw [HOV.out]; by_cases e : j = d <;> simp [e]))
      have KN := Lib.hid (K.setCell (a := ⟨go, d, none⟩) rfl (.int .i64 (f d)))
      clear R R2 K HOV
      go_wp2_with fail
      go_still_tail 7, (by kernel_rfl)
      change wpList _ _ _ _ _ wr.drew
      go_wp2_with fail
      go_roundw
      case rel => exact ⟨k + 1, by omega, by go_num, RN.out.drew, KN.out.drew⟩
      case measure => simp [intOf]; omega
    · obtain rfl : k = L.length := by omega
      go_wp2_with fail
      go_ret
      exact ⟨rfl, R, K⟩
theorem painted_any {σ : Type} (St : σ → World → Prop) (S : σ → Nat → Prop) (fnd : σ → (Nat → Int) → Bool × σ) (fid : FuncId) (caps : Array Value) {N m b o c : Nat} {A : Option Addr} {cA : Nat} {L : List Nat} {es : List (Int × Int)} {w0 w : World} {bp bc bu : Nat} (r : Bool)
    (po : PO w0 w bp bc bu N m (.slice (some ⟨b, o, none⟩) m c) (.slice A L.length cA) (.func (.func fid) #[] caps) (pF r (atL es 0)) (pU r es (atL es 0))) (hn : WfP N es) (hm : m ≤ 1048576) (hLl : L.length ≤ 1048576) (he : Enters fid) (E : Eds w0 b o m es) (I : SrcI w0 A L.length (fun j => ((L.getD j 0 : Nat) : Int))) (hA : ∀ g, blkOf A = some g → g < w0.heap.size) (hL : ∀ d, d ∈ L → d < m) (s : σ) (st : St s w)
    (hS0 : ∀ k, S s k → k < w0.heap.size) (hSb : ¬ S s b) (hSA : ∀ g, blkOf A = some g → ¬ S s g)
    (hSt : ∀ s w w', St s w → Kept (fun k => k = bc ∨ k = bu) w w' → St s w') (hSlt : ∀ s w, St s w → ∀ k, S s k → k < w.heap.size)
    (hfound : ∀ s f U w, PS w (S s) bp bc bu N m A cA L b o c m N es (.func (.func fid) #[] caps) → PW w (S s) bc bu N m f U w → St s w →
      Calls Tryz.prog fid (#[.slice (some ⟨bc, 0, none⟩) m m] ++ caps) w (fun e w' => e = .returned (.bool (fnd s f).1) ∧ PW w (S s) bc bu N m f U w' ∧ St (fnd s f).2 w' ∧ ∀ k, S (fnd s f).2 k → S s k ∨ w.heap.size ≤ k)) :
    Calls Tryz.prog 58 #[.pointer (some ⟨bp, 0, none⟩)] w (fun e w' => e = .returned (.bool (runF fnd s (impT es L r)).1) ∧ PW w (S s) bc bu N m (pF r (atL es 0)) (pU r es (atL es 0)) w' ∧ St (runF fnd s (impT es L r)).2 w' ∧ ∀ k, S (runF fnd s (impT es L r)).2 k → S s k ∨ w.heap.size ≤ k) := by
  have ps := po.ps E I hA hL hS0 hSb hSA
  have hAw : ∀ g, blkOf A = some g → g < w.heap.size := fun g hg => Nat.lt_of_lt_of_le (hA g hg) po.bel.size
  refine start_any ps hn hm _ _ po.pw (pF_rng r es) (pF_nocl r es) _ fun W hW => ?_
  have ps2 := ps.kept (T := S s) (Kept.of hW) (fun i hi => .inl hi) hAw
  have pw2 : PW W (S s) bc bu N m (pF r (atL es 0)) (pU r es (atL es 0)) W := (po.pw.below hW).self (w := w) (S := S s)
  have st2 : St s W := hSt s w W st (Kept.of hW)
  have hp := paint_any St S fnd fid caps hn hm hLl he hSt hSlt hfound (L.length + 1) 0 s (pF r (atL es 0)) (pU r es (atL es 0)) W (by omega) (Nat.zero_le _) ps2 pw2 st2 (pU8 r es) (fun g hg => Nat.lt_of_lt_of_le (hAw g hg) hW.size)
  refine hp.mono ?_
  rintro e w' ⟨rfl, P, s', hT⟩
  rw [List.drop_zero] at s' hT ⊢
  refine ⟨_, rfl, rfl, P.root (Kept.of hW) (fun i hi => .inl hi), s', fun k hk => ?_⟩
  rcases hT k hk with h | h
  · exact .inl h
  · have := hW.size; right; omega
/-- For first: each part's first colouring is laid over. -/
def fnd1 (L : List Nat) (s f : Nat → Int) : Bool × (Nat → Int) := (true, ovr L f s L.length)
theorem runF1 (L : List Nat) (s : Nat → Int) (T : List (Nat → Int)) : runF (fnd1 L) s T = match T with | [] => (false, s) | g :: _ => (true, ovr L g s L.length) := by
  cases T with
  | nil => rfl
  | cons g T => simp [runF, fnd1]
theorem enF1 : Enters 101 := fun args w => by kernel_rfl
theorem painted1 {N m b o c : Nat} {A : Option Addr} {cA : Nat} {L : List Nat} {es : List (Int × Int)} {w0 w : World} {bp bc bu be bo go : Nat} (r : Bool)
    (po : PO w0 w bp bc bu N m (.slice (some ⟨b, o, none⟩) m c) (.slice A L.length cA) (.func (.func 101) #[] #[.pointer (some ⟨be, 0, none⟩), .pointer (some ⟨bo, 0, none⟩)]) (pF r (atL es 0)) (pU r es (atL es 0))) (hn : WfP N es) (hm : m ≤ 1048576) (hLl : L.length ≤ 1048576) (E : Eds w0 b o m es) (hA : ∀ g, blkOf A = some g → g < w0.heap.size) (hL : ∀ d, d ∈ L → d < m) (s : Nat → Int) (st : St1 be bo go m A cA L s w0) (hb : b ≠ go) :
    Calls Tryz.prog 58 #[.pointer (some ⟨bp, 0, none⟩)] w (fun e w' => e = .returned (.bool (runF (fnd1 L) s (impT es L r)).1) ∧ w'.rowIs go 2 m (fun d => .int .i64 ((runF (fnd1 L) s (impT es L r)).2 d)) ∧ Kept (fun k => k = go) w0 w') := by
  have hgo := st.row.lt
  have nbe := st.le
  have nbo := st.lo
  have hpc := po.hc
  have hpu := po.hu
  have hkk : ∀ s w w', St1 be bo go m A cA L s w → Kept (fun k => k = bc ∨ k = bu) w w' → St1 be bo go m A cA L s w' := fun s w w' h k =>
    h.kept k (by omega) (by omega) (by omega) (fun g hg => by have := hA g hg; omega)
  have st' : St1 be bo go m A cA L s w := st.kept (Kept.of (S := fun _ => False) po.bel) id id id (fun _ _ => id)
  have h := painted_any (St1 be bo go m A cA L) (fun _ k => k = go) (fnd1 L) 101 #[.pointer (some ⟨be, 0, none⟩), .pointer (some ⟨bo, 0, none⟩)] r po hn hm hLl enF1 E st.I hA hL s st'
    (fun k hk => by omega) (fun e => hb e) (fun g hg e => st.n3 g hg e) hkk (fun s w h k hk => by subst hk; exact h.row.lt)
    (fun s f U w ps pw st2 => by
      have := first1_any (bc := bc) (cc := m) s f w st2 hL hLl pw.rc (by omega)
      refine this.mono ?_
      rintro e w' ⟨rfl, R, K⟩
      have hT : ∀ k, k = go → Mut (fun k => k = go) bc bu k := fun k hk => .inr (.inr hk)
      exact ⟨rfl, ⟨K.wide hT, K.row pw.rc (by omega), K.row pw.ru (by omega)⟩, ⟨(K.cell st2.le st2.n1 0).trans st2.ce, (K.cell st2.lo st2.n2 0).trans st2.co, K.lt st2.le, K.lt st2.lo, K.srcI st2.I st2.n3, R, st2.n1, st2.n2, st2.n3⟩, fun k hk => .inl hk⟩)
  refine h.mono ?_
  rintro e w' ⟨rfl, P, st3, _⟩
  refine ⟨rfl, st3.row, (Kept.of po.bel).trans' P.k (fun i hi => ?_)⟩
  rcases hi with h1 | h1 | h1
  · right; omega
  · right; omega
  · exact .inl h1
/-- What first has laid over after so many parts, and whether it goes on. -/
def foF (es : List (Int × Int)) (Ls : Nat → List Nat) : Nat → Nat → Int
  | 0 => fun _ => 0
  | j + 1 => (runF (fnd1 (Ls j)) (foF es Ls j) (impT es (Ls j) (j == 0))).2
def foB (es : List (Int × Int)) (Ls : Nat → List Nat) (j : Nat) : Bool := (runF (fnd1 (Ls j)) (foF es Ls j) (impT es (Ls j) (j == 0))).1
/-- A list of the call's own, or nil where there is none. -/
def RetO (m : Nat) (q : Prop) (f : Nat → Int) (w : World) (e : Ending) (w' : World) : Prop :=
  (q ∧ ∃ g, e = .returned (.slice (some ⟨g, 0, none⟩) m m) ∧ w.heap.size ≤ g ∧ w'.rowIs g 2 m (fun d => .int .i64 (f d)) ∧ Below w.heap.size w w') ∨ (¬ q ∧ e = .returned (.slice none 0 0) ∧ Below w.heap.size w w')
set_option maxRecDepth 100000 in
set_option maxHeartbeats 2000000 in
theorem first_any (N b o m c : Nat) (es : List (Int × Int)) (w : World) (h : Eds w b o m es) (hm : m ≤ 1048576) (hG : IsG N es) :
    Calls Tryz.prog 53 #[.agg #[.int .i64 N, .slice (some ⟨b, o, none⟩) m c]] w (RetO m (∀ j, j < (sdTo es noSk N N).length → foB es (fun j => inTo es (ra (sdTo es noSk N N) j) m) j = true) (foF es (fun j => inTo es (ra (sdTo es noSk N N) j) m) (sdTo es noSk N N).length) w) := by
  have hbox := Box2.made w (.int .i64 N) (.slice (some ⟨b, o, none⟩) m c) 26
  have hbb := (by go_grown : Below w.heap.size w (w.alloc (.cells #[.int .i64 N, .slice (some ⟨b, o, none⟩) m c] 26)))
  have hl := Lib.hid h.len
  have HG := Lib.hid hG
  have hn2 := hG.wf.1
  have hn20 := hG.wf.2.1
  have hm30 : m ≤ 30 := by have := hG.wf.2.2.2.1; have := hl.out; omega
  have hmk := run_make_row' (P := Tryz.prog) 34 2 (.int .i64 0) 8 Tryz.underlying34 inf2 rfl .i64 .i64 m (by omega) (by omega)
  obtain ⟨rows, hrw⟩ : ∃ rows, rows = sdTo es noSk N N := ⟨_, rfl⟩
  have hlr20 : rows.length ≤ 20 := by rw [hrw, sdTo_len]; have := ldCnt_le es noSk N; omega
  have HPE := Lib.hid (fun W hE => partEdges_any N b o m c es W hE hm hG.wf)
  rw [Int.toNat_natCast, ← hrw] at HPE
  rw [← hrw]
  obtain ⟨Ls, hLs⟩ : ∃ Ls : Nat → List Nat, Ls = fun j => inTo es (ra rows j) m := ⟨_, rfl⟩
  rw [← hLs]
  have HLS := Lib.hid (fun j => congrFun hLs j)
  have HPA := Lib.hid (peR_at es rows m rows.length)
  have HPL := Lib.hid (peR_len es rows m rows.length)
  obtain ⟨w1, hw1⟩ : ∃ w1, w1 = w.alloc (Obj.cells #[Value.int IntKind.i64 N, Value.slice (some ⟨b, o, none⟩) m c] 26) := ⟨_, rfl⟩
  rw [← hw1] at hbb hbox
  clear hG hrw hLs
  obtain ⟨s1, p1, q1⟩ := hbox
  go_enter Tryz.func53, Tryz.ntmps53
  go_wp2_with fail
  rw [← hw1]
  go_wp2_with fail
  have sw1 : w1.heap.size = w.heap.size + 1 := by rw [hw1]; simp [go_sem]
  obtain ⟨w2, hw2⟩ : ∃ w2, w2 = (w1.alloc (.cells (madeCells #[.int .i64 0] m) 2)).alloc (.cells #[.slice (some ⟨w.heap.size + 1, 0, none⟩) m m] 34) := ⟨_, rfl⟩
  have R0 : w2.rowIs (w.heap.size + 1) 2 m (fun _ => .int .i64 0) := by
    rw [hw2, ← sw1]; exact (World.rowIs_made w1 (.int .i64 0) m 2).alloc _
  have co : w2.cell? ⟨w.heap.size + 1 + 1, 0, none⟩ = some (.slice (some ⟨w.heap.size + 1, 0, none⟩) m m) := by
    have hs : (w1.alloc (.cells (madeCells #[.int .i64 0] m) 2)).heap.size = w.heap.size + 1 + 1 := by simp [go_sem, sw1]
    rw [hw2, ← hs]; simp [go_sem]
  have hb2 : Below w1.heap.size w1 w2 := by rw [hw2]; exact ((Below.refl _ _).alloc (Nat.le_refl _) _).alloc (by simp [go_sem]) _
  have zo : w.heap.size + 1 + 1 < w2.heap.size := by rw [hw2]; simp [go_sem]; omega
  rw [← hw2]
  clear hw2 hmk hw1
  have hB2 := hbb.andB hb2
  refine (HPE.out w2 (h.below hB2)).mono ?_
  rintro e w3 ⟨A, c3, rfl, O, hb3⟩
  rw [HPL.out] at O ⊢
  have hB3 := hB2.andB hb3
  have R3 := R0.of_block (hb3.block _ R0.lt)
  have co3 := (hb3.cell (p := ⟨w.heap.size + 1 + 1, 0, none⟩) zo).trans co
  have p3 := ((hb2.andB hb3).cell (p := ⟨w.heap.size, 0, none⟩) s1).trans p1
  have q3 := ((hb2.andB hb3).cell (p := ⟨w.heap.size, 1, none⟩) s1).trans q1
  have z3 : w.heap.size + 1 + 1 < w3.heap.size := Nat.lt_of_lt_of_le zo hb3.size
  have E3 := h.below hB3
  have hbw := h.blk
  have HO2 := hb2.size
  have zo2 := zo
  clear R0 co hb2 hb3 p1 q1 hB2 zo
  go_wp2_with fail
  go_loopw [14] (fun kv wv => ∃ j : Nat, j ≤ rows.length ∧ kv = .int .i64 j ∧ Hid (∀ i, i < j → foB es Ls i = true) ∧ wv.rowIs (w.heap.size + 1) 2 m (fun d => .int .i64 (foF es Ls j d)) ∧ Kept (fun k => k = w.heap.size + 1) w3 wv) (fun j _ => rows.length - (intOf j).toNat)
  case atStart => exact ⟨0, Nat.zero_le _, rfl, fun i hi => absurd hi (by omega), R3, Kept.refl _ _⟩
  case round =>
    obtain ⟨j, hj, rfl, HB, R, K⟩ := hrel
    have n1 : ¬ (w.heap.size = w.heap.size + 1) := by omega
    have n2 : ¬ (w.heap.size + 1 + 1 = w.heap.size + 1) := by omega
    by_cases hlt : j < rows.length
    · obtain ⟨g, Aj, cj, rfl, hg, hg', rc, OJ⟩ := O.at hlt
      rw [HPA.out j hlt, ← HLS.out j, natL_len] at rc OJ
      obtain ⟨L, hL⟩ : ∃ L, L = Ls j := ⟨_, rfl⟩
      rw [← hL] at rc OJ
      have hLm : Hid (∀ d, d ∈ L → d < m) := fun d hd => by
        rw [hL, HLS.out j] at hd
        exact (mem_inTo.1 hd).1
      have hLl : L.length ≤ m := by rw [hL, HLS.out j]; exact inTo_len _ _ _
      have HFO : Hid (foF es Ls (j + 1) = (runF (fnd1 L) (foF es Ls j) (impT es L (j == 0))).2 ∧ foB es Ls j = (runF (fnd1 L) (foF es Ls j) (impT es L (j == 0))).1) := by rw [hL]; exact ⟨rfl, rfl⟩
      have ng : ¬ (g = w.heap.size + 1) := by omega
      have rcW := (K.cell hg' ng j).trans rc
      have zgW := K.lt hg'
      have p4 := (K.cell (by omega : w.heap.size < w3.heap.size) n1 0).trans p3
      have q4 := (K.cell (by omega : w.heap.size < w3.heap.size) n1 1).trans q3
      have zb := K.lt (by omega : w.heap.size < w3.heap.size)
      have EW := K.eds E3 (by omega)
      have OW := K.ownL OJ (fun g' hg2 => by have := (OJ.blk g' hg2).1; omega)
      obtain ⟨we, hwe⟩ : ∃ we, we = wr.alloc (.cells #[.slice Aj L.length cj] 34) := ⟨_, rfl⟩
      have hbe : Below wr.heap.size wr we := by rw [hwe]; exact (Below.refl _ _).alloc (Nat.le_refl _) _
      have ce : we.cell? ⟨wr.heap.size, 0, none⟩ = some (.slice Aj L.length cj) := by rw [hwe]; simp
      have ze : wr.heap.size < we.heap.size := by rw [hwe]; simp
      have hszk := K.size
      have Ke := K.thenB hbe
      have OE := OW.below hbe
      have IE : SrcI we Aj L.length (fun i => ((L.getD i 0 : Nat) : Int)) := fun h0 => by
        obtain ⟨g', o', e', I'⟩ := OE.src h0
        exact ⟨g', o', e', ⟨I'.blk, fun i hi => by rw [I'.c i hi, natL_at]⟩⟩
      have st : St1 wr.heap.size (w.heap.size + 1 + 1) (w.heap.size + 1) m Aj cj L (foF es Ls j) we :=
        ⟨ce, (Ke.cell z3 n2 0).trans co3, ze, Ke.lt z3, IE, R.of_block (hbe.block _ R.lt), by have := R.lt; omega, n2, fun g' hg2 => by have := (OJ.blk g' hg2).1; omega⟩
      have EE := EW.below hbe
      have HAE : Hid (∀ g', blkOf Aj = some g' → g' < we.heap.size) := fun g' hg2 => (OE.blk g' hg2).2
      have HPO := Lib.hid (painterOf_any N b o m c es Aj cj L (j == 0) 101 #[.pointer (some ⟨wr.heap.size, 0, none⟩), .pointer (some ⟨w.heap.size + 1 + 1, 0, none⟩)] we EE hm HG.out IE HAE.out hLm.out)
      have HP1 : Hid (∀ bp bc bu w5, PO we w5 bp bc bu N m (.slice (some ⟨b, o, none⟩) m c) (.slice Aj L.length cj) (.func (.func 101) #[] #[.pointer (some ⟨wr.heap.size, 0, none⟩), .pointer (some ⟨w.heap.size + 1 + 1, 0, none⟩)]) (pF (j == 0) (atL es 0)) (pU (j == 0) es (atL es 0)) →
          Calls Tryz.prog 58 #[.pointer (some ⟨bp, 0, none⟩)] w5 (fun e w' => e = .returned (.bool (runF (fnd1 L) (foF es Ls j) (impT es L (j == 0))).1) ∧ w'.rowIs (w.heap.size + 1) 2 m (fun d => .int .i64 ((runF (fnd1 L) (foF es Ls j) (impT es L (j == 0))).2 d)) ∧ Kept (fun k => k = w.heap.size + 1) we w')) := fun bp bc bu w5 po =>
        painted1 (j == 0) po HG.out.wf hm (by omega) EE HAE.out hLm.out (foF es Ls j) st (by omega)
      have hj0 : ((j : Int) == 0) = (j == 0) := by cases j <;> simp; omega
      obtain ⟨jb, hjb⟩ : ∃ jb, jb = (j == 0) := ⟨_, rfl⟩
      rw [← hjb] at hj0 HP1 HPO HFO
      have p5 := (hbe.cell (p := ⟨w.heap.size, 0, none⟩) zb).trans p4
      have q5 := (hbe.cell (p := ⟨w.heap.size, 1, none⟩) zb).trans q4
      clear hjb hL OJ OW OE IE st EW EE R rc
      go_wp2_with fail
      rw [← hwe]
      refine HPO.out.mono ?_
      rintro e w5 ⟨bp, bc, bu, rfl, po⟩
      have HP2 := Lib.hid (HP1.out bp bc bu w5 po)
      clear po HPO HP1
      go_wp2_with fail
      refine HP2.out.mono ?_
      rintro e w6 ⟨rfl, R6, K6⟩
      obtain ⟨rr, hrr⟩ : ∃ rr, rr = runF (fnd1 L) (foF es Ls j) (impT es L jb) := ⟨_, rfl⟩
      rw [← hrr] at HFO R6 ⊢
      have K7 := Lib.hid (Ke.trans K6)
      clear hrr HP2 Ke K6 ce p4 q4 p5 q5 K
      obtain ⟨rb, rs⟩ := rr
      cases rb with
      | true =>
        have HB2 : Hid (∀ i, i < j + 1 → foB es Ls i = true) := fun i hi => by
          by_cases e : i = j
          · rw [e]; exact HFO.out.2
          · exact HB.out i (by omega)
        go_wp2_with fail
        go_roundw
        case rel => exact ⟨j + 1, by omega, by go_num, HB2, by rw [HFO.out.1]; exact R6, K7.out⟩
        case measure => simp [intOf]; omega
      | false =>
        have hbF : Below w.heap.size w w6 := hB3.trans (K7.out.below (by have := hB3.size; omega) (fun k hk => by omega))
        have HN : Hid (¬ ∀ i, i < rows.length → foB es Ls i = true) := fun hall => by
          have := hall j hlt
          rw [HFO.out.2] at this; cases this
        go_wp2_with fail
        go_ret
        exact .inr ⟨HN.out, rfl, hbF⟩
    · obtain rfl : j = rows.length := by omega
      have hbF : Below w.heap.size w wr := hB3.trans (K.below (by have := hB3.size; omega) (fun k hk => by omega))
      have co4 := (K.cell z3 n2 0).trans co3
      go_wp2_with fail
      go_ret
      exact .inl ⟨fun i hi => HB.out i hi, w.heap.size + 1, rfl, by omega, R, hbF⟩
end Go.Proofs.YtajnhkkiddeegaaGreat
namespace Go.Proofs.YtajnhkkiddeegaaGreat
open Go.RowKit Go.Sort
open Classical in
noncomputable def LV (es : List (Int × Int)) (k : Nat) : List Nat := (List.range k).filter fun v : Nat => decide (leadF es noSk v = (v : Int))
theorem sd_LV (es : List (Int × Int)) (N : Nat) : ∀ k, sdTo es noSk N k = (LV es k).map fun v : Nat => cmTo es noSk v N := by
  intro k
  induction k with
  | zero => rfl
  | succ k ih =>
    unfold LV at ih ⊢
    rw [List.range_succ, List.filter_append, List.map_append, ← ih]
    by_cases h : leadF es noSk k = k
    · rw [sdTo_yes h]; simp [h]
    · rw [sdTo_no h]; simp [h]
theorem LV_nodup (es : List (Int × Int)) (k : Nat) : (LV es k).Nodup := List.nodup_range.sublist List.filter_sublist
theorem mem_LV {es : List (Int × Int)} {k v : Nat} : v ∈ LV es k ↔ v < k ∧ leadF es noSk v = (v : Int) := by simp [LV]
theorem sd_at {es : List (Int × Int)} {N k j : Nat} (h : j < (LV es k).length) : ra (sdTo es noSk N k) j = cmTo es noSk ((LV es k)[j] : Nat) N := by
  rw [sd_LV]; simp [ra, h]
theorem lead_zero (es : List (Int × Int)) : leadF es noSk 0 = 0 := by
  have h1 := leadF_nonneg es noSk 0
  have h2 := leadF_le (es := es) (sk := noSk) (v := 0) (Int.le_refl _)
  omega
theorem LV_0 {es : List (Int × Int)} {k : Nat} (h : 0 < (LV es k).length) : (LV es k)[0] = 0 := by
  have h1 := mem_LV.1 (List.getElem_mem h)
  have hm : 0 ∈ LV es k := mem_LV.2 ⟨by omega, lead_zero es⟩
  obtain ⟨i, hi, e⟩ := List.mem_iff_getElem.1 hm
  have hp : (LV es k).Pairwise (· < ·) := List.pairwise_lt_range.sublist List.filter_sublist
  have hp' := List.pairwise_iff_getElem.1 hp
  by_cases h0 : i = 0
  · subst h0; exact e
  · have := hp' 0 i h hi (by omega); omega
/-- The edges of the parts. -/
noncomputable def Lsj (es : List (Int × Int)) (N j : Nat) : List Nat := inTo es (ra (sdTo es noSk N N) j) es.length
def Gj (es : List (Int × Int)) (j : Nat) : Nat → Int := if j = 0 then gN es 0 else fun _ => -1
theorem mem_Lsj {N : Nat} {es : List (Int × Int)} (hn : WfP N es) {j d : Nat} (hj : j < (LV es N).length) : d ∈ Lsj es N j ↔ d < es.length ∧ leadF es noSk (ea es d) = ((LV es N)[j] : Nat) := by
  unfold Lsj
  rw [mem_inTo, sd_at hj, mem_cmTo]
  have hv := mem_LV.1 (List.getElem_mem hj)
  constructor
  · rintro ⟨h1, u, hu, e, hr⟩
    refine ⟨h1, ?_⟩
    rw [e, lead_is hv.2]; exact hr
  · rintro ⟨h1, h2⟩
    have hw := hn.2.2.2.2 d h1
    refine ⟨h1, (ea es d).toNat, by omega, by omega, ?_⟩
    have e : ((ea es d).toNat : Int) = ea es d := by omega
    rw [← e] at h2
    rw [← e]; exact (lead_is hv.2).1 h2
theorem Lsj_uniq {N : Nat} {es : List (Int × Int)} (hn : WfP N es) {i j d : Nat} (hi : i < (LV es N).length) (hj : j < (LV es N).length) (h1 : d ∈ Lsj es N i) (h2 : d ∈ Lsj es N j) : i = j := by
  have a := ((mem_Lsj hn hi).1 h1).2
  have b := ((mem_Lsj hn hj).1 h2).2
  have : (LV es N)[i] = (LV es N)[j] := by omega
  have hp := List.pairwise_iff_getElem.1 (LV_nodup es N)
  rcases Nat.lt_trichotomy i j with h | h | h
  · exact absurd this (hp i j hi hj h)
  · exact h
  · exact absurd this.symm (hp j i hj hi h)
theorem Lsj_all {N : Nat} {es : List (Int × Int)} (hn : WfP N es) {d : Nat} (hd : d < es.length) : ∃ j, j < (LV es N).length ∧ d ∈ Lsj es N j := by
  have hw := hn.2.2.2.2 d hd
  have h0 := leadF_nonneg es noSk (ea es d)
  have h1 := leadF_le (es := es) (sk := noSk) (v := ea es d) hw.1
  have h2 := leadF_lead (es := es) (sk := noSk) (v := ea es d) hw.1
  have hm : (leadF es noSk (ea es d)).toNat ∈ LV es N := by
    rw [mem_LV]
    have e : ((leadF es noSk (ea es d)).toNat : Int) = leadF es noSk (ea es d) := by omega
    exact ⟨by omega, by rw [e]; exact h2⟩
  obtain ⟨j, hj, e⟩ := List.mem_iff_getElem.1 hm
  exact ⟨j, hj, (mem_Lsj hn hj).2 ⟨hd, by rw [e]; omega⟩⟩
theorem lead_edge {N : Nat} {es : List (Int × Int)} (hn : WfP N es) {d : Nat} (hd : d < es.length) : leadF es noSk (ea es d) = leadF es noSk (eb es d) := by
  have hw := hn.2.2.2.2 d hd
  exact leadF_eq hw.1 hw.2.2.1 (Rch.adj ⟨d, hd, rfl, .inl ⟨rfl, rfl⟩⟩)
theorem lead_adj {N : Nat} {es : List (Int × Int)} (hn : WfP N es) {d e : Nat} (hd : d < es.length) (he : e < es.length) (ha : adjP es d e) : leadF es noSk (ea es d) = leadF es noSk (ea es e) := by
  have h1 := lead_edge hn hd
  have h2 := lead_edge hn he
  rcases ha with (h | h) | (h | h)
  · rw [h]
  · rw [h1, h]
  · rw [h, h2]
  · rw [h1, h, h2]
theorem part_j {N : Nat} {es : List (Int × Int)} (hG : IsG N es) {j : Nat} (hj : j < (LV es N).length) : Part es (Lsj es N j) (Gj es j) where
  asc := inTo_asc _ _ _
  lt := fun d hd => (mem_inTo.1 hd).1
  closed := fun d e hd he ha => by
    have h := (mem_Lsj hG.wf hj).1 he
    exact (mem_Lsj hG.wf hj).2 ⟨hd, by rw [lead_adj hG.wf hd h.1 ha]; exact h.2⟩
  giv := fun d hd => by
    unfold Gj at hd ⊢
    by_cases h0 : j = 0
    · subst h0
      rw [if_pos rfl] at hd ⊢
      have hr := gN_rng es 0 d
      refine ⟨?_, by omega, by omega⟩
      obtain ⟨i, hi, h1, _⟩ := onT_at hd
      have hdl : d < es.length ∧ (ea es d = 0 ∨ eb es d = 0) := by
        have h3 := atL_3 hG (v := 0) (by omega) (by have := hG.wf.1; omega)
        obtain ⟨f, hf, e, hv⟩ := atL_at (es := es) (u := 0) (k := i) (by omega)
        have : f = d := by omega
        subst this; exact ⟨hf, hv⟩
      have hl : leadF es noSk (ea es d) = 0 := by
        rcases hdl.2 with h | h
        · rw [h]; exact lead_zero es
        · rw [lead_edge hG.wf hdl.1, h]; exact lead_zero es
      exact (mem_Lsj hG.wf hj).2 ⟨hdl.1, by rw [LV_0 hj]; simpa using hl⟩
    · rw [if_neg h0] at hd; exact absurd rfl hd
/-- What a painter finds for a part. -/
theorem usI_p {N : Nat} {es : List (Int × Int)} (hG : IsG N es) (r : Bool) : UsI N es (pF r (atL es 0)) (pU r es (atL es 0)) := by
  have base : UsI N es (nF (atL es 0) 0) (nU es (atL es 0) 0) := by
    intro v _
    refine ⟨by simp [nU], fun x _ => ?_⟩
    simp only [nU, nF, Nat.zero_testBit, Bool.false_eq_true, false_iff]
    rintro ⟨d, _, _, h⟩; omega
  cases r with
  | false => exact base
  | true =>
    have h3 := atL_3 hG (v := 0) (by omega) (by have := hG.wf.1; omega)
    have step : ∀ k, k < 3 → UsI N es (nF (atL es 0) k) (nU es (atL es 0) k) → UsI N es (nF (atL es 0) (k + 1)) (nU es (atL es 0) (k + 1)) := fun k hk h => by
      obtain ⟨f, hf, e, _⟩ := atL_at (es := es) (u := 0) (k := k) (by omega)
      have hfe : (ia (atL es 0) k).toNat = f := by omega
      simp only [nF, nU, hfe]
      refine h.give hG.wf hf hk ?_
      rw [nF_onT (atL_nn es 0)]
      apply Classical.byContradiction
      intro hne
      obtain ⟨i, hi, h1, _⟩ := onT_at hne
      exact atL_ne (es := es) (v := 0) hi (by omega) (by rw [h1, e])
    exact step 2 (by omega) (step 1 (by omega) (step 0 (by omega) base))
theorem pF_Gj (es : List (Int × Int)) (j : Nat) : pF (j == 0) (atL es 0) = Gj es j := by
  unfold Gj
  by_cases h : j = 0
  · subst h; rw [if_pos rfl]; exact nF_gN es 0
  · rw [if_neg h]
    have : (j == 0) = false := by simp [h]
    rw [this]; rfl
theorem Gj_inj {es : List (Int × Int)} {j d e : Nat} (hne : d ≠ e) (h : Gj es j d = Gj es j e) : Gj es j d = -1 := by
  unfold Gj at h ⊢
  by_cases h0 : j = 0
  · rw [if_pos h0] at h ⊢
    exact Classical.byContradiction fun h1 => hne (gN_inj h1 h)
  · rw [if_neg h0]
theorem impT_eq {N : Nat} {es : List (Int × Int)} (hG : IsG N es) {j : Nat} (hj : j < (LV es N).length) : impT es (Lsj es N j) (j == 0) = (allG col3 (Lsj es N j) (Gj es j)).filter (okP es (Gj es j) (Lsj es N j)) := by
  have hp := part_j hG hj
  unfold impT
  rw [col_tree hG.wf (Lsj es N j) _ _ (usI_p hG (j == 0)) hp.lt (fun d _ => pF_rng (j == 0) es d) hp.nodup, pF_Gj]
  exact treeI hp fun d e _ hne h => Gj_inj hne h
theorem part_all {N : Nat} {es : List (Int × Int)} (hG : IsG N es) : Part es (List.range' 0 es.length) (gN es 0) where
  asc := List.pairwise_lt_range'
  lt := fun d hd => by have := List.mem_range'_1.1 hd; omega
  closed := fun d e hd _ _ => List.mem_range'_1.2 (by omega)
  giv := fun d hd => by
    have h0 : 0 < (LV es N).length := by
      obtain ⟨j, hj, _⟩ := Lsj_all hG.wf (d := 0) (by have := hG.wf.2.2.2.1; have := hG.wf.1; omega)
      omega
    have := (part_j hG h0).giv d (by unfold Gj; rw [if_pos rfl]; exact hd)
    unfold Gj at this
    rw [if_pos rfl] at this
    exact ⟨List.mem_range'_1.2 (by have := (part_j hG h0).lt d this.1; omega), this.2⟩
/-- All colourings, in the reference's order. -/
noncomputable def allC (es : List (Int × Int)) (f0 : Nat → Int) : List (Nat → Int) := (allG col3 (List.range' 0 es.length) f0).filter (okP es (gN es 0) (List.range' 0 es.length))
theorem lvs_all {N : Nat} {es : List (Int × Int)} (hG : IsG N es) (f0 : Nat → Int) : lvs es (gN es 0) es.length 0 f0 = (allC es f0).map (lsN es.length) := by
  unfold lvs allC
  rw [Nat.sub_zero, treeS (part_all hG) f0]
theorem foB_iff {es : List (Int × Int)} {Ls : Nat → List Nat} {j : Nat} : foB es Ls j = true ↔ impT es (Ls j) (j == 0) ≠ [] := by
  unfold foB
  rw [runF1]
  cases impT es (Ls j) (j == 0) <;> simp
theorem foF_at {N : Nat} {es : List (Int × Int)} (hG : IsG N es) {R : Nat} (hR : R ≤ (LV es N).length) {j d : Nat} (hj : j < R) (hd : d ∈ Lsj es N j) {g : Nat → Int} {T : List (Nat → Int)} (hg : impT es (Lsj es N j) (j == 0) = g :: T) : foF es (Lsj es N) R d = g d := by
  induction R with
  | zero => omega
  | succ R ih =>
    simp only [foF]
    rw [runF1]
    by_cases e : j = R
    · subst e
      rw [hg]
      simp only [ovr, List.take_length]
      rw [if_pos hd]
    · have hjR : j < R := by omega
      have hnd : d ∉ Lsj es N R := fun h => e (Lsj_uniq hG.wf (by omega) (by omega) hd h)
      cases hT : impT es (Lsj es N R) (R == 0) with
      | nil => exact ih (by omega) hjR
      | cons g' T' =>
        simp only [ovr, List.take_length]
        rw [if_neg hnd]
        exact ih (by omega) hjR
theorem okP_iff {es : List (Int × Int)} {G : Nat → Int} {L : List Nat} {g : Nat → Int} : okP es G L g = true ↔ (∀ d, d ∈ L → G d ≠ -1 → g d = G d) ∧ ∀ d e, d ∈ L → e ∈ L → adjP es d e → d ≠ e → g d ≠ g e := B_iff
/-- A whole colouring is one of each part. -/
theorem restr {N : Nat} {es : List (Int × Int)} (hG : IsG N es) {f0 g : Nat → Int} (hg : g ∈ allC es f0) {j : Nat} (hj : j < (LV es N).length) :
    (fun d => if d ∈ Lsj es N j then g d else Gj es j d) ∈ impT es (Lsj es N j) (j == 0) := by
  have hp := part_j hG hj
  obtain ⟨h1, h2⟩ := List.mem_filter.1 hg
  have h1' := (mem_allG (part_all hG).nodup).1 h1
  have h2' := okP_iff.1 h2
  have hin : ∀ d, d ∈ Lsj es N j → d ∈ List.range' 0 es.length := fun d hd => List.mem_range'_1.2 (by have := hp.lt d hd; omega)
  rw [impT_eq hG hj, List.mem_filter, mem_allG hp.nodup, okP_iff]
  refine ⟨⟨fun d hd => if_neg hd, fun d hd => ?_⟩, fun d hd hgd => ?_, fun d e hd he ha hne => ?_⟩
  · rw [if_pos hd]; exact h1'.2 d (hin d hd)
  · rw [if_pos hd]
    unfold Gj at hgd ⊢
    by_cases h0 : j = 0
    · rw [if_pos h0] at hgd ⊢; exact h2'.1 d (hin d hd) hgd
    · rw [if_neg h0] at hgd; exact absurd rfl hgd
  · rw [if_pos hd, if_pos he]; exact h2'.2 d e (hin d hd) (hin e he) ha hne
theorem first_all {N : Nat} {es : List (Int × Int)} (hG : IsG N es) (f0 : Nat → Int) :
    ((∀ j, j < (LV es N).length → foB es (Lsj es N) j = true) ↔ allC es f0 ≠ []) ∧ ∀ g T, allC es f0 = g :: T → lsN es.length g = lsN es.length (foF es (Lsj es N) (LV es N).length) := by
  have hnd := (part_all hG).nodup
  obtain ⟨H, hH⟩ : ∃ H, H = foF es (Lsj es N) (LV es N).length := ⟨_, rfl⟩
  have hHat : ∀ j, j < (LV es N).length → ∀ g T, impT es (Lsj es N j) (j == 0) = g :: T → ∀ d, d ∈ Lsj es N j → H d = g d := fun j hj g T hg d hd => by
    rw [hH]; exact foF_at hG (Nat.le_refl _) hj hd hg
  have hmem : (∀ j, j < (LV es N).length → impT es (Lsj es N j) (j == 0) ≠ []) → (fun d => if d < es.length then H d else f0 d) ∈ allC es f0 := fun hall => by
    have hpick : ∀ d, d < es.length → ∃ j, j < (LV es N).length ∧ d ∈ Lsj es N j ∧ ∃ g T, impT es (Lsj es N j) (j == 0) = g :: T ∧ (∀ e, e ∈ Lsj es N j → H e = g e) ∧ g ∈ allG col3 (Lsj es N j) (Gj es j) ∧ okP es (Gj es j) (Lsj es N j) g = true := fun d hd => by
      obtain ⟨j, hj, hdj⟩ := Lsj_all hG.wf hd
      cases hT : impT es (Lsj es N j) (j == 0) with
      | nil => exact absurd hT (hall j hj)
      | cons g T =>
        have hgm : g ∈ impT es (Lsj es N j) (j == 0) := by rw [hT]; exact List.mem_cons_self
        rw [impT_eq hG hj, List.mem_filter] at hgm
        exact ⟨j, hj, hdj, g, T, hT, hHat j hj g T hT, hgm.1, hgm.2⟩
    unfold allC
    rw [List.mem_filter, mem_allG hnd, okP_iff]
    refine ⟨⟨fun d hd => ?_, fun d hd => ?_⟩, fun d hd hgd => ?_, fun d e hd he ha hne => ?_⟩
    · rw [if_neg (fun h => hd (List.mem_range'_1.2 (by omega)))]
    · have hd' : d < es.length := by have := List.mem_range'_1.1 hd; omega
      obtain ⟨j, hj, hdj, g, T, _, hHg, hga, _⟩ := hpick d hd'
      simp only [if_pos hd']
      rw [hHg d hdj]
      exact ((mem_allG (part_j hG hj).nodup).1 hga).2 d hdj
    · have hd' : d < es.length := by have := List.mem_range'_1.1 hd; omega
      have h0 : 0 < (LV es N).length := by obtain ⟨j, hj, _⟩ := Lsj_all hG.wf hd'; omega
      have hG0 : Gj es 0 = gN es 0 := if_pos rfl
      have hd0 := ((part_j hG h0).giv d (by rw [hG0]; exact hgd)).1
      obtain ⟨j, hj, hdj, g, T, _, hHg, _, hok⟩ := hpick d hd'
      obtain rfl := Lsj_uniq hG.wf hj h0 hdj hd0
      simp only [if_pos hd']
      rw [hHg d hdj]
      have := (okP_iff.1 hok).1 d hdj (by rw [hG0]; exact hgd)
      rw [this, hG0]
    · have hd' : d < es.length := by have := List.mem_range'_1.1 hd; omega
      have he' : e < es.length := by have := List.mem_range'_1.1 he; omega
      obtain ⟨j, hj, hdj, g, T, _, hHg, _, hok⟩ := hpick d hd'
      have hej := (part_j hG hj).closed e d he' hdj (adjP_symm ha)
      simp only [if_pos hd', if_pos he']
      rw [hHg d hdj, hHg e hej]
      exact (okP_iff.1 hok).2 d e hdj hej ha hne
  have hiff : (∀ j, j < (LV es N).length → impT es (Lsj es N j) (j == 0) ≠ []) ↔ allC es f0 ≠ [] := by
    constructor
    · intro h h0
      have := hmem h
      rw [h0] at this; simp at this
    · intro h j hj h0
      obtain ⟨g, hg⟩ := List.exists_mem_of_ne_nil _ h
      have := restr hG hg hj
      rw [h0] at this; simp at this
  refine ⟨⟨fun h => hiff.1 fun j hj => foB_iff.1 (h j hj), fun h j hj => foB_iff.2 (hiff.2 h j hj)⟩, fun g T hgT => ?_⟩
  have hne : allC es f0 ≠ [] := by rw [hgT]; simp
  have hall := hiff.2 hne
  have hH' := hmem hall
  have hfind : (allG col3 (List.range' 0 es.length) f0).find? (okP es (gN es 0) (List.range' 0 es.length)) = some g := by
    rw [← List.head?_filter]
    show (allC es f0).head? = some g
    rw [hgT]; rfl
  have hgm : g ∈ allC es f0 := by rw [hgT]; exact List.mem_cons_self
  have hc3 : col3.Pairwise (· < ·) := by decide
  have hleast := find_least hc3 _ _ _ hnd hfind _ (List.mem_filter.1 hH').1 (List.mem_filter.1 hH').2
  have heq := least_eq (L := List.range' 0 es.length) (g := g) (g' := fun d => if d < es.length then H d else f0 d) hleast (fun pre e post hL hpre => by
    have hem : e ∈ List.range' 0 es.length := by rw [hL]; simp
    have he' : e < es.length := by have := List.mem_range'_1.1 hem; omega
    obtain ⟨j, hj, hej⟩ := Lsj_all hG.wf he'
    have hp := part_j hG hj
    cases hT : impT es (Lsj es N j) (j == 0) with
    | nil => exact absurd hT (hall j hj)
    | cons gj Tj =>
      have hHg := hHat j hj gj Tj hT
      simp only [if_pos he']
      rw [hHg e hej]
      have hfj : (allG col3 (Lsj es N j) (Gj es j)).find? (okP es (Gj es j) (Lsj es N j)) = some gj := by
        rw [← List.head?_filter, ← impT_eq hG hj, hT]; rfl
      have hr := restr hG hgm hj
      rw [impT_eq hG hj, List.mem_filter] at hr
      obtain ⟨preJ, postJ, hLJ⟩ := List.append_of_mem hej
      have := find_least hc3 _ _ _ hp.nodup hfj _ hr.1 hr.2 preJ e postJ hLJ (fun d hd => by
        have hdj : d ∈ Lsj es N j := by rw [hLJ]; exact List.mem_append_left _ hd
        have hde : d < e := by
          have := hp.asc
          rw [hLJ] at this
          exact (List.pairwise_append.1 this).2.2 d hd e List.mem_cons_self
        have hdl := hp.lt d hdj
        have hdp : d ∈ pre := by
          have hm : d ∈ List.range' 0 es.length := List.mem_range'_1.2 (by omega)
          rw [hL] at hm
          rcases List.mem_append.1 hm with h | h
          · exact h
          · exfalso
            have hs := (part_all hG).asc
            rw [hL] at hs
            have h2 := List.pairwise_cons.1 (List.pairwise_append.1 hs).2.1
            rcases List.mem_cons.1 h with h | h
            · omega
            · have := h2.1 d h; omega
        have h3 := hpre d hdp
        simp only [if_pos hdl] at h3
        simp only [if_pos hdj]
        rw [h3, hHg d hdj])
      simpa only [if_pos hej] using this)
  apply List.map_congr_left
  intro d hd
  have hd' : d < es.length := by simpa using hd
  have := heq d (List.mem_range'_1.2 (by omega))
  rw [this, if_pos hd', hH]
end Go.Proofs.YtajnhkkiddeegaaGreat
namespace Go.Proofs.YtajnhkkiddeegaaGreat
open Go.RowKit Go.Sort
theorem l02Normal_any (N b o m c most : Nat) (es : List (Int × Int)) (w : World) (h : Eds w b o m es) (hm : m ≤ 1048576) (hG : IsG N es) (hmost : most ≤ 300) :
    Calls Tryz.prog 60 #[.agg #[.int .i64 N, .slice (some ⟨b, o, none⟩) m c], .int .i64 most] w (RetLL (tkL most ((allC es (ia [])).map (lsN m))) w) := by
  have hl : es.length = m := h.len
  have HV : Hid (tkL most ([] ++ lvs es (gN es 0) m ([] : List Int).length (ia [])) = tkL most ((allC es (ia [])).map (lsN m))) := by
    show _ = _
    rw [List.nil_append, ← hl]
    show tkL most (lvs es (gN es 0) es.length 0 (ia [])) = _
    rw [lvs_all hG]
  have hbox := Box2.made w (.int .i64 N) (.slice (some ⟨b, o, none⟩) m c) 26
  have hbb := (by go_grown : Below w.heap.size w (w.alloc (.cells #[.int .i64 N, .slice (some ⟨b, o, none⟩) m c] 26)))
  obtain ⟨w1, hw1⟩ : ∃ w1, w1 = w.alloc (Obj.cells #[Value.int IntKind.i64 N, Value.slice (some ⟨b, o, none⟩) m c] 26) := ⟨_, rfl⟩
  have sw1 : w1.heap.size = w.heap.size + 1 := by rw [hw1]; simp [go_sem]
  obtain ⟨w2, hw2⟩ : ∃ w2, w2 = (w1.alloc (.cells #[] 2)).alloc (.cells #[] 34) := ⟨_, rfl⟩
  rw [← hw1] at hbb
  have hb2 : Below w1.heap.size w1 w2 := by rw [hw2]; exact ((Below.refl _ _).alloc (Nat.le_refl _) _).alloc (by simp [go_sem]) _
  have sa : (w1.alloc (.cells #[] 2)).heap.size = w.heap.size + 1 + 1 := by simp [go_sem, sw1]
  have O : OwnLL w1.heap.size w2.heap.size w2 (some ⟨w.heap.size + 1 + 1, 0, none⟩) 0 0 [] := by
    have := OwnLL.empty (base := w1.heap.size) (w1.alloc (.cells #[] 2)) (by rw [sa, sw1]; omega)
    rw [sa] at this
    rw [hw2]
    have hs2 : ((w1.alloc (.cells #[] 2)).alloc (.cells #[] 34)).heap.size = w.heap.size + 1 + 1 + 1 := by simp [go_sem, sw1]
    rw [hs2]; exact this
  have z2 : w2.heap.size = w.heap.size + 1 + 1 + 1 := by rw [hw2]; simp [go_sem, sw1]
  have hB := hbb.andB hb2
  have HL := Lib.hid (l02List_any N b o m c es most w1.heap.size hm hG hmost (m + 1) [] (some ⟨w.heap.size + 1, 0, none⟩) 0 [] (some ⟨w.heap.size + 1 + 1, 0, none⟩) 0 w2 (by simp) (by simp) (h.below hB) (fun h0 => absurd h0 (by simp)) ⟨_, O⟩ (by simp) (by omega) (fun g hg => by
    simp only [blkOf, Option.map_some, Option.some.injEq] at hg
    have := h.blk
    exact ⟨by omega, fun hh => by simp only [blkOf, Option.map_some, Option.some.injEq] at hh; omega⟩) (fun g hg => by simp only [blkOf, Option.map_some, Option.some.injEq] at hg; omega))
  rw [HV.out] at HL
  clear hbox O
  go_enter Tryz.func60, Tryz.ntmps60
  go_wp2_with fail
  rw [← hw1, ← hw2]
  refine HL.out.mono ?_
  rintro e w3 ⟨A2, c2, rfl, ⟨top, O3⟩, k3, n3⟩
  have ht := O3.2.1
  have hk : Below w.heap.size w w3 := hB.trans (k3.below (by omega) (fun k hk => by simp only [blkOf, Option.map_some, Option.some.injEq] at hk; omega))
  have HF : Hid (RetLL (tkL most ((allC es (ia [])).map (lsN m))) w (.returned (.slice A2 (tkL most ((allC es (ia [])).map (lsN m))).length c2)) w3) :=
    ⟨A2, c2, rfl, (O3.mono (by omega)).raise ht (Nat.le_refl _), hk⟩
  go_wp2_with fail
  go_ret
  exact HF.out
noncomputable def hcR (n : Int) (es : List (Int × Int)) : Bool := B (IsG n es) && B (allC es (ia []) ≠ [])
theorem tk0_len (es : List (Int × Int)) (m : Nat) : (decide ((((tkL 0 ((allC es (ia [])).map (lsN m))).length : Nat) : Int) > 0)) = B (allC es (ia []) ≠ []) := by
  rw [Bool.eq_iff_iff, decide_eq_true_eq, B_iff]
  unfold tkL
  cases allC es (ia []) <;> simp
set_option maxHeartbeats 400000 in
theorem spHasColouring_any (n : Int) (b o m c : Nat) (es : List (Int × Int)) (w : World) (h : Eds w b o m es) (hm : m ≤ 1048576) :
    Calls Tryz.prog 18 #[.agg #[.int .i64 n, .slice (some ⟨b, o, none⟩) m c]] w (Ret (.tuple #[.bool (hcR n es), .int .i64 (imC n es)]) w) := by
  have hbox := Box2.made w (.int .i64 n) (.slice (some ⟨b, o, none⟩) m c) 26
  have hbb := (by go_grown : Below w.heap.size w (w.alloc (.cells #[.int .i64 n, .slice (some ⟨b, o, none⟩) m c] 26)))
  have HSP := Lib.hid (l01Is_any n b o m c es _ (h.alloc (.cells #[.int .i64 n, .slice (some ⟨b, o, none⟩) m c] 26)) hm)
  by_cases hG : IsG n es
  · have HC : Hid (imC n es = 0) := by simp [Hid, imC, B_true hG]
    have HR : Hid (hcR n es = B (allC es (ia []) ≠ [])) := by simp [Hid, hcR, B_true hG]
    rw [B_true hG] at HSP
    have hn2 := hG.wf.1
    obtain ⟨N, rfl⟩ : ∃ N : Nat, n = N := ⟨n.toNat, by omega⟩
    have HLN := Lib.hid (fun W hE => l02Normal_any N b o m c 0 es W hE hm hG (by omega))
    obtain ⟨ll, hll⟩ : ∃ ll, ll = tkL 0 ((allC es (ia [])).map (lsN m)) := ⟨_, rfl⟩
    have HT : Hid (decide (((ll.length : Nat) : Int) > 0) = B (allC es (ia []) ≠ [])) := by rw [hll]; exact tk0_len es m
    rw [← hll] at HLN
    clear hG hll
    go_enter Tryz.func18, Tryz.ntmps18
    go_wp2_with fail
    refine HSP.out.mono ?_
    rintro e w1 ⟨rfl, hb1⟩
    have hB1 := hbb.thenB (by simp) hb1
    obtain ⟨s1, p1, q1⟩ := hbox.below hb1
    clear hb1 hbb hbox
    have c00 : ((0 : Nat) : Int) = 0 := rfl
    rw [c00] at HLN
    go_wp2_with fail
    refine (HLN.out _ (h.below hB1)).mono ?_
    rintro e w2 ⟨A2, c2, rfl, O2, hb2⟩
    go_wp2_with fail
    go_ret2
    refine ⟨retBC ?_ HC.out.symm, hB1.andB hb2⟩
    rw [HR.out, ← HT.out]
    simp
  · have HC : Hid (imC n es = 1) := by simp [Hid, imC, B_false hG]
    have HR : Hid (hcR n es = false) := by simp [Hid, hcR, B_false hG]
    rw [B_false hG] at HSP
    clear hG hbox
    go_enter Tryz.func18, Tryz.ntmps18
    go_wp2_with fail
    refine HSP.out.mono ?_
    rintro e w1 ⟨rfl, hb1⟩
    have hB1 := hbb.thenB (by simp) hb1
    clear hb1 hbb
    go_wp2_with fail
    go_ret2
    exact ⟨retBC HR.out.symm HC.out.symm, hB1⟩
theorem first_iff {N : Nat} {es : List (Int × Int)} (hG : IsG N es) : (∀ j, j < (sdTo es noSk N N).length → foB es (fun j => inTo es (ra (sdTo es noSk N N) j) es.length) j = true) ↔ allC es (ia []) ≠ [] := by
  have := (first_all hG (ia [])).1
  rw [← this]
  have hl : (sdTo es noSk N N).length = (LV es N).length := by rw [sd_LV]; simp
  rw [hl]
  rfl
theorem first_val {N : Nat} {es : List (Int × Int)} (hG : IsG N es) {g : Nat → Int} {T : List (Nat → Int)} (h : allC es (ia []) = g :: T) : lsN es.length (foF es (fun j => inTo es (ra (sdTo es noSk N N) j) es.length) (sdTo es noSk N N).length) = lsN es.length g := by
  have := (first_all hG (ia [])).2 g T h
  have hl : (sdTo es noSk N N).length = (LV es N).length := by rw [sd_LV]; simp
  rw [hl]
  exact this.symm
/-- first, in the reference's words. -/
def RetF (es : List (Int × Int)) (m : Nat) (w : World) (e : Ending) (w' : World) : Prop :=
  match allC es (ia []) with
  | [] => e = .returned (.slice none 0 0) ∧ Below w.heap.size w w'
  | g :: _ => ∃ A c, e = .returned (.slice A (lsN m g).length c) ∧ A ≠ none ∧ OwnL w.heap.size w' A (lsN m g).length c (lsN m g) ∧ Below w.heap.size w w'
theorem row_own {w w' : World} {g m : Nat} {f : Nat → Int} (R : w'.rowIs g 2 m (fun d => .int .i64 (f d))) (hg : w.heap.size ≤ g) (hm : m ≤ 1048576) : OwnL w.heap.size w' (some ⟨g, 0, none⟩) m m (lsN m f) := by
  obtain ⟨c, hc, hs, hv⟩ := R
  refine ⟨lsN_len m f, by simp [nums, lsN], .inr ⟨g, m, c, rfl, hg, hc, Nat.le_refl _, by unfold maxLen; omega, by omega, ?_⟩⟩
  apply List.ext_getElem?
  intro j
  by_cases hj : j < m
  · rw [List.getElem?_take, if_pos (by omega)]
    rw [Array.getElem?_toList, hv j hj, nums_at _ j (by rw [lsN_len]; exact hj)]
    simp [ia, lsN, hj]
  · rw [List.getElem?_eq_none (by simp; omega), List.getElem?_eq_none (by simp [nums, lsN]; omega)]
theorem first_F (N b o m c : Nat) (es : List (Int × Int)) (w : World) (h : Eds w b o m es) (hm : m ≤ 1048576) (hG : IsG N es) :
    Calls Tryz.prog 53 #[.agg #[.int .i64 N, .slice (some ⟨b, o, none⟩) m c]] w (RetF es m w) := by
  have hl : es.length = m := h.len
  subst hl
  refine (first_any N b o es.length c es w h hm hG).mono ?_
  intro e w' hr
  unfold RetF
  have hi := first_iff hG
  cases hA : allC es (ia []) with
  | nil =>
    rw [hA] at hi
    rcases hr with ⟨hq, _⟩ | ⟨_, he, hb⟩
    · exact absurd rfl (hi.1 hq)
    · exact ⟨he, hb⟩
  | cons g T =>
    rw [hA] at hi
    rcases hr with ⟨_, g', he, hg, R, hb⟩ | ⟨hq, _⟩
    · have hv := first_val hG hA
      have O := row_own (w := w) R hg hm
      rw [hv] at O
      have hll := lsN_len es.length g
      exact ⟨some ⟨g', 0, none⟩, es.length, by rw [hll]; exact he, by simp, by rw [hll]; exact O, hb⟩
    · exact absurd (hi.2 (by simp)) hq
set_option maxHeartbeats 400000 in
theorem imHasColouring_any (n : Int) (b o m c : Nat) (es : List (Int × Int)) (w : World) (h : Eds w b o m es) (hm : m ≤ 1048576) :
    Calls Tryz.prog 17 #[.agg #[.int .i64 n, .slice (some ⟨b, o, none⟩) m c]] w (Ret (.tuple #[.bool (hcR n es), .int .i64 (imC n es)]) w) := by
  have hbox := Box2.made w (.int .i64 n) (.slice (some ⟨b, o, none⟩) m c) 26
  have hbb := (by go_grown : Below w.heap.size w (w.alloc (.cells #[.int .i64 n, .slice (some ⟨b, o, none⟩) m c] 26)))
  have HGC := Lib.hid (graphCode_any n b o m c es true _ (h.alloc (.cells #[.int .i64 n, .slice (some ⟨b, o, none⟩) m c] 26)) hm)
  by_cases hG : IsG n es
  · have HC : Hid (imC n es = 0) := by simp [Hid, imC, B_true hG]
    have HR : Hid (hcR n es = B (allC es (ia []) ≠ [])) := by simp [Hid, hcR, B_true hG]
    rw [show gcC n es true = 0 by simp [gcC, B_true hG]] at HGC
    have hn2 := hG.wf.1
    obtain ⟨N, rfl⟩ : ∃ N : Nat, n = N := ⟨n.toNat, by omega⟩
    have HF := Lib.hid (fun W hE => first_F N b o m c es W hE hm hG)
    clear hG
    go_enter Tryz.func17, Tryz.ntmps17
    go_wp2_with fail
    refine HGC.out.mono ?_
    rintro e w1 ⟨rfl, hb1⟩
    have hB1 := hbb.thenB (by simp) hb1
    obtain ⟨s1, p1, q1⟩ := hbox.below hb1
    clear hb1 hbb hbox
    go_wp2_with fail
    refine (HF.out _ (h.below hB1)).mono ?_
    intro e w2 hr
    unfold RetF at hr
    cases hA : allC es (ia []) with
    | nil =>
      rw [hA] at hr
      obtain ⟨rfl, hb2⟩ := hr
      have HV : Hid (hcR N es = false) := by show _ = _; rw [HR.out, hA]; exact B_false (by simp)
      clear hA
      go_wp2_with fail
      go_ret2
      exact ⟨retBC HV.out.symm HC.out.symm, hB1.andB hb2⟩
    | cons g T =>
      rw [hA] at hr
      obtain ⟨A2, c2, rfl, hne, O2, hb2⟩ := hr
      have HV : Hid (hcR N es = true) := by show _ = _; rw [HR.out, hA]; exact B_true (by simp)
      obtain ⟨a2, rfl⟩ : ∃ a, A2 = some a := Option.ne_none_iff_exists'.1 hne
      clear hA hne O2
      go_wp2_with fail
      go_ret2
      exact ⟨retBC HV.out.symm HC.out.symm, hB1.andB hb2⟩
  · have HC : Hid (imC n es = 1) := by simp [Hid, imC, B_false hG]
    have HR : Hid (hcR n es = false) := by simp [Hid, hcR, B_false hG]
    rw [show gcC n es true = 1 by simp [gcC, B_false hG]] at HGC
    clear hG hbox
    go_enter Tryz.func17, Tryz.ntmps17
    go_wp2_with fail
    refine HGC.out.mono ?_
    rintro e w1 ⟨rfl, hb1⟩
    have hB1 := hbb.thenB (by simp) hb1
    clear hb1 hbb
    go_wp2_with fail
    go_ret2
    exact ⟨retBC HR.out.symm HC.out.symm, hB1⟩
end Go.Proofs.YtajnhkkiddeegaaGreat
namespace Go.Proofs.YtajnhkkiddeegaaGreat
open Go.RowKit Go.Sort
def paN (p : Nat) : Int := if p = 2 then 1 else 0
def pbN (p : Nat) : Int := if p = 0 then 1 else 2
def PairC (w : World) (g : Nat) : Prop := ∀ p, p < 3 → w.cell? ⟨g, p * 2, none⟩ = some (.int .i64 (paN p)) ∧ w.cell? ⟨g, p * 2 + 1, none⟩ = some (.int .i64 (pbN p))
theorem PairC.made (w : World) (t : TypeId) : PairC (w.alloc (.cells #[.int .i64 0, .int .i64 1, .int .i64 0, .int .i64 2, .int .i64 1, .int .i64 2] t)) w.heap.size := fun p hp => by
  rcases (show p = 0 ∨ p = 1 ∨ p = 2 by omega) with rfl | rfl | rfl
  all_goals (constructor <;> (rw [cell_of_row _ w.heap.size _ _ _ _ (heap_alloc_new w _)]; rfl))
theorem PairC.below {w w' : World} {g : Nat} (h : PairC w g) (hg : g < w.heap.size) (hb : Below w.heap.size w w') : PairC w' g := fun p hp =>
  ⟨(hb.cell (p := ⟨g, p * 2, none⟩) hg).trans (h p hp).1, (hb.cell (p := ⟨g, p * 2 + 1, none⟩) hg).trans (h p hp).2⟩
end Go.Proofs.YtajnhkkiddeegaaGreat
namespace Go.Proofs.YtajnhkkiddeegaaGreat
open Go.RowKit Go.Sort
end Go.Proofs.YtajnhkkiddeegaaGreat
