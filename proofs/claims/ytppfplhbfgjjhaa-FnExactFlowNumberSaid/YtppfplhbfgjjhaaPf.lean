import Derived.Test.YtppfplhbfgjjhaaM23
import Derived.Test.YtppfplhbfgjjhaaLi
import Derived.Test.YtppfplhbfgjjhaaM27
namespace Go.Proofs.Ytppfplhbfgjjhaa
open Go.RowKit Go.Sort
/-! ### first: the least colouring, part by part -/
theorem nF_onT {L : List Int} (h : ∀ k, 0 ≤ ia L k) (d : Nat) : ∀ k, nF L k d = onT L d k := by
  intro k
  induction k with
  | zero => rfl
  | succ k ih =>
    have hk := h k
    simp only [nF, onT, upF, ih]
    by_cases e : d = (ia L k).toNat
    · rw [if_pos e, if_pos (by omega)]
    · rw [if_neg e, if_neg (by omega)]
theorem atL_nn (es : List (Int × Int)) (v : Int) (k : Nat) : 0 ≤ ia (atL es v) k := by
  by_cases h : k < (atL es v).length
  · obtain ⟨f, _, e, _⟩ := atL_at h; omega
  · simp [ia, show (atL es v).length ≤ k by omega]
theorem nF_gN (es : List (Int × Int)) (v : Int) : nF (atL es v) 3 = gN es v := funext fun d => nF_onT (atL_nn es v) d 3
theorem onT_at {L : List Int} {e : Int} : ∀ {k : Nat}, onT L e k ≠ -1 → ∃ i, i < k ∧ ia L i = e ∧ onT L e k = i := by
  intro k
  induction k with
  | zero => intro h; exact absurd rfl h
  | succ k ih =>
    intro h
    simp only [onT] at h ⊢
    by_cases e1 : ia L k = e
    · rw [if_pos e1]; exact ⟨k, by omega, e1, rfl⟩
    · rw [if_neg e1] at h ⊢
      obtain ⟨i, hi, h1, h2⟩ := ih h
      exact ⟨i, by omega, h1, h2⟩
theorem gN_inj {es : List (Int × Int)} {v : Int} {d e : Nat} (h : gN es v d ≠ -1) (h2 : gN es v d = gN es v e) : d = e := by
  obtain ⟨i, _, h3, h4⟩ := onT_at h
  obtain ⟨j, _, h5, h6⟩ := onT_at (h2 ▸ h : gN es v e ≠ -1)
  have h7 : (i : Int) = j := by
    have a1 : gN es v d = i := h4
    have a2 : gN es v e = j := h6
    omega
  have : i = j := by omega
  subst this
  omega
theorem gN_rng (es : List (Int × Int)) (v : Int) (d : Nat) : -1 ≤ gN es v d ∧ gN es v d ≤ 2 := by have := onT_rng (atL es v) d 3; unfold gN; omega
theorem pF_rng (r : Bool) (es : List (Int × Int)) (d : Nat) : -1 ≤ pF r (atL es 0) d ∧ pF r (atL es 0) d ≤ 2 := by
  cases r with
  | false => simp [pF]
  | true => rw [pF, if_pos rfl, nF_gN]; exact gN_rng es 0 d
theorem atL_ne {es : List (Int × Int)} {v : Int} {i j : Nat} (hij : i < j) (hj : j < (atL es v).length) : (ia (atL es v) i).toNat ≠ (ia (atL es v) j).toNat := by
  have h1 := atTo_asc es.length i j hij hj (es := es) (v := v)
  have h2 := atL_nn es v i
  have h3 : ia (atL es v) i < ia (atL es v) j := h1
  omega
theorem pF_nocl (r : Bool) (es : List (Int × Int)) : NoCl es (pF r (atL es 0)) := by
  intro v i j hij hj h1
  cases r with
  | false => exact absurd rfl h1
  | true =>
    rw [pF, if_pos rfl, nF_gN] at h1 ⊢
    exact fun h2 => atL_ne hij hj (gN_inj h1 h2)
theorem pU8 (r : Bool) (es : List (Int × Int)) (v : Nat) : pU r es (atL es 0) v < 8 := by
  cases r with
  | false => simp [pU]
  | true => rw [pU, if_pos rfl]; exact nU8 es _ 3 (Nat.le_refl _) v
/-- The colourings of a part, as the painter finds them. -/
def impT (es : List (Int × Int)) (L : List Nat) (r : Bool) : List (Nat → Int) := colF es L (pF r (atL es 0)) (pU r es (atL es 0))
/-- Laid over. -/
def ovr (L : List Nat) (f s : Nat → Int) (k : Nat) : Nat → Int := fun d => if d ∈ L.take k then f d else s d
theorem ovr_step {L : List Nat} {f s : Nat → Int} {k : Nat} (h : k < L.length) (d : Nat) : ovr L f s (k + 1) d = if d = L.getD k 0 then f (L.getD k 0) else ovr L f s k d := by
  simp only [ovr]
  rw [List.take_succ_eq_append_getElem h]
  have : L.getD k 0 = L[k] := by simp [h]
  rw [this]
  by_cases e : d = L[k]
  · subst e
    rw [if_pos rfl, if_pos (by simp only [List.mem_append, List.mem_singleton, or_true])]
  · have hm : (d ∈ L.take k ++ [L[k]]) ↔ d ∈ L.take k := by
      simp only [List.mem_append, List.mem_singleton]
      exact ⟨fun h => h.resolve_right e, .inl⟩
    simp only [hm, if_neg e]
structure St1 (be bo go m : Nat) (A : Option Addr) (cA : Nat) (L : List Nat) (s : Nat → Int) (w : World) : Prop where
  ce : w.cell? ⟨be, 0, none⟩ = some (.slice A L.length cA)
  co : w.cell? ⟨bo, 0, none⟩ = some (.slice (some ⟨go, 0, none⟩) m m)
  le : be < w.heap.size
  lo : bo < w.heap.size
  I : SrcI w A L.length (fun j => ((L.getD j 0 : Nat) : Int))
  row : w.rowIs go 2 m (fun d => .int .i64 (s d))
  n1 : be ≠ go
  n2 : bo ≠ go
  n3 : ∀ g, blkOf A = some g → g ≠ go
theorem St1.kept {be bo go m : Nat} {A : Option Addr} {cA : Nat} {L : List Nat} {s : Nat → Int} {w w' : World} {T : Nat → Prop} (h : St1 be bo go m A cA L s w) (k : Kept T w w') (t1 : ¬ T be) (t2 : ¬ T bo) (t3 : ¬ T go) (t4 : ∀ g, blkOf A = some g → ¬ T g) : St1 be bo go m A cA L s w' :=
  ⟨(k.cell h.le t1 0).trans h.ce, (k.cell h.lo t2 0).trans h.co, k.lt h.le, k.lt h.lo, k.srcI h.I t4, k.row h.row t3, h.n1, h.n2, h.n3⟩
set_option maxRecDepth 100000 in
set_option maxHeartbeats 2000000 in
theorem first1_any {be bo go bc m cc : Nat} {A : Option Addr} {cA : Nat} {L : List Nat} (s f : Nat → Int) (w : World) (st : St1 be bo go m A cA L s w) (hL : ∀ d, d ∈ L → d < m) (hLl : L.length ≤ 1048576) (rc : w.rowIs bc 2 m (fun j => .int .i64 (f j))) (hne : bc ≠ go) :
    Calls Try.prog 111 #[.slice (some ⟨bc, 0, none⟩) m cc, .pointer (some ⟨be, 0, none⟩), .pointer (some ⟨bo, 0, none⟩)] w (fun e w' => e = .returned (.bool true) ∧ w'.rowIs go 2 m (fun d => .int .i64 (ovr L f s L.length d)) ∧ Kept (fun k => k = go) w w') := by
  have HL := Lib.hid hL
  have ce := st.ce
  have le := st.le
  go_enter Try.func111, Try.ntmps111
  go_wp2_with fail
  clear ce
  go_loopw [9] (fun kv wv => ∃ k : Nat, k ≤ L.length ∧ kv = .int .i64 k ∧ wv.rowIs go 2 m (fun d => .int .i64 (ovr L f s k d)) ∧ Kept (fun k => k = go) w wv) (fun k _ => L.length - (intOf k).toNat)
  case atStart => exact ⟨0, Nat.zero_le _, rfl, st.row.congr (fun d _ => by simp [ovr]), Kept.refl _ _⟩
  case round =>
    obtain ⟨k, hk, rfl, R, K⟩ := hrel
    by_cases hlt : k < L.length
    · have st2 := st
      obtain ⟨g, og, rfl, I⟩ := K.srcI st.I st.n3 (by omega)
      have i1 := I.c k hlt
      have HOV := Lib.hid (ovr_step (f := f) (s := s) hlt)
      obtain ⟨d, hd⟩ : ∃ d, d = L.getD k 0 := ⟨_, rfl⟩
      have hdm : d < m := by rw [hd]; exact HL.out _ (gd_mem hlt)
      rw [← hd] at i1 HOV
      clear hd
      have co := (K.cell st2.lo st2.n2 0).trans st2.co
      have R2 := K.row rc hne
      have r1 := R.cell hdm
      have f1 := R.frozen d
      have r2 := R2.cell hdm
      have zg := I.blk
      have RN := Lib.hid ((R.set d (.int .i64 (f d))).congr (g := fun j => .int .i64 (ovr L f s (k + 1) j)) (fun j _ => by rw [HOV.out]; by_cases e : j = d <;> simp [e]))
      have KN := Lib.hid (K.setCell (a := ⟨go, d, none⟩) rfl (.int .i64 (f d)))
      clear R R2 K HOV
      go_wp2_with fail
      go_still_tail 7, (by kernel_rfl)
      change wpList _ _ _ _ _ wr.drew
      go_wp2_with fail
      go_roundw
      case rel => exact ⟨k + 1, by omega, by go_num, RN.out.drew, KN.out.drew⟩
      case measure => simp [intOf]; omega
    · obtain rfl : k = L.length := by omega
      go_wp2_with fail
      go_ret
      exact ⟨rfl, R, K⟩
theorem painted_any {σ : Type} (St : σ → World → Prop) (S : σ → Nat → Prop) (fnd : σ → (Nat → Int) → Bool × σ) (fid : FuncId) (caps : Array Value) {N m b o c : Nat} {A : Option Addr} {cA : Nat} {L : List Nat} {es : List (Int × Int)} {w0 w : World} {bp bc bu : Nat} (r : Bool)
    (po : PO w0 w bp bc bu N m (.slice (some ⟨b, o, none⟩) m c) (.slice A L.length cA) (.func (.func fid) #[] caps) (pF r (atL es 0)) (pU r es (atL es 0))) (hn : WfP N es) (hm : m ≤ 1048576) (hLl : L.length ≤ 1048576) (he : Enters fid) (E : Eds w0 b o m es) (I : SrcI w0 A L.length (fun j => ((L.getD j 0 : Nat) : Int))) (hA : ∀ g, blkOf A = some g → g < w0.heap.size) (hL : ∀ d, d ∈ L → d < m) (s : σ) (st : St s w)
    (hS0 : ∀ k, S s k → k < w0.heap.size) (hSb : ¬ S s b) (hSA : ∀ g, blkOf A = some g → ¬ S s g)
    (hSt : ∀ s w w', St s w → Kept (fun k => k = bc ∨ k = bu) w w' → St s w') (hSlt : ∀ s w, St s w → ∀ k, S s k → k < w.heap.size)
    (hfound : ∀ s f U w, PS w (S s) bp bc bu N m A cA L b o c m N es (.func (.func fid) #[] caps) → PW w (S s) bc bu N m f U w → St s w →
      Calls Try.prog fid (#[.slice (some ⟨bc, 0, none⟩) m m] ++ caps) w (fun e w' => e = .returned (.bool (fnd s f).1) ∧ PW w (S s) bc bu N m f U w' ∧ St (fnd s f).2 w' ∧ ∀ k, S (fnd s f).2 k → S s k ∨ w.heap.size ≤ k)) :
    Calls Try.prog 66 #[.pointer (some ⟨bp, 0, none⟩)] w (fun e w' => e = .returned (.bool (runF fnd s (impT es L r)).1) ∧ PW w (S s) bc bu N m (pF r (atL es 0)) (pU r es (atL es 0)) w' ∧ St (runF fnd s (impT es L r)).2 w' ∧ ∀ k, S (runF fnd s (impT es L r)).2 k → S s k ∨ w.heap.size ≤ k) := by
  have ps := po.ps E I hA hL hS0 hSb hSA
  have hAw : ∀ g, blkOf A = some g → g < w.heap.size := fun g hg => Nat.lt_of_lt_of_le (hA g hg) po.bel.size
  refine start_any ps hn hm _ _ po.pw (pF_rng r es) (pF_nocl r es) _ fun W hW => ?_
  have ps2 := ps.kept (T := S s) (Kept.of hW) (fun i hi => .inl hi) hAw
  have pw2 : PW W (S s) bc bu N m (pF r (atL es 0)) (pU r es (atL es 0)) W := (po.pw.below hW).self (w := w) (S := S s)
  have st2 : St s W := hSt s w W st (Kept.of hW)
  have hp := paint_any St S fnd fid caps hn hm hLl he hSt hSlt hfound (L.length + 1) 0 s (pF r (atL es 0)) (pU r es (atL es 0)) W (by omega) (Nat.zero_le _) ps2 pw2 st2 (pU8 r es) (fun g hg => Nat.lt_of_lt_of_le (hAw g hg) hW.size)
  refine hp.mono ?_
  rintro e w' ⟨rfl, P, s', hT⟩
  rw [List.drop_zero] at s' hT ⊢
  refine ⟨_, rfl, rfl, P.root (Kept.of hW) (fun i hi => .inl hi), s', fun k hk => ?_⟩
  rcases hT k hk with h | h
  · exact .inl h
  · have := hW.size; right; omega
/-- For first: each part's first colouring is laid over. -/
def fnd1 (L : List Nat) (s f : Nat → Int) : Bool × (Nat → Int) := (true, ovr L f s L.length)
theorem runF1 (L : List Nat) (s : Nat → Int) (T : List (Nat → Int)) : runF (fnd1 L) s T = match T with | [] => (false, s) | g :: _ => (true, ovr L g s L.length) := by
  cases T with
  | nil => rfl
  | cons g T => simp [runF, fnd1]
theorem enF1 : Enters 111 := fun args w => by kernel_rfl
theorem painted1 {N m b o c : Nat} {A : Option Addr} {cA : Nat} {L : List Nat} {es : List (Int × Int)} {w0 w : World} {bp bc bu be bo go : Nat} (r : Bool)
    (po : PO w0 w bp bc bu N m (.slice (some ⟨b, o, none⟩) m c) (.slice A L.length cA) (.func (.func 111) #[] #[.pointer (some ⟨be, 0, none⟩), .pointer (some ⟨bo, 0, none⟩)]) (pF r (atL es 0)) (pU r es (atL es 0))) (hn : WfP N es) (hm : m ≤ 1048576) (hLl : L.length ≤ 1048576) (E : Eds w0 b o m es) (hA : ∀ g, blkOf A = some g → g < w0.heap.size) (hL : ∀ d, d ∈ L → d < m) (s : Nat → Int) (st : St1 be bo go m A cA L s w0) (hb : b ≠ go) :
    Calls Try.prog 66 #[.pointer (some ⟨bp, 0, none⟩)] w (fun e w' => e = .returned (.bool (runF (fnd1 L) s (impT es L r)).1) ∧ w'.rowIs go 2 m (fun d => .int .i64 ((runF (fnd1 L) s (impT es L r)).2 d)) ∧ Kept (fun k => k = go) w0 w') := by
  have hgo := st.row.lt
  have nbe := st.le
  have nbo := st.lo
  have hpc := po.hc
  have hpu := po.hu
  have hkk : ∀ s w w', St1 be bo go m A cA L s w → Kept (fun k => k = bc ∨ k = bu) w w' → St1 be bo go m A cA L s w' := fun s w w' h k =>
    h.kept k (by omega) (by omega) (by omega) (fun g hg => by have := hA g hg; omega)
  have st' : St1 be bo go m A cA L s w := st.kept (Kept.of (S := fun _ => False) po.bel) id id id (fun _ _ => id)
  have h := painted_any (St1 be bo go m A cA L) (fun _ k => k = go) (fnd1 L) 111 #[.pointer (some ⟨be, 0, none⟩), .pointer (some ⟨bo, 0, none⟩)] r po hn hm hLl enF1 E st.I hA hL s st'
    (fun k hk => by omega) (fun e => hb e) (fun g hg e => st.n3 g hg e) hkk (fun s w h k hk => by subst hk; exact h.row.lt)
    (fun s f U w ps pw st2 => by
      have := first1_any (bc := bc) (cc := m) s f w st2 hL hLl pw.rc (by omega)
      refine this.mono ?_
      rintro e w' ⟨rfl, R, K⟩
      have hT : ∀ k, k = go → Mut (fun k => k = go) bc bu k := fun k hk => .inr (.inr hk)
      exact ⟨rfl, ⟨K.wide hT, K.row pw.rc (by omega), K.row pw.ru (by omega)⟩, ⟨(K.cell st2.le st2.n1 0).trans st2.ce, (K.cell st2.lo st2.n2 0).trans st2.co, K.lt st2.le, K.lt st2.lo, K.srcI st2.I st2.n3, R, st2.n1, st2.n2, st2.n3⟩, fun k hk => .inl hk⟩)
  refine h.mono ?_
  rintro e w' ⟨rfl, P, st3, _⟩
  refine ⟨rfl, st3.row, (Kept.of po.bel).trans' P.k (fun i hi => ?_)⟩
  rcases hi with h1 | h1 | h1
  · right; omega
  · right; omega
  · exact .inl h1
/-- What first has laid over after so many parts, and whether it goes on. -/
def foF (es : List (Int × Int)) (Ls : Nat → List Nat) : Nat → Nat → Int
  | 0 => fun _ => 0
  | j + 1 => (runF (fnd1 (Ls j)) (foF es Ls j) (impT es (Ls j) (j == 0))).2
def foB (es : List (Int × Int)) (Ls : Nat → List Nat) (j : Nat) : Bool := (runF (fnd1 (Ls j)) (foF es Ls j) (impT es (Ls j) (j == 0))).1
/-- A list of the call's own, or nil where there is none. -/
def RetO (m : Nat) (q : Prop) (f : Nat → Int) (w : World) (e : Ending) (w' : World) : Prop :=
  (q ∧ ∃ g, e = .returned (.slice (some ⟨g, 0, none⟩) m m) ∧ w.heap.size ≤ g ∧ w'.rowIs g 2 m (fun d => .int .i64 (f d)) ∧ Below w.heap.size w w') ∨ (¬ q ∧ e = .returned (.slice none 0 0) ∧ Below w.heap.size w w')
set_option maxRecDepth 100000 in
set_option maxHeartbeats 2000000 in
theorem first_any (N b o m c : Nat) (es : List (Int × Int)) (w : World) (h : Eds w b o m es) (hm : m ≤ 1048576) (hG : IsG N es) :
    Calls Try.prog 58 #[.agg #[.int .i64 N, .slice (some ⟨b, o, none⟩) m c]] w (RetO m (∀ j, j < (sdTo es noSk N N).length → foB es (fun j => inTo es (ra (sdTo es noSk N N) j) m) j = true) (foF es (fun j => inTo es (ra (sdTo es noSk N N) j) m) (sdTo es noSk N N).length) w) := by
  have hbox := Box2.made w (.int .i64 N) (.slice (some ⟨b, o, none⟩) m c) 30
  have hbb := (by go_grown : Below w.heap.size w (w.alloc (.cells #[.int .i64 N, .slice (some ⟨b, o, none⟩) m c] 30)))
  have hl := Lib.hid h.len
  have HG := Lib.hid hG
  have hn2 := hG.wf.1
  have hn20 := hG.wf.2.1
  have hm30 : m ≤ 30 := by have := hG.wf.2.2.2.1; have := hl.out; omega
  have hmk := run_make_row' (P := Try.prog) 36 2 (.int .i64 0) 8 Try.underlying36 inf2 rfl .i64 .i64 m (by omega) (by omega)
  obtain ⟨rows, hrw⟩ : ∃ rows, rows = sdTo es noSk N N := ⟨_, rfl⟩
  have hlr20 : rows.length ≤ 20 := by rw [hrw, sdTo_len]; have := ldCnt_le es noSk N; omega
  have HPE := Lib.hid (fun W hE => partEdges_any N b o m c es W hE hm hG.wf)
  rw [Int.toNat_natCast, ← hrw] at HPE
  rw [← hrw]
  obtain ⟨Ls, hLs⟩ : ∃ Ls : Nat → List Nat, Ls = fun j => inTo es (ra rows j) m := ⟨_, rfl⟩
  rw [← hLs]
  have HLS := Lib.hid (fun j => congrFun hLs j)
  have HPA := Lib.hid (peR_at es rows m rows.length)
  have HPL := Lib.hid (peR_len es rows m rows.length)
  obtain ⟨w1, hw1⟩ : ∃ w1, w1 = w.alloc (Obj.cells #[Value.int IntKind.i64 N, Value.slice (some ⟨b, o, none⟩) m c] 30) := ⟨_, rfl⟩
  rw [← hw1] at hbb hbox
  clear hG hrw hLs
  obtain ⟨s1, p1, q1⟩ := hbox
  go_enter Try.func58, Try.ntmps58
  go_wp2_with fail
  rw [← hw1]
  go_wp2_with fail
  have sw1 : w1.heap.size = w.heap.size + 1 := by rw [hw1]; simp [go_sem]
  obtain ⟨w2, hw2⟩ : ∃ w2, w2 = (w1.alloc (.cells (madeCells #[.int .i64 0] m) 2)).alloc (.cells #[.slice (some ⟨w.heap.size + 1, 0, none⟩) m m] 36) := ⟨_, rfl⟩
  have R0 : w2.rowIs (w.heap.size + 1) 2 m (fun _ => .int .i64 0) := by
    rw [hw2, ← sw1]; exact (World.rowIs_made w1 (.int .i64 0) m 2).alloc _
  have co : w2.cell? ⟨w.heap.size + 1 + 1, 0, none⟩ = some (.slice (some ⟨w.heap.size + 1, 0, none⟩) m m) := by
    have hs : (w1.alloc (.cells (madeCells #[.int .i64 0] m) 2)).heap.size = w.heap.size + 1 + 1 := by simp [go_sem, sw1]
    rw [hw2, ← hs]; simp [go_sem]
  have hb2 : Below w1.heap.size w1 w2 := by rw [hw2]; exact ((Below.refl _ _).alloc (Nat.le_refl _) _).alloc (by simp [go_sem]) _
  have zo : w.heap.size + 1 + 1 < w2.heap.size := by rw [hw2]; simp [go_sem]; omega
  rw [← hw2]
  clear hw2 hmk hw1
  have hB2 := hbb.andB hb2
  refine (HPE.out w2 (h.below hB2)).mono ?_
  rintro e w3 ⟨A, c3, rfl, O, hb3⟩
  rw [HPL.out] at O ⊢
  have hB3 := hB2.andB hb3
  have R3 := R0.of_block (hb3.block _ R0.lt)
  have co3 := (hb3.cell (p := ⟨w.heap.size + 1 + 1, 0, none⟩) zo).trans co
  have p3 := ((hb2.andB hb3).cell (p := ⟨w.heap.size, 0, none⟩) s1).trans p1
  have q3 := ((hb2.andB hb3).cell (p := ⟨w.heap.size, 1, none⟩) s1).trans q1
  have z3 : w.heap.size + 1 + 1 < w3.heap.size := Nat.lt_of_lt_of_le zo hb3.size
  have E3 := h.below hB3
  have hbw := h.blk
  have HO2 := hb2.size
  have zo2 := zo
  clear R0 co hb2 hb3 p1 q1 hB2 zo
  go_wp2_with fail
  go_loopw [14] (fun kv wv => ∃ j : Nat, j ≤ rows.length ∧ kv = .int .i64 j ∧ Hid (∀ i, i < j → foB es Ls i = true) ∧ wv.rowIs (w.heap.size + 1) 2 m (fun d => .int .i64 (foF es Ls j d)) ∧ Kept (fun k => k = w.heap.size + 1) w3 wv) (fun j _ => rows.length - (intOf j).toNat)
  case atStart => exact ⟨0, Nat.zero_le _, rfl, fun i hi => absurd hi (by omega), R3, Kept.refl _ _⟩
  case round =>
    obtain ⟨j, hj, rfl, HB, R, K⟩ := hrel
    have n1 : ¬ (w.heap.size = w.heap.size + 1) := by omega
    have n2 : ¬ (w.heap.size + 1 + 1 = w.heap.size + 1) := by omega
    by_cases hlt : j < rows.length
    · obtain ⟨g, Aj, cj, rfl, hg, hg', rc, OJ⟩ := O.at hlt
      rw [HPA.out j hlt, ← HLS.out j, natL_len] at rc OJ
      obtain ⟨L, hL⟩ : ∃ L, L = Ls j := ⟨_, rfl⟩
      rw [← hL] at rc OJ
      have hLm : Hid (∀ d, d ∈ L → d < m) := fun d hd => by
        rw [hL, HLS.out j] at hd
        exact (mem_inTo.1 hd).1
      have hLl : L.length ≤ m := by rw [hL, HLS.out j]; exact inTo_len _ _ _
      have HFO : Hid (foF es Ls (j + 1) = (runF (fnd1 L) (foF es Ls j) (impT es L (j == 0))).2 ∧ foB es Ls j = (runF (fnd1 L) (foF es Ls j) (impT es L (j == 0))).1) := by rw [hL]; exact ⟨rfl, rfl⟩
      have ng : ¬ (g = w.heap.size + 1) := by omega
      have rcW := (K.cell hg' ng j).trans rc
      have zgW := K.lt hg'
      have p4 := (K.cell (by omega : w.heap.size < w3.heap.size) n1 0).trans p3
      have q4 := (K.cell (by omega : w.heap.size < w3.heap.size) n1 1).trans q3
      have zb := K.lt (by omega : w.heap.size < w3.heap.size)
      have EW := K.eds E3 (by omega)
      have OW := K.ownL OJ (fun g' hg2 => by have := (OJ.blk g' hg2).1; omega)
      obtain ⟨we, hwe⟩ : ∃ we, we = wr.alloc (.cells #[.slice Aj L.length cj] 36) := ⟨_, rfl⟩
      have hbe : Below wr.heap.size wr we := by rw [hwe]; exact (Below.refl _ _).alloc (Nat.le_refl _) _
      have ce : we.cell? ⟨wr.heap.size, 0, none⟩ = some (.slice Aj L.length cj) := by rw [hwe]; simp
      have ze : wr.heap.size < we.heap.size := by rw [hwe]; simp
      have hszk := K.size
      have Ke := K.thenB hbe
      have OE := OW.below hbe
      have IE : SrcI we Aj L.length (fun i => ((L.getD i 0 : Nat) : Int)) := fun h0 => by
        obtain ⟨g', o', e', I'⟩ := OE.src h0
        exact ⟨g', o', e', ⟨I'.blk, fun i hi => by rw [I'.c i hi, natL_at]⟩⟩
      have st : St1 wr.heap.size (w.heap.size + 1 + 1) (w.heap.size + 1) m Aj cj L (foF es Ls j) we :=
        ⟨ce, (Ke.cell z3 n2 0).trans co3, ze, Ke.lt z3, IE, R.of_block (hbe.block _ R.lt), by have := R.lt; omega, n2, fun g' hg2 => by have := (OJ.blk g' hg2).1; omega⟩
      have EE := EW.below hbe
      have HAE : Hid (∀ g', blkOf Aj = some g' → g' < we.heap.size) := fun g' hg2 => (OE.blk g' hg2).2
      have HPO := Lib.hid (painterOf_any N b o m c es Aj cj L (j == 0) 111 #[.pointer (some ⟨wr.heap.size, 0, none⟩), .pointer (some ⟨w.heap.size + 1 + 1, 0, none⟩)] we EE hm HG.out IE HAE.out hLm.out)
      have HP1 : Hid (∀ bp bc bu w5, PO we w5 bp bc bu N m (.slice (some ⟨b, o, none⟩) m c) (.slice Aj L.length cj) (.func (.func 111) #[] #[.pointer (some ⟨wr.heap.size, 0, none⟩), .pointer (some ⟨w.heap.size + 1 + 1, 0, none⟩)]) (pF (j == 0) (atL es 0)) (pU (j == 0) es (atL es 0)) →
          Calls Try.prog 66 #[.pointer (some ⟨bp, 0, none⟩)] w5 (fun e w' => e = .returned (.bool (runF (fnd1 L) (foF es Ls j) (impT es L (j == 0))).1) ∧ w'.rowIs (w.heap.size + 1) 2 m (fun d => .int .i64 ((runF (fnd1 L) (foF es Ls j) (impT es L (j == 0))).2 d)) ∧ Kept (fun k => k = w.heap.size + 1) we w')) := fun bp bc bu w5 po =>
        painted1 (j == 0) po HG.out.wf hm (by omega) EE HAE.out hLm.out (foF es Ls j) st (by omega)
      have hj0 : ((j : Int) == 0) = (j == 0) := by cases j <;> simp; omega
      obtain ⟨jb, hjb⟩ : ∃ jb, jb = (j == 0) := ⟨_, rfl⟩
      rw [← hjb] at hj0 HP1 HPO HFO
      have p5 := (hbe.cell (p := ⟨w.heap.size, 0, none⟩) zb).trans p4
      have q5 := (hbe.cell (p := ⟨w.heap.size, 1, none⟩) zb).trans q4
      clear hjb hL OJ OW OE IE st EW EE R rc
      go_wp2_with fail
      rw [← hwe]
      refine HPO.out.mono ?_
      rintro e w5 ⟨bp, bc, bu, rfl, po⟩
      have HP2 := Lib.hid (HP1.out bp bc bu w5 po)
      clear po HPO HP1
      go_wp2_with fail
      refine HP2.out.mono ?_
      rintro e w6 ⟨rfl, R6, K6⟩
      obtain ⟨rr, hrr⟩ : ∃ rr, rr = runF (fnd1 L) (foF es Ls j) (impT es L jb) := ⟨_, rfl⟩
      rw [← hrr] at HFO R6 ⊢
      have K7 := Lib.hid (Ke.trans K6)
      clear hrr HP2 Ke K6 ce p4 q4 p5 q5 K
      obtain ⟨rb, rs⟩ := rr
      cases rb with
      | true =>
        have HB2 : Hid (∀ i, i < j + 1 → foB es Ls i = true) := fun i hi => by
          by_cases e : i = j
          · rw [e]; exact HFO.out.2
          · exact HB.out i (by omega)
        go_wp2_with fail
        go_roundw
        case rel => exact ⟨j + 1, by omega, by go_num, HB2, by rw [HFO.out.1]; exact R6, K7.out⟩
        case measure => simp [intOf]; omega
      | false =>
        have hbF : Below w.heap.size w w6 := hB3.trans (K7.out.below (by have := hB3.size; omega) (fun k hk => by omega))
        have HN : Hid (¬ ∀ i, i < rows.length → foB es Ls i = true) := fun hall => by
          have := hall j hlt
          rw [HFO.out.2] at this; cases this
        go_wp2_with fail
        go_ret
        exact .inr ⟨HN.out, rfl, hbF⟩
    · obtain rfl : j = rows.length := by omega
      have hbF : Below w.heap.size w wr := hB3.trans (K.below (by have := hB3.size; omega) (fun k hk => by omega))
      have co4 := (K.cell z3 n2 0).trans co3
      go_wp2_with fail
      go_ret
      exact .inl ⟨fun i hi => HB.out i hi, w.heap.size + 1, rfl, by omega, R, hbF⟩
end Go.Proofs.Ytppfplhbfgjjhaa
