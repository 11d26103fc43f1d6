import Derived.Laws.BitsLemmas
import Derived.Test.YtajnhkkiddeegaaGreatZc32
set_option linter.unusedVariables false
set_option linter.unusedSimpArgs false
namespace Go.Proofs.YtajnhkkiddeegaaGreat
open Go.RowKit Go.Sort
def W64 (n : Nat) : Int := IntKind.i64.wrap (n : Int)
theorem wrap_i64' (a : Int) : IntKind.i64.wrap a = (a + 9223372036854775808) % 18446744073709551616 - 9223372036854775808 := IntKind.wrap_i64 a
theorem wrap_add_of (a k : Int) : IntKind.i64.wrap (a + k * 18446744073709551616) = IntKind.i64.wrap a := by
  rw [wrap_i64', wrap_i64']; omega
theorem wrap_is (a : Int) : ∃ k : Int, IntKind.i64.wrap a = a + k * 18446744073709551616 := by
  rw [wrap_i64']
  exact ⟨-((a + 9223372036854775808) / 18446744073709551616), by omega⟩
theorem W64_succ (s : Nat) : IntKind.i64.wrap (W64 s + 1) = W64 (s + 1) := by
  obtain ⟨k, hk⟩ := wrap_is (s : Int)
  unfold W64
  rw [hk, show (s : Int) + k * 18446744073709551616 + 1 = ((s + 1 : Nat) : Int) + k * 18446744073709551616 by push_cast; omega, wrap_add_of]
theorem W64_mul (a b : Nat) : IntKind.i64.wrap (W64 a * W64 b) = W64 (a * b) := by
  obtain ⟨k, hk⟩ := wrap_is (a : Int)
  obtain ⟨l, hl⟩ := wrap_is (b : Int)
  unfold W64
  rw [hk, hl, show ((a : Int) + k * 18446744073709551616) * ((b : Int) + l * 18446744073709551616) = ((a * b : Nat) : Int) + (a * l + k * b + k * l * 18446744073709551616) * 18446744073709551616 by
    rw [Int.natCast_mul]; simp only [Int.add_mul, Int.mul_add, Int.mul_assoc, Int.mul_comm, Int.mul_left_comm]; omega, wrap_add_of]
theorem W64_small {n : Nat} (h : n ≤ 9223372036854775807) : W64 n = n := IntWalk.i64_in _ (by omega)
structure St2 (bm : Nat) (s : Nat) (w : World) : Prop where
  c : w.cell? ⟨bm, 0, none⟩ = some (.int .i64 (W64 s))
  f : w.frozen? ⟨bm, 0, none⟩ = false
  l : bm < w.heap.size
theorem St2.kept {bm s : Nat} {w w' : World} {T : Nat → Prop} (h : St2 bm s w) (k : Kept T w w') (t : ¬ T bm) : St2 bm s w' := ⟨(k.cell h.l t 0).trans h.c, (k.frozen h.l t 0).trans h.f, k.lt h.l⟩
def fnd2 (s : Nat) (_ : Nat → Int) : Bool × Nat := (false, s + 1)
theorem runF2 : ∀ (T : List (Nat → Int)) (s : Nat), runF fnd2 s T = (false, s + T.length) := by
  intro T
  induction T with
  | nil => intro s; rfl
  | cons g T ih =>
    intro s
    have h1 : runF fnd2 s (g :: T) = runF fnd2 (s + 1) T := rfl
    rw [h1, ih, List.length_cons]
    congr 1; omega
theorem enF2 : Enters 111 := fun args w => by kernel_rfl
set_option maxHeartbeats 1000000 in
theorem count1_any {bm s : Nat} {w : World} (h : St2 bm s w) (v : Value) :
    Calls Tryz.prog 111 #[v, .pointer (some ⟨bm, 0, none⟩)] w (fun e w' => e = .returned (.bool false) ∧ St2 bm (s + 1) w' ∧ Kept (fun k => k = bm) w w') := by
  have c1 := h.c
  have f1 := h.f
  have l1 := h.l
  have hw := W64_succ s
  have hk : Kept (fun k => k = bm) w (w.setCell ⟨bm, 0, none⟩ (.int .i64 (W64 (s + 1)))) := Kept.setCell (S := fun k => k = bm) (Kept.refl _ _) (a := ⟨bm, 0, none⟩) rfl _
  have HS : Hid (St2 bm (s + 1) (w.setCell ⟨bm, 0, none⟩ (.int .i64 (W64 (s + 1))))) := ⟨World.cell?_setCell_same _ _ _ c1, by simpa using f1, by simpa using l1⟩
  go_enter Tryz.func111, Tryz.ntmps111
  go_wp2_with fail
  go_ret
  exact ⟨rfl, HS.out, hk⟩
theorem painted2 {N m b o c : Nat} {A : Option Addr} {cA : Nat} {L : List Nat} {es : List (Int × Int)} {w0 w : World} {bp bc bu bm : Nat} (r : Bool)
    (po : PO w0 w bp bc bu N m (.slice (some ⟨b, o, none⟩) m c) (.slice A L.length cA) (.func (.func 111) #[] #[.pointer (some ⟨bm, 0, none⟩)]) (pF r (atL es 0)) (pU r es (atL es 0))) (hn : WfP N es) (hm : m ≤ 1048576) (hLl : L.length ≤ 1048576) (E : Eds w0 b o m es) (I : SrcI w0 A L.length (fun j => ((L.getD j 0 : Nat) : Int))) (hA : ∀ g, blkOf A = some g → g < w0.heap.size) (hL : ∀ d, d ∈ L → d < m) (st : St2 bm 0 w0) (hb : b ≠ bm) (hAm : ∀ g, blkOf A = some g → g ≠ bm) :
    Calls Tryz.prog 58 #[.pointer (some ⟨bp, 0, none⟩)] w (fun e w' => e = .returned (.bool false) ∧ St2 bm (impT es L r).length w' ∧ Kept (fun k => k = bm) w0 w') := by
  have hl := st.l
  have hpc := po.hc
  have hpu := po.hu
  have st' : St2 bm 0 w := st.kept (Kept.of (S := fun _ => False) po.bel) id
  have h := painted_any (St2 bm) (fun _ k => k = bm) fnd2 111 #[.pointer (some ⟨bm, 0, none⟩)] r po hn hm hLl enF2 E I hA hL 0 st'
    (fun k hk => by omega) (fun e => hb e) (fun g hg e => hAm g hg e) (fun s w w' h k => h.kept k (by omega)) (fun s w h k hk => by subst hk; exact h.l)
    (fun s f U w ps pw st2 => by
      refine (count1_any st2 _).mono ?_
      rintro e w' ⟨rfl, st3, K⟩
      have hT : ∀ k, k = bm → Mut (fun k => k = bm) bc bu k := fun k hk => .inr (.inr hk)
      exact ⟨rfl, ⟨K.wide hT, K.row pw.rc (by omega), K.row pw.ru (by omega)⟩, st3, fun k hk => .inl hk⟩)
  refine h.mono ?_
  rw [runF2]
  rintro e w' ⟨rfl, P, st3, _⟩
  refine ⟨rfl, by simpa using st3, (Kept.of po.bel).trans' P.k (fun i hi => ?_)⟩
  rcases hi with h1 | h1 | h1
  · right; omega
  · right; omega
  · exact .inl h1
def prI (es : List (Int × Int)) (Ls : Nat → List Nat) : Nat → Nat
  | 0 => 1
  | j + 1 => prI es Ls j * (impT es (Ls j) false).length
set_option maxRecDepth 100000 in
set_option maxHeartbeats 2000000 in
theorem countCol_any (N b o m c : Nat) (es : List (Int × Int)) (w : World) (h : Eds w b o m es) (hm : m ≤ 1048576) (hG : IsG N es) :
    Calls Tryz.prog 61 #[.agg #[.int .i64 N, .slice (some ⟨b, o, none⟩) m c]] w (Ret (.int .i64 (W64 (prI es (fun j => inTo es (ra (sdTo es noSk N N) j) m) (sdTo es noSk N N).length))) w) := by
  have hbox := Box2.made w (.int .i64 N) (.slice (some ⟨b, o, none⟩) m c) 26
  have hbb := (by go_grown : Below w.heap.size w (w.alloc (.cells #[.int .i64 N, .slice (some ⟨b, o, none⟩) m c] 26)))
  have hl := Lib.hid h.len
  have HG := Lib.hid hG
  have hn2 := hG.wf.1
  have hn20 := hG.wf.2.1
  have hm30 : m ≤ 30 := by have := hG.wf.2.2.2.1; have := hl.out; omega
  obtain ⟨rows, hrw⟩ : ∃ rows, rows = sdTo es noSk N N := ⟨_, rfl⟩
  have hlr20 : rows.length ≤ 20 := by rw [hrw, sdTo_len]; have := ldCnt_le es noSk N; omega
  have HPE := Lib.hid (fun W hE => partEdges_any N b o m c es W hE hm hG.wf)
  rw [Int.toNat_natCast, ← hrw] at HPE
  rw [← hrw]
  obtain ⟨Ls, hLs⟩ : ∃ Ls : Nat → List Nat, Ls = fun j => inTo es (ra rows j) m := ⟨_, rfl⟩
  rw [← hLs]
  have HLS := Lib.hid (fun j => congrFun hLs j)
  have HPA := Lib.hid (peR_at es rows m rows.length)
  have HPL := Lib.hid (peR_len es rows m rows.length)
  obtain ⟨w1, hw1⟩ : ∃ w1, w1 = w.alloc (Obj.cells #[Value.int IntKind.i64 N, Value.slice (some ⟨b, o, none⟩) m c] 26) := ⟨_, rfl⟩
  rw [← hw1] at hbb hbox
  clear hG hrw hLs
  obtain ⟨s1, p1, q1⟩ := hbox
  have h10 : W64 1 = 1 := rfl
  go_enter Tryz.func61, Tryz.ntmps61
  go_wp2_with fail
  rw [← hw1]
  go_wp2_with fail
  clear hw1
  refine (HPE.out w1 (h.below hbb)).mono ?_
  rintro e w3 ⟨A, c3, rfl, O, hb3⟩
  rw [HPL.out] at O ⊢
  have hB3 := hbb.andB hb3
  have p3 := (hb3.cell (p := ⟨w.heap.size, 0, none⟩) s1).trans p1
  have q3 := (hb3.cell (p := ⟨w.heap.size, 1, none⟩) s1).trans q1
  have s3 := Nat.lt_of_lt_of_le s1 hb3.size
  have E3 := h.below hB3
  clear hb3 p1 q1
  go_wp2_with fail
  go_loopw [3, 10] (fun av kv wv => ∃ j : Nat, j ≤ rows.length ∧ kv = .int .i64 j ∧ av = .int .i64 (W64 (prI es Ls j)) ∧ Below w3.heap.size w3 wv) (fun _ j _ => rows.length - (intOf j).toNat)
  case atStart => exact ⟨0, Nat.zero_le _, rfl, rfl, Below.refl _ _⟩
  case round =>
    obtain ⟨j, hj, rfl, rfl, hbr⟩ := hrel
    obtain ⟨w4, rfl⟩ : ∃ w4, w4 = wr := ⟨wr, rfl⟩
    by_cases hlt : j < rows.length
    · have O4 := O.below hbr
      obtain ⟨g, Aj, cj, rfl, hg, hg', rc, OJ⟩ := O4.at hlt
      rw [HPA.out j hlt, ← HLS.out j, natL_len] at rc OJ
      obtain ⟨L, hL⟩ : ∃ L, L = Ls j := ⟨_, rfl⟩
      rw [← hL] at rc OJ
      have hLm : Hid (∀ d, d ∈ L → d < m) := fun d hd => by
        rw [hL, HLS.out j] at hd
        exact (mem_inTo.1 hd).1
      have hLl : L.length ≤ m := by rw [hL, HLS.out j]; exact inTo_len _ _ _
      obtain ⟨P, hP⟩ : ∃ P, P = prI es Ls j := ⟨_, rfl⟩
      have HPR : Hid (prI es Ls (j + 1) = P * (impT es L false).length) := by rw [hL, hP]; rfl
      rw [← hP]
      obtain ⟨we, hwe⟩ : ∃ we, we = w4.alloc (.cells #[.int .i64 0] 2) := ⟨_, rfl⟩
      have hbe : Below w4.heap.size w4 we := by rw [hwe]; exact (Below.refl _ _).alloc (Nat.le_refl _) _
      have hbe3 := hbr.andB hbe
      have st : St2 w4.heap.size 0 we := ⟨by rw [hwe]; simp [go_sem, W64]; decide, by rw [hwe]; simp [go_sem], by rw [hwe]; simp⟩
      have E4 := (E3.below hbe3)
      have OE := OJ.below hbe
      have IE : SrcI we Aj L.length (fun i => ((L.getD i 0 : Nat) : Int)) := fun h0 => by
        obtain ⟨g', o', e', I'⟩ := OE.src h0
        exact ⟨g', o', e', ⟨I'.blk, fun i hi => by rw [I'.c i hi, natL_at]⟩⟩
      have HAE : Hid (∀ g', blkOf Aj = some g' → g' < we.heap.size) := fun g' hg2 => (OE.blk g' hg2).2
      have HAB : Hid (∀ g', blkOf Aj = some g' → g' ≠ w4.heap.size) := fun g' hg2 => by have := (OJ.blk g' hg2).2; omega
      have hbne : b ≠ w4.heap.size := by have := (E3.below hbr).blk; omega
      have HPO := Lib.hid (painterOf_any N b o m c es Aj cj L false 111 #[.pointer (some ⟨w4.heap.size, 0, none⟩)] we E4 hm HG.out IE HAE.out hLm.out)
      have HP1 : Hid (∀ bp bc bu w5, PO we w5 bp bc bu N m (.slice (some ⟨b, o, none⟩) m c) (.slice Aj L.length cj) (.func (.func 111) #[] #[.pointer (some ⟨w4.heap.size, 0, none⟩)]) (pF false (atL es 0)) (pU false es (atL es 0)) →
          Calls Tryz.prog 58 #[.pointer (some ⟨bp, 0, none⟩)] w5 (fun e w' => e = .returned (.bool false) ∧ St2 w4.heap.size (impT es L false).length w' ∧ Kept (fun k => k = w4.heap.size) we w')) := fun bp bc bu w5 po =>
        painted2 false po HG.out.wf hm (by omega) E4 IE HAE.out hLm.out st hbne HAB.out
      have p4 := (hbr.cell (p := ⟨w.heap.size, 0, none⟩) s3).trans p3
      have q4 := (hbr.cell (p := ⟨w.heap.size, 1, none⟩) s3).trans q3
      have s4 := Nat.lt_of_lt_of_le s3 hbr.size
      have hz3 := hbr.size
      clear hL OJ OE IE st E4 O4 hP
      go_wp2_with fail
      rw [← hwe]
      refine HPO.out.mono ?_
      rintro e w5 ⟨bp, bc, bu, rfl, po⟩
      have HP2 := Lib.hid (HP1.out bp bc bu w5 po)
      clear po HPO HP1
      go_wp2_with fail
      refine HP2.out.mono ?_
      rintro e w6 ⟨rfl, st6, K6⟩
      obtain ⟨X, hX⟩ : ∃ X, X = (impT es L false).length := ⟨_, rfl⟩
      rw [← hX] at HPR st6
      have c6 := st6.c
      have l6 := st6.l
      have hbF : Below w3.heap.size w3 w6 := hbe3.trans (K6.below (by have := hbe3.size; omega) (fun k hk => by omega))
      have hmul := W64_mul P X
      clear hX HP2 K6 st6 p4 q4 s4 hwe hbe hbe3
      go_wp2_with fail
      go_roundw
      case rel => exact ⟨j + 1, by omega, by go_num, by rw [HPR.out], hbF⟩
      case measure => simp [intOf]; omega
    · obtain rfl : j = rows.length := by omega
      have hbF := hB3.andB hbr
      go_wp2_with fail
      go_ret
      exact ⟨rfl, hbF⟩
end Go.Proofs.YtajnhkkiddeegaaGreat
namespace Go.Proofs.YtajnhkkiddeegaaGreat
open Go.RowKit Go.Sort
theorem eStep_has (s : ES) (f : Nat) : hasB (eStep eT s f).o f = true := by
  by_cases h : hasB s.o f = false
  · rw [eStep_yes h rfl]; rw [hasB_or, if_pos rfl]
  · rw [eStep_no (fun hc => h hc.1)]; simpa using h
theorem eStep_mono {s : ES} {f : Nat} {x : Nat} (h : hasB s.o x = true) : hasB (eStep eT s f).o x = true := by
  by_cases h2 : hasB s.o f = false
  · rw [eStep_yes h2 rfl, hasB_or]; split
    · rfl
    · exact h
  · rw [eStep_no (fun hc => h2 hc.1)]; exact h
theorem eVis_mono {L : List Int} {s : ES} {x : Nat} (h : hasB s.o x = true) : ∀ k, hasB (eVis eT L s k).o x = true := by
  intro k
  induction k with
  | zero => exact h
  | succ k ih => exact eStep_mono ih
theorem eEnd_mono {es : List (Int × Int)} {v : Nat → Int} {u : Nat} {s : ES} {x : Nat} (h : hasB s.o x = true) : ∀ k, hasB (eEnd es v eT u s k).o x = true := by
  intro k
  induction k with
  | zero => exact h
  | succ k ih => exact eVis_mono ih _
theorem eBfs_mono {es : List (Int × Int)} {v : Nat → Int} {s : ES} {x i : Nat} (h : hasB (eBfs es v eT s i).o x = true) : ∀ j, i ≤ j → hasB (eBfs es v eT s j).o x = true := by
  intro j
  induction j with
  | zero => intro hj; rwa [show i = 0 by omega] at h
  | succ j ih =>
    intro hj
    by_cases e : i = j + 1
    · rwa [e] at h
    · have := ih (by omega)
      rw [eBfs]; split
      · exact eEnd_mono this 2
      · exact this
theorem eVis_has {L : List Int} {s : ES} {i : Nat} : ∀ k, i < k → hasB (eVis eT L s k).o ((ia L i).toNat : Nat) = true := by
  intro k
  induction k with
  | zero => intro h; omega
  | succ k ih =>
    intro h
    by_cases e : i = k
    · subst e; exact eStep_has _ _
    · exact eStep_mono (ih (by omega))
theorem eEnd_has {es : List (Int × Int)} {u : Nat} {s : ES} {f : Nat} (hf : f < es.length) (ha : adjP es u f) : hasB (eEnd es (vE es) eT u s 2).o f = true := by
  have key : ∀ v : Int, (ea es f = v ∨ eb es f = v) → ∀ s : ES, hasB (eVis eT (atL es v) s (atL es v).length).o f = true := fun v hv s => by
    obtain ⟨i, hi, e⟩ := memIa (atMem (v := v) hf hv)
    have := eVis_has (L := atL es v) (s := s) (i := i) (atL es v).length hi
    rw [show ia (atL es v) i = (f : Int) from e, Int.toNat_natCast] at this
    exact this
  have e0 : vE es (2 * u + 0) = ea es u := vE_0 es u
  have e1 : vE es (2 * u + 1) = eb es u := vE_1 es u
  by_cases h1 : ea es f = ea es u ∨ eb es f = ea es u
  · have h0 : hasB (eEnd es (vE es) eT u s 1).o f = true := key (vE es (2 * u + 0)) (by rw [e0]; exact h1) _
    exact eVis_mono h0 _
  · refine key (vE es (2 * u + 1)) ?_ _
    rw [e1]
    rcases ha with (h | h) | (h | h)
    · exact absurd (.inl h.symm) h1
    · exact .inl h.symm
    · exact absurd (.inr h.symm) h1
    · exact .inr h.symm
/-- What is in the queue is connected, and what is marked is in the queue or was marked. -/
structure QInv (es : List (Int × Int)) (M e : Nat) (s : ES) : Prop where
  mark : ∀ f : Nat, hasB s.o f = true ↔ hasB M f = true ∨ (f : Int) ∈ s.q
  ld : ∀ f : Nat, (f : Int) ∈ s.q → leadF es noSk (ea es f) = leadF es noSk (ea es e)
  nn : ∀ x, x ∈ s.q → 0 ≤ x ∧ x < es.length
theorem QInv.step {es : List (Int × Int)} {M e f : Nat} {s : ES} (h : QInv es M e s) (hf : f < es.length) (hl : leadF es noSk (ea es f) = leadF es noSk (ea es e)) : QInv es M e (eStep eT s f) := by
  by_cases h2 : hasB s.o f = false
  · rw [eStep_yes h2 rfl]
    refine ⟨fun x => ?_, fun x hx => ?_, fun x hx => ?_⟩
    · show hasB (s.o ||| 2 ^ f) x = true ↔ hasB M x = true ∨ (x : Int) ∈ s.q ++ [(f : Int)]
      rw [hasB_or]
      by_cases e1 : x = f
      · subst e1; simp
      · rw [if_neg e1, h.mark x, List.mem_append]
        have : ¬ ((x : Int) ∈ [(f : Int)]) := by simp; omega
        constructor
        · rintro (h1 | h1)
          · exact .inl h1
          · exact .inr (.inl h1)
        · rintro (h1 | h1 | h1)
          · exact .inl h1
          · exact .inr h1
          · exact absurd h1 this
    · rcases List.mem_append.1 hx with h1 | h1
      · exact h.ld x h1
      · have : x = f := by simp at h1; omega
        subst this; exact hl
    · rcases List.mem_append.1 hx with h1 | h1
      · exact h.nn x h1
      · have : x = f := by simpa using h1
        omega
  · rw [eStep_no (fun hc => h2 hc.1)]; exact h
theorem QInv.vis {N : Nat} {es : List (Int × Int)} (hn : WfP N es) {M e u : Nat} {s : ES} {v : Int} (hu : u < es.length) (hlu : leadF es noSk (ea es u) = leadF es noSk (ea es e)) (hv : v = ea es u ∨ v = eb es u) (h : QInv es M e s) : ∀ k, k ≤ (atL es v).length → QInv es M e (eVis eT (atL es v) s k) := by
  intro k
  induction k with
  | zero => intro _; exact h
  | succ k ih =>
    intro hk
    obtain ⟨f, hf, e1, hfv⟩ := atL_at (es := es) (u := v) (k := k) (by omega)
    simp only [eVis]
    rw [e1, Int.toNat_natCast]
    refine (ih (by omega)).step hf ?_
    rw [← hlu]
    refine (lead_adj hn hu hf ?_).symm
    unfold adjP
    rcases hv with rfl | rfl <;> rcases hfv with h1 | h1
    · exact .inl (.inl h1.symm)
    · exact .inr (.inl h1.symm)
    · exact .inl (.inr h1.symm)
    · exact .inr (.inr h1.symm)
theorem QInv.ends {N : Nat} {es : List (Int × Int)} (hn : WfP N es) {M e u : Nat} {s : ES} (hu : u < es.length) (hlu : leadF es noSk (ea es u) = leadF es noSk (ea es e)) (h : QInv es M e s) : QInv es M e (eEnd es (vE es) eT u s 2) := by
  have h1 : QInv es M e (eEnd es (vE es) eT u s 1) := h.vis hn hu hlu (.inl (vE_0 es u)) _ (Nat.le_refl _)
  exact h1.vis hn hu hlu (.inr (vE_1 es u)) _ (Nat.le_refl _)
theorem QInv.bfs {N : Nat} {es : List (Int × Int)} (hn : WfP N es) {M e : Nat} {s : ES} (h : QInv es M e s) : ∀ i, QInv es M e (eBfs es (vE es) eT s i) := by
  intro i
  induction i with
  | zero => exact h
  | succ i ih =>
    rw [eBfs]
    split
    · rename_i hlt
      have hx := ih.nn _ (iaMem hlt)
      obtain ⟨u, hu⟩ : ∃ u : Nat, ia (eBfs es (vE es) eT s i).q i = u := ⟨(ia (eBfs es (vE es) eT s i).q i).toNat, by omega⟩
      rw [hu, Int.toNat_natCast]
      exact ih.ends hn (by omega) (ih.ld u (by rw [← hu]; exact iaMem hlt))
    · exact ih
theorem eBfs_pre {es : List (Int × Int)} {v : Nat → Int} {T : Nat → Bool} {s : ES} (i : Nat) : ∀ j, i ≤ j → ∃ ys, (eBfs es v T s j).q = (eBfs es v T s i).q ++ ys := by
  intro j
  induction j with
  | zero => intro h; exact ⟨[], by rw [show i = 0 by omega]; simp⟩
  | succ j ih =>
    intro h
    by_cases e : i = j + 1
    · exact ⟨[], by rw [e]; simp⟩
    · obtain ⟨ys, hy⟩ := ih (by omega)
      rw [eBfs]
      split
      · obtain ⟨zs, hz⟩ := eEnd_q (es := es) (vE := v) (T := T) (u := (ia (eBfs es v T s j).q j).toNat) (s := eBfs es v T s j) 2
        exact ⟨ys ++ zs, by rw [hz, hy, List.append_assoc]⟩
      · exact ⟨ys, hy⟩
/-- Where the search ends, all neighbours are marked. -/
theorem fin_closed {es : List (Int × Int)} {s : ES} (hI : EInv es.length s) {u f : Nat} (hu : (u : Int) ∈ (eFin es (vE es) eT s).q) (hf : f < es.length) (ha : adjP es u f) : hasB (eFin es (vE es) eT s).o f = true := by
  obtain ⟨i, hi, e⟩ := memIa hu
  have hlen := (hI.bfs (vE := vE es) (T := eT) es.length).len
  have hil : i < es.length := Nat.lt_of_lt_of_le hi hlen
  have h1 : i < (eBfs es (vE es) eT s i).q.length := by
    refine Classical.byContradiction fun hc => ?_
    have := eBfs_done hc es.length (by omega)
    unfold eFin at hi
    rw [this] at hi
    exact hc hi
  have h2 : ia (eBfs es (vE es) eT s i).q i = u := by
    obtain ⟨ys, hy⟩ := eBfs_pre (es := es) (v := vE es) (T := eT) (s := s) i es.length (by omega)
    unfold eFin at e
    rw [hy, ia_app h1] at e
    exact e
  have h3 : hasB (eBfs es (vE es) eT s (i + 1)).o f = true := by
    rw [eBfs_succ h1, h2, Int.toNat_natCast]
    exact eEnd_has hf ha
  exact eBfs_mono h3 es.length (by omega)
noncomputable def ldE (es : List (Int × Int)) (d : Nat) : Int := leadF es noSk (ea es d)
theorem rch_edges {es : List (Int × Int)} {Q : Nat → Prop} {e : Nat} (he : e < es.length) (hQ : Q e) (hc : ∀ u f, u < es.length → Q u → f < es.length → adjP es u f → Q f) :
    ∀ k (v : Int), RchK es noSk k (ea es e) v → ∀ d, d < es.length → (ea es d = v ∨ eb es d = v) → Q d := by
  intro k
  induction k with
  | zero =>
    intro v hv d hd hdv
    have hv : ea es e = v := hv
    refine hc e d he hQ hd ?_
    unfold adjP
    rcases hdv with h | h
    · exact .inl (.inl (by omega))
    · exact .inr (.inl (by omega))
  | succ k ih =>
    intro v hv d hd hdv
    obtain ⟨x, hx, f, hf, _, hfx⟩ := hv
    have hQf : Q f := ih x hx f hf (hfx.elim (fun h => .inl h.1) (fun h => .inr h.1))
    refine hc f d hf hQf hd ?_
    unfold adjP
    rcases hfx with ⟨_, h2⟩ | ⟨_, h2⟩ <;> rcases hdv with h | h
    · exact .inl (.inr (by omega))
    · exact .inr (.inr (by omega))
    · exact .inl (.inl (by omega))
    · exact .inr (.inl (by omega))
/-- The search of a part: what it marks. -/
theorem ptE_is {N : Nat} {es : List (Int × Int)} (hn : WfP N es) {M e : Nat} (he : e < es.length) (hM : ∀ d f, d < es.length → f < es.length → ldE es d = ldE es f → (hasB M d = true ↔ hasB M f = true)) (hMe : hasB M e = false) :
    (∀ f : Nat, f < es.length → ((f : Int) ∈ (ptE es M e).q ↔ ldE es f = ldE es e)) ∧ (∀ f : Nat, f < es.length → (hasB (ptE es M e).o f = true ↔ hasB M f = true ∨ ldE es f = ldE es e)) := by
  have hI : EInv es.length ⟨M ||| 2 ^ e, [(e : Int)]⟩ := EInv.one he (by rw [hasB_or, if_pos rfl])
  have hQ : QInv es M e (ptE es M e) := QInv.bfs hn (s := ⟨M ||| 2 ^ e, [(e : Int)]⟩) ⟨fun f => by
    show hasB (M ||| 2 ^ e) f = true ↔ hasB M f = true ∨ (f : Int) ∈ [(e : Int)]
    rw [hasB_or]
    by_cases h : f = e
    · subst h; simp
    · rw [if_neg h]
      have : ¬ ((f : Int) ∈ [(e : Int)]) := by simp; omega
      exact ⟨.inl, fun h1 => h1.resolve_right this⟩, fun f hf => by
    have : f = e := by simp at hf; omega
    rw [this], fun x hx => by
    have : x = e := by simpa using hx
    omega⟩ es.length
  have hcl : ∀ u f, u < es.length → (u : Int) ∈ (ptE es M e).q → f < es.length → adjP es u f → (f : Int) ∈ (ptE es M e).q := fun u f hu huq hf ha => by
    rcases (hQ.mark f).1 (fin_closed hI huq hf ha) with h | h
    · exfalso
      have h1 : ldE es f = ldE es e := by
        show leadF es noSk (ea es f) = leadF es noSk (ea es e)
        rw [← hQ.ld u huq]
        exact (lead_adj hn hu hf ha).symm
      rw [(hM f e hf he h1).1 h] at hMe
      cases hMe
    · exact h
  have heq : (e : Int) ∈ (ptE es M e).q := by
    obtain ⟨ys, hy⟩ := eBfs_pre (es := es) (v := vE es) (T := eT) (s := ⟨M ||| 2 ^ e, [(e : Int)]⟩) 0 es.length (Nat.zero_le _)
    show (e : Int) ∈ (eBfs es (vE es) eT ⟨M ||| 2 ^ e, [(e : Int)]⟩ es.length).q
    rw [hy]; simp [eBfs]
  have hmem : ∀ f : Nat, f < es.length → ((f : Int) ∈ (ptE es M e).q ↔ ldE es f = ldE es e) := fun f hf => by
    refine ⟨fun h => hQ.ld f h, fun h => ?_⟩
    have w1 := hn.2.2.2.2 e he
    have w2 := hn.2.2.2.2 f hf
    obtain ⟨k, hk⟩ := (leadF_iff w1.1 w2.1).1 h.symm
    exact rch_edges (Q := fun d => (d : Int) ∈ (ptE es M e).q) he heq hcl k (ea es f) hk f hf (.inl rfl)
  refine ⟨hmem, fun f hf => ?_⟩
  rw [hQ.mark f, hmem f hf]
end Go.Proofs.YtajnhkkiddeegaaGreat
namespace Go.Proofs.YtajnhkkiddeegaaGreat
open Go.RowKit Go.Sort
theorem cnt_off {vals : List Int} {P : (Nat → Int) → Bool} {D : Nat → Prop} (hP : ∀ g g' : Nat → Int, (∀ d, D d ∨ g d = g' d) → P g = P g') : ∀ (L : List Nat) (f f' : Nat → Int), (∀ d, d ∈ L ∨ D d ∨ f d = f' d) → cntG vals P L f = cntG vals P L f' := by
  intro L
  induction L with
  | nil => intro f f' h; simp only [cntG]; rw [hP f f' (fun d => (h d).resolve_left (by simp))]
  | cons e L ih =>
    intro f f' h
    simp only [cntG]
    congr 1
    refine List.map_congr_left fun x _ => ih _ _ fun d => ?_
    by_cases hd : d = e
    · subst hd; right; right; rw [upF_same, upF_same]
    · rw [upF_other hd, upF_other hd]
      rcases h d with h1 | h1
      · rcases List.mem_cons.1 h1 with h2 | h2
        · exact absurd h2 hd
        · exact .inl h2
      · exact .inr h1
theorem cnt_put {vals : List Int} {P : (Nat → Int) → Bool} {e : Nat} {y : Int} : ∀ (L : List Nat) (f : Nat → Int), e ∉ L → cntG vals (fun g => P (upF g e y)) L f = cntG vals P L (upF f e y) := by
  intro L
  induction L with
  | nil => intro f _; rfl
  | cons d L ih =>
    intro f he
    have hde : d ≠ e := fun h => he (by rw [h]; exact List.mem_cons_self)
    simp only [cntG]
    congr 1
    refine List.map_congr_left fun x _ => ?_
    rw [ih _ (fun h => he (List.mem_cons_of_mem _ h)), upF_comm hde]
def renF (σ : Int → Int) (L : List Nat) (g : Nat → Int) : Nat → Int := fun d => if d ∈ L then σ (g d) else g d
theorem sum_perm {a b : List Nat} (h : a.Perm b) : a.sum = b.sum := by
  induction h with
  | nil => rfl
  | cons x _ ih => simp only [List.sum_cons, ih]
  | swap x y l => simp only [List.sum_cons]; omega
  | trans _ _ h1 h2 => exact h1.trans h2
theorem cnt_ren {vals : List Int} {σ : Int → Int} (hσ : (vals.map σ).Perm vals) : ∀ (L : List Nat) (P : (Nat → Int) → Bool) (f : Nat → Int), L.Nodup → cntG vals (fun g => P (renF σ L g)) L f = cntG vals P L f := by
  intro L
  induction L with
  | nil =>
    intro P f _
    have h1 : renF σ [] f = f := by funext d; simp [renF]
    simp only [cntG, h1]
  | cons e L ih =>
    intro P f hn
    obtain ⟨he, hn2⟩ := List.nodup_cons.1 hn
    have key : ∀ x, cntG vals (fun g => P (renF σ (e :: L) g)) L (upF f e x) = cntG vals P L (upF f e (σ x)) := fun x => by
      have h1 : cntG vals (fun g => P (renF σ (e :: L) g)) L (upF f e x) = cntG vals (fun g => P (renF σ L (upF g e (σ x)))) L (upF f e x) := by
        refine cnt_congr L _ fun g hg => ?_
        have hge : g e = x := by
          have := ((mem_allG hn2).1 hg).1 e he
          rw [this, upF_same]
        congr 1
        funext d
        simp only [renF]
        by_cases hd : d = e
        · subst hd; rw [if_pos List.mem_cons_self, if_neg he, upF_same, hge]
        · by_cases hdl : d ∈ L
          · rw [if_pos (List.mem_cons_of_mem _ hdl), if_pos hdl, upF_other hd]
          · rw [if_neg (by simp [hd, hdl]), if_neg hdl, upF_other hd]
      rw [h1, cnt_put (P := fun g => P (renF σ L g)) L _ he]
      have h2 : upF (upF f e x) e (σ x) = upF f e (σ x) := by funext d; by_cases hd : d = e <;> simp [upF, hd]
      rw [h2, ih P _ hn2]
    simp only [cntG]
    rw [List.map_congr_left (fun x _ => key x)]
    have h3 : (vals.map fun x => cntG vals P L (upF f e (σ x))) = (vals.map σ).map fun x => cntG vals P L (upF f e x) := by rw [List.map_map]; rfl
    rw [h3]
    exact sum_perm (hσ.map _)
/-- Each thing that is counted has one of the keys. -/
theorem sum_ite {T : Type} [DecidableEq T] {k : T} : ∀ {ts : List T}, ts.Nodup → k ∈ ts → (ts.map fun t => if k = t then 1 else 0).sum = 1 := by
  intro ts
  induction ts with
  | nil => intro _ h; cases h
  | cons t ts ih =>
    intro hn hk
    obtain ⟨h1, h2⟩ := List.nodup_cons.1 hn
    simp only [List.map_cons, List.sum_cons]
    by_cases e : k = t
    · subst e
      rw [if_pos rfl]
      have : (ts.map fun t => if k = t then 1 else 0).sum = 0 := by
        have hz : ∀ x ∈ ts.map (fun t => if k = t then 1 else 0), x = 0 := by
          intro x hx
          obtain ⟨t, ht, rfl⟩ := List.mem_map.1 hx
          have hne : ¬ k = t := fun e => h1 (by rw [e]; exact ht)
          rw [if_neg hne]
        clear hk ih hn h2 h1
        generalize ts.map (fun t => if k = t then 1 else 0) = l at hz
        induction l with
        | nil => rfl
        | cons a l ih => rw [List.sum_cons, hz a List.mem_cons_self, ih (fun x hx => hz x (List.mem_cons_of_mem _ hx))]
      omega
    · rw [if_neg e, Nat.zero_add]
      exact ih h2 ((List.mem_cons.1 hk).resolve_left e)
theorem sum_add {T : Type} (a b : T → Nat) : ∀ ts : List T, (ts.map fun t => a t + b t).sum = (ts.map a).sum + (ts.map b).sum := by
  intro ts
  induction ts with
  | nil => rfl
  | cons t ts ih => simp only [List.map_cons, List.sum_cons, ih]; omega
theorem count_keys {α T : Type} [DecidableEq T] {P : α → Bool} {k : α → T} {ts : List T} (hn : ts.Nodup) : ∀ X : List α, (∀ x, x ∈ X → P x = true → k x ∈ ts) → (X.filter P).length = (ts.map fun t => (X.filter fun x => P x && decide (k x = t)).length).sum := by
  intro X
  induction X with
  | nil =>
    intro _
    simp only [List.filter_nil, List.length_nil]
    clear hn
    induction ts with
    | nil => rfl
    | cons t ts ih => simpa using ih
  | cons x X ih =>
    intro h
    have ih := ih (fun y hy => h y (List.mem_cons_of_mem _ hy))
    by_cases hp : P x = true
    · have e1 : (fun t => ((x :: X).filter fun x => P x && decide (k x = t)).length) = fun t => (if k x = t then 1 else 0) + (X.filter fun x => P x && decide (k x = t)).length := by
        funext t
        rw [List.filter_cons, hp]
        by_cases e : k x = t
        · simp [e]; omega
        · simp [e]
      rw [e1, sum_add, sum_ite hn (h x List.mem_cons_self hp), ← ih, List.filter_cons, if_pos hp]
      simp; omega
    · have hp' : P x = false := by simpa using hp
      have e1 : (fun t => ((x :: X).filter fun x => P x && decide (k x = t)).length) = fun t => (X.filter fun x => P x && decide (k x = t)).length := by
        funext t
        rw [List.filter_cons, hp']; simp
      rw [e1, ← ih, List.filter_cons, if_neg hp]
def perms3 : List (Int × Int × Int) := [(0, 1, 2), (0, 2, 1), (1, 0, 2), (1, 2, 0), (2, 0, 1), (2, 1, 0)]
def sig (t : Int × Int × Int) (x : Int) : Int := if x = 0 then t.1 else if x = 1 then t.2.1 else t.2.2
theorem sig_perm : ∀ t ∈ perms3, (col3.map (sig t)).Perm col3 := by decide
theorem sig_inj : ∀ t ∈ perms3, ∀ x ∈ col3, ∀ y ∈ col3, sig t x = sig t y → x = y := by decide
theorem sig_012 : ∀ t ∈ perms3, (sig t 0, sig t 1, sig t 2) = t := by decide
theorem perms_nodup : perms3.Nodup := by decide
theorem perms_all : ∀ x ∈ col3, ∀ y ∈ col3, ∀ z ∈ col3, x ≠ y → x ≠ z → y ≠ z → (x, y, z) ∈ perms3 := by decide
def noG : Nat → Int := fun _ => -1
theorem okP_noG {es : List (Int × Int)} {L : List Nat} {g : Nat → Int} : okP es noG L g = true ↔ ∀ d e, d ∈ L → e ∈ L → adjP es d e → d ≠ e → g d ≠ g e := by
  rw [okP_iff]
  exact ⟨fun h => h.2, fun h => ⟨fun d _ hd => absurd rfl hd, h⟩⟩
/-- There are six colourings for each one with the colours 0, 1 and 2, in order, at a vertex. -/
theorem sixfold {es : List (Int × Int)} {L : List Nat} {G : Nat → Int} {e0 e1 e2 : Nat} (hL : L.Nodup) (h0 : e0 ∈ L) (h1 : e1 ∈ L) (h2 : e2 ∈ L) (a01 : adjP es e0 e1) (a02 : adjP es e0 e2) (a12 : adjP es e1 e2) (n01 : e0 ≠ e1) (n02 : e0 ≠ e2) (n12 : e1 ≠ e2)
    (hG : ∀ d, G d ≠ -1 → d = e0 ∨ d = e1 ∨ d = e2) (g0 : G e0 = 0) (g1 : G e1 = 1) (g2 : G e2 = 2) (f : Nat → Int) :
    cntG col3 (okP es noG L) L f = 6 * cntG col3 (okP es G L) L f := by
  have hk := count_keys (P := okP es noG L) (k := fun g : Nat → Int => (g e0, g e1, g e2)) perms_nodup (allG col3 L f) (fun g hg hp => by
    have hv := ((mem_allG hL).1 hg).2
    have hp := okP_noG.1 hp
    exact perms_all _ (hv e0 h0) _ (hv e1 h1) _ (hv e2 h2) (hp e0 e1 h0 h1 a01 n01) (hp e0 e2 h0 h2 a02 n02) (hp e1 e2 h1 h2 a12 n12))
  rw [cnt_len] at hk
  rw [hk]
  have key : ∀ t ∈ perms3, ((allG col3 L f).filter fun g => okP es noG L g && decide ((g e0, g e1, g e2) = t)).length = cntG col3 (okP es G L) L f := by
    intro t ht
    rw [cnt_len, ← cnt_ren (sig_perm t ht) L (fun g => okP es noG L g && decide ((g e0, g e1, g e2) = t)) f hL]
    refine cnt_congr L f fun g hg => ?_
    have hv := ((mem_allG hL).1 hg).2
    have hr : ∀ d, d ∈ L → renF (sig t) L g d = sig t (g d) := fun d hd => by simp [renF, hd]
    have hi := sig_inj t ht
    have hs := sig_012 t ht
    have c0 : (0 : Int) ∈ col3 := by decide
    have c1 : (1 : Int) ∈ col3 := by decide
    have c2 : (2 : Int) ∈ col3 := by decide
    rw [Bool.eq_iff_iff, Bool.and_eq_true, decide_eq_true_iff, okP_noG, okP_iff, hr e0 h0, hr e1 h1, hr e2 h2]
    constructor
    · rintro ⟨hp, ht2⟩
      rw [← hs] at ht2
      simp only [Prod.mk.injEq] at ht2
      have x0 := hi _ (hv e0 h0) _ c0 ht2.1
      have x1 := hi _ (hv e1 h1) _ c1 ht2.2.1
      have x2 := hi _ (hv e2 h2) _ c2 ht2.2.2
      refine ⟨fun d _ hd => ?_, fun d e hd he ha hne heq => hp d e hd he ha hne (by rw [hr d hd, hr e he, heq])⟩
      rcases hG d hd with rfl | rfl | rfl
      · rw [x0, g0]
      · rw [x1, g1]
      · rw [x2, g2]
    · rintro ⟨hg2, hp⟩
      have x0 := hg2 e0 h0 (by rw [g0]; decide)
      have x1 := hg2 e1 h1 (by rw [g1]; decide)
      have x2 := hg2 e2 h2 (by rw [g2]; decide)
      refine ⟨fun d e hd he ha hne heq => ?_, by rw [x0, x1, x2, g0, g1, g2]; exact hs⟩
      rw [hr d hd, hr e he] at heq
      exact hp d e hd he ha hne (hi _ (hv d hd) _ (hv e he) heq)
  rw [List.map_congr_left key]
  simp only [perms3, List.map_cons, List.map_nil, List.sum_cons, List.sum_nil]
  omega
end Go.Proofs.YtajnhkkiddeegaaGreat
namespace Go.Proofs.YtajnhkkiddeegaaGreat
open Go.RowKit Go.Sort
noncomputable def clsV (es : List (Int × Int)) (v : Int) : List Nat := (List.range es.length).filter fun d => decide (ldE es d = v)
noncomputable def isF (es : List (Int × Int)) (e : Nat) : Bool := B (∀ d, d < e → ldE es d ≠ ldE es e)
theorem mem_clsV {es : List (Int × Int)} {v : Int} {d : Nat} : d ∈ clsV es v ↔ d < es.length ∧ ldE es d = v := by simp [clsV]
theorem clsV_asc (es : List (Int × Int)) (v : Int) : (clsV es v).Pairwise (· < ·) := List.pairwise_lt_range.sublist List.filter_sublist
theorem ownT_is (q : List Int) : ∀ k, ownT q k = natL ((List.range k).filter fun f : Nat => decide ((f : Int) ∈ q)) := by
  intro k
  induction k with
  | zero => rfl
  | succ k ih =>
    rw [ownT, ih, List.range_succ, List.filter_append, natL, natL, List.map_append]
    congr 1
    by_cases h : (k : Int) ∈ q
    · rw [if_pos h]; simp [h]
    · rw [if_neg h]; simp [h]
theorem ptS_is {N : Nat} {es : List (Int × Int)} (hn : WfP N es) : ∀ e, e ≤ es.length →
    (∀ d : Nat, d < es.length → (hasB (ptS es e).1 d = true ↔ ∃ e', e' < e ∧ ldE es e' = ldE es d)) ∧ (ptS es e).2 = ((List.range e).filter (isF es)).map fun e' => natL (clsV es (ldE es e')) := by
  intro e
  induction e with
  | zero => intro _; exact ⟨fun d _ => ⟨fun h => by simp [ptS, hasB] at h, fun ⟨_, h, _⟩ => absurd h (by omega)⟩, rfl⟩
  | succ e ih =>
    intro he
    obtain ⟨h1, h2⟩ := ih (by omega)
    have hel : e < es.length := he
    cases hh : hasB (ptS es e).1 e with
    | true =>
      have hs : ptS es (e + 1) = ptS es e := by rw [ptS, if_pos hh]
      rw [hs]
      obtain ⟨e0, he0, hl0⟩ := (h1 e hel).1 hh
      refine ⟨fun d hd => (h1 d hd).trans ⟨fun ⟨e', h3, h4⟩ => ⟨e', by omega, h4⟩, fun ⟨e', h3, h4⟩ => ?_⟩, ?_⟩
      · by_cases h5 : e' = e
        · subst h5; exact ⟨e0, he0, hl0.trans h4⟩
        · exact ⟨e', by omega, h4⟩
      · have hf : isF es e = false := B_false fun hc => hc e0 he0 hl0
        rw [h2, List.range_succ, List.filter_append]
        simp [hf]
    | false =>
      have hs : ptS es (e + 1) = ((ptE es (ptS es e).1 e).o, (ptS es e).2 ++ [ownT (ptE es (ptS es e).1 e).q es.length]) := by rw [ptS, if_neg (by rw [hh]; decide)]
      rw [hs]
      obtain ⟨k1, k2⟩ := ptE_is hn hel (M := (ptS es e).1) (fun d f hd hf hl => by
        rw [h1 d hd, h1 f hf, hl]) hh
      refine ⟨fun d hd => ?_, ?_⟩
      · rw [k2 d hd, h1 d hd]
        constructor
        · rintro (⟨e', h3, h4⟩ | h4)
          · exact ⟨e', by omega, h4⟩
          · exact ⟨e, by omega, h4.symm⟩
        · rintro ⟨e', h3, h4⟩
          by_cases h5 : e' = e
          · subst h5; exact .inr h4.symm
          · exact .inl ⟨e', by omega, h4⟩
      · have hf : isF es e = true := B_true fun d hd hl => by
          have := (h1 e hel).2 ⟨d, hd, hl⟩
          rw [hh] at this; cases this
        show (ptS es e).2 ++ [ownT (ptE es (ptS es e).1 e).q es.length] = _
        rw [h2, List.range_succ, List.filter_append, List.map_append]
        congr 1
        simp only [List.filter_cons, hf, if_true, List.filter_nil, List.map_cons, List.map_nil]
        rw [ownT_is]
        congr 2
        refine List.filter_congr fun d hd => ?_
        exact decide_eq_decide.2 (k1 d (List.mem_range.1 hd))
def prJ (g : Nat → Nat) : Nat → Nat
  | 0 => 1
  | j + 1 => prJ g j * g j
def prodL : List Nat → Nat
  | [] => 1
  | x :: l => x * prodL l
theorem prodL_app (a b : List Nat) : prodL (a ++ b) = prodL a * prodL b := by
  induction a with
  | nil => simp [prodL]
  | cons x a ih => simp only [List.cons_append, prodL, ih, Nat.mul_assoc]
theorem prJ_prod (g : Nat → Nat) : ∀ n, prJ g n = prodL ((List.range n).map g) := by
  intro n
  induction n with
  | zero => rfl
  | succ n ih => rw [prJ, ih, List.range_succ, List.map_append, prodL_app]; simp [prodL]
theorem prodL_perm {a b : List Nat} (h : a.Perm b) : prodL a = prodL b := by
  induction h with
  | nil => rfl
  | cons x _ ih => simp only [prodL, ih]
  | swap x y l => simp only [prodL]; rw [← Nat.mul_assoc, ← Nat.mul_assoc, Nat.mul_comm x y]
  | trans _ _ h1 h2 => exact h1.trans h2
theorem prJ_congr {g g' : Nat → Nat} : ∀ n, (∀ j, j < n → g j = g' j) → prJ g n = prJ g' n := by
  intro n
  induction n with
  | zero => intro _; rfl
  | succ n ih => intro h; rw [prJ, prJ, ih (fun j hj => h j (by omega)), h n (by omega)]
theorem prJ_list {α : Type} (xs : List α) (g : α → Nat) (d : α) : prJ (fun j => g (xs.getD j d)) xs.length = prodL (xs.map g) := by
  rw [prJ_prod]
  congr 1
  apply List.ext_getElem
  · simp
  · intro j h1 h2
    simp at h1 h2 ⊢
    simp [h1]
theorem prI_prJ (es : List (Int × Int)) (Ls : Nat → List Nat) : ∀ n, prI es Ls n = prJ (fun j => (impT es (Ls j) false).length) n := by
  intro n
  induction n with
  | zero => rfl
  | succ n ih => rw [prI, prJ, ih]
theorem asc_ext {a b : List Nat} (ha : a.Pairwise (· < ·)) (hb : b.Pairwise (· < ·)) (h : ∀ x, x ∈ a ↔ x ∈ b) : a = b := by
  have hp : a.Perm b := (List.perm_ext_iff_of_nodup (ha.imp fun h => by omega) (hb.imp fun h => by omega)).2 h
  exact hp.eq_of_pairwise (le := fun x y => x < y) (fun x y _ _ h1 h2 => by omega) ha hb
noncomputable def cI (es : List (Int × Int)) (L : List Nat) : Nat := cntG col3 (okP es noG L) L noG
noncomputable def hS (es : List (Int × Int)) (L : List Nat) : Nat := 6 * cntS es (gN es (ea es (L.getD 0 0))) L (fun _ => 0)
theorem part_cls {N : Nat} {es : List (Int × Int)} (hn : WfP N es) (v : Int) {G : Nat → Int} (hG : ∀ d, G d ≠ -1 → d ∈ clsV es v ∧ 0 ≤ G d ∧ G d ≤ 2) : Part es (clsV es v) G where
  asc := clsV_asc es v
  lt := fun d hd => (mem_clsV.1 hd).1
  closed := fun d e hd he ha => by
    obtain ⟨h1, h2⟩ := mem_clsV.1 he
    exact mem_clsV.2 ⟨hd, by rw [← h2]; exact lead_adj hn hd h1 ha⟩
  giv := hG
theorem impT_cI {N : Nat} {es : List (Int × Int)} (hG : IsG N es) (v : Int) : (impT es (clsV es v) false).length = cI es (clsV es v) := by
  have hp : Part es (clsV es v) noG := part_cls hG.wf v (fun d hd => absurd rfl hd)
  have h0 : pF false (atL es 0) = noG := rfl
  unfold impT cI
  rw [col_tree hG.wf (clsV es v) _ _ (usI_p hG false) hp.lt (fun d _ => pF_rng false es d) hp.nodup, h0, treeI hp (fun d e _ _ _ => rfl), cnt_len]
theorem gN_at {es : List (Int × Int)} {v : Int} (hL : (atL es v).length = 3) : ∃ e0 e1 e2 : Nat, e0 < e1 ∧ e1 < e2 ∧ e2 < es.length ∧ (ea es e0 = v ∨ eb es e0 = v) ∧ (ea es e1 = v ∨ eb es e1 = v) ∧ (ea es e2 = v ∨ eb es e2 = v) ∧
    (∀ d, gN es v d ≠ -1 → d = e0 ∨ d = e1 ∨ d = e2) ∧ gN es v e0 = 0 ∧ gN es v e1 = 1 ∧ gN es v e2 = 2 := by
  obtain ⟨e0, l0, x0, v0⟩ := atL_at (es := es) (u := v) (k := 0) (by omega)
  obtain ⟨e1, l1, x1, v1⟩ := atL_at (es := es) (u := v) (k := 1) (by omega)
  obtain ⟨e2, l2, x2, v2⟩ := atL_at (es := es) (u := v) (k := 2) (by omega)
  have a01 := atTo_asc es.length 0 1 (by omega) (by show 1 < (atL es v).length; omega) (es := es) (v := v)
  have a12 := atTo_asc es.length 1 2 (by omega) (by show 2 < (atL es v).length; omega) (es := es) (v := v)
  have a01 : ia (atL es v) 0 < ia (atL es v) 1 := a01
  have a12 : ia (atL es v) 1 < ia (atL es v) 2 := a12
  rw [x0, x1] at a01
  rw [x1, x2] at a12
  refine ⟨e0, e1, e2, by omega, by omega, l2, v0, v1, v2, fun d hd => ?_, ?_, ?_, ?_⟩
  · obtain ⟨i, hi, hx, _⟩ := onT_at hd
    rcases (show i = 0 ∨ i = 1 ∨ i = 2 by omega) with rfl | rfl | rfl
    · left; rw [x0] at hx; omega
    · right; left; rw [x1] at hx; omega
    · right; right; rw [x2] at hx; omega
  all_goals
    unfold gN
    simp only [onT, x0, x1, x2]
  · rw [if_neg (by omega), if_neg (by omega), if_pos trivial]; rfl
  · rw [if_neg (by omega), if_pos trivial]; rfl
  · rw [if_pos trivial]; rfl
theorem hS_cI {N : Nat} {es : List (Int × Int)} (hG : IsG N es) {e : Nat} (he : e < es.length) : hS es (clsV es (ldE es e)) = cI es (clsV es (ldE es e)) := by
  obtain ⟨L, hL⟩ : ∃ L, L = clsV es (ldE es e) := ⟨_, rfl⟩
  rw [← hL]
  have heL : e ∈ L := by rw [hL]; exact mem_clsV.2 ⟨he, rfl⟩
  have hpos : 0 < L.length := List.length_pos_of_mem heL
  obtain ⟨d0, hd0⟩ : ∃ d0, d0 = L.getD 0 0 := ⟨_, rfl⟩
  have hd0L : d0 ∈ L := by rw [hd0]; exact gd_mem hpos
  have hd0' : d0 < es.length ∧ ldE es d0 = ldE es e := by rw [hL] at hd0L; exact mem_clsV.1 hd0L
  obtain ⟨v, hv⟩ : ∃ v, v = ea es d0 := ⟨_, rfl⟩
  have hw := hG.wf.2.2.2.2 d0 hd0'.1
  have h3 : (atL es v).length = 3 := by rw [hv]; exact atL_3 hG hw.1 hw.2.1
  obtain ⟨e0, e1, e2, h01, h12, hl2, v0, v1, v2, hg, g0, g1, g2⟩ := gN_at h3
  have hin : ∀ d, d < es.length → (ea es d = v ∨ eb es d = v) → d ∈ L := fun d hd hdv => by
    rw [hL]
    refine mem_clsV.2 ⟨hd, ?_⟩
    rw [← hd0'.2]
    refine lead_adj hG.wf hd hd0'.1 ?_
    unfold adjP
    rw [← hv]
    rcases hdv with h | h
    · exact .inl (.inl h)
    · exact .inl (.inr h)
  have adj : ∀ a b : Nat, (ea es a = v ∨ eb es a = v) → (ea es b = v ∨ eb es b = v) → adjP es a b := fun a b ha hb => by
    unfold adjP
    rcases ha with ha | ha <;> rcases hb with hb | hb
    · exact .inl (.inl (by omega))
    · exact .inr (.inl (by omega))
    · exact .inl (.inr (by omega))
    · exact .inr (.inr (by omega))
  have hp : Part es L (gN es v) := by
    rw [hL]
    refine part_cls hG.wf _ fun d hd => ⟨?_, ?_⟩
    · rw [← hL]
      rcases hg d hd with rfl | rfl | rfl
      · exact hin _ (by omega) v0
      · exact hin _ (by omega) v1
      · exact hin _ (by omega) v2
    · have := gN_rng es v d
      omega
  have h6 := sixfold hp.nodup (hin e0 (by omega) v0) (hin e1 (by omega) v1) (hin e2 hl2 v2) (adj _ _ v0 v1) (adj _ _ v0 v2) (adj _ _ v1 v2) (by omega) (by omega) (by omega) hg g0 g1 g2 noG
  unfold hS cI cntS
  rw [← hd0, ← hv, treeS hp, cnt_len, h6]
  congr 1
  refine cnt_off (D := fun d => d ∉ L) (fun g g' h => ?_) L _ _ (fun d => (Classical.em (d ∈ L)).elim .inl (fun h => .inr (.inl h)))
  have hgg : ∀ d, d ∈ L → g d = g' d := fun d hd => (h d).resolve_left (fun hc => hc hd)
  rw [Bool.eq_iff_iff, okP_iff, okP_iff]
  constructor
  · rintro ⟨h1, h2⟩
    exact ⟨fun d hd hx => by rw [← hgg d hd]; exact h1 d hd hx, fun d e hd he ha hne => by rw [← hgg d hd, ← hgg e he]; exact h2 d e hd he ha hne⟩
  · rintro ⟨h1, h2⟩
    exact ⟨fun d hd hx => by rw [hgg d hd]; exact h1 d hd hx, fun d e hd he ha hne => by rw [hgg d hd, hgg e he]; exact h2 d e hd he ha hne⟩
theorem keys_perm {N : Nat} {es : List (Int × Int)} (hG : IsG N es) : (((List.range es.length).filter (isF es)).map (ldE es)).Perm ((LV es N).map fun v : Nat => (v : Int)) := by
  have hn := hG.wf
  refine (List.perm_ext_iff_of_nodup ?_ ?_).2 fun x => ?_
  · rw [List.Nodup, List.pairwise_map]
    have h1 : ((List.range es.length).filter (isF es)).Pairwise (· < ·) := List.pairwise_lt_range.sublist List.filter_sublist
    refine h1.imp_of_mem fun {a b} _ hb hab => ?_
    exact B_iff.1 (List.mem_filter.1 hb).2 a hab
  · rw [List.Nodup, List.pairwise_map]
    exact (LV_nodup es N).imp fun h => by omega
  · constructor
    · intro hx
      obtain ⟨e, he, rfl⟩ := List.mem_map.1 hx
      have hel := List.mem_range.1 (List.mem_filter.1 he).1
      have hw := hn.2.2.2.2 e hel
      have h1 := leadF_nonneg es noSk (ea es e)
      have h2 := leadF_le (es := es) (sk := noSk) hw.1
      refine List.mem_map.2 ⟨(ldE es e).toNat, mem_LV.2 ⟨?_, ?_⟩, ?_⟩
      · unfold ldE; omega
      · have h3 := leadF_lead (es := es) (sk := noSk) hw.1
        have h4 : ((ldE es e).toNat : Int) = leadF es noSk (ea es e) := by unfold ldE; omega
        rw [h4]; exact h3
      · unfold ldE; omega
    · intro hx
      obtain ⟨v, hv, rfl⟩ := List.mem_map.1 hx
      obtain ⟨hvN, hlv⟩ := mem_LV.1 hv
      obtain ⟨f, hf, _, hfv⟩ := atL_at (es := es) (u := (v : Int)) (k := 0) (by have := atL_3 hG (v := (v : Int)) (by omega) (by omega); omega)
      have hld : ldE es f = v := by
        unfold ldE
        rcases hfv with h | h
        · rw [h, hlv]
        · rw [lead_edge hn hf, h, hlv]
      -- the least one
      have : ∀ k f, f ≤ k → f < es.length → ldE es f = v → ∃ e, e < es.length ∧ isF es e = true ∧ ldE es e = v := by
        intro k
        induction k with
        | zero =>
          intro f h1 h2 h3
          exact ⟨f, h2, B_true fun d hd => absurd hd (by omega), h3⟩
        | succ k ih =>
          intro f h1 h2 h3
          by_cases hc : ∀ d, d < f → ldE es d ≠ ldE es f
          · exact ⟨f, h2, B_true hc, h3⟩
          · have : ∃ d, d < f ∧ ldE es d = ldE es f := Classical.byContradiction fun hno => hc fun d hd he => hno ⟨d, hd, he⟩
            obtain ⟨d, hd, he⟩ := this
            exact ih d (by omega) (by omega) (he.trans h3)
      obtain ⟨e, h1, h2, h3⟩ := this f f (Nat.le_refl _) hf hld
      exact List.mem_map.2 ⟨e, List.mem_filter.2 ⟨List.mem_range.2 h1, h2⟩, h3⟩
theorem Lsj_cls {N : Nat} {es : List (Int × Int)} (hn : WfP N es) {j : Nat} (hj : j < (LV es N).length) : Lsj es N j = clsV es ((LV es N)[j] : Nat) := by
  refine asc_ext (inTo_asc _ _ _) (clsV_asc _ _) fun d => ?_
  rw [mem_Lsj hn hj, mem_clsV]; rfl
noncomputable def ccN (es : List (Int × Int)) (N : Nat) : Nat := prodL ((LV es N).map fun v : Nat => cI es (clsV es v))
theorem imp_prod {N : Nat} {es : List (Int × Int)} (hG : IsG N es) : prI es (Lsj es N) (LV es N).length = ccN es N := by
  rw [prI_prJ, ccN, ← prJ_list (LV es N) (fun v : Nat => cI es (clsV es v)) 0]
  refine prJ_congr _ fun j hj => ?_
  rw [Lsj_cls hG.wf hj, impT_cI hG]
  simp [hj]
noncomputable def rowsN (es : List (Int × Int)) : List (List Nat) := ((List.range es.length).filter (isF es)).map fun e => clsV es (ldE es e)
theorem pt_rows {N : Nat} {es : List (Int × Int)} (hn : WfP N es) : (ptS es es.length).2 = (rowsN es).map natL := by
  rw [(ptS_is hn es.length (Nat.le_refl _)).2, rowsN, List.map_map]; rfl
theorem spec_prod {N : Nat} {es : List (Int × Int)} (hG : IsG N es) : prJ (fun j => hS es ((rowsN es).getD j [])) (rowsN es).length = ccN es N := by
  rw [prJ_list (rowsN es) (hS es) [], rowsN, List.map_map]
  have h1 : ((List.range es.length).filter (isF es)).map (hS es ∘ fun e => clsV es (ldE es e)) = (((List.range es.length).filter (isF es)).map (ldE es)).map fun v => cI es (clsV es v) := by
    rw [List.map_map]
    refine List.map_congr_left fun e he => ?_
    exact hS_cI hG (List.mem_range.1 (List.mem_filter.1 he).1)
  rw [h1, prodL_perm ((keys_perm hG).map _), List.map_map]
  rfl
end Go.Proofs.YtajnhkkiddeegaaGreat
namespace Go.Proofs.YtajnhkkiddeegaaGreat
open Go.RowKit Go.Sort
theorem ldCnt_leNo {es : List (Int × Int)} {sk : Nat → Bool} : ∀ k, (∀ v : Nat, v < k → leadF es sk v = v → leadF es noSk v = v) → ldCnt es sk k ≤ ldCnt es noSk k := by
  intro k
  induction k with
  | zero => intro _; exact Nat.le_refl _
  | succ k ih =>
    intro h
    have h1 := ih fun v hv => h v (by omega)
    have h2 := h k (by omega)
    simp only [ldCnt]
    by_cases hs : leadF es sk (k : Int) = k
    · rw [if_pos hs, if_pos (h2 hs)]; omega
    · rw [if_neg hs]; split <;> omega
/-- Each bridge parts its ends. -/
theorem cut_apart {N : Nat} {es : List (Int × Int)} (hn : WfP N es) {k : Nat} (hb : cutB N es (skI k) = true) : ∃ X : Int → Bool, (∀ d, d < es.length → d ≠ k → X (ea es d) = X (eb es d)) ∧ X (ea es k) ≠ X (eb es k) := by
  unfold cutB at hb
  rw [decide_eq_true_eq, Int.toNat_natCast] at hb
  obtain ⟨v, hv, h1, h2⟩ : ∃ v : Nat, v < N ∧ leadF es (skI k) v = v ∧ leadF es noSk v ≠ v := by
    refine Classical.byContradiction fun hno => ?_
    have := ldCnt_leNo (es := es) (sk := skI k) N (fun v hv h1 => Classical.byContradiction fun h2 => hno ⟨v, hv, h1, h2⟩)
    omega
  have hoff : ∀ d, d < es.length → d ≠ k → B (Rch es (skI k) v (ea es d)) = B (Rch es (skI k) v (eb es d)) := fun d hd hne => by
    have hs : skI (k : Int) d = false := by simp [skI]; omega
    refine B_congr ⟨fun h => h.step ⟨d, hd, hs, .inl ⟨rfl, rfl⟩⟩, fun h => h.step ⟨d, hd, hs, .inr ⟨rfl, rfl⟩⟩⟩
  refine ⟨fun x => B (Rch es (skI k) v x), hoff, fun heq => ?_⟩
  have hR : ∀ x, Rch es noSk v x → B (Rch es (skI k) v x) = true := fun x hr => by
    obtain ⟨d, hd⟩ := hr
    induction d generalizing x with
    | zero => rw [B_iff, show x = (v : Int) from hd.symm]; exact Rch.refl _ _ _
    | succ d ih =>
      obtain ⟨y, hy, e, he, _, hxy⟩ := hd
      have hy := ih y hy
      have hE : B (Rch es (skI k) v (ea es e)) = B (Rch es (skI k) v (eb es e)) := by
        by_cases hek : e = k
        · subst hek; exact heq
        · exact hoff e he hek
      rcases hxy with ⟨a, b⟩ | ⟨a, b⟩
      · rw [← a, hE, b] at hy; exact hy
      · rw [← a, ← hE, b] at hy; exact hy
  have h3 := leadF_spec (es := es) (sk := noSk) (v := (v : Int)) (by omega)
  have h4 := hR _ h3.1
  rw [B_iff] at h4
  have h5 := leadF_le (es := es) (sk := noSk) (v := (v : Int)) (by omega)
  have h6 := leadF_nonneg es noSk (v : Int)
  have h7 := (leadF_spec (es := es) (sk := skI k) (v := (v : Int)) (by omega)).2 (leadF es noSk v).toNat (by rw [Int.toNat_of_nonneg h6]; exact h4)
  omega
def inE (es : List (Int × Int)) (v d : Nat) : Bool := decide (ea es d = v) || decide (eb es d = v)
theorem inE_iff {es : List (Int × Int)} {v d : Nat} : inE es v d = true ↔ ea es d = v ∨ eb es d = v := by simp [inE]
theorem sum_zero {α : Type} {g : α → Nat} : ∀ ts : List α, (∀ t, t ∈ ts → g t = 0) → (ts.map g).sum = 0 := by
  intro ts
  induction ts with
  | nil => intro _; rfl
  | cons t ts ih => intro h; rw [List.map_cons, List.sum_cons, h t (by simp), ih fun x hx => h x (by simp [hx])]
theorem one_at {N : Nat} {es : List (Int × Int)} (hG : IsG N es) {c : Nat → Int} (hc : ColP es c) {v : Nat} (hv : v < N) {x : Int} (hx : 0 ≤ x ∧ x ≤ 2) : ((List.range es.length).map fun d => if inE es v d && decide (c d = x) then 1 else 0).sum = 1 := by
  obtain ⟨hm, d1, d2, d3⟩ := at3 hG hc (v := (v : Int)) (by omega) (by omega)
  have hL := atL_3 hG (v := (v : Int)) (by omega) (by omega)
  have hat : ∀ i, i < 3 → ∃ f : Nat, f < es.length ∧ ia (atL es v) i = f ∧ inE es v f = true ∧ 0 ≤ c f ∧ c f ≤ 2 := fun i hi => by
    obtain ⟨f, hf, e1, v1⟩ := mem_atTo.1 (ia_mem (xs := atL es v) (i := i) (by omega))
    obtain ⟨f', hf', e1', b1⟩ := hm i hi
    obtain rfl : f = f' := by omega
    exact ⟨f, hf, e1, inE_iff.2 v1, b1⟩
  obtain ⟨f0, l0, e0, i0, b0⟩ := hat 0 (by omega)
  obtain ⟨f1, l1, e1, i1, b1⟩ := hat 1 (by omega)
  obtain ⟨f2, l2, e2, i2, b2⟩ := hat 2 (by omega)
  rw [e0, e1, Int.toNat_natCast, Int.toNat_natCast] at d1
  rw [e0, e2, Int.toNat_natCast, Int.toNat_natCast] at d2
  rw [e1, e2, Int.toNat_natCast, Int.toNat_natCast] at d3
  obtain ⟨f, hf, hif, hcf⟩ : ∃ f, f < es.length ∧ inE es v f = true ∧ c f = x := by
    rcases (show c f0 = x ∨ c f1 = x ∨ c f2 = x by omega) with h | h | h
    · exact ⟨f0, l0, i0, h⟩
    · exact ⟨f1, l1, i1, h⟩
    · exact ⟨f2, l2, i2, h⟩
  refine Eq.trans ?_ (sum_ite (k := f) List.nodup_range (List.mem_range.2 hf))
  congr 1
  refine List.map_congr_left fun d hd => ?_
  have hd := List.mem_range.1 hd
  by_cases hfd : f = d
  · subst hfd; simp [hif, hcf]
  · rw [if_neg hfd, if_neg]
    intro hh
    rw [Bool.and_eq_true, decide_eq_true_iff, inE_iff] at hh
    rcases Nat.lt_or_gt_of_ne hfd with h | h
    · exact col_adj hG.wf hc hd h (inE_iff.1 hif) hh.1 (hcf.trans hh.2.symm)
    · exact col_adj hG.wf hc hf h hh.1 (inE_iff.1 hif) (hh.2.trans hcf.symm)
theorem par_at {g : Nat → Nat} {k m : Nat} (h : ∀ d, d < m → d ≠ k → g d % 2 = 0) : ∀ n, n ≤ m → ((List.range n).map g).sum % 2 = if k < n then g k % 2 else 0 := by
  intro n
  induction n with
  | zero => intro _; rfl
  | succ n ih =>
    intro hn
    have h1 := ih (by omega)
    rw [List.range_succ, List.map_append, List.sum_append, List.map_cons, List.map_nil, List.sum_cons, List.sum_nil, Nat.add_zero, Nat.add_mod, h1]
    by_cases hk : n = k
    · subst hk; rw [if_neg (by omega), if_pos (by omega)]; omega
    · have h2 := h n (by omega) hk
      by_cases hlt : k < n
      · rw [if_pos hlt, if_pos (by omega)]; omega
      · rw [if_neg hlt, if_neg (by omega)]; omega
theorem bridge_none {N : Nat} {es : List (Int × Int)} (hG : IsG N es) {k : Nat} (hk : k < es.length) (hb : cutB N es (skI k) = true) {c : Nat → Int} (hc : ColP es c) : False := by
  obtain ⟨X, hX, hXk⟩ := cut_apart hG.wf hb
  have key : ∀ x : Int, 0 ≤ x ∧ x ≤ 2 → ((List.range N).map fun v : Nat => if X v then 1 else 0).sum % 2 = if c k = x then 1 else 0 := by
    intro x hx
    have hrow : ∀ v, v ∈ List.range N → (if X (v : Int) then 1 else 0) = ((List.range es.length).map fun d => if X (v : Int) && (inE es v d && decide (c d = x)) then 1 else 0).sum := fun v hv => by
      have hv := List.mem_range.1 hv
      cases hXv : X (v : Int) with
      | true => simp only [Bool.true_and, if_true]; exact (one_at hG hc hv hx).symm
      | false => rw [sum_zero _ (fun d _ => by simp)]; simp
    rw [List.map_congr_left hrow, sum_swap (fun (v d : Nat) => if X (v : Int) && (inE es v d && decide (c d = x)) then 1 else 0)]
    have hcol : ∀ d, d ∈ List.range es.length → ((List.range N).map fun v : Nat => if X (v : Int) && (inE es v d && decide (c d = x)) then 1 else 0).sum = if c d = x then (if X (ea es d) then 1 else 0) + (if X (eb es d) then 1 else 0) else 0 := fun d hd => by
      have hd := List.mem_range.1 hd
      have hw := hG.wf.2.2.2.2 d hd
      by_cases hcd : c d = x
      · rw [if_pos hcd]
        obtain ⟨a, ha⟩ : ∃ a : Nat, ea es d = a := ⟨(ea es d).toNat, by omega⟩
        obtain ⟨b, hb⟩ : ∃ b : Nat, eb es d = b := ⟨(eb es d).toNat, by omega⟩
        have haN : a ∈ List.range N := List.mem_range.2 (by omega)
        have hbN : b ∈ List.range N := List.mem_range.2 (by omega)
        have hab : a ≠ b := by omega
        have e1 : ∀ v, v ∈ List.range N → (if X (v : Int) && (inE es v d && decide (c d = x)) then 1 else 0) = (if X (a : Int) then 1 else 0) * (if a = v then 1 else 0) + (if X (b : Int) then 1 else 0) * (if b = v then 1 else 0) := fun v _ => by
          have hin : inE es v d = (decide (a = v) || decide (b = v)) := by
            unfold inE; rw [ha, hb]; congr 1 <;> (apply decide_eq_decide.2; omega)
          rw [hin, decide_eq_true hcd]
          by_cases hav : a = v
          · subst hav
            have hba : ¬ b = a := fun h => hab h.symm
            rw [if_pos (rfl : a = a), if_neg hba, decide_eq_true (rfl : a = a), decide_eq_false hba]
            cases X (a : Int) <;> simp
          · by_cases hbv : b = v
            · subst hbv
              rw [if_neg hav, if_pos (rfl : b = b), decide_eq_true (rfl : b = b), decide_eq_false hav]
              cases X (b : Int) <;> simp
            · rw [if_neg hav, if_neg hbv, decide_eq_false hav, decide_eq_false hbv]; simp
        rw [List.map_congr_left e1, sum_add, sum_mul, sum_mul, sum_ite List.nodup_range haN, sum_ite List.nodup_range hbN, ha, hb]
        omega
      · rw [if_neg hcd]
        exact sum_zero _ fun v _ => by rw [decide_eq_false hcd]; simp
    rw [List.map_congr_left hcol, par_at (k := k) (m := es.length) (fun d hd hne => by
      have := hX d hd hne
      rw [this]
      split
      · split <;> rfl
      · rfl) _ (Nat.le_refl _), if_pos hk]
    split
    · cases h1 : X (ea es k) <;> cases h2 : X (eb es k) <;> simp_all
    · rfl
  have hck := hc.1 k hk
  have h1 := key (c k) hck
  rw [if_pos rfl] at h1
  have h2 := key ((c k + 1) % 3) (by omega)
  rw [if_neg (by omega), h1] at h2
  cases h2
end Go.Proofs.YtajnhkkiddeegaaGreat
