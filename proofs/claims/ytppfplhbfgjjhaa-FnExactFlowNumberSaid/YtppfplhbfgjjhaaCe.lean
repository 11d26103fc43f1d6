import Derived.Test.YtppfplhbfgjjhaaCd2
import Derived.Test.YtppfplhbfgjjhaaPf
import Derived.Laws.BitsLemmas
namespace Go.Proofs.Ytppfplhbfgjjhaa
open Go.RowKit Go.Sort
/-! ### Counting colourings: the program -/
def W64 (n : Nat) : Int := IntKind.i64.wrap (n : Int)
theorem wrap_i64' (a : Int) : IntKind.i64.wrap a = (a + 9223372036854775808) % 18446744073709551616 - 9223372036854775808 := IntKind.wrap_i64 a
theorem wrap_add_of (a k : Int) : IntKind.i64.wrap (a + k * 18446744073709551616) = IntKind.i64.wrap a := by
  rw [wrap_i64', wrap_i64']; omega
theorem wrap_is (a : Int) : ∃ k : Int, IntKind.i64.wrap a = a + k * 18446744073709551616 := by
  rw [wrap_i64']
  exact ⟨-((a + 9223372036854775808) / 18446744073709551616), by omega⟩
theorem W64_succ (s : Nat) : IntKind.i64.wrap (W64 s + 1) = W64 (s + 1) := by
  obtain ⟨k, hk⟩ := wrap_is (s : Int)
  unfold W64
  rw [hk, show (s : Int) + k * 18446744073709551616 + 1 = ((s + 1 : Nat) : Int) + k * 18446744073709551616 by push_cast; omega, wrap_add_of]
theorem W64_mul (a b : Nat) : IntKind.i64.wrap (W64 a * W64 b) = W64 (a * b) := by
  obtain ⟨k, hk⟩ := wrap_is (a : Int)
  obtain ⟨l, hl⟩ := wrap_is (b : Int)
  unfold W64
  rw [hk, hl, show ((a : Int) + k * 18446744073709551616) * ((b : Int) + l * 18446744073709551616) = ((a * b : Nat) : Int) + (a * l + k * b + k * l * 18446744073709551616) * 18446744073709551616 by
    rw [Int.natCast_mul]; simp only [Int.add_mul, Int.mul_add, Int.mul_assoc, Int.mul_comm, Int.mul_left_comm]; omega, wrap_add_of]
theorem W64_small {n : Nat} (h : n ≤ 9223372036854775807) : W64 n = n := IntWalk.i64_in _ (by omega)
structure St2 (bm : Nat) (s : Nat) (w : World) : Prop where
  c : w.cell? ⟨bm, 0, none⟩ = some (.int .i64 (W64 s))
  f : w.frozen? ⟨bm, 0, none⟩ = false
  l : bm < w.heap.size
theorem St2.kept {bm s : Nat} {w w' : World} {T : Nat → Prop} (h : St2 bm s w) (k : Kept T w w') (t : ¬ T bm) : St2 bm s w' := ⟨(k.cell h.l t 0).trans h.c, (k.frozen h.l t 0).trans h.f, k.lt h.l⟩
def fnd2 (s : Nat) (_ : Nat → Int) : Bool × Nat := (false, s + 1)
theorem runF2 : ∀ (T : List (Nat → Int)) (s : Nat), runF fnd2 s T = (false, s + T.length) := by
  intro T
  induction T with
  | nil => intro s; rfl
  | cons g T ih =>
    intro s
    have h1 : runF fnd2 s (g :: T) = runF fnd2 (s + 1) T := rfl
    rw [h1, ih, List.length_cons]
    congr 1; omega
theorem enF2 : Enters 115 := fun args w => by kernel_rfl
set_option maxHeartbeats 1000000 in
theorem count1_any {bm s : Nat} {w : World} (h : St2 bm s w) (v : Value) :
    Calls Try.prog 115 #[v, .pointer (some ⟨bm, 0, none⟩)] w (fun e w' => e = .returned (.bool false) ∧ St2 bm (s + 1) w' ∧ Kept (fun k => k = bm) w w') := by
  have c1 := h.c
  have f1 := h.f
  have l1 := h.l
  have hw := W64_succ s
  have hk : Kept (fun k => k = bm) w (w.setCell ⟨bm, 0, none⟩ (.int .i64 (W64 (s + 1)))) := Kept.setCell (S := fun k => k = bm) (Kept.refl _ _) (a := ⟨bm, 0, none⟩) rfl _
  have HS : Hid (St2 bm (s + 1) (w.setCell ⟨bm, 0, none⟩ (.int .i64 (W64 (s + 1))))) := ⟨World.cell?_setCell_same _ _ _ c1, by simpa using f1, by simpa using l1⟩
  go_enter Try.func115, Try.ntmps115
  go_wp2_with fail
  go_ret
  exact ⟨rfl, HS.out, hk⟩
theorem painted2 {N m b o c : Nat} {A : Option Addr} {cA : Nat} {L : List Nat} {es : List (Int × Int)} {w0 w : World} {bp bc bu bm : Nat} (r : Bool)
    (po : PO w0 w bp bc bu N m (.slice (some ⟨b, o, none⟩) m c) (.slice A L.length cA) (.func (.func 115) #[] #[.pointer (some ⟨bm, 0, none⟩)]) (pF r (atL es 0)) (pU r es (atL es 0))) (hn : WfP N es) (hm : m ≤ 1048576) (hLl : L.length ≤ 1048576) (E : Eds w0 b o m es) (I : SrcI w0 A L.length (fun j => ((L.getD j 0 : Nat) : Int))) (hA : ∀ g, blkOf A = some g → g < w0.heap.size) (hL : ∀ d, d ∈ L → d < m) (st : St2 bm 0 w0) (hb : b ≠ bm) (hAm : ∀ g, blkOf A = some g → g ≠ bm) :
    Calls Try.prog 66 #[.pointer (some ⟨bp, 0, none⟩)] w (fun e w' => e = .returned (.bool false) ∧ St2 bm (impT es L r).length w' ∧ Kept (fun k => k = bm) w0 w') := by
  have hl := st.l
  have hpc := po.hc
  have hpu := po.hu
  have st' : St2 bm 0 w := st.kept (Kept.of (S := fun _ => False) po.bel) id
  have h := painted_any (St2 bm) (fun _ k => k = bm) fnd2 115 #[.pointer (some ⟨bm, 0, none⟩)] r po hn hm hLl enF2 E I hA hL 0 st'
    (fun k hk => by omega) (fun e => hb e) (fun g hg e => hAm g hg e) (fun s w w' h k => h.kept k (by omega)) (fun s w h k hk => by subst hk; exact h.l)
    (fun s f U w ps pw st2 => by
      refine (count1_any st2 _).mono ?_
      rintro e w' ⟨rfl, st3, K⟩
      have hT : ∀ k, k = bm → Mut (fun k => k = bm) bc bu k := fun k hk => .inr (.inr hk)
      exact ⟨rfl, ⟨K.wide hT, K.row pw.rc (by omega), K.row pw.ru (by omega)⟩, st3, fun k hk => .inl hk⟩)
  refine h.mono ?_
  rw [runF2]
  rintro e w' ⟨rfl, P, st3, _⟩
  refine ⟨rfl, by simpa using st3, (Kept.of po.bel).trans' P.k (fun i hi => ?_)⟩
  rcases hi with h1 | h1 | h1
  · right; omega
  · right; omega
  · exact .inl h1
def prI (es : List (Int × Int)) (Ls : Nat → List Nat) : Nat → Nat
  | 0 => 1
  | j + 1 => prI es Ls j * (impT es (Ls j) false).length
set_option maxRecDepth 100000 in
set_option maxHeartbeats 2000000 in
theorem countCol_any (N b o m c : Nat) (es : List (Int × Int)) (w : World) (h : Eds w b o m es) (hm : m ≤ 1048576) (hG : IsG N es) :
    Calls Try.prog 61 #[.agg #[.int .i64 N, .slice (some ⟨b, o, none⟩) m c]] w (Ret (.int .i64 (W64 (prI es (fun j => inTo es (ra (sdTo es noSk N N) j) m) (sdTo es noSk N N).length))) w) := by
  have hbox := Box2.made w (.int .i64 N) (.slice (some ⟨b, o, none⟩) m c) 30
  have hbb := (by go_grown : Below w.heap.size w (w.alloc (.cells #[.int .i64 N, .slice (some ⟨b, o, none⟩) m c] 30)))
  have hl := Lib.hid h.len
  have HG := Lib.hid hG
  have hn2 := hG.wf.1
  have hn20 := hG.wf.2.1
  have hm30 : m ≤ 30 := by have := hG.wf.2.2.2.1; have := hl.out; omega
  obtain ⟨rows, hrw⟩ : ∃ rows, rows = sdTo es noSk N N := ⟨_, rfl⟩
  have hlr20 : rows.length ≤ 20 := by rw [hrw, sdTo_len]; have := ldCnt_le es noSk N; omega
  have HPE := Lib.hid (fun W hE => partEdges_any N b o m c es W hE hm hG.wf)
  rw [Int.toNat_natCast, ← hrw] at HPE
  rw [← hrw]
  obtain ⟨Ls, hLs⟩ : ∃ Ls : Nat → List Nat, Ls = fun j => inTo es (ra rows j) m := ⟨_, rfl⟩
  rw [← hLs]
  have HLS := Lib.hid (fun j => congrFun hLs j)
  have HPA := Lib.hid (peR_at es rows m rows.length)
  have HPL := Lib.hid (peR_len es rows m rows.length)
  obtain ⟨w1, hw1⟩ : ∃ w1, w1 = w.alloc (Obj.cells #[Value.int IntKind.i64 N, Value.slice (some ⟨b, o, none⟩) m c] 30) := ⟨_, rfl⟩
  rw [← hw1] at hbb hbox
  clear hG hrw hLs
  obtain ⟨s1, p1, q1⟩ := hbox
  have h10 : W64 1 = 1 := rfl
  go_enter Try.func61, Try.ntmps61
  go_wp2_with fail
  rw [← hw1]
  go_wp2_with fail
  clear hw1
  refine (HPE.out w1 (h.below hbb)).mono ?_
  rintro e w3 ⟨A, c3, rfl, O, hb3⟩
  rw [HPL.out] at O ⊢
  have hB3 := hbb.andB hb3
  have p3 := (hb3.cell (p := ⟨w.heap.size, 0, none⟩) s1).trans p1
  have q3 := (hb3.cell (p := ⟨w.heap.size, 1, none⟩) s1).trans q1
  have s3 := Nat.lt_of_lt_of_le s1 hb3.size
  have E3 := h.below hB3
  clear hb3 p1 q1
  go_wp2_with fail
  go_loopw [3, 10] (fun av kv wv => ∃ j : Nat, j ≤ rows.length ∧ kv = .int .i64 j ∧ av = .int .i64 (W64 (prI es Ls j)) ∧ Below w3.heap.size w3 wv) (fun _ j _ => rows.length - (intOf j).toNat)
  case atStart => exact ⟨0, Nat.zero_le _, rfl, rfl, Below.refl _ _⟩
  case round =>
    obtain ⟨j, hj, rfl, rfl, hbr⟩ := hrel
    obtain ⟨w4, rfl⟩ : ∃ w4, w4 = wr := ⟨wr, rfl⟩
    by_cases hlt : j < rows.length
    · have O4 := O.below hbr
      obtain ⟨g, Aj, cj, rfl, hg, hg', rc, OJ⟩ := O4.at hlt
      rw [HPA.out j hlt, ← HLS.out j, natL_len] at rc OJ
      obtain ⟨L, hL⟩ : ∃ L, L = Ls j := ⟨_, rfl⟩
      rw [← hL] at rc OJ
      have hLm : Hid (∀ d, d ∈ L → d < m) := fun d hd => by
        rw [hL, HLS.out j] at hd
        exact (mem_inTo.1 hd).1
      have hLl : L.length ≤ m := by rw [hL, HLS.out j]; exact inTo_len _ _ _
      obtain ⟨P, hP⟩ : ∃ P, P = prI es Ls j := ⟨_, rfl⟩
      have HPR : Hid (prI es Ls (j + 1) = P * (impT es L false).length) := by rw [hL, hP]; rfl
      rw [← hP]
      obtain ⟨we, hwe⟩ : ∃ we, we = w4.alloc (.cells #[.int .i64 0] 2) := ⟨_, rfl⟩
      have hbe : Below w4.heap.size w4 we := by rw [hwe]; exact (Below.refl _ _).alloc (Nat.le_refl _) _
      have hbe3 := hbr.andB hbe
      have st : St2 w4.heap.size 0 we := ⟨by rw [hwe]; simp [go_sem, W64]; decide, by rw [hwe]; simp [go_sem], by rw [hwe]; simp⟩
      have E4 := (E3.below hbe3)
      have OE := OJ.below hbe
      have IE : SrcI we Aj L.length (fun i => ((L.getD i 0 : Nat) : Int)) := fun h0 => by
        obtain ⟨g', o', e', I'⟩ := OE.src h0
        exact ⟨g', o', e', ⟨I'.blk, fun i hi => by rw [I'.c i hi, natL_at]⟩⟩
      have HAE : Hid (∀ g', blkOf Aj = some g' → g' < we.heap.size) := fun g' hg2 => (OE.blk g' hg2).2
      have HAB : Hid (∀ g', blkOf Aj = some g' → g' ≠ w4.heap.size) := fun g' hg2 => by have := (OJ.blk g' hg2).2; omega
      have hbne : b ≠ w4.heap.size := by have := (E3.below hbr).blk; omega
      have HPO := Lib.hid (painterOf_any N b o m c es Aj cj L false 115 #[.pointer (some ⟨w4.heap.size, 0, none⟩)] we E4 hm HG.out IE HAE.out hLm.out)
      have HP1 : Hid (∀ bp bc bu w5, PO we w5 bp bc bu N m (.slice (some ⟨b, o, none⟩) m c) (.slice Aj L.length cj) (.func (.func 115) #[] #[.pointer (some ⟨w4.heap.size, 0, none⟩)]) (pF false (atL es 0)) (pU false es (atL es 0)) →
          Calls Try.prog 66 #[.pointer (some ⟨bp, 0, none⟩)] w5 (fun e w' => e = .returned (.bool false) ∧ St2 w4.heap.size (impT es L false).length w' ∧ Kept (fun k => k = w4.heap.size) we w')) := fun bp bc bu w5 po =>
        painted2 false po HG.out.wf hm (by omega) E4 IE HAE.out hLm.out st hbne HAB.out
      have p4 := (hbr.cell (p := ⟨w.heap.size, 0, none⟩) s3).trans p3
      have q4 := (hbr.cell (p := ⟨w.heap.size, 1, none⟩) s3).trans q3
      have s4 := Nat.lt_of_lt_of_le s3 hbr.size
      have hz3 := hbr.size
      clear hL OJ OE IE st E4 O4 hP
      go_wp2_with fail
      rw [← hwe]
      refine HPO.out.mono ?_
      rintro e w5 ⟨bp, bc, bu, rfl, po⟩
      have HP2 := Lib.hid (HP1.out bp bc bu w5 po)
      clear po HPO HP1
      go_wp2_with fail
      refine HP2.out.mono ?_
      rintro e w6 ⟨rfl, st6, K6⟩
      obtain ⟨X, hX⟩ : ∃ X, X = (impT es L false).length := ⟨_, rfl⟩
      rw [← hX] at HPR st6
      have c6 := st6.c
      have l6 := st6.l
      have hbF : Below w3.heap.size w3 w6 := hbe3.trans (K6.below (by have := hbe3.size; omega) (fun k hk => by omega))
      have hmul := W64_mul P X
      clear hX HP2 K6 st6 p4 q4 s4 hwe hbe hbe3
      go_wp2_with fail
      go_roundw
      case rel => exact ⟨j + 1, by omega, by go_num, by rw [HPR.out], hbF⟩
      case measure => simp [intOf]; omega
    · obtain rfl : j = rows.length := by omega
      have hbF := hB3.andB hbr
      go_wp2_with fail
      go_ret
      exact ⟨rfl, hbF⟩
end Go.Proofs.Ytppfplhbfgjjhaa
