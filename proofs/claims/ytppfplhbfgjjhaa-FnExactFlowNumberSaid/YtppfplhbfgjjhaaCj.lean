import Derived.Test.YtppfplhbfgjjhaaCh2
import Derived.Test.YtppfplhbfgjjhaaM24
import Derived.Test.YtppfplhbfgjjhaaM33
namespace Go.Proofs.Ytppfplhbfgjjhaa
open Go.RowKit Go.Sort
/-! ### Chains, the reference -/
theorem OwnL.one' (w : World) (k : Int) : OwnL w.heap.size (w.alloc (.cells #[.int .i64 k] 2)) (some ⟨w.heap.size, 0, none⟩) 1 1 [k] :=
  ⟨rfl, rfl, .inr ⟨w.heap.size, 1, #[.int .i64 k], rfl, Nat.le_refl _, heap_alloc_new w _, Nat.le_refl _, by unfold maxLen; omega, rfl, rfl⟩⟩
set_option maxRecDepth 100000 in
set_option maxHeartbeats 1000000 in
theorem l02Chain_any (n : Int) (b o m c b2 o2 c2 e : Nat) (es : List (Int × Int)) (cs : Nat → Int) (bb : Int) (w : World) (h : Eds w b o m es) (hm : m ≤ 1048576) (hG : IsG n es) (h2 : Ints w b2 o2 m cs) (he : e < m) :
    Calls Try.prog 78 #[.agg #[.int .i64 n, .slice (some ⟨b, o, none⟩) m c], .slice (some ⟨b2, o2, none⟩) m c2, .int .i64 e, .int .i64 bb] w (fun ee w' => ∃ g, ee = .returned (.slice (some ⟨g, 0, none⟩) m m) ∧ w.heap.size ≤ g ∧ w'.rowIs g 4 m (fun f => .bool (hasB (chS es cs e bb) f)) ∧ Below w.heap.size w w') := by
  have KC := cell_rg
  have hl := Lib.hid h.len
  have HG := Lib.hid hG
  have hm30 : m ≤ 30 := by have := hl.out; have := hG.wf.2.2.2.1; have := hG.wf.2.1; omega
  have hn2 := hG.wf.1
  have hel : e < es.length := by rw [hl.out]; exact he
  have HEI := Lib.hid (EInv.one (m := es.length) hel (hasB_two e))
  obtain ⟨T, hT⟩ : ∃ T, T = chT cs e bb := ⟨_, rfl⟩
  have HTT := Lib.hid hT
  have HCS : Hid (chS es cs e bb = (eFin es (vE es) T ⟨2 ^ e, [(e : Int)]⟩).o) := by rw [hT]; rfl
  have HBI := Lib.hid (fun i => HEI.out.bfs (vE := vE es) (T := T) i)
  have HAT := Lib.hid (fun i (h1 : ¬ i < (eBfs es (vE es) T ⟨2 ^ e, [(e : Int)]⟩ i).q.length) (h3 : i ≤ (eBfs es (vE es) T ⟨2 ^ e, [(e : Int)]⟩ i).q.length) => eFin_at HEI.out h1 h3)
  obtain ⟨N, rfl⟩ : ∃ N : Nat, n = N := ⟨n.toNat, by omega⟩
  have hbb := (by go_grown : Below w.heap.size w (w.alloc (.cells #[.int .i64 N, .slice (some ⟨b, o, none⟩) m c] 30)))
  have hbx := Box2.made w (.int .i64 N) (.slice (some ⟨b, o, none⟩) m c) 30
  obtain ⟨w1, hw1⟩ : ∃ w1, w1 = w.alloc (Obj.cells #[Value.int IntKind.i64 N, Value.slice (some ⟨b, o, none⟩) m c] 30) := ⟨_, rfl⟩
  have hs1 : w1.heap.size = w.heap.size + 1 := by rw [hw1]; simp [go_sem]
  rw [← hw1] at hbb hbx
  obtain ⟨s1, p1, q1⟩ := hbx
  obtain ⟨st0, hst0⟩ : ∃ st0 : ES, st0 = ⟨2 ^ e, [(e : Int)]⟩ := ⟨_, rfl⟩
  have H00 : Hid (eBfs es (vE es) T st0 0 = ⟨2 ^ e, [(e : Int)]⟩) := by rw [hst0]; rfl
  rw [← hst0] at HCS HBI HAT
  have hmk := run_make_row' (P := Try.prog) 90 4 (.bool false) 1 Try.underlying90 infB rfl .i64 .i64 m (by omega) (by omega)
  obtain ⟨wa, hwa⟩ : ∃ wa, wa = w1.alloc (.cells ((madeCells #[.bool false] m).setIfInBounds e (.bool true)) 4) := ⟨_, rfl⟩
  have sa : wa.heap.size = w.heap.size + 1 + 1 := by rw [hwa]; simp [go_sem]; omega
  obtain ⟨w2, hw2⟩ : ∃ w2, w2 = wa.alloc (.cells #[.int .i64 e] 2) := ⟨_, rfl⟩
  have R1 : Hid (w2.rowIs (w.heap.size + 1) 4 m (fun f => .bool (hasB (2 ^ e) f))) := by
    have hsz : ((madeCells #[.bool false] m).setIfInBounds e (.bool true)).size = m := by simp [madeCells]
    have := World.rowIs_alloc w1 ((madeCells #[.bool false] m).setIfInBounds e (.bool true)) 4 (fun f => .bool (hasB (2 ^ e) f)) (fun f hf => by
      rw [hsz] at hf
      rw [Array.getElem?_setIfInBounds]
      by_cases h5 : e = f
      · subst h5; rw [if_pos rfl, if_pos (by simpa [madeCells] using hf), hasB_two]
      · rw [if_neg h5]
        have hb : hasB (2 ^ e) (f : Int) = false := by unfold hasB; rw [Nat.testBit_two_pow]; simp; omega
        rw [hb]
        simp [madeCells, hf, Nat.mod_one])
    rw [hsz, hs1] at this
    rw [hw2, hwa]; exact this.alloc _
  have O1 : OwnL wa.heap.size w2 (some ⟨w.heap.size + 1 + 1, 0, none⟩) 1 1 [(e : Int)] := by rw [hw2, ← sa]; exact OwnL.one' wa e
  have hb2 : Below w1.heap.size w1 w2 := by rw [hw2, hwa]; exact ((Below.refl _ _).alloc (Nat.le_refl _) _).alloc (by simp [go_sem]) _
  have hce : (madeCells #[Value.bool false] m)[e]? = some (.bool false) := by simp [madeCells, he, Nat.mod_one]
  clear hT hst0 hel HEI
  go_enter Try.func78, Try.ntmps78
  go_wp2_with fail
  rw [← hw1]
  go_wp2_with fail
  clear hce
  rw [← hwa, ← hw2]
  have E1 := h.below hbb
  have I1 := h2.below hbb
  obtain ⟨gl, hgl⟩ : ∃ gl, gl = w.heap.size + 1 := ⟨_, rfl⟩
  have hgl1 : gl = w1.heap.size := by omega
  have hwa1 : wa.heap.size = gl + 1 := by omega
  rw [← hgl] at R1
  rw [hwa1] at O1
  rw [← hgl] at O1
  clear hwa hw2 hmk
  rw [← hgl]
  clear sa hwa1
  have hglw : w.heap.size ≤ gl := by omega
  have hglB : w1.heap.size ≤ gl := by omega
  clear hgl hgl1 hs1
  go_loopw [10, 11] (fun lv iv wr => ∃ (i O : Nat) (q : List Int) (A : Option Addr) (c' : Nat), iv = .int .i64 i ∧ i ≤ q.length ∧ i ≤ m ∧ lv = .slice A q.length c' ∧ Hid (eBfs es (vE es) T st0 i = ⟨O, q⟩) ∧ OwnL (gl + 1) wr A q.length c' q ∧ wr.rowIs gl 4 m (fun f => .bool (hasB O f)) ∧ Below w1.heap.size w1 wr) (fun _ i _ => m + 1 - (intOf i).toNat)
  case atStart => exact ⟨0, 2 ^ e, [(e : Int)], _, _, rfl, Nat.zero_le _, Nat.zero_le _, rfl, H00, O1, R1.out, hb2⟩
  case round =>
    clear O1 R1 hb2
    obtain ⟨i, O, q, A, c', rfl, hiq, him, rfl, HS, OQ, R, hbr⟩ := hrel
    have HQ : EInv es.length ⟨O, q⟩ := HS.out ▸ HBI.out i
    have hq20 : q.length ≤ m := by have := HQ.len; rw [hl.out] at this; exact this
    by_cases hlt : i < q.length
    · have hur := HQ.rng _ (iaMem (xs := q) (i := i) hlt)
      obtain ⟨u, hu⟩ : ∃ u : Nat, ia q i = u := ⟨(ia q i).toNat, by omega⟩
      have hum : u < m := by have := hl.out; omega
      have HNX : Hid (eBfs es (vE es) T st0 (i + 1) = eEnd es (vE es) T u ⟨O, q⟩ 2) := by
        show _ = _
        rw [eBfs_succ (by rw [HS.out]; exact hlt), HS.out]
        show eEnd es (vE es) T (ia q i).toNat ⟨O, q⟩ 2 = _
        rw [hu, Int.toNat_natCast]
      have HEI2 := Lib.hid (fun k => HQ.ends (vE := vE es) (T := T) (u := u) k)
      have HUQ := Lib.hid hu
      clear HQ hur hu
      go_wp2_with fail
      go_loopw [10, 12] (fun lv kv wv => ∃ (k O2 : Nat) (q2 : List Int) (A2 : Option Addr) (c3 : Nat), k ≤ 2 ∧ kv = .int .i64 k ∧ lv = .slice A2 q2.length c3 ∧ Hid (eEnd es (vE es) T u ⟨O, q⟩ k = ⟨O2, q2⟩) ∧ OwnL (gl + 1) wv A2 q2.length c3 q2 ∧ wv.rowIs gl 4 m (fun f => .bool (hasB O2 f)) ∧ Below w1.heap.size w1 wv) (fun _ k _ => 2 - (intOf k).toNat)
      case atStart => exact ⟨0, O, q, _, _, by omega, rfl, rfl, rfl, OQ, R, hbr⟩
      case round =>
        clear OQ R hbr
        obtain ⟨k, O2, q2, A2, cq, hk, rfl, rfl, HV, OQ, R, hb⟩ := hrel
        obtain ⟨ys, hys⟩ := eEnd_q (es := es) (vE := vE es) (T := T) (u := u) (s := ⟨O, q⟩) k
        rw [HV.out] at hys
        have hq2e : q2 = q ++ ys := hys
        have hq2l : i < q2.length := by rw [hq2e]; simp; omega
        have hu2 : ia q2 i = u := by rw [hq2e, ia_app hlt]; exact HUQ.out
        have HI2 : EInv es.length ⟨O2, q2⟩ := HV.out ▸ HEI2.out k
        have hq2m : q2.length ≤ m := by have := HI2.len; rw [hl.out] at this; exact this
        have hszb := hb.size
        clear hys hq2e
        by_cases hk2 : k < 2
        · obtain ⟨L, hL⟩ : ∃ L, L = atL es (vE es (2 * u + k)) := ⟨_, rfl⟩
          have hv := vE_in HG.out.wf (2 * u + k) (by rw [hl.out]; omega)
          have hL3 : L.length = 3 := by rw [hL]; exact atL_3 HG.out hv.1 hv.2
          have HSTEP : Hid (eEnd es (vE es) T u ⟨O, q⟩ (k + 1) = eVis T L ⟨O2, q2⟩ 3) := by
            show _ = _; rw [← hL3, hL]; show eVis T _ (eEnd es (vE es) T u ⟨O, q⟩ k) _ = _; rw [HV.out]
          have HLk : Hid (∀ k, k < 3 → ∃ f : Nat, f < m ∧ ia L k = f) := fun k hk => by
            rw [← hL3, hL] at hk; rw [hL]; obtain ⟨f, hf, e, _⟩ := atL_at hk; exact ⟨f, by rw [hl.out] at hf; exact hf, e⟩
          have HIV : Hid (∀ j, j ≤ 3 → EInv es.length (eVis T L ⟨O2, q2⟩ j)) := fun j hj => by rw [← hL3, hL] at hj; rw [hL]; exact HI2.vis j hj
          obtain ⟨w5, rfl⟩ : ∃ w5, w5 = wr := ⟨wr, rfl⟩
          have E5 := E1.below hb
          have hgl5 := R.lt
          have HRL : Hid (∀ W, Below w5.heap.size w5 W → Calls Try.prog 112 #[.agg #[.int .i64 N, .slice (some ⟨b, o, none⟩) m c], .int .i64 (vE es (2 * u + k))] W (RetL L W)) := fun W hW => by rw [hL]; exact l01At_any N b o m c es _ W (E5.below hW) hm
          have s5 := Nat.lt_of_lt_of_le s1 hb.size
          have p5 := (hb.cell (p := ⟨w.heap.size, 0, none⟩) s1).trans p1
          have q5 := (hb.cell (p := ⟨w.heap.size, 1, none⟩) s1).trans q1
          obtain ⟨gq, oq, rfl, IQ⟩ := OQ.src (by omega)
          have cq1 := IQ.c i hq2l
          rw [hu2] at cq1
          have zq := IQ.blk
          have HL3 := Lib.hid hL3
          have HU2 := Lib.hid hu2
          clear hL hL3 hv HI2 IQ hu2
          go_wp2_with fail
          refine wp_region_facts (fun i9 v W => match i9 with
            | 0 => v = .agg #[.int .i64 N, .slice (some ⟨b, o, none⟩) m c]
            | 1 => v = .pointer (some ⟨w.heap.size, 1, none⟩)
            | 2 => v = .slice (some ⟨b, o, none⟩) m c
            | 3 => v = .slice (some ⟨gq, oq, none⟩) q2.length cq
            | 4 => v = .int .i64 i
            | 5 => v = .pointer (some ⟨gq, oq + i, none⟩)
            | 6 => v = .int .i64 u
            | 7 => v = .int .i64 k
            | 8 => v = .pointer (some ⟨b, o + u * 2, none⟩)
            | 9 => v = .pointer (some ⟨b, o + u * 2 + k, none⟩)
            | 10 => v = .int .i64 (vE es (2 * u + k))
            | 11 => NewL w5.heap.size (L) v W
            | _ => NewL w5.heap.size (L) v W) (by kernel_rfl) (by kernel_rfl) ?_ ?_ ?_
          · intro i v W W' hf hb
            match i, hf with
            | 0, hf => exact hf
            | 1, hf => exact hf
            | 2, hf => exact hf
            | 3, hf => exact hf
            | 4, hf => exact hf
            | 5, hf => exact hf
            | 6, hf => exact hf
            | 7, hf => exact hf
            | 8, hf => exact hf
            | 9, hf => exact hf
            | 10, hf => exact hf
            | 11, hf => exact NewL.below hf hb
            | (i + 12), hf => exact NewL.below hf hb
          · refine ⟨?_, ?_, ?_, ?_, ?_, ?_, ?_, ?_, ?_, ?_, ?_, ?_, ?_, trivial⟩
            · intro a W hW hs hd
              have e4 : a.tmps[4]?.getD undef = .pointer (some ⟨w.heap.size, 0, none⟩) := hs 4 (by kernel_rfl)
              have k0 := (hW.cell (p := ⟨w.heap.size, 0, none⟩) (s5)).trans (p5)
              have k1 := (hW.cell (p := ⟨w.heap.size, 1, none⟩) (s5)).trans (q5)
              have k2 := (hW.cell (p := ⟨gq, oq + i, none⟩) (zq)).trans (cq1)
              clear hs hd
              unfold Grows
              go_simp
              exact Below.refl _ _
            · intro a W hW hs hd
              have e4 : a.tmps[4]?.getD undef = .pointer (some ⟨w.heap.size, 0, none⟩) := hs 4 (by kernel_rfl)
              have k0 := (hW.cell (p := ⟨w.heap.size, 0, none⟩) (s5)).trans (p5)
              have k1 := (hW.cell (p := ⟨w.heap.size, 1, none⟩) (s5)).trans (q5)
              have k2 := (hW.cell (p := ⟨gq, oq + i, none⟩) (zq)).trans (cq1)
              clear hs hd
              unfold Grows
              go_simp
              exact Below.refl _ _
            · intro a W hW hs hd
              have e35 : (a.tmps[35]?.getD undef) = .pointer (some ⟨w.heap.size, 1, none⟩) := hd 1 35 (by kernel_rfl) (by kernel_rfl)
              have k0 := (hW.cell (p := ⟨w.heap.size, 0, none⟩) (s5)).trans (p5)
              have k1 := (hW.cell (p := ⟨w.heap.size, 1, none⟩) (s5)).trans (q5)
              have k2 := (hW.cell (p := ⟨gq, oq + i, none⟩) (zq)).trans (cq1)
              clear hs hd
              unfold Grows
              go_simp
              exact Below.refl _ _
            · intro a W hW hs hd
              have e10 : a.tmps[10]?.getD undef = .slice (some ⟨gq, oq, none⟩) q2.length cq := hs 10 (by kernel_rfl)
              clear hs hd
              unfold Grows
              go_simp
              exact Below.refl _ _
            · intro a W hW hs hd
              have e11 : a.tmps[11]?.getD undef = .int .i64 i := hs 11 (by kernel_rfl)
              clear hs hd
              unfold Grows
              go_simp
              exact Below.refl _ _
            · intro a W hW hs hd
              have e37 : (a.tmps[37]?.getD undef) = .slice (some ⟨gq, oq, none⟩) q2.length cq := hd 3 37 (by kernel_rfl) (by kernel_rfl)
              have e38 : (a.tmps[38]?.getD undef) = .int .i64 i := hd 4 38 (by kernel_rfl) (by kernel_rfl)
              have k0 := (hW.cell (p := ⟨w.heap.size, 0, none⟩) (s5)).trans (p5)
              have k1 := (hW.cell (p := ⟨w.heap.size, 1, none⟩) (s5)).trans (q5)
              have k2 := (hW.cell (p := ⟨gq, oq + i, none⟩) (zq)).trans (cq1)
              clear hs hd
              unfold Grows
              go_simp
              exact Below.refl _ _
            · intro a W hW hs hd
              have e39 : (a.tmps[39]?.getD undef) = .pointer (some ⟨gq, oq + i, none⟩) := hd 5 39 (by kernel_rfl) (by kernel_rfl)
              have k0 := (hW.cell (p := ⟨w.heap.size, 0, none⟩) (s5)).trans (p5)
              have k1 := (hW.cell (p := ⟨w.heap.size, 1, none⟩) (s5)).trans (q5)
              have k2 := (hW.cell (p := ⟨gq, oq + i, none⟩) (zq)).trans (cq1)
              clear hs hd
              unfold Grows
              go_simp
              exact Below.refl _ _
            · intro a W hW hs hd
              have e12 : a.tmps[12]?.getD undef = .int .i64 k := hs 12 (by kernel_rfl)
              clear hs hd
              unfold Grows
              go_simp
              exact Below.refl _ _
            · intro a W hW hs hd
              have e36 : (a.tmps[36]?.getD undef) = .slice (some ⟨b, o, none⟩) m c := hd 2 36 (by kernel_rfl) (by kernel_rfl)
              have e40 : (a.tmps[40]?.getD undef) = .int .i64 u := hd 6 40 (by kernel_rfl) (by kernel_rfl)
              have k0 := (hW.cell (p := ⟨w.heap.size, 0, none⟩) (s5)).trans (p5)
              have k1 := (hW.cell (p := ⟨w.heap.size, 1, none⟩) (s5)).trans (q5)
              have k2 := (hW.cell (p := ⟨gq, oq + i, none⟩) (zq)).trans (cq1)
              clear hs hd
              unfold Grows
              go_simp
              exact Below.refl _ _
            · intro a W hW hs hd
              have e42 : (a.tmps[42]?.getD undef) = .pointer (some ⟨b, o + u * 2, none⟩) := hd 8 42 (by kernel_rfl) (by kernel_rfl)
              have e41 : (a.tmps[41]?.getD undef) = .int .i64 k := hd 7 41 (by kernel_rfl) (by kernel_rfl)
              have k0 := (hW.cell (p := ⟨w.heap.size, 0, none⟩) (s5)).trans (p5)
              have k1 := (hW.cell (p := ⟨w.heap.size, 1, none⟩) (s5)).trans (q5)
              have k2 := (hW.cell (p := ⟨gq, oq + i, none⟩) (zq)).trans (cq1)
              clear hs hd
              unfold Grows
              go_simp
              exact Below.refl _ _
            · intro a W hW hs hd
              have e43 : (a.tmps[43]?.getD undef) = .pointer (some ⟨b, o + u * 2 + k, none⟩) := hd 9 43 (by kernel_rfl) (by kernel_rfl)
              have k0 := (hW.cell (p := ⟨w.heap.size, 0, none⟩) (s5)).trans (p5)
              have k1 := (hW.cell (p := ⟨w.heap.size, 1, none⟩) (s5)).trans (q5)
              have k2 := (hW.cell (p := ⟨gq, oq + i, none⟩) (zq)).trans (cq1)
              have d1 := vE_cell (E5.below hW) hum hk2
              clear hs hd
              unfold Grows
              go_simp
              exact Below.refl _ _
            · intro a W hW hs hd
              have e34 : (a.tmps[34]?.getD undef) = .agg #[.int .i64 N, .slice (some ⟨b, o, none⟩) m c] := hd 0 34 (by kernel_rfl) (by kernel_rfl)
              have e44 : (a.tmps[44]?.getD undef) = .int .i64 (vE es (2 * u + k)) := hd 10 44 (by kernel_rfl) (by kernel_rfl)
              clear hs hd
              unfold Grows
              go_simp
              refine ⟨Below.refl _ _, (HRL.out W hW).mono ?_⟩
              rintro e w6 ⟨A6, c6, rfl, ho6, hb6⟩
              exact ⟨_, rfl, hb6, A6, c6, rfl, ho6.mono (hW.size)⟩
            · intro a W hW hs hd
              have e45 : NewL w5.heap.size (L) (a.tmps[45]?.getD undef) W := hd 11 45 (by kernel_rfl) (by kernel_rfl)
              obtain ⟨A45, c45, e45, O45⟩ := e45
              clear hs hd
              unfold Grows
              go_simp
              exact ⟨Below.refl _ _, A45, c45, rfl, O45⟩
          intro vs W hW hf
          have f13 : NewL w5.heap.size (L) (vs 13) W := hf 12 13 (by kernel_rfl)
          obtain ⟨A13, c13, f13, O13⟩ := f13
          simp only [dsts, List.filterMap_cons, List.filterMap_nil, List.foldl_cons, List.foldl_nil, Act.put, List.setIfInBounds_toArray, List.set_cons_succ, List.set_cons_zero, f13]
          clear hf
          rw [HL3.out] at f13 O13
          have OQ := OQ.below hW
          have R := R.of_block (hW.block _ R.lt)
          have hb6 := hb.andB hW
          have NE : blkOf A13 = none ∨ blkOf A13 ≠ blkOf (some (⟨gq, oq, none⟩ : Addr)) := blk_apart' (s := w5.heap.size) (fun g hg => (O13.blk g hg).1) (fun g hg => by simp only [blkOf, Option.map_some, Option.some.injEq] at hg; omega)
          clear p5 q5 s5 cq1 zq E5 HRL
          simp only [f13, HL3.out]
          clear f13
          generalize vs 34 = v34
          generalize vs 35 = v35
          generalize vs 36 = v36
          generalize vs 37 = v37
          generalize vs 38 = v38
          generalize vs 39 = v39
          generalize vs 40 = v40
          generalize vs 41 = v41
          generalize vs 42 = v42
          generalize vs 43 = v43
          generalize vs 44 = v44
          generalize vs 45 = v45
          go_wp2_with fail
          have c33 : ((3 : Nat) : Int) = 3 := rfl
          have hdk : decide ((k : Int) < 2) = true := by simp; omega
          simp only [hdk]
          clear hdk
          go_loopw [10, 14] (fun lv jv wv => ∃ (j O4 : Nat) (q4 : List Int) (A4 : Option Addr) (c5 : Nat), j ≤ 3 ∧ jv = .int .i64 j ∧ lv = .slice A4 q4.length c5 ∧ Hid (eVis T L ⟨O2, q2⟩ j = ⟨O4, q4⟩) ∧ OwnL (gl + 1) wv A4 q4.length c5 q4 ∧ wv.rowIs gl 4 m (fun f => .bool (hasB O4 f)) ∧ OwnL w5.heap.size wv A13 3 c13 L ∧ (blkOf A13 = none ∨ blkOf A13 ≠ blkOf A4) ∧ Below w1.heap.size w1 wv) (fun _ j _ => 3 - (intOf j).toNat)
          case atStart => exact ⟨0, O2, q2, _, _, by omega, rfl, rfl, rfl, OQ, R, O13, NE, hb6⟩
          case round =>
            clear OQ R O13 NE hb6
            obtain ⟨j, O4, q4, A4, c5, hj, rfl, rfl, HV4, OQ, R, O3, NE, hb8⟩ := hrel
            have HI4 : EInv es.length ⟨O4, q4⟩ := HV4.out ▸ HIV.out j hj
            have hq4m : q4.length ≤ m := by have := HI4.len; rw [hl.out] at this; exact this
            have hsz8 := hb8.size
            by_cases hjl : j < 3
            · obtain ⟨f, hf, ef⟩ := HLk.out j hjl
              obtain ⟨g3, o3, rfl, I3⟩ := O3.src (by omega)
              have i1 := I3.c j hjl
              rw [ef] at i1
              have z3 := I3.blk
              have I9 := I1.below hb8
              have r1 := I9.c f hf
              have r2 := I9.c e he
              have z9 := I9.blk
              have r3 := R.cell hf
              have zR := R.lt
              have HST : Hid (eVis T L ⟨O2, q2⟩ (j + 1) = eStep T ⟨O4, q4⟩ f) := by
                show eStep T (eVis T L ⟨O2, q2⟩ j) _ = _; rw [HV4.out, ef, Int.toNat_natCast]
              have HTF : Hid (T f = decide (cs f = cs e ∨ cs f = bb)) := by show _ = _; rw [HTT.out]; rfl
              obtain ⟨cf, hcf⟩ : ∃ cf, cf = cs f := ⟨_, rfl⟩
              obtain ⟨ce, hce⟩ : ∃ ce, ce = cs e := ⟨_, rfl⟩
              rw [← hcf] at r1 HTF
              rw [← hce] at r2 HTF
              have HNO : Hid (¬ (hasB O4 f = false ∧ T f = true) → eVis T L ⟨O2, q2⟩ (j + 1) = ⟨O4, q4⟩) := fun hc => by rw [HST.out, eStep_no hc]
              have HYES : Hid (hasB O4 f = false → T f = true → eVis T L ⟨O2, q2⟩ (j + 1) = ⟨O4 ||| 2 ^ f, q4 ++ [(f : Int)]⟩) := fun h1 h3 => by rw [HST.out, eStep_yes h1 h3]
              clear HI4 I9 ef hcf hce
              cases hh : hasB O4 f with
              | true =>
                have HE : Hid (eVis T L ⟨O2, q2⟩ (j + 1) = ⟨O4, q4⟩) := HNO.out (fun hc => by rw [hh] at hc; cases hc.1)
                rw [hh] at r3
                clear hh
                go_wp2_with fail
                (refine wp_region_quiet_below (by kernel_rfl) (by kernel_rfl) ?_
                 repeat (any_goals (go_big_quiet_step (first | fail)))
                 all_goals (refine wpQuiet_nil ?_; intro wq8 hq8; replace hq8 := below_of_rg hq8))
                have OQ := OQ.below hq8
                have O3 := O3.below hq8
                have R := R.of_block (hq8.block _ R.lt)
                have hb9 := hb8.andB hq8
                clear i1 r1 r2 r3 hq8
                go_wp2_with fail
                go_roundw
                case rel => exact ⟨j + 1, O4, q4, A4, c5, by omega, by go_num, rfl, HE, OQ, R, O3, NE, hb9⟩
                case measure => simp [intOf]; omega
              | false =>
                have HH := Lib.hid hh
                rw [hh] at r3
                clear hh
                cases hTf : T f with
                | false =>
                  have HE : Hid (eVis T L ⟨O2, q2⟩ (j + 1) = ⟨O4, q4⟩) := HNO.out (fun hc => by rw [hTf] at hc; cases hc.2)
                  have hd := of_decide_eq_false (HTF.out.symm.trans hTf)
                  have h1 : (cf == ce) = false := by simp; intro h; exact hd (.inl h)
                  have h3 : (cf == bb) = false := by simp; intro h; exact hd (.inr h)
                  clear hd hTf
                  go_wp2_with fail
                  (refine wp_region_quiet_below (by kernel_rfl) (by kernel_rfl) ?_
                   repeat (any_goals (go_big_quiet_step (first | fail)))
                   all_goals (refine wpQuiet_nil ?_; intro wq8 hq8; replace hq8 := below_of_rg hq8))
                  have OQ := OQ.below hq8
                  have O3 := O3.below hq8
                  have R := R.of_block (hq8.block _ R.lt)
                  have hb9 := hb8.andB hq8
                  clear i1 r1 r2 r3 hq8
                  go_wp2_with fail
                  go_roundw
                  case rel => exact ⟨j + 1, O4, q4, A4, c5, by omega, by go_num, rfl, HE, OQ, R, O3, NE, hb9⟩
                  case measure => simp [intOf]; omega
                | true =>
                  have HE := Lib.hid (HYES.out HH.out hTf)
                  have hd := of_decide_eq_true (HTF.out.symm.trans hTf)
                  have HB : Hid (∀ x : Nat, hasB (O4 ||| 2 ^ f) x = if x = f then true else hasB O4 x) := fun x => hasB_or O4 f x
                  have HQL : Hid ((q4 ++ [(f : Int)]).length = q4.length + 1) := by simp [Hid]
                  by_cases h1 : cf = ce
                  · have h1' : (cf == ce) = true := by simp [h1]
                    clear hd hTf h1
                    go_wp2_with fail
                    (refine wp_region_quiet_below (by kernel_rfl) (by kernel_rfl) ?_
                     repeat (any_goals (go_big_quiet_step (first | fail)))
                     all_goals (refine wpQuiet_nil ?_; intro wq8 hq8; replace hq8 := below_of_rg hq8))
                    have OQ := OQ.below hq8
                    have O3 := O3.below hq8
                    have R := R.of_block (hq8.block _ R.lt)
                    have hb9 := hb8.andB hq8
                    have z3' := Nat.lt_of_lt_of_le z3 hq8.size
                    have i1' := (bcell hq8).1 _ _ z3 ▸ i1
                    have r3' := R.cell hf
                    have f3' := R.frozen f
                    have R9 := Lib.hid ((R.set f (.bool true)).congr (g := fun x => .bool (hasB (O4 ||| 2 ^ f) x)) (fun x _ => by rw [HB.out]; by_cases hx : x = f <;> simp [hx]))
                    have OQ9 := OQ.setOther (a := ⟨gl, f, none⟩) (blk_ne (fun g hg => (OQ.blk g hg).1) (by simp)) (.bool true)
                    have O39 := O3.setOther (a := ⟨gl, f, none⟩) (blk_ne (fun g hg => (O3.blk g hg).1) hgl5) (.bool true)
                    have hb9' := hb9.setCell (p := ⟨gl, f, none⟩) (by simp; omega) (.bool true)
                    have hszq : gl + 1 ≤ (wq8.setCell ⟨gl, f, none⟩ (.bool true)).heap.size := by simp; have := hb9.size; have := R.lt; omega
                    clear i1 r1 r2 r3 OQ O3
                    go_wp2_with (first
                      | (at_builtin; refine wp_appL1 rfl rfl rfl rfl (by simp) OQ9 hszq (by omega) ?_; intro A5 c6 w9 OQ5 hg9 hat9))
                    have O5 := O39.kept hg9 NE
                    have R10 := R9.out.of_block (hg9.block gl (by simp; exact R.lt) (blk_ne (fun g hg => (OQ9.blk g hg).1) (by omega)))
                    have NE5 := hat9.apart (AX := some ⟨g3, o3, none⟩) (fun g hg => (O39.blk g hg).2) NE
                    have hb10 := hb9'.grown hg9 (by simp; have := hb9.size; omega) (fun y hy => by have := (OQ9.blk y hy).1; omega)
                    go_roundw
                    case rel => exact ⟨j + 1, O4 ||| 2 ^ f, q4 ++ [(f : Int)], A5, c6, by omega, by go_num, by rw [HQL.out], HE, by rw [HQL.out]; exact OQ5, R10, O5, NE5, hb10⟩
                    case measure => simp [intOf]; omega
                  · have h1' : (cf == ce) = false := by simp [h1]
                    have h3' : (cf == bb) = true := by rcases hd with h | h; exact absurd h h1; simp [h]
                    clear hd hTf h1
                    go_wp2_with fail
                    (refine wp_region_quiet_below (by kernel_rfl) (by kernel_rfl) ?_
                     repeat (any_goals (go_big_quiet_step (first | fail)))
                     all_goals (refine wpQuiet_nil ?_; intro wq8 hq8; replace hq8 := below_of_rg hq8))
                    have OQ := OQ.below hq8
                    have O3 := O3.below hq8
                    have R := R.of_block (hq8.block _ R.lt)
                    have hb9 := hb8.andB hq8
                    have z3' := Nat.lt_of_lt_of_le z3 hq8.size
                    have i1' := (bcell hq8).1 _ _ z3 ▸ i1
                    have r3' := R.cell hf
                    have f3' := R.frozen f
                    have R9 := Lib.hid ((R.set f (.bool true)).congr (g := fun x => .bool (hasB (O4 ||| 2 ^ f) x)) (fun x _ => by rw [HB.out]; by_cases hx : x = f <;> simp [hx]))
                    have OQ9 := OQ.setOther (a := ⟨gl, f, none⟩) (blk_ne (fun g hg => (OQ.blk g hg).1) (by simp)) (.bool true)
                    have O39 := O3.setOther (a := ⟨gl, f, none⟩) (blk_ne (fun g hg => (O3.blk g hg).1) hgl5) (.bool true)
                    have hb9' := hb9.setCell (p := ⟨gl, f, none⟩) (by simp; omega) (.bool true)
                    have hszq : gl + 1 ≤ (wq8.setCell ⟨gl, f, none⟩ (.bool true)).heap.size := by simp; have := hb9.size; have := R.lt; omega
                    clear i1 r1 r2 r3 OQ O3
                    go_wp2_with (first
                      | (at_builtin; refine wp_appL1 rfl rfl rfl rfl (by simp) OQ9 hszq (by omega) ?_; intro A5 c6 w9 OQ5 hg9 hat9))
                    have O5 := O39.kept hg9 NE
                    have R10 := R9.out.of_block (hg9.block gl (by simp; exact R.lt) (blk_ne (fun g hg => (OQ9.blk g hg).1) (by omega)))
                    have NE5 := hat9.apart (AX := some ⟨g3, o3, none⟩) (fun g hg => (O39.blk g hg).2) NE
                    have hb10 := hb9'.grown hg9 (by simp; have := hb9.size; omega) (fun y hy => by have := (OQ9.blk y hy).1; omega)
                    go_roundw
                    case rel => exact ⟨j + 1, O4 ||| 2 ^ f, q4 ++ [(f : Int)], A5, c6, by omega, by go_num, by rw [HQL.out], HE, by rw [HQL.out]; exact OQ5, R10, O5, NE5, hb10⟩
                    case measure => simp [intOf]; omega
            · obtain rfl : j = 3 := by omega
              have HE : Hid (eEnd es (vE es) T u ⟨O, q⟩ (k + 1) = ⟨O4, q4⟩) := by show _ = _; rw [HSTEP.out, HV4.out]
              go_wp2_with fail
              go_roundw
              case rel => exact ⟨k + 1, O4, q4, A4, c5, by omega, by go_num, rfl, HE, OQ, R, hb8⟩
              case measure => simp [intOf]; omega
        · obtain rfl : k = 2 := by omega
          have HE : Hid (eBfs es (vE es) T st0 (i + 1) = ⟨O2, q2⟩) := by show _ = _; rw [HNX.out, HV.out]
          have c22 : ((2 : Nat) : Int) = 2 := rfl
          clear HI2
          go_wp2_with fail
          go_roundw
          case rel => exact ⟨i + 1, O2, q2, A2, cq, by go_num, by omega, by omega, rfl, HE, OQ, R, hb⟩
          case measure => simp [intOf]; omega
    · obtain rfl : i = q.length := by omega
      have HE := Lib.hid (HAT.out q.length (by rw [HS.out]; exact Nat.lt_irrefl _) (by rw [HS.out]; exact Nat.le_refl _))
      have HF : Hid (chS es cs e bb = O) := by show _ = _; rw [HCS.out, HE.out, HS.out]
      have hbF := hbb.andB hbr
      go_wp2_with fail
      go_ret
      exact ⟨gl, rfl, by omega, R.congr (fun f _ => by rw [HF.out]), hbF⟩
end Go.Proofs.Ytppfplhbfgjjhaa
