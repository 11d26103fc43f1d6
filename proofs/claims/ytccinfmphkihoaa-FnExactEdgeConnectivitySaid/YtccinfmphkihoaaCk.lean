import Derived.Test.YtccinfmphkihoaaCz
import Derived.Test.YtccinfmphkihoaaCs
import Derived.Test.YtccinfmphkihoaaEc
namespace Go.Proofs.Ytccinfmphkihoaa
open Go.RowKit Go.Sort
/-! ### CountSides, IsCyclicCut -/
noncomputable def csA (n : Int) (es : List (Int × Int)) (ls : Nat → Int) (l : Nat) : Int := if ecC n es ls l = 0 then (ldCnt es (skS (setN ls l)) n.toNat : Nat) else 0
noncomputable def csB (n : Int) (es : List (Int × Int)) (ls : Nat → Int) (l : Nat) : Int := if ecC n es ls l = 0 then (cyT es (skS (setN ls l)) n.toNat n.toNat : Nat) else 0
noncomputable def cyB (n : Int) (es : List (Int × Int)) (sk : Nat → Bool) : Bool := decide (2 ≤ cyT es sk n.toNat n.toNat) && cutB n es sk
noncomputable def icV (n : Int) (es : List (Int × Int)) (ls : Nat → Int) (l : Nat) : Bool := decide (ecC n es ls l = 0) && cyB n es (skS (setN ls l))
set_option maxRecDepth 100000 in
set_option maxHeartbeats 1600000 in
theorem l03Cyclic_any (n : Int) (b o m c b2 o2 l c2 : Nat) (es : List (Int × Int)) (ls : Nat → Int) (u : Int) (w : World) (h : Eds w b o m es) (hm : m ≤ 1048576) (hn : WfP n es) (h2 : Ints w b2 o2 l ls) (hl2 : l ≤ 1048576) (hls : SetP ls l u) :
    Calls Try.prog 75 #[.agg #[.int .i64 n, .slice (some ⟨b, o, none⟩) m c], .slice (some ⟨b2, o2, none⟩) l c2] w (Ret (.bool (cyB n es (skS (setN ls l)))) w) := by
  have KC := cell_rg
  have hbox := Box2.made w (.int .i64 n) (.slice (some ⟨b, o, none⟩) m c) 30
  have hbb := (by go_grown : Below w.heap.size w (w.alloc (.cells #[.int .i64 n, .slice (some ⟨b, o, none⟩) m c] 30)))
  have hn2 := hn.1
  have hn20 := hn.2.1
  have HCY := Lib.hid (l03Cycles_any n b o m c b2 o2 l c2 es ls u _ (h.below hbb) hm hn (h2.below hbb) hl2 hls)
  obtain ⟨N, rfl⟩ : ∃ N : Nat, n = N := ⟨n.toNat, by omega⟩
  rw [Int.toNat_natCast] at HCY
  have HPA : Hid (∀ W, Eds W b o m es → Calls Try.prog 54 #[.int .i64 N, .slice (some ⟨b, o, none⟩) m c] W (Ret (.int .i64 (ldCnt es noSk N)) W)) := fun W hE => parts_any N b o m c es W hE hm hn.inR (by omega) (by omega)
  obtain ⟨p0, hp0⟩ : ∃ p0, ldCnt es noSk N = p0 := ⟨_, rfl⟩
  obtain ⟨p1, hp1⟩ : ∃ p1, ldCnt es (skS (setN ls l)) N = p1 := ⟨_, rfl⟩
  obtain ⟨q, hq⟩ : ∃ q, cyT es (skS (setN ls l)) N N = q := ⟨_, rfl⟩
  have HCB : Hid (cyB N es (skS (setN ls l)) = (decide (2 ≤ q) && decide (p0 < p1))) := by show (decide _ && decide _) = _; rw [Int.toNat_natCast, hp0, hp1, hq]
  rw [hp0] at HPA
  rw [hp1, hq] at HCY
  clear hp0 hp1 hq hn
  go_enter Try.func75, Try.ntmps75
  go_wp2_with fail
  refine HCY.out.mono ?_
  rintro e w1 ⟨rfl, hb1⟩
  have hB1 := hbb.thenB (by simp) hb1
  obtain ⟨s1, p1', q1'⟩ := hbox.below hb1
  have E := h.below hB1
  clear hb1 hbb hbox
  by_cases h2q : 2 ≤ q
  · have z1 : ((2 : Int) ≤ (q : Int)) := by omega
    have HV : Hid (cyB N es (skS (setN ls l)) = decide (p0 < p1)) := by show _ = _; rw [HCB.out]; simp [h2q]
    clear h2q
    go_wp2_with fail
    refine (HPA.out _ E).mono ?_
    rintro e w2 ⟨rfl, hq2⟩
    go_wp2_with fail
    go_ret
    exact ⟨ret_bool HV.out.symm, hB1.andB hq2⟩
  · have z1 : ¬ ((2 : Int) ≤ (q : Int)) := by omega
    have HV : Hid (cyB N es (skS (setN ls l)) = false) := by show _ = _; rw [HCB.out]; simp [h2q]
    clear h2q
    go_wp2_with fail
    go_ret
    exact ⟨ret_bool HV.out.symm, hB1⟩
set_option maxRecDepth 100000 in
set_option maxHeartbeats 1600000 in
theorem isCyclic_any (n : Int) (b o m c s : Nat) (es : List (Int × Int)) (w : World) (h : Eds w b o m es) (hm : m ≤ 1048576) (hn : WfP n es) (hs : s < 18446744073709551616) :
    Calls Try.prog 76 #[.agg #[.int .i64 n, .slice (some ⟨b, o, none⟩) m c], .int .u64 s] w (Ret (.bool (cyB n es (skS s))) w) := by
  have KC := cell_rg
  have hbox := Box2.made w (.int .i64 n) (.slice (some ⟨b, o, none⟩) m c) 30
  have hbb := (by go_grown : Below w.heap.size w (w.alloc (.cells #[.int .i64 n, .slice (some ⟨b, o, none⟩) m c] 30)))
  have HCY := Lib.hid (sidesWithCycle_any n b o m c s es _ (h.below hbb) hm hn hs)
  obtain ⟨r, hr⟩ : ∃ r, cutB n es (skS s) = r := ⟨_, rfl⟩
  have HCT : Hid (∀ W, Eds W b o m es → Calls Try.prog 60 #[.agg #[.int .i64 n, .slice (some ⟨b, o, none⟩) m c], .int .u64 s] W (Ret (.bool r) W)) := fun W hE => by
    rw [← hr]; exact isCut_any n b o m c _ es W hE hm hn hs
  obtain ⟨q, hq⟩ : ∃ q, cyT es (skS s) n.toNat n.toNat = q := ⟨_, rfl⟩
  have HV : Hid (cyB n es (skS s) = (decide (2 ≤ q) && r)) := by show (decide _ && _) = _; rw [hq, hr]
  rw [hq] at HCY
  rw [HV.out]
  clear hr hq hn
  go_enter Try.func76, Try.ntmps76
  go_wp2_with fail
  refine HCY.out.mono ?_
  rintro e w1 ⟨rfl, hb1⟩
  have hB1 := hbb.thenB (by simp) hb1
  obtain ⟨s1, p1', q1'⟩ := hbox.below hb1
  have E := h.below hB1
  clear hb1 hbb hbox
  by_cases h2q : 2 ≤ q
  · have z1 : ((2 : Int) ≤ (q : Int)) := by omega
    have HD : Hid ((decide (2 ≤ q) && r) = r) := by simp [Hid, h2q]
    clear h2q
    go_wp2_with fail
    refine (HCT.out _ E).mono ?_
    rintro e w2 ⟨rfl, hq2⟩
    go_wp2_with fail
    go_ret
    exact ⟨ret_bool HD.out.symm, hB1.andB hq2⟩
  · have z1 : ¬ ((2 : Int) ≤ (q : Int)) := by omega
    have HD : Hid ((decide (2 ≤ q) && r) = false) := by simp [Hid, h2q]
    clear h2q
    go_wp2_with fail
    go_ret
    exact ⟨ret_bool HD.out.symm, hB1⟩
set_option maxRecDepth 100000 in
set_option maxHeartbeats 1600000 in
theorem spCountSides_any (n : Int) (b o m c b2 o2 l c2 : Nat) (es : List (Int × Int)) (ls : Nat → Int) (w : World) (h : Eds w b o m es) (hm : m ≤ 1048576) (h2 : Ints w b2 o2 l ls) (hl2 : l ≤ 1048576) :
    Calls Try.prog 31 #[.agg #[.int .i64 n, .slice (some ⟨b, o, none⟩) m c], .slice (some ⟨b2, o2, none⟩) l c2] w (Ret (.tuple #[.int .i64 (csA n es ls l), .int .i64 (csB n es ls l), .int .i64 (ecC n es ls l)]) w) := by
  have KC := cell_rg
  have hbox := Box2.made w (.int .i64 n) (.slice (some ⟨b, o, none⟩) m c) 30
  have hbb := (by go_grown : Below w.heap.size w (w.alloc (.cells #[.int .i64 n, .slice (some ⟨b, o, none⟩) m c] 30)))
  have HEC := Lib.hid (l03Edges_any n b o m c b2 o2 l c2 es ls _ (h.alloc (.cells #[.int .i64 n, .slice (some ⟨b, o, none⟩) m c] 30)) hm (h2.below hbb) hl2)
  have hc := ec_cases n es ls l
  rcases (show ecC n es ls l = 0 ∨ ecC n es ls l ≠ 0 from Classical.em _) with h0 | h0
  · have hGS : IsG n es ∧ SetP ls l ((es.length : Int) - 1) := by
      rcases hc with ⟨_, e⟩ | ⟨_, _, e⟩ | ⟨h1, h3, _⟩
      · rw [e] at h0; cases h0
      · rw [e] at h0; cases h0
      · exact ⟨h1, h3⟩
    have HG := Lib.hid hGS
    have hm30 : es.length ≤ 30 := by have := hGS.1.wf.2.2.2.1; have := hGS.1.wf.2.1; omega
    have HR : Hid ((Value.tuple #[.int .i64 (csA n es ls l), .int .i64 (csB n es ls l), .int .i64 (ecC n es ls l)]) = .tuple #[.int .i64 (ldCnt es (skS (setN ls l)) n.toNat : Nat), .int .i64 (cyT es (skS (setN ls l)) n.toNat n.toNat : Nat), .int .i64 0]) := by simp [Hid, csA, csB, h0]
    rw [HR.out]
    rw [h0] at HEC
    have HV : Hid (∀ j, j < l → 0 ≤ ls j ∧ ls j ≤ 63) := fun j hj => by have := (hGS.2 j hj).1; omega
    have hsl := setN_lt (ls := ls) (k := l) (fun j hj => (HV.out j hj).2)
    have HCY : Hid (∀ W, Eds W b o m es → Ints W b2 o2 l ls → Calls Try.prog 68 #[.agg #[.int .i64 n, .slice (some ⟨b, o, none⟩) m c], .slice (some ⟨b2, o2, none⟩) l c2] W (Ret (.tuple #[.int .i64 (ldCnt es (skS (setN ls l)) n.toNat : Nat), .int .i64 (cyT es (skS (setN ls l)) n.toNat n.toNat : Nat)]) W)) := fun W hE hI => l03Cycles_any n b o m c b2 o2 l c2 es ls _ W hE hm HG.out.1.wf hI hl2 HG.out.2
    clear hc hGS h0 hsl HR
    go_enter Try.func31, Try.ntmps31
    go_wp2_with fail
    refine HEC.out.mono ?_
    rintro e w1 ⟨rfl, hb1⟩
    have hB1 := hbb.thenB (by simp) hb1
    obtain ⟨s1, pp1, qq1⟩ := hbox.below hb1
    have E := h.below hB1
    have I := h2.below hB1
    clear hb1 hbb hbox
    go_wp2_with fail
    refine (HCY.out _ E I).mono ?_
    rintro e w2 ⟨rfl, hq2⟩
    go_wp2_with fail
    go_ret3
    exact ⟨rfl, hB1.andB hq2⟩
  · have HR : Hid ((Value.tuple #[.int .i64 (csA n es ls l), .int .i64 (csB n es ls l), .int .i64 (ecC n es ls l)]) = .tuple #[.int .i64 0, .int .i64 0, .int .i64 (ecC n es ls l)]) := by simp [Hid, csA, csB, h0]
    rw [HR.out]
    obtain ⟨K, hK⟩ : ∃ K, ecC n es ls l = K := ⟨_, rfl⟩
    rw [hK] at HEC h0 ⊢
    have hkb : (K != 0) = true := by simpa using h0
    clear hK hc h0 HR
    go_enter Try.func31, Try.ntmps31
    go_wp2_with fail
    refine HEC.out.mono ?_
    rintro e w1 ⟨rfl, hb1⟩
    have hB1 := hbb.thenB (by simp) hb1
    clear hb1 hbb hbox
    go_wp2_with fail
    go_ret3
    exact ⟨rfl, hB1⟩
set_option maxRecDepth 100000 in
set_option maxHeartbeats 1600000 in
theorem imCountSides_any (n : Int) (b o m c b2 o2 l c2 : Nat) (es : List (Int × Int)) (ls : Nat → Int) (w : World) (h : Eds w b o m es) (hm : m ≤ 1048576) (h2 : Ints w b2 o2 l ls) (hl2 : l ≤ 1048576) :
    Calls Try.prog 33 #[.agg #[.int .i64 n, .slice (some ⟨b, o, none⟩) m c], .slice (some ⟨b2, o2, none⟩) l c2] w (Ret (.tuple #[.int .i64 (csA n es ls l), .int .i64 (csB n es ls l), .int .i64 (ecC n es ls l)]) w) := by
  have KC := cell_rg
  have hbox := Box2.made w (.int .i64 n) (.slice (some ⟨b, o, none⟩) m c) 30
  have hbb := (by go_grown : Below w.heap.size w (w.alloc (.cells #[.int .i64 n, .slice (some ⟨b, o, none⟩) m c] 30)))
  have HEC := Lib.hid (edgesCode_any n b o m c b2 o2 l c2 es ls _ (h.alloc (.cells #[.int .i64 n, .slice (some ⟨b, o, none⟩) m c] 30)) hm (h2.below hbb) hl2)
  have hc := ec_cases n es ls l
  rcases (show ecC n es ls l = 0 ∨ ecC n es ls l ≠ 0 from Classical.em _) with h0 | h0
  · have hGS : IsG n es ∧ SetP ls l ((es.length : Int) - 1) := by
      rcases hc with ⟨_, e⟩ | ⟨_, _, e⟩ | ⟨h1, h3, _⟩
      · rw [e] at h0; cases h0
      · rw [e] at h0; cases h0
      · exact ⟨h1, h3⟩
    have HG := Lib.hid hGS
    have hm30 : es.length ≤ 30 := by have := hGS.1.wf.2.2.2.1; have := hGS.1.wf.2.1; omega
    have HR : Hid ((Value.tuple #[.int .i64 (csA n es ls l), .int .i64 (csB n es ls l), .int .i64 (ecC n es ls l)]) = .tuple #[.int .i64 (ldCnt es (skS (setN ls l)) n.toNat : Nat), .int .i64 (cyT es (skS (setN ls l)) n.toNat n.toNat : Nat), .int .i64 0]) := by simp [Hid, csA, csB, h0]
    rw [HR.out]
    rw [h0] at HEC
    have HV : Hid (∀ j, j < l → 0 ≤ ls j ∧ ls j ≤ 63) := fun j hj => by have := (hGS.2 j hj).1; omega
    have hsl := setN_lt (ls := ls) (k := l) (fun j hj => (HV.out j hj).2)
    have HCY : Hid (∀ W, Eds W b o m es → Calls Try.prog 70 #[.agg #[.int .i64 n, .slice (some ⟨b, o, none⟩) m c], .int .u64 (setN ls l)] W (Ret (.tuple #[.int .i64 (ldCnt es (skS (setN ls l)) n.toNat : Nat), .int .i64 (cyT es (skS (setN ls l)) n.toNat n.toNat : Nat)]) W)) := fun W hE => sidesWithCycle_any n b o m c _ es W hE hm HG.out.1.wf hsl
    clear hc hGS h0 hsl HR
    go_enter Try.func33, Try.ntmps33
    go_wp2_with fail
    refine HEC.out.mono ?_
    rintro e w1 ⟨rfl, hb1⟩
    have hB1 := hbb.thenB (by simp) hb1
    obtain ⟨s1, pp1, qq1⟩ := hbox.below hb1
    have E := h.below hB1
    have I := h2.below hB1
    clear hb1 hbb hbox
    go_wp2_with fail
    (refine wp_region_quiet_below (by kernel_rfl) (by kernel_rfl) ?_
     repeat (any_goals (go_big_quiet_step (first | (go_at_call 71; exact Is.rg (setOf_any b2 o2 l c2 ls _ (I.below (below_regrown _ _ _)) hl2 HV.out)) | (go_at_call 70; exact Ret.rg (HCY.out _ (E.below (below_regrown _ _ _)))))))
     all_goals (refine wpQuiet_nil ?_; intro wq2 hq2; replace hq2 := below_of_rg hq2))
    go_wp2_with fail
    go_ret3
    exact ⟨rfl, hB1.andB hq2⟩
  · have HR : Hid ((Value.tuple #[.int .i64 (csA n es ls l), .int .i64 (csB n es ls l), .int .i64 (ecC n es ls l)]) = .tuple #[.int .i64 0, .int .i64 0, .int .i64 (ecC n es ls l)]) := by simp [Hid, csA, csB, h0]
    rw [HR.out]
    obtain ⟨K, hK⟩ : ∃ K, ecC n es ls l = K := ⟨_, rfl⟩
    rw [hK] at HEC h0 ⊢
    have hkb : (K != 0) = true := by simpa using h0
    clear hK hc h0 HR
    go_enter Try.func33, Try.ntmps33
    go_wp2_with fail
    refine HEC.out.mono ?_
    rintro e w1 ⟨rfl, hb1⟩
    have hB1 := hbb.thenB (by simp) hb1
    clear hb1 hbb hbox
    go_wp2_with fail
    go_ret3
    exact ⟨rfl, hB1⟩
set_option maxRecDepth 100000 in
set_option maxHeartbeats 1600000 in
theorem spIsCyclicCut_any (n : Int) (b o m c b2 o2 l c2 : Nat) (es : List (Int × Int)) (ls : Nat → Int) (w : World) (h : Eds w b o m es) (hm : m ≤ 1048576) (h2 : Ints w b2 o2 l ls) (hl2 : l ≤ 1048576) :
    Calls Try.prog 36 #[.agg #[.int .i64 n, .slice (some ⟨b, o, none⟩) m c], .slice (some ⟨b2, o2, none⟩) l c2] w (Ret (.tuple #[.bool (icV n es ls l), .int .i64 (ecC n es ls l)]) w) := by
  have KC := cell_rg
  have hbox := Box2.made w (.int .i64 n) (.slice (some ⟨b, o, none⟩) m c) 30
  have hbb := (by go_grown : Below w.heap.size w (w.alloc (.cells #[.int .i64 n, .slice (some ⟨b, o, none⟩) m c] 30)))
  have HEC := Lib.hid (l03Edges_any n b o m c b2 o2 l c2 es ls _ (h.alloc (.cells #[.int .i64 n, .slice (some ⟨b, o, none⟩) m c] 30)) hm (h2.below hbb) hl2)
  have hc := ec_cases n es ls l
  rcases (show ecC n es ls l = 0 ∨ ecC n es ls l ≠ 0 from Classical.em _) with h0 | h0
  · have hGS : IsG n es ∧ SetP ls l ((es.length : Int) - 1) := by
      rcases hc with ⟨_, e⟩ | ⟨_, _, e⟩ | ⟨h1, h3, _⟩
      · rw [e] at h0; cases h0
      · rw [e] at h0; cases h0
      · exact ⟨h1, h3⟩
    have HG := Lib.hid hGS
    have hm30 : es.length ≤ 30 := by have := hGS.1.wf.2.2.2.1; have := hGS.1.wf.2.1; omega
    have HR : Hid ((Value.tuple #[.bool (icV n es ls l), .int .i64 (ecC n es ls l)]) = .tuple #[.bool (cyB n es (skS (setN ls l))), .int .i64 0]) := by simp [Hid, icV, h0]
    rw [HR.out]
    rw [h0] at HEC
    have HV : Hid (∀ j, j < l → 0 ≤ ls j ∧ ls j ≤ 63) := fun j hj => by have := (hGS.2 j hj).1; omega
    have hsl := setN_lt (ls := ls) (k := l) (fun j hj => (HV.out j hj).2)
    have HCY : Hid (∀ W, Eds W b o m es → Ints W b2 o2 l ls → Calls Try.prog 75 #[.agg #[.int .i64 n, .slice (some ⟨b, o, none⟩) m c], .slice (some ⟨b2, o2, none⟩) l c2] W (Ret (.bool (cyB n es (skS (setN ls l)))) W)) := fun W hE hI => l03Cyclic_any n b o m c b2 o2 l c2 es ls _ W hE hm HG.out.1.wf hI hl2 HG.out.2
    clear hc hGS h0 hsl HR
    go_enter Try.func36, Try.ntmps36
    go_wp2_with fail
    refine HEC.out.mono ?_
    rintro e w1 ⟨rfl, hb1⟩
    have hB1 := hbb.thenB (by simp) hb1
    obtain ⟨s1, pp1, qq1⟩ := hbox.below hb1
    have E := h.below hB1
    have I := h2.below hB1
    clear hb1 hbb hbox
    go_wp2_with fail
    refine (HCY.out _ E I).mono ?_
    rintro e w2 ⟨rfl, hq2⟩
    go_wp2_with fail
    go_ret2
    exact ⟨rfl, hB1.andB hq2⟩
  · have HR : Hid ((Value.tuple #[.bool (icV n es ls l), .int .i64 (ecC n es ls l)]) = .tuple #[.bool false, .int .i64 (ecC n es ls l)]) := by simp [Hid, icV, h0]
    rw [HR.out]
    obtain ⟨K, hK⟩ : ∃ K, ecC n es ls l = K := ⟨_, rfl⟩
    rw [hK] at HEC h0 ⊢
    have hkb : (K != 0) = true := by simpa using h0
    clear hK hc h0 HR
    go_enter Try.func36, Try.ntmps36
    go_wp2_with fail
    refine HEC.out.mono ?_
    rintro e w1 ⟨rfl, hb1⟩
    have hB1 := hbb.thenB (by simp) hb1
    clear hb1 hbb hbox
    go_wp2_with fail
    go_ret2
    exact ⟨rfl, hB1⟩
set_option maxRecDepth 100000 in
set_option maxHeartbeats 1600000 in
theorem imIsCyclicCut_any (n : Int) (b o m c b2 o2 l c2 : Nat) (es : List (Int × Int)) (ls : Nat → Int) (w : World) (h : Eds w b o m es) (hm : m ≤ 1048576) (h2 : Ints w b2 o2 l ls) (hl2 : l ≤ 1048576) :
    Calls Try.prog 37 #[.agg #[.int .i64 n, .slice (some ⟨b, o, none⟩) m c], .slice (some ⟨b2, o2, none⟩) l c2] w (Ret (.tuple #[.bool (icV n es ls l), .int .i64 (ecC n es ls l)]) w) := by
  have KC := cell_rg
  have hbox := Box2.made w (.int .i64 n) (.slice (some ⟨b, o, none⟩) m c) 30
  have hbb := (by go_grown : Below w.heap.size w (w.alloc (.cells #[.int .i64 n, .slice (some ⟨b, o, none⟩) m c] 30)))
  have HEC := Lib.hid (edgesCode_any n b o m c b2 o2 l c2 es ls _ (h.alloc (.cells #[.int .i64 n, .slice (some ⟨b, o, none⟩) m c] 30)) hm (h2.below hbb) hl2)
  have hc := ec_cases n es ls l
  rcases (show ecC n es ls l = 0 ∨ ecC n es ls l ≠ 0 from Classical.em _) with h0 | h0
  · have hGS : IsG n es ∧ SetP ls l ((es.length : Int) - 1) := by
      rcases hc with ⟨_, e⟩ | ⟨_, _, e⟩ | ⟨h1, h3, _⟩
      · rw [e] at h0; cases h0
      · rw [e] at h0; cases h0
      · exact ⟨h1, h3⟩
    have HG := Lib.hid hGS
    have hm30 : es.length ≤ 30 := by have := hGS.1.wf.2.2.2.1; have := hGS.1.wf.2.1; omega
    have HR : Hid ((Value.tuple #[.bool (icV n es ls l), .int .i64 (ecC n es ls l)]) = .tuple #[.bool (cyB n es (skS (setN ls l))), .int .i64 0]) := by simp [Hid, icV, h0]
    rw [HR.out]
    rw [h0] at HEC
    have HV : Hid (∀ j, j < l → 0 ≤ ls j ∧ ls j ≤ 63) := fun j hj => by have := (hGS.2 j hj).1; omega
    have hsl := setN_lt (ls := ls) (k := l) (fun j hj => (HV.out j hj).2)
    have HCY : Hid (∀ W, Eds W b o m es → Calls Try.prog 76 #[.agg #[.int .i64 n, .slice (some ⟨b, o, none⟩) m c], .int .u64 (setN ls l)] W (Ret (.bool (cyB n es (skS (setN ls l)))) W)) := fun W hE => isCyclic_any n b o m c _ es W hE hm HG.out.1.wf hsl
    clear hc hGS h0 hsl HR
    go_enter Try.func37, Try.ntmps37
    go_wp2_with fail
    refine HEC.out.mono ?_
    rintro e w1 ⟨rfl, hb1⟩
    have hB1 := hbb.thenB (by simp) hb1
    obtain ⟨s1, pp1, qq1⟩ := hbox.below hb1
    have E := h.below hB1
    have I := h2.below hB1
    clear hb1 hbb hbox
    go_wp2_with fail
    (refine wp_region_quiet_below (by kernel_rfl) (by kernel_rfl) ?_
     repeat (any_goals (go_big_quiet_step (first | (go_at_call 71; exact Is.rg (setOf_any b2 o2 l c2 ls _ (I.below (below_regrown _ _ _)) hl2 HV.out)) | (go_at_call 76; exact Ret.rg (HCY.out _ (E.below (below_regrown _ _ _)))))))
     all_goals (refine wpQuiet_nil ?_; intro wq2 hq2; replace hq2 := below_of_rg hq2))
    go_wp2_with fail
    go_ret2
    exact ⟨rfl, hB1.andB hq2⟩
  · have HR : Hid ((Value.tuple #[.bool (icV n es ls l), .int .i64 (ecC n es ls l)]) = .tuple #[.bool false, .int .i64 (ecC n es ls l)]) := by simp [Hid, icV, h0]
    rw [HR.out]
    obtain ⟨K, hK⟩ : ∃ K, ecC n es ls l = K := ⟨_, rfl⟩
    rw [hK] at HEC h0 ⊢
    have hkb : (K != 0) = true := by simpa using h0
    clear hK hc h0 HR
    go_enter Try.func37, Try.ntmps37
    go_wp2_with fail
    refine HEC.out.mono ?_
    rintro e w1 ⟨rfl, hb1⟩
    have hB1 := hbb.thenB (by simp) hb1
    clear hb1 hbb hbox
    go_wp2_with fail
    go_ret2
    exact ⟨rfl, hB1⟩
end Go.Proofs.Ytccinfmphkihoaa
