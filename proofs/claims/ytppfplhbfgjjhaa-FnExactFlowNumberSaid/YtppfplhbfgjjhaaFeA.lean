import Derived.Test.YtppfplhbfgjjhaaFl
import Derived.Test.YtppfplhbfgjjhaaFa79
import Derived.Test.YtppfplhbfgjjhaaFb
import Derived.Test.YtppfplhbfgjjhaaFe2
import Derived.Test.YtppfplhbfgjjhaaFn4
import Derived.Test.YtppfplhbfgjjhaaM14
import Derived.Test.YtppfplhbfgjjhaaFn
namespace Go.Proofs.Ytppfplhbfgjjhaa
open Go.RowKit Go.Sort
/-! ### The reference's counts of flows -/
noncomputable def cfC (n : Int) (es : List (Int × Int)) (md : Int) : Int := if cdC n es md = 0 then (if 12 < n then 3 else 0) else cdC n es md
noncomputable def cfV (n : Int) (es : List (Int × Int)) (md : Int) : Int := if cfC n es md = 0 then W64 (cntF 0 md.toNat es es.length 0 (fun _ => 0)) else 0
theorem cdC_0 {n : Int} {es : List (Int × Int)} {md : Int} (h : cdC n es md = 0) : IsG n es ∧ 2 ≤ md ∧ md ≤ 6 := by
  unfold cdC at h
  cases hG : B (IsG n es) with
  | false => rw [hG] at h; simp at h
  | true =>
    cases hA : inB md 2 6 with
    | false => rw [hG, hA] at h; simp at h
    | true => exact ⟨B_iff.1 hG, inB_iff.1 hA⟩
set_option maxRecDepth 100000 in
theorem spCountFlows_any (n : Int) (b o m c : Nat) (es : List (Int × Int)) (md : Int) (w : World) (h : Eds w b o m es) (hm : m ≤ 1048576) :
    Calls Try.prog 33 #[.agg #[.int .i64 n, .slice (some ⟨b, o, none⟩) m c], .int .i64 md] w (Ret (.tuple #[.int .i64 (cfV n es md), .int .i64 (cfC n es md)]) w) := by
  have hbox := Box2.made w (.int .i64 n) (.slice (some ⟨b, o, none⟩) m c) 30
  have hbb := (by go_grown : Below w.heap.size w (w.alloc (.cells #[.int .i64 n, .slice (some ⟨b, o, none⟩) m c] 30)))
  have HSP := Lib.hid (l05Code_any n b o m c es md _ (h.alloc (.cells #[.int .i64 n, .slice (some ⟨b, o, none⟩) m c] 30)) hm)
  obtain ⟨cd, hcd⟩ : ∃ z, z = cdC n es md := ⟨_, rfl⟩
  rw [← hcd] at HSP
  by_cases h0 : cd = 0
  · obtain ⟨hG, hd1, hd2⟩ := cdC_0 (hcd.symm.trans h0)
    have HG := Lib.hid hG
    have hn2 := hG.wf.1
    have hel := h.len
    have hm30 : m ≤ 30 := by have := hG.wf.2.2.2.1; have := hG.wf.2.1; omega
    by_cases h12 : 12 < n
    · have HC : Hid (cfC n es md = 3) := by show _ = _; rw [cfC, ← hcd, if_pos h0, if_pos h12]
      have HV : Hid (cfV n es md = 0) := by show _ = _; rw [cfV, HC.out]; rfl
      have hq : (cd != 0) = false := by simp [h0]
      rw [HC.out, HV.out]
      clear hG hcd hn2 hel
      go_enter Try.func33, Try.ntmps33
      go_wp2_with fail
      refine HSP.out.mono ?_
      rintro e w1 ⟨rfl, hb1⟩
      have hB1 := hbb.thenB (by simp) hb1
      obtain ⟨s1, p1, q1⟩ := hbox.below hb1
      clear hb1 hbb hbox
      go_wp2_with fail
      go_ret2
      exact ⟨ret2 rfl rfl, hB1⟩
    · obtain ⟨N, rfl⟩ : ∃ N : Nat, n = N := ⟨n.toNat, by omega⟩
      obtain ⟨md', rfl⟩ : ∃ k : Nat, md = k := ⟨md.toNat, by omega⟩
      have HC : Hid (cfC N es md' = 0) := by show _ = _; rw [cfC, ← hcd, if_pos h0, if_neg h12]
      have HV : Hid (cfV N es md' = W64 (cntF 0 md' es m 0 (fun _ => 0))) := by show _ = _; rw [cfV, if_pos HC.out, Int.toNat_natCast, hel]
      have hq : (cd != 0) = false := by simp [h0]
      have HCT : Hid (∀ W, Eds W b o m es → Calls Try.prog 68 #[.agg #[.int .i64 N, .slice (some ⟨b, o, none⟩) m c], .int .i64 0, .int .i64 md'] W (Ret (.int .i64 (W64 (cntF 0 md' es m 0 (fun _ => 0)))) W)) := fun W hE => l05Count0_any N b o m c md' es W hE hm30 HG.out (by omega) (by omega)
      rw [HC.out, HV.out]
      clear hG hcd hn2 hel
      go_enter Try.func33, Try.ntmps33
      go_wp2_with fail
      refine HSP.out.mono ?_
      rintro e w1 ⟨rfl, hb1⟩
      have hB1 := hbb.thenB (by simp) hb1
      obtain ⟨s1, p1, q1⟩ := hbox.below hb1
      have E1 := h.below hB1
      clear hb1 hbb hbox
      go_wp2_with fail
      refine (HCT.out _ E1).mono ?_
      rintro e w2 ⟨rfl, hb2⟩
      have hB2 := hB1.andB hb2
      go_wp2_with fail
      go_ret2
      exact ⟨ret2 rfl rfl, hB2⟩
  · have HC : Hid (cfC n es md = cd) := by show _ = _; rw [cfC, ← hcd, if_neg h0]
    have HV : Hid (cfV n es md = 0) := by show _ = _; rw [cfV, HC.out, if_neg h0]
    have hq : (cd != 0) = true := by simpa using h0
    rw [HC.out, HV.out]
    clear hcd
    go_enter Try.func33, Try.ntmps33
    go_wp2_with fail
    refine HSP.out.mono ?_
    rintro e w1 ⟨rfl, hb1⟩
    have hB1 := hbb.thenB (by simp) hb1
    obtain ⟨s1, p1, q1⟩ := hbox.below hb1
    clear hb1 hbb hbox
    go_wp2_with fail
    go_ret2
    exact ⟨ret2 rfl rfl, hB1⟩
end Go.Proofs.Ytppfplhbfgjjhaa
namespace Go.Proofs.Ytppfplhbfgjjhaa
open Go.RowKit Go.Sort
/-! ### All flows of a part -/
set_option maxRecDepth 100000 in
set_option maxHeartbeats 4000000 in
theorem flows0_any {T : Nat → Prop} {bq b o m c N : Nat} {A : Option Addr} {cA : Nat} {L : List Nat} {dn : FuncId} {dc : Array Value} {V : Option Addr} {nv cV md : Nat} {es : List (Int × Int)} {P : Nat → World → Prop} (r : Bool) (s : Nat) (w : World)
    (E : Eds w b o m es) (hG : IsG N es) (hm : m ≤ 30) (I : SrcI w A L.length (fun j => ((L.getD j 0 : Nat) : Int))) (IV : SrcI w V nv (fun j => ((j + 1 : Nat) : Int))) (hL : ∀ d, d ∈ L → d < m) (hLl : L.length ≤ 30) (h2 : 2 ≤ md) (h6 : md ≤ 6) (hnv : nv + 1 = md)
    (hA : ∀ g, blkOf A = some g → g < w.heap.size ∧ ¬ T g) (hV : ∀ g, blkOf V = some g → g < w.heap.size ∧ ¬ T g) (hb : ¬ T b) (hcq : w.cell? ⟨bq, 0, none⟩ = some (.int .i64 md)) (hqT : ¬ T bq) (hT : ∀ k, T k → k < w.heap.size)
    (hen : Enters dn) (p : P s w) (hst : ∀ s w1 w2, P s w1 → Kept (fun k => w.heap.size ≤ k) w1 w2 → P s w2)
    (hdo : ∀ w9 gl gs gm, Below w.heap.size w w9 → w.heap.size ≤ gl → DoF r P w9 T gl gs gm m Try.prog dn dc) :
    Calls Try.prog 124 #[.agg #[.int .i64 N, .slice (some ⟨b, o, none⟩) m c], .agg #[.slice V nv cV, .func (.func 127) #[] #[.pointer (some ⟨bq, 0, none⟩)], .func (.func 128) #[] #[]], .slice A L.length cA, .func (.func dn) #[] dc] w
      (fun e w' => e = .returned (.bool (r && decide (0 < cntI 0 md es L (fun _ => 0) (fun _ => 3)))) ∧ (∃ s', (r = false → s' = s + cntI 0 md es L (fun _ => 0) (fun _ => 3)) ∧ P s' w') ∧ Kept T w w') := by
  have hmN : 2 * m = 3 * N := by have h1 := hG.wf.2.2.1; have h2 := hG.wf.2.2.2.1; have := E.len; omega
  have hN1 := hG.wf.1
  have hN20 := hG.wf.2.1
  have HWF := Lib.hid hG.wf
  have hmk1 := run_make_row' (P := Try.prog) 36 2 (.int .i64 0) 8 Try.underlying36 inf2 rfl .i64 .i64 m (by omega) (by omega)
  have hmk2 := run_make_row' (P := Try.prog) 36 2 (.int .i64 0) 8 Try.underlying36 inf2 rfl .i64 .i64 N (by omega) (by omega)
  go_enter Try.func124, Try.ntmps124
  go_wp2_with fail
  obtain ⟨w5, hw5⟩ : ∃ w5, w5 = ((((((w.alloc (.cells #[.int .i64 N, .slice (some ⟨b, o, none⟩) m c] 30)).alloc (.cells #[.slice V nv cV, .func (.func 127) #[] #[.pointer (some ⟨bq, 0, none⟩)], .func (.func 128) #[] #[]] 82)).alloc (.cells #[.slice A L.length cA] 36)).alloc (.cells #[.func (.func dn) #[] dc] 73)).alloc (.cells (madeCells #[.int .i64 0] m) 2)).alloc (.cells #[.slice (some ⟨w.heap.size + 1 + 1 + 1 + 1, 0, none⟩) m m] 36)) := ⟨_, rfl⟩
  rw [← hw5]
  have hz5 : w5.heap.size = w.heap.size + 1 + 1 + 1 + 1 + 1 + 1 := by rw [hw5]; simp
  have hB5 : Below w.heap.size w w5 := by
    rw [hw5]; exact ((((((Below.refl _ _).alloc (Nat.le_refl _) _).alloc (by simp) _).alloc (by simp; omega) _).alloc (by simp; omega) _).alloc (by simp; omega) _).alloc (by simp; omega) _
  have p5 : w5.cell? ⟨w.heap.size, 0, none⟩ = some (.int .i64 N) := by rw [hw5]; simp [go_sem]
  have q5 : w5.cell? ⟨w.heap.size, 1, none⟩ = some (.slice (some ⟨b, o, none⟩) m c) := by rw [hw5]; simp [go_sem]
  have r50 : w5.cell? ⟨w.heap.size + 1, 0, none⟩ = some (.slice V nv cV) := by rw [hw5]; simp [go_sem]
  have r51 : w5.cell? ⟨w.heap.size + 1, 1, none⟩ = some (.func (.func 127) #[] #[.pointer (some ⟨bq, 0, none⟩)]) := by rw [hw5]; simp [go_sem]
  have r52 : w5.cell? ⟨w.heap.size + 1, 2, none⟩ = some (.func (.func 128) #[] #[]) := by rw [hw5]; simp [go_sem]
  have e5 : w5.cell? ⟨w.heap.size + 1 + 1, 0, none⟩ = some (.slice A L.length cA) := by rw [hw5]; simp [go_sem]
  have d5 : w5.cell? ⟨w.heap.size + 1 + 1 + 1, 0, none⟩ = some (.func (.func dn) #[] dc) := by rw [hw5]; simp [go_sem]
  have l5 : w5.cell? ⟨w.heap.size + 1 + 1 + 1 + 1 + 1, 0, none⟩ = some (.slice (some ⟨w.heap.size + 1 + 1 + 1 + 1, 0, none⟩) m m) := by rw [hw5]; simp [go_sem]
  have R5 : w5.rowIs (w.heap.size + 1 + 1 + 1 + 1) 2 m (fun _ => .int .i64 0) := by
    rw [hw5]
    have h1 := World.rowIs_made ((((w.alloc (.cells #[.int .i64 N, .slice (some ⟨b, o, none⟩) m c] 30)).alloc (.cells #[.slice V nv cV, .func (.func 127) #[] #[.pointer (some ⟨bq, 0, none⟩)], .func (.func 128) #[] #[]] 82)).alloc (.cells #[.slice A L.length cA] 36)).alloc (.cells #[.func (.func dn) #[] dc] 73)) (.int .i64 0) m 2
    have h2 := (Kept.of (S := fun _ => False) ((Below.refl _ _).alloc (Nat.le_refl _) (.cells #[.slice (some ⟨w.heap.size + 1 + 1 + 1 + 1, 0, none⟩) m m] 36))).row h1 id
    simpa using h2
  have s5 : w.heap.size < w5.heap.size := by omega
  have HZ5 := Lib.hid hz5
  clear hw5 hmk1 hz5
  refine wp_region_thenQ 9 (fun i9 v W => match i9 with
    | 0 => v = .pointer (some ⟨w.heap.size, 0, none⟩)
    | 1 => v = .int .i64 N
    | 2 => NewI w5.heap.size (N) (fun _ => 0) v W
    | 3 => NewS (3) v W
    | 4 => v = .pointer (some ⟨w.heap.size, 0, none⟩)
    | 5 => v = .int .i64 N
    | 6 => NewI w5.heap.size (N) (fun _ => 3) v W
    | 7 => NewP w5.heap.size v W
    | _ => NewP w5.heap.size v W)
    (fun i => match i with
    | _ => none)
    (fun k W W' => Below W.heap.size W W')  (fun W => Below w5.heap.size w5 W) (fun i v W => i = 7 ∨ i = 8 → FrsP v W) (fun i j v u => i = 7 ∨ i = 8 → j = 7 ∨ j = 8 → v ≠ u) (by kernel_rfl) (by kernel_rfl) ?_ ?_ ?_ ?_ ?_ ?_
  · exact (Below.refl _ _).drew
  · intro i k v W W' hne hd hC hf hE
    match i, hf with
    | 0, hf => exact hf
    | 1, hf => exact hf
    | 2, hf => exact NewI.below hf hE
    | 3, hf => exact NewS.below hf hE
    | 4, hf => exact hf
    | 5, hf => exact hf
    | 6, hf => exact NewI.below hf hE
    | 7, hf => exact NewP.below hf hE
    | _ + 8, hf => exact NewP.below hf hE
  · intro k W W' hC hE
    exact Below.andB hC hE
  · simp only [List.take_succ_cons, List.take_zero]
    refine ⟨?_, ?_, ?_, ?_, ?_, ?_, ?_, ?_, ?_, trivial⟩
    · intro a W hC hs hd
      have hW : Below w5.heap.size w5 W := hC
      have e4 : a.tmps[4]?.getD undef = .pointer (some ⟨w.heap.size, 0, none⟩) := hs 4 (by kernel_rfl)
      refine growsG_none (E := fun W W' => Below W.heap.size W W') rfl ?_
      have k0 := (hW.cell (p := ⟨w.heap.size, 0, none⟩) (s5)).trans (p5)
      clear hs hd
      unfold GrowsE
      go_simp
      exact Below.refl _ _
    · intro a W hC hs hd
      have hW : Below w5.heap.size w5 W := hC
      have e17 : (a.tmps[17]?.getD undef) = .pointer (some ⟨w.heap.size, 0, none⟩) := hd 0 17 (by kernel_rfl) (by kernel_rfl) (by kernel_rfl)
      refine growsG_none (E := fun W W' => Below W.heap.size W W') rfl ?_
      have k0 := (hW.cell (p := ⟨w.heap.size, 0, none⟩) (s5)).trans (p5)
      clear hs hd
      unfold GrowsE
      go_simp
      exact Below.refl _ _
    · intro a W hC hs hd
      have hW : Below w5.heap.size w5 W := hC
      have e18 : (a.tmps[18]?.getD undef) = .int .i64 N := hd 1 18 (by kernel_rfl) (by kernel_rfl) (by kernel_rfl)
      refine growsG_none (E := fun W W' => Below W.heap.size W W') rfl ?_
      clear hs hd
      unfold GrowsE
      go_simp
      exact ⟨(Below.refl _ _).alloc (Nat.le_refl _) _, _, rfl, hW.size, World.rowIs_made _ _ _ _⟩
    · intro a W hC hs hd
      have hW : Below w5.heap.size w5 W := hC
      refine growsG_none (E := fun W W' => Below W.heap.size W W') rfl ?_
      clear hs hd
      unfold GrowsE
      go_simp
      exact ⟨(Below.refl _ _).alloc (Nat.le_refl _) _, _, rfl, ints1 _ _ _⟩
    · intro a W hC hs hd
      have hW : Below w5.heap.size w5 W := hC
      have e4 : a.tmps[4]?.getD undef = .pointer (some ⟨w.heap.size, 0, none⟩) := hs 4 (by kernel_rfl)
      refine growsG_none (E := fun W W' => Below W.heap.size W W') rfl ?_
      have k0 := (hW.cell (p := ⟨w.heap.size, 0, none⟩) (s5)).trans (p5)
      clear hs hd
      unfold GrowsE
      go_simp
      exact Below.refl _ _
    · intro a W hC hs hd
      have hW : Below w5.heap.size w5 W := hC
      have e21 : (a.tmps[21]?.getD undef) = .pointer (some ⟨w.heap.size, 0, none⟩) := hd 4 21 (by kernel_rfl) (by kernel_rfl) (by kernel_rfl)
      refine growsG_none (E := fun W W' => Below W.heap.size W W') rfl ?_
      have k0 := (hW.cell (p := ⟨w.heap.size, 0, none⟩) (s5)).trans (p5)
      clear hs hd
      unfold GrowsE
      go_simp
      exact Below.refl _ _
    · intro a W hC hs hd
      have hW : Below w5.heap.size w5 W := hC
      have e20 : NewS (3) (a.tmps[20]?.getD undef) W := hd 3 20 (by kernel_rfl) (by kernel_rfl) (by kernel_rfl)
      obtain ⟨g20, e20, I20⟩ := e20
      have e22 : (a.tmps[22]?.getD undef) = .int .i64 N := hd 5 22 (by kernel_rfl) (by kernel_rfl) (by kernel_rfl)
      refine growsG_none (E := fun W W' => Below W.heap.size W W') rfl ?_
      clear hs hd
      unfold GrowsE
      go_simp
      refine ⟨Below.refl _ _, (repeat_any N 3 g20 0 1 W I20 (by omega) (by omega)).mono ?_⟩
      rintro e w6 ⟨g6, rfl, hg6, R6, hb6⟩
      exact ⟨_, rfl, hb6, g6, rfl, Nat.le_trans (hW.size) hg6, R6⟩
    · intro a W hC hs hd
      have hW : Below w5.heap.size w5 W := hC
      refine growsG_none (E := fun W W' => Below W.heap.size W W') rfl ?_
      clear hs hd
      unfold GrowsE
      go_simp
      exact ⟨(Below.refl _ _).alloc (Nat.le_refl _) _, ⟨_, rfl, hW.size, by simp, by simp [go_sem], by simp [go_sem]⟩, ⟨_, rfl, Nat.le_refl _⟩⟩
    · intro a W hC hs hd
      have hW : Below w5.heap.size w5 W := hC
      refine growsG_none (E := fun W W' => Below W.heap.size W W') rfl ?_
      clear hs hd
      unfold GrowsE
      go_simp
      exact ⟨(Below.refl _ _).alloc (Nat.le_refl _) _, ⟨_, rfl, hW.size, by simp, by simp [go_sem], by simp [go_sem]⟩, ⟨_, rfl, Nat.le_refl _⟩⟩
  · intro i j v u W hij hF hN
    have key : j = 7 ∨ j = 8 → ∃ p, u = .pointer (some ⟨p, 0, none⟩) ∧ p < W.heap.size := fun hj => by
      rcases hj with rfl | rfl
      · obtain ⟨p, e, _, h, _⟩ := hF; exact ⟨p, e, h⟩
      · obtain ⟨p, e, _, h, _⟩ := hF; exact ⟨p, e, h⟩
    have key2 : (i = 7 ∨ i = 8) → (j = 7 ∨ j = 8) → v ≠ u := fun hi hj he => by
      obtain ⟨p, e, h⟩ := hN hi
      obtain ⟨p', e', h'⟩ := key hj
      rw [e, e'] at he
      cases he
      omega
    exact ⟨fun hi hj => key2 hi hj, fun hj hi he => key2 hi hj he.symm⟩
  intro vs W hW hf hp2
  have hAB : vs 10 ≠ vs 11 := hp2 7 8 10 11 (by decide) (by decide) (by decide) rfl rfl (by kernel_rfl) (by kernel_rfl) (.inl rfl) (.inr rfl)
  clear hp2
  have f17 : (vs 17) = .pointer (some ⟨w.heap.size, 0, none⟩) := hf 0 17 (by decide) (by kernel_rfl) (fun _ hk => by cases hk)
  have f18 : (vs 18) = .int .i64 N := hf 1 18 (by decide) (by kernel_rfl) (fun _ hk => by cases hk)
  have f19 : NewI w5.heap.size (N) (fun _ => 0) (vs 19) W := hf 2 19 (by decide) (by kernel_rfl) (fun _ hk => by cases hk)
  obtain ⟨g19, f19, hg19, R19⟩ := f19
  have f20 : NewS (3) (vs 20) W := hf 3 20 (by decide) (by kernel_rfl) (fun _ hk => by cases hk)
  have f21 : (vs 21) = .pointer (some ⟨w.heap.size, 0, none⟩) := hf 4 21 (by decide) (by kernel_rfl) (fun _ hk => by cases hk)
  have f22 : (vs 22) = .int .i64 N := hf 5 22 (by decide) (by kernel_rfl) (fun _ hk => by cases hk)
  have f23 : NewI w5.heap.size (N) (fun _ => 3) (vs 23) W := hf 6 23 (by decide) (by kernel_rfl) (fun _ hk => by cases hk)
  obtain ⟨g23, f23, hg23, R23⟩ := f23
  have f10 : NewP w5.heap.size (vs 10) W := hf 7 10 (by decide) (by kernel_rfl) (fun _ hk => by cases hk)
  obtain ⟨pA, f10, hA1, hA2, hA3, hA4⟩ := f10
  have f11 : NewP w5.heap.size (vs 11) W := hf 8 11 (by decide) (by kernel_rfl) (fun _ hk => by cases hk)
  obtain ⟨pB, f11, hB1, hB2, hB3, hB4⟩ := f11
  rw [f10, f11] at hAB
  have hAB : pA ≠ pB := fun h => hAB (by rw [h])
  simp only [dsts, List.take_succ_cons, List.take_zero, List.drop_succ_cons, List.drop_zero, List.filterMap_cons, List.filterMap_nil, List.foldl_cons, List.foldl_nil, Act.put, List.setIfInBounds_toArray, List.set_cons_succ, List.set_cons_zero, f17, f18, f19, f20, f21, f22, f23, f10, f11]
  clear hf
  have hW : Below w5.heap.size w5 W := hW
  have hz5 := HZ5.out
  have HAB := Lib.hid hAB
  have h19A : g19 ≠ pA := fun hh => by
    have h1 := R19.cell (show 0 < N by omega)
    rw [hh, hA3] at h1; cases h1
  have h19B : g19 ≠ pB := fun hh => by
    have h1 := R19.cell (show 0 < N by omega)
    rw [hh, hB3] at h1; cases h1
  have h23A : g23 ≠ pA := fun hh => by
    have h1 := R23.cell (show 0 < N by omega)
    rw [hh, hA3] at h1; cases h1
  have h23B : g23 ≠ pB := fun hh => by
    have h1 := R23.cell (show 0 < N by omega)
    rw [hh, hB3] at h1; cases h1
  have h1923 : g19 ≠ g23 := fun hh => by
    have h1 := R23.cell (show 0 < N by omega)
    rw [← hh, R19.cell (show 0 < N by omega)] at h1; cases h1
  obtain ⟨W1, hW1⟩ : ∃ W1, W1 = (W.setCell ⟨pA, 0, none⟩ (.slice (some ⟨g19, 0, none⟩) N N)).setCell ⟨pB, 0, none⟩ (.slice (some ⟨g23, 0, none⟩) N N) := ⟨_, rfl⟩
  have hzW1 : W1.heap.size = W.heap.size := by rw [hW1]; simp
  obtain ⟨W2, hW2⟩ : ∃ W2, W2 = W1.alloc (.cells #[.func (.func 160) #[] #[.pointer (some ⟨w.heap.size + 1 + 1, 0, none⟩), .pointer (some ⟨w.heap.size + 1 + 1 + 1, 0, none⟩), .pointer (some ⟨w.heap.size + 1 + 1 + 1 + 1 + 1, 0, none⟩), .pointer (some ⟨w.heap.size, 0, none⟩), .pointer (some ⟨pA, 0, none⟩), .pointer (some ⟨pB, 0, none⟩), .pointer (some ⟨w.heap.size + 1, 0, none⟩), .pointer (some ⟨W.heap.size, 0, none⟩)]] 124) := ⟨_, rfl⟩
  have B1 : Below w5.heap.size w5 W1 := by rw [hW1]; exact (hW.setCell (by exact hA1) _).setCell (by exact hB1) _
  have B2 : Below w5.heap.size w5 W2 := by rw [hW2]; exact B1.alloc B1.size _
  have B3 : Below w.heap.size w W2 := hB5.thenB (by omega) B2
  have cA1 : W1.cell? ⟨pA, 0, none⟩ = some (.slice (some ⟨g19, 0, none⟩) N N) := by
    rw [hW1, World.cell?_setCell_other _ _ _ _ (fun hh => HAB.out (by have h1 := congrArg Addr.block hh; first | exact h1 | exact h1.symm))]
    exact World.cell?_setCell_same _ _ _ hA3
  have cB0 : (W.setCell ⟨pA, 0, none⟩ (.slice (some ⟨g19, 0, none⟩) N N)).cell? ⟨pB, 0, none⟩ = some (.slice none 0 0) := by
    rw [World.cell?_setCell_other _ _ _ _ (fun hh => HAB.out (by have h1 := congrArg Addr.block hh; first | exact h1 | exact h1.symm))]; exact hB3
  have cB1 : W1.cell? ⟨pB, 0, none⟩ = some (.slice (some ⟨g23, 0, none⟩) N N) := by
    rw [hW1]; exact World.cell?_setCell_same _ _ _ cB0
  have K1 : Below W1.heap.size W1 W2 := by rw [hW2]; exact (Below.refl _ _).alloc (Nat.le_refl _) _
  have KS : Kept (fun k => k = pA ∨ k = pB) W W2 := by
    have h1 : Kept (fun k => k = pA ∨ k = pB) W W1 := by
      rw [hW1]; exact Kept.setCell (S := fun k => k = pA ∨ k = pB) (Kept.setCell (S := fun k => k = pA ∨ k = pB) (Kept.refl _ _) (a := ⟨pA, 0, none⟩) (.inl rfl) _) (a := ⟨pB, 0, none⟩) (.inr rfl) _
    exact h1.thenB K1
  have lt5 : ∀ k, k < w5.heap.size → k < W2.heap.size := fun k hk => Nat.lt_of_lt_of_le hk B2.size
  have nM : ∀ k, w.heap.size ≤ k → k ≠ w.heap.size + 1 + 1 + 1 + 1 → k ≠ g19 → k ≠ g23 → ¬ MuF T (w.heap.size + 1 + 1 + 1 + 1) g19 g23 k := fun k h1 h2 h3 h4 h => by
    rcases h with h | h | h | h
    · exact h2 h
    · exact h3 h
    · exact h4 h
    · have := hT k h; omega
  have nM2 : ∀ k, k < w.heap.size → ¬ T k → ¬ MuF T (w.heap.size + 1 + 1 + 1 + 1) g19 g23 k := fun k h1 h2 h => by
    rcases h with h | h | h | h
    · omega
    · omega
    · omega
    · exact h2 h
  have cFv : W2.cell? ⟨W.heap.size, 0, none⟩ = some (.func (.func 160) #[] #[.pointer (some ⟨w.heap.size + 1 + 1, 0, none⟩), .pointer (some ⟨w.heap.size + 1 + 1 + 1, 0, none⟩), .pointer (some ⟨w.heap.size + 1 + 1 + 1 + 1 + 1, 0, none⟩), .pointer (some ⟨w.heap.size, 0, none⟩), .pointer (some ⟨pA, 0, none⟩), .pointer (some ⟨pB, 0, none⟩), .pointer (some ⟨w.heap.size + 1, 0, none⟩), .pointer (some ⟨W.heap.size, 0, none⟩)]) := by rw [hW2, ← hzW1]; simp [go_sem]
  have hz2 : W2.heap.size = W.heap.size + 1 := by rw [hW2]; simp [hzW1]
  have hzW := hW.size
  have hblk := E.blk
  have g19lt := R19.lt
  have g23lt := R23.lt
  have fs : FS W2 T (w.heap.size + 1 + 1) (w.heap.size + 1 + 1 + 1) (w.heap.size + 1 + 1 + 1 + 1 + 1) w.heap.size pA pB (w.heap.size + 1) W.heap.size (w.heap.size + 1 + 1 + 1 + 1) g19 g23 b o m c N A cA L (.func (.func dn) #[] dc) (.func (.func 127) #[] #[.pointer (some ⟨bq, 0, none⟩)]) (.func (.func 128) #[] #[]) V nv cV N es := {
    lt := ⟨by omega, by omega, by omega, by omega, by omega, by omega, by omega, by omega⟩
    cE := (B2.cell (p := ⟨w.heap.size + 1 + 1, 0, none⟩) (by simp; omega)).trans e5
    cD := (B2.cell (p := ⟨w.heap.size + 1 + 1 + 1, 0, none⟩) (by simp; omega)).trans d5
    cL := (B2.cell (p := ⟨w.heap.size + 1 + 1 + 1 + 1 + 1, 0, none⟩) (by simp; omega)).trans l5
    g0 := (B2.cell (p := ⟨w.heap.size, 0, none⟩) (by simp; omega)).trans p5
    g1 := (B2.cell (p := ⟨w.heap.size, 1, none⟩) (by simp; omega)).trans q5
    cS := (K1.cell (p := ⟨pA, 0, none⟩) (by simp; omega)).trans cA1
    cMo := (K1.cell (p := ⟨pB, 0, none⟩) (by simp; omega)).trans cB1
    r0 := (B2.cell (p := ⟨w.heap.size + 1, 0, none⟩) (by simp; omega)).trans r50
    r1 := (B2.cell (p := ⟨w.heap.size + 1, 1, none⟩) (by simp; omega)).trans r51
    r2 := (B2.cell (p := ⟨w.heap.size + 1, 2, none⟩) (by simp; omega)).trans r52
    cF := cFv
    E := E.below B3
    I := I.below B3
    IV := IV.below B3
    hL := hL
    n := ⟨nM _ (by omega) (by omega) (by omega) (by omega), nM _ (by omega) (by omega) (by omega) (by omega), nM _ (by omega) (by omega) (by omega) (by omega), nM _ (by omega) (by omega) (by omega) (by omega), nM _ (by omega) (by omega) (by omega) (by omega), nM _ (by omega) (by omega) (by omega) (by omega), nM _ (by omega) (by omega) (by omega) (by omega), nM _ (by omega) (by omega) (by omega) (by omega)⟩
    nb := nM2 _ hblk hb
    nA := fun g hg => nM2 _ (hA g hg).1 (hA g hg).2
    nV := fun g hg => nM2 _ (hV g hg).1 (hV g hg).2
    ne := ⟨by omega, by omega, h1923⟩
    nT := ⟨fun h => by have := hT _ h; omega, fun h => by have := hT _ h; omega, fun h => by have := hT _ h; omega⟩ }
  have hbq := World.block_lt_of_cell? w ⟨bq, 0, none⟩ hcq
  have fw : FW W2 T (w.heap.size + 1 + 1 + 1 + 1) g19 g23 N m P (fun _ => 0) (fun _ => 0) (fun _ => 3) s W2 := {
    k := Kept.refl _ _
    rl := (Kept.of (S := fun _ => False) B2).row R5 id
    rs := KS.row R19 (fun h => h.elim h19A h19B)
    rm := KS.row R23 (fun h => h.elim h23A h23B)
    p := hst _ _ _ p (Kept.ofB B3 (fun k hk _ => hk))
    st := fun s w1 w2 p k => hst s w1 w2 p (k.wide (fun k hk => by rcases hk with h | h | h <;> omega)) }
  have HC := Lib.hid (flows10_any r fs (hdo W2 _ _ _ B3 (by omega)) hen hm HWF.out hLl h2 h6 hnv ((B3.cell (p := ⟨bq, 0, none⟩) hbq).trans hcq) (Nat.lt_of_lt_of_le hbq B3.size) (nM2 _ hbq hqT) (L.length + 1) 0 s (fun _ => 0) (fun _ => 0) (fun _ => 3) W2 (by omega) (Nat.zero_le _) fw (fun v _ => by constructor <;> omega) (fun v _ => by simp))
  rw [List.drop_zero] at HC
  have HK : Hid (∀ w', Kept (MuF T (w.heap.size + 1 + 1 + 1 + 1) g19 g23) W2 w' → Kept T w w') := fun w' k =>
    ⟨k.os.trans B3.os, k.tape.trans B3.tape, k.output.trans B3.output, Nat.le_trans B3.size k.size, fun i hi ht => (k.block i (Nat.lt_of_lt_of_le hi B3.size) (nM2 i hi ht)).trans (B3.block i hi)⟩
  have he1 := enFl
  unfold Enters at he1
  have HZ1 : Hid (W2 = W1.alloc _ ∧ W1 = _) := ⟨hW2, hW1⟩
  clear fs fw HZ5 hz5 hW1 hW2 B1 B2 B3 cA1 cB1 K1 KS lt5 nM nM2 cFv hz2 hzW1 hB5 e5 d5 l5 R5 r50 r51 r52 p5 q5 R19 R23 hcq hdo
  go_wp2_with fail
  rw [← HZ1.out.2, ← HZ1.out.1]
  refine HC.out.mono ?_
  rintro e w9 ⟨rfl, F', s', hs', fw'⟩
  have hk := HK.out _ fw'.k
  have hp := fw'.p
  have HS' := Lib.hid hs'
  clear fw' HC HK hs'
  go_wp2_with fail
  go_ret
  exact ⟨rfl, ⟨s', HS'.out, hp⟩, hk⟩
end Go.Proofs.Ytppfplhbfgjjhaa
namespace Go.Proofs.Ytppfplhbfgjjhaa
open Go.RowKit Go.Sort
set_option maxRecDepth 100000 in
set_option maxHeartbeats 2000000 in
theorem countFlows0_any {V : Option Addr} {nv cV md bq : Nat} (N b o m c : Nat) (es : List (Int × Int)) (w : World) (h : Eds w b o m es) (hm : m ≤ 1048576) (hG : IsG N es)
    (IV : SrcI w V nv (fun j => ((j + 1 : Nat) : Int))) (hV : ∀ g, blkOf V = some g → g < w.heap.size) (h2 : 2 ≤ md) (h6 : md ≤ 6) (hnv : nv + 1 = md) (hcq : w.cell? ⟨bq, 0, none⟩ = some (.int .i64 md)) :
    Calls Try.prog 70 #[.agg #[.int .i64 N, .slice (some ⟨b, o, none⟩) m c], .agg #[.slice V nv cV, .func (.func 127) #[] #[.pointer (some ⟨bq, 0, none⟩)], .func (.func 128) #[] #[]]] w (Ret (.tuple #[.int .i64 (if 12 < (N : Int) then 0 else W64 (frN 0 md es N)), .int .i64 (if 12 < (N : Int) then 3 else 0)]) w) := by
  have hbox := Box2.made w (.int .i64 N) (.slice (some ⟨b, o, none⟩) m c) 30
  obtain ⟨w1, hw1⟩ : ∃ w1, w1 = (w.alloc (.cells #[.int .i64 N, .slice (some ⟨b, o, none⟩) m c] 30)).alloc (.cells #[.slice V nv cV, .func (.func 127) #[] #[.pointer (some ⟨bq, 0, none⟩)], .func (.func 128) #[] #[]] 82) := ⟨_, rfl⟩
  have hbb : Below w.heap.size w w1 := by rw [hw1]; exact ((Below.refl _ _).alloc (Nat.le_refl _) _).alloc (by simp) _
  have s1 : w.heap.size + 1 < w1.heap.size := by rw [hw1]; simp
  have p1 : w1.cell? ⟨w.heap.size, 0, none⟩ = some (.int .i64 N) := by rw [hw1]; simp [go_sem]
  have q1 : w1.cell? ⟨w.heap.size, 1, none⟩ = some (.slice (some ⟨b, o, none⟩) m c) := by rw [hw1]; simp [go_sem]
  have ra1 : w1.cell? ⟨w.heap.size + 1, 0, none⟩ = some (.slice V nv cV) := by rw [hw1]; simp [go_sem]
  have rb1 : w1.cell? ⟨w.heap.size + 1, 1, none⟩ = some (.func (.func 127) #[] #[.pointer (some ⟨bq, 0, none⟩)]) := by rw [hw1]; simp [go_sem]
  have rc1 : w1.cell? ⟨w.heap.size + 1, 2, none⟩ = some (.func (.func 128) #[] #[]) := by rw [hw1]; simp [go_sem]
  by_cases h12 : 12 < (N : Int)
  · have HR : Hid (∀ (X : Int), (.tuple #[.int .i64 (if 12 < (N : Int) then 0 else X), .int .i64 (if 12 < (N : Int) then 3 else 0)] : Value) = .tuple #[.int .i64 0, .int .i64 3]) := fun X => by rw [if_pos h12, if_pos h12]
    rw [HR.out]
    go_enter Try.func70, Try.ntmps70
    go_wp2_with fail
    rw [← hw1]
    go_wp2_with fail
    go_ret2
    exact ⟨ret2 rfl rfl, hbb⟩
  have HR : Hid (∀ (X : Int), (.tuple #[.int .i64 (if 12 < (N : Int) then 0 else X), .int .i64 (if 12 < (N : Int) then 3 else 0)] : Value) = .tuple #[.int .i64 X, .int .i64 0]) := fun X => by rw [if_neg h12, if_neg h12]
  rw [HR.out]
  have hl := Lib.hid h.len
  have HG := Lib.hid hG
  have hn2 := hG.wf.1
  have hn20 := hG.wf.2.1
  have hm30 : m ≤ 30 := by have := hG.wf.2.2.2.1; have := hl.out; omega
  obtain ⟨rows, hrw⟩ : ∃ rows, rows = sdTo es noSk N N := ⟨_, rfl⟩
  have hlr20 : rows.length ≤ 20 := by rw [hrw, sdTo_len]; have := ldCnt_le es noSk N; omega
  have HRL : Hid (prJ (fun j => cntI 0 md es (inTo es (ra rows j) m) (fun _ => 0) (fun _ => 3)) rows.length = frN 0 md es N) := by
    show _ = _
    rw [← fr_prod HG.out.wf, hrw, ← hl.out, show (sdTo es noSk N N).length = (LV es N).length by rw [sd_LV]; simp]
    rfl
  have HPE := Lib.hid (fun W hE => partEdges_any N b o m c es W hE hm hG.wf)
  rw [Int.toNat_natCast, ← hrw] at HPE
  obtain ⟨Ls, hLs⟩ : ∃ Ls : Nat → List Nat, Ls = fun j => inTo es (ra rows j) m := ⟨_, rfl⟩
  have HLS := Lib.hid (fun j => congrFun hLs j)
  obtain ⟨gX, hgX⟩ : ∃ gX : Nat → Nat, gX = fun j => cntI 0 md es (inTo es (ra rows j) m) (fun _ => 0) (fun _ => 3) := ⟨_, rfl⟩
  have HGX : Hid (∀ j, gX j = cntI 0 md es (Ls j) (fun _ => 0) (fun _ => 3)) := fun j => by rw [hgX, hLs]
  rw [← hgX] at HRL
  have HPA := Lib.hid (peR_at es rows m rows.length)
  have HPL := Lib.hid (peR_len es rows m rows.length)
  have he1 := enF3
  unfold Enters at he1
  have H2 := Lib.hid (And.intro h2 h6)
  have HNV := Lib.hid hnv
  clear hG hrw hLs hgX h2 h6 hnv
  have h10 : W64 1 = 1 := rfl
  have hz0 := hbb.size
  go_enter Try.func70, Try.ntmps70
  go_wp2_with fail
  rw [← hw1]
  go_wp2_with fail
  clear hw1 hbox
  refine (HPE.out w1 (h.below hbb)).mono ?_
  rintro e w3 ⟨A, c3, rfl, O, hb3⟩
  rw [HPL.out] at O ⊢
  have hB3 := hbb.andB hb3
  have p3 := (hb3.cell (p := ⟨w.heap.size, 0, none⟩) (by simp; omega)).trans p1
  have q3 := (hb3.cell (p := ⟨w.heap.size, 1, none⟩) (by simp; omega)).trans q1
  have ra3 := (hb3.cell (p := ⟨w.heap.size + 1, 0, none⟩) s1).trans ra1
  have rb3 := (hb3.cell (p := ⟨w.heap.size + 1, 1, none⟩) s1).trans rb1
  have rc3 := (hb3.cell (p := ⟨w.heap.size + 1, 2, none⟩) s1).trans rc1
  have s3 := Nat.lt_of_lt_of_le s1 hb3.size
  have E3 := h.below hB3
  have IV3 := IV.below hB3
  clear hb3 p1 q1 ra1 rb1 rc1 s1
  go_wp2_with fail
  go_loopw [6, 16] (fun av kv wv => ∃ j : Nat, j ≤ rows.length ∧ kv = .int .i64 j ∧ av = .int .i64 (W64 (prJ gX j)) ∧ Below w3.heap.size w3 wv) (fun _ j _ => rows.length - (intOf j).toNat)
  case atStart => exact ⟨0, Nat.zero_le _, rfl, rfl, Below.refl _ _⟩
  case round =>
    obtain ⟨j, hj, rfl, rfl, hbr⟩ := hrel
    obtain ⟨w4, rfl⟩ : ∃ w4, w4 = wr := ⟨wr, rfl⟩
    by_cases hlt : j < rows.length
    · have O4 := O.below hbr
      obtain ⟨g, Aj, cj, rfl, hg, hg', rc, OJ⟩ := O4.at hlt
      rw [HPA.out j hlt, ← HLS.out j, natL_len] at rc OJ
      obtain ⟨L, hL⟩ : ∃ L, L = Ls j := ⟨_, rfl⟩
      rw [← hL] at rc OJ
      have hLm : Hid (∀ d, d ∈ L → d < m) := fun d hd => by
        rw [hL, HLS.out j] at hd
        exact (mem_inTo.1 hd).1
      have hLl : L.length ≤ m := by rw [hL, HLS.out j]; exact inTo_len _ _ _
      obtain ⟨X, hX⟩ : ∃ X, X = cntI 0 md es L (fun _ => 0) (fun _ => 3) := ⟨_, rfl⟩
      obtain ⟨Pj, hP⟩ : ∃ P, P = prJ gX j := ⟨_, rfl⟩
      have HPR : Hid (prJ gX (j + 1) = Pj * X) := by rw [hX, hL, hP, ← HGX.out j]; rfl
      rw [← hP]
      obtain ⟨we, hwe⟩ : ∃ we, we = w4.alloc (.cells #[.int .i64 0] 2) := ⟨_, rfl⟩
      have hbe : Below w4.heap.size w4 we := by rw [hwe]; exact (Below.refl _ _).alloc (Nat.le_refl _) _
      have hze : we.heap.size = w4.heap.size + 1 := by rw [hwe]; simp
      have hbe3 := hbr.andB hbe
      have st : St2 w4.heap.size 0 we := ⟨by rw [hwe]; simp [go_sem, W64]; decide, by rw [hwe]; simp [go_sem], by rw [hwe]; simp⟩
      have E4 := (E3.below hbe3)
      have IV4 := (IV3.below hbe3)
      have OE := OJ.below hbe
      have IE : SrcI we Aj L.length (fun i => ((L.getD i 0 : Nat) : Int)) := fun h0 => by
        obtain ⟨g', o', e', I'⟩ := OE.src h0
        exact ⟨g', o', e', ⟨I'.blk, fun i hi => by rw [I'.c i hi, natL_at]⟩⟩
      have hzb := (E3.below hbr).blk
      have hz34 := hbr.size
      have hz3 := hB3.size
      have hbq := World.block_lt_of_cell? w ⟨bq, 0, none⟩ hcq
      have HCQ := (hB3.andB hbe3 |>.cell (p := ⟨bq, 0, none⟩) hbq).trans hcq
      have hbq4 : ¬ bq = w4.heap.size := by simp at hbq; omega
      have HF0 := flows0_any (T := fun k => k = w4.heap.size) (P := St2 w4.heap.size) (bq := bq) (b := b) (o := o) (m := m) (c := c) (N := N) (A := Aj) (cA := cj) (L := L) (dn := 125) (dc := #[.pointer (some ⟨w4.heap.size, 0, none⟩)]) (V := V) (nv := nv) (cV := cV) (md := md) (es := es) false 0 we E4 HG.out hm30 IE IV4 hLm.out (by omega) H2.out.1 H2.out.2 HNV.out
        (fun g' hg2 => ⟨(OE.blk g' hg2).2, fun hh => by have := (OJ.blk g' hg2).2; omega⟩) (fun g' hg2 => ⟨by have := hV g' hg2; omega, fun hh => by have := hV g' hg2; omega⟩) (by omega) HCQ hbq4 (fun k hk => by omega) enF3 st
        (fun s w1 w2 p k => p.kept k (by omega)) (fun w9 gl gs gm hb9 hgl s F w p k rl => countF1_any p _)
      have HFL : Hid (Calls Try.prog 124 #[.agg #[.int .i64 N, .slice (some ⟨b, o, none⟩) m c], .agg #[.slice V nv cV, .func (.func 127) #[] #[.pointer (some ⟨bq, 0, none⟩)], .func (.func 128) #[] #[]], .slice Aj L.length cj, .func (.func 125) #[] #[.pointer (some ⟨w4.heap.size, 0, none⟩)]] we (fun e w' => e = .returned (.bool false) ∧ St2 w4.heap.size X w' ∧ Kept (fun k => k = w4.heap.size) we w')) := by
        refine HF0.mono ?_
        rintro e w' ⟨rfl, ⟨s', hs', st'⟩, k'⟩
        refine ⟨by rw [Bool.false_and], ?_, k'⟩
        rw [hs' rfl, Nat.zero_add, ← hX] at st'
        exact st'
      have p4 := (hbr.cell (p := ⟨w.heap.size, 0, none⟩) (by simp; omega)).trans p3
      have q4 := (hbr.cell (p := ⟨w.heap.size, 1, none⟩) (by simp; omega)).trans q3
      have ra4 := (hbr.cell (p := ⟨w.heap.size + 1, 0, none⟩) s3).trans ra3
      have rb4 := (hbr.cell (p := ⟨w.heap.size + 1, 1, none⟩) s3).trans rb3
      have rc4 := (hbr.cell (p := ⟨w.heap.size + 1, 2, none⟩) s3).trans rc3
      have s4 := Nat.lt_of_lt_of_le s3 hbr.size
      have s4b : w.heap.size < w4.heap.size := by omega
      clear hL OJ OE IE st E4 O4 hP hze IV4 hX hzb HF0
      go_wp2_with fail
      rw [← hwe]
      refine HFL.out.mono ?_
      rintro e w6 ⟨rfl, st6, K6⟩
      have c6 := st6.c
      have l6 := st6.l
      have hbF : Below w3.heap.size w3 w6 := hbe3.trans (K6.below (by have := hbe3.size; omega) (fun k hk => by omega))
      have hmul := W64_mul Pj X
      clear K6 st6 p4 q4 s4 s4b hwe hbe hbe3 ra4 rb4 rc4 HFL
      go_wp2_with fail
      go_roundw
      case rel => exact ⟨j + 1, by omega, by go_num, by rw [HPR.out], hbF⟩
      case measure => simp [intOf]; omega
    · obtain rfl : j = rows.length := by omega
      have hbF := hB3.andB hbr
      go_wp2_with fail
      go_ret2
      exact ⟨by rw [HRL.out]; exact ret2 rfl rfl, hbF⟩
end Go.Proofs.Ytppfplhbfgjjhaa
namespace Go.Proofs.Ytppfplhbfgjjhaa
open Go.RowKit Go.Sort
/-! ### CountFlows and CountPairFlows: the program -/
def RuleV (base md : Nat) (v : Value) (W : World) : Prop := ∃ bq A c, v = .agg #[.slice A (md - 1) c, .func (.func 127) #[] #[.pointer (some ⟨bq, 0, none⟩)], .func (.func 128) #[] #[]] ∧ W.cell? ⟨bq, 0, none⟩ = some (.int .i64 md) ∧ OwnL base W A (md - 1) c (upL (md - 1))
theorem RuleV.below {base md : Nat} {v : Value} {W W' : World} (h : RuleV base md v W) (hb : Below W.heap.size W W') : RuleV base md v W' := by
  obtain ⟨bq, A, c, e, k, O⟩ := h
  exact ⟨bq, A, c, e, (hb.cell (p := ⟨bq, 0, none⟩) (World.block_lt_of_cell? W ⟨bq, 0, none⟩ k)).trans k, O.below hb⟩
set_option maxRecDepth 100000 in
set_option maxHeartbeats 1600000 in
theorem imCountFlows_any (n : Int) (b o m c : Nat) (es : List (Int × Int)) (md0 : Int) (w : World) (h : Eds w b o m es) (hm : m ≤ 1048576) :
    Calls Try.prog 34 #[.agg #[.int .i64 n, .slice (some ⟨b, o, none⟩) m c], .int .i64 md0] w (Ret (.tuple #[.int .i64 (cfV n es md0), .int .i64 (cfC n es md0)]) w) := by
  have KC := cell_rg
  have hbb := (by go_grown : Below w.heap.size w (w.alloc (.cells #[.int .i64 n, .slice (some ⟨b, o, none⟩) m c] 30)))
  have hbx := Box2.made w (.int .i64 n) (.slice (some ⟨b, o, none⟩) m c) 30
  have HGC : Hid (∀ r : Bool, ∀ d os, Calls Try.prog 57 #[.agg #[.int .i64 n, .slice (some ⟨b, o, none⟩) m c], .bool r] (grow (redrawn (w.alloc (.cells #[.int .i64 n, .slice (some ⟨b, o, none⟩) m c] 30)) d) os) fun e w'' => e = .returned (.int .i64 (gcC n es r)) ∧ ∃ p : Regrown, w'' = grow (redrawn (w.alloc (.cells #[.int .i64 n, .slice (some ⟨b, o, none⟩) m c] 30)) p.d) p.os) := fun r d os =>
    Ret.rg (graphCode_any n _ _ _ _ es r _ ((h.alloc _).below (below_regrown _ _ _)) hm)
  have hgc : gcC n es (inB md0 2 6) = cdC n es md0 := rfl
  obtain ⟨A0, hA⟩ : ∃ A0, A0 = inB md0 2 6 := ⟨_, rfl⟩
  have hM := fun W => (isModulus_any md0 W)
  rw [← hA] at hM hgc
  have HM := Lib.hid hM
  obtain ⟨cd, hcd⟩ : ∃ z, z = cdC n es md0 := ⟨_, rfl⟩
  rw [← hcd] at hgc
  have HK := Lib.hid hgc
  by_cases h0 : cd = 0
  · obtain ⟨hG, hd1, hd2⟩ := cdC_0 (hcd.symm.trans h0)
    have HG := Lib.hid hG
    have hn2 := hG.wf.1
    obtain ⟨N, rfl⟩ : ∃ N : Nat, n = N := ⟨n.toNat, by omega⟩
    obtain ⟨md, rfl⟩ : ∃ k : Nat, md0 = k := ⟨md0.toNat, by omega⟩
    have h2 : 2 ≤ md := by omega
    have h6 : md ≤ 6 := by omega
    have HC : Hid (cfC N es md = xC N) := by show _ = _; rw [cfC, ← hcd, if_pos h0]; rfl
    have HV : Hid (cfV N es md = xV N (frN 0 md es N)) := by
      show _ = _
      rw [cfV, HC.out, Int.toNat_natCast, count_flows0 hG (by omega)]
      unfold xC xV frN
      by_cases h12 : 12 < (N : Int)
      · rw [if_pos h12, if_pos h12, if_neg (by decide)]
      · rw [if_neg h12, if_neg h12, if_pos rfl]
    obtain ⟨XC, hXC⟩ : ∃ z, z = xC N := ⟨_, rfl⟩
    obtain ⟨XV, hXV⟩ : ∃ z, z = xV N (frN 0 md es N) := ⟨_, rfl⟩
    have hq : (gcC N es A0 != 0) = false := by rw [hgc, h0]; rfl
    rw [HC.out, HV.out, ← hXC, ← hXV]
    have HCF : Hid (∀ W, Below w.heap.size w W → ∀ base bq AV cV, OwnL base W AV (md - 1) cV (upL (md - 1)) → W.cell? ⟨bq, 0, none⟩ = some (.int .i64 md) → Calls Try.prog 70 #[.agg #[.int .i64 N, .slice (some ⟨b, o, none⟩) m c], .agg #[.slice AV (md - 1) cV, .func (.func 127) #[] #[.pointer (some ⟨bq, 0, none⟩)], .func (.func 128) #[] #[]]] W (Ret (.tuple #[.int .i64 XV, .int .i64 XC]) W)) := fun W hW base bq AV cV OV k => by
      rw [hXV, hXC]
      exact countFlows0_any N b o m c es W (h.below hW) hm HG.out (upL_src OV) (fun g hg => (OV.blk g hg).2) h2 h6 (by omega) k
    clear hG hcd hn2 hM hgc hXC hXV hA h0
    go_enter Try.func34, Try.ntmps34
    go_wp2_with fail
    (refine wp_region_quiet_below (by kernel_rfl) (by kernel_rfl) ?_
     repeat (any_goals (go_big_quiet_step (first | (go_at_call 69; exact Is.rg (HM.out _)) | (go_at_call 57; exact HGC.out _ _ _))))
     all_goals (refine wpQuiet_nil ?_; intro wq1 hq1; replace hq1 := below_of_rg hq1))
    have hB1 := hbb.thenB (by simp) hq1
    obtain ⟨s2, p2, q2⟩ := hbx.below hq1
    have HCF : Hid (∀ W, Below wq1.heap.size wq1 W → ∀ bq AV cV, OwnL wq1.heap.size W AV (md - 1) cV (upL (md - 1)) → W.cell? ⟨bq, 0, none⟩ = some (.int .i64 md) → Calls Try.prog 70 #[.agg #[.int .i64 N, .slice (some ⟨b, o, none⟩) m c], .agg #[.slice AV (md - 1) cV, .func (.func 127) #[] #[.pointer (some ⟨bq, 0, none⟩)], .func (.func 128) #[] #[]]] W (Ret (.tuple #[.int .i64 XV, .int .i64 XC]) W)) := fun W hW => HCF.out W (hB1.andB hW) _
    obtain ⟨w2, rfl⟩ : ∃ w2, w2 = wq1 := ⟨wq1, rfl⟩
    clear hq1 hbx hbb
    go_wp2_with fail
    refine wp_region_then 7 (fun i9 v W => match i9 with
      | 0 => v = .agg #[.int .i64 N, .slice (some ⟨b, o, none⟩) m c]
      | 1 => v = .int .i64 md
      | 2 => RuleV w2.heap.size md v W
      | 3 => v = .tuple #[.int .i64 XV, .int .i64 XC]
      | 4 => v = .int .i64 XV
      | 5 => v = .int .i64 XC
      | _ => v = .int .i64 XV)
      (fun i => match i with
      | _ => none)
      (fun k W W' => Below W.heap.size W W')  (fun W => Below w2.heap.size w2 W) (by kernel_rfl) (by kernel_rfl) ?_ ?_ ?_ ?_ ?_
    · exact (Below.refl _ _).drew
    · intro i k v W W' hne hd hC hf hE
      match i, hf with
      | 0, hf => exact hf
      | 1, hf => exact hf
      | 2, hf => exact RuleV.below hf hE
      | 3, hf => exact hf
      | 4, hf => exact hf
      | 5, hf => exact hf
      | _ + 6, hf => exact hf
    · intro k W W' hC hE
      exact Below.andB hC hE
    · simp only [List.take_succ_cons, List.take_zero]
      refine ⟨?_, ?_, ?_, ?_, ?_, ?_, ?_, trivial⟩
      · intro a W hC hs hd
        have hW : Below w2.heap.size w2 W := hC
        have e2 : a.tmps[2]?.getD undef = .pointer (some ⟨w.heap.size, 0, none⟩) := hs 2 (by kernel_rfl)
        refine growsG_none (E := fun W W' => Below W.heap.size W W') rfl ?_
        have k0 := (hW.cell (p := ⟨w.heap.size, 0, none⟩) (s2)).trans (p2)
        have k1 := (hW.cell (p := ⟨w.heap.size, 1, none⟩) (s2)).trans (q2)
        clear hs hd
        unfold GrowsE
        go_simp
        exact Below.refl _ _
      · intro a W hC hs hd
        have hW : Below w2.heap.size w2 W := hC
        have e1 : a.tmps[1]?.getD undef = .int .i64 md := hs 1 (by kernel_rfl)
        refine growsG_none (E := fun W W' => Below W.heap.size W W') rfl ?_
        clear hs hd
        unfold GrowsE
        go_simp
        exact Below.refl _ _
      · intro a W hC hs hd
        have hW : Below w2.heap.size w2 W := hC
        have e15 : (a.tmps[15]?.getD undef) = .int .i64 md := hd 1 15 (by kernel_rfl) (by kernel_rfl) (by kernel_rfl)
        refine growsG_none (E := fun W W' => Below W.heap.size W W') rfl ?_
        clear hs hd
        unfold GrowsE
        go_simp
        refine ⟨Below.refl _ _, (modular_any md W h2 h6).mono ?_⟩
        rintro e w6 ⟨A6, c6, rfl, o6, k6, hb6⟩
        exact ⟨_, rfl, hb6, _, A6, c6, rfl, k6, o6.mono hW.size⟩
      · intro a W hC hs hd
        have hW : Below w2.heap.size w2 W := hC
        have e14 : (a.tmps[14]?.getD undef) = .agg #[.int .i64 N, .slice (some ⟨b, o, none⟩) m c] := hd 0 14 (by kernel_rfl) (by kernel_rfl) (by kernel_rfl)
        have e16 : RuleV w2.heap.size md (a.tmps[16]?.getD undef) W := hd 2 16 (by kernel_rfl) (by kernel_rfl) (by kernel_rfl)
        obtain ⟨bq, AV, cV, e16, hbq, OV⟩ := e16
        refine growsG_none (E := fun W W' => Below W.heap.size W W') rfl ?_
        clear hs hd
        unfold GrowsE
        go_simp
        refine ⟨Below.refl _ _, (HCF.out W hW bq AV cV OV hbq).mono ?_⟩
        rintro e w6 ⟨rfl, hb6⟩
        exact ⟨_, rfl, hb6, rfl⟩
      · intro a W hC hs hd
        have hW : Below w2.heap.size w2 W := hC
        have e17 : (a.tmps[17]?.getD undef) = .tuple #[.int .i64 XV, .int .i64 XC] := hd 3 17 (by kernel_rfl) (by kernel_rfl) (by kernel_rfl)
        refine growsG_none (E := fun W W' => Below W.heap.size W W') rfl ?_
        clear hs hd
        unfold GrowsE
        go_simp
        exact Below.refl _ _
      · intro a W hC hs hd
        have hW : Below w2.heap.size w2 W := hC
        have e17 : (a.tmps[17]?.getD undef) = .tuple #[.int .i64 XV, .int .i64 XC] := hd 3 17 (by kernel_rfl) (by kernel_rfl) (by kernel_rfl)
        refine growsG_none (E := fun W W' => Below W.heap.size W W') rfl ?_
        clear hs hd
        unfold GrowsE
        go_simp
        exact Below.refl _ _
      · intro a W hC hs hd
        have hW : Below w2.heap.size w2 W := hC
        have e18 : (a.tmps[18]?.getD undef) = .int .i64 XV := hd 4 18 (by kernel_rfl) (by kernel_rfl) (by kernel_rfl)
        refine growsG_none (E := fun W W' => Below W.heap.size W W') rfl ?_
        clear hs hd
        unfold GrowsE
        go_simp
        exact Below.refl _ _
    intro vs W hW hf
    have f14 : (vs 14) = .agg #[.int .i64 N, .slice (some ⟨b, o, none⟩) m c] := hf 0 14 (by decide) (by kernel_rfl) (fun _ hk => by cases hk)
    have f15 : (vs 15) = .int .i64 md := hf 1 15 (by decide) (by kernel_rfl) (fun _ hk => by cases hk)
    have f16 : RuleV w2.heap.size md (vs 16) W := hf 2 16 (by decide) (by kernel_rfl) (fun _ hk => by cases hk)
    obtain ⟨bq, AV, cV, f16, hbq, OV⟩ := f16
    have f17 : (vs 17) = .tuple #[.int .i64 XV, .int .i64 XC] := hf 3 17 (by decide) (by kernel_rfl) (fun _ hk => by cases hk)
    have f18 : (vs 18) = .int .i64 XV := hf 4 18 (by decide) (by kernel_rfl) (fun _ hk => by cases hk)
    have f19 : (vs 19) = .int .i64 XC := hf 5 19 (by decide) (by kernel_rfl) (fun _ hk => by cases hk)
    have f4 : (vs 4) = .int .i64 XV := hf 6 4 (by decide) (by kernel_rfl) (fun _ hk => by cases hk)
    simp only [dsts, List.take_succ_cons, List.take_zero, List.drop_succ_cons, List.drop_zero, List.filterMap_cons, List.filterMap_nil, List.foldl_cons, List.foldl_nil, Act.put, List.setIfInBounds_toArray, List.set_cons_succ, List.set_cons_zero, f14, f15, f16, f17, f18, f19, f4]
    clear hf
    have hW : Below w2.heap.size w2 W := hW
    have hBF := hB1.andB hW
    clear hW
    go_wp2_with fail
    go_ret2
    exact ⟨ret2 rfl rfl, hBF⟩
  · have HC : Hid (cfC n es md0 = cd) := by show _ = _; rw [cfC, ← hcd, if_neg h0]
    have HV : Hid (cfV n es md0 = 0) := by show _ = _; rw [cfV, HC.out, if_neg h0]
    have hq : (gcC n es A0 != 0) = true := by rw [hgc]; simpa using h0
    rw [HC.out, HV.out]
    clear hcd hM hgc hA h0
    go_enter Try.func34, Try.ntmps34
    go_wp2_with fail
    (refine wp_region_quiet_below (by kernel_rfl) (by kernel_rfl) ?_
     repeat (any_goals (go_big_quiet_step (first | (go_at_call 69; exact Is.rg (HM.out _)) | (go_at_call 57; exact HGC.out _ _ _))))
     all_goals (refine wpQuiet_nil ?_; intro wq1 hq1; replace hq1 := below_of_rg hq1))
    go_wp2_with fail
    go_ret2
    exact ⟨ret2 rfl HK.out, hbb.thenB (by simp) hq1⟩
end Go.Proofs.Ytppfplhbfgjjhaa
