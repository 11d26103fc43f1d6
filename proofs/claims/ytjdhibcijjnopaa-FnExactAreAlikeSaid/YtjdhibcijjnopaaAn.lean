import Derived.Test.YtjdhibcijjnopaaAm
namespace Go.Proofs.Ytjdhibcijjnopaa
open Go.RowKit Go.Sort
/-! ### AreAlike -/
noncomputable def aaC (n : Int) (es : List (Int × Int)) (a : Nat → Int) (la : Nat) (g : Nat → Int) (lb : Nat) : Int := gcC n es (colB es a la && colB es g lb)
noncomputable def aaV (n : Int) (es : List (Int × Int)) (a : Nat → Int) (la : Nat) (g : Nat → Int) (lb : Nat) : Bool := decide (aaC n es a la g lb = 0) && B (AlikeP es.length a g)
theorem aa_0 {n : Int} {es : List (Int × Int)} {a g : Nat → Int} {la lb : Nat} (h : aaC n es a la g lb = 0) : IsG n es ∧ (la = es.length ∧ ColP es a) ∧ (lb = es.length ∧ ColP es g) ∧ aaV n es a la g lb = B (AlikeP es.length a g) := by
  have hv : aaV n es a la g lb = B (AlikeP es.length a g) := by simp [aaV, h]
  unfold aaC gcC at h
  by_cases h1 : IsG n es
  · rw [B_true h1] at h
    cases h2 : colB es a la with
    | false => rw [h2] at h; simp at h
    | true =>
      cases h3 : colB es g lb with
      | false => rw [h2, h3] at h; simp at h
      | true => exact ⟨h1, B_iff.1 h2, B_iff.1 h3, hv⟩
  · rw [B_false h1] at h; simp at h
theorem aa_n {n : Int} {es : List (Int × Int)} {a g : Nat → Int} {la lb : Nat} (h : aaC n es a la g lb ≠ 0) : aaV n es a la g lb = false := by simp [aaV, h]
theorem cell_two (w : World) (v0 v1 : Value) (t : TypeId) : (w.alloc (.cells #[v0, v1] t)).cell? ⟨w.heap.size, 0, none⟩ = some v0 ∧ (w.alloc (.cells #[v0, v1] t)).cell? ⟨w.heap.size, 1, none⟩ = some v1 := by
  constructor
  · rw [cell_of_row _ w.heap.size 0 _ _ _ (heap_alloc_new w _)]; rfl
  · rw [cell_of_row _ w.heap.size 1 _ _ _ (heap_alloc_new w _)]; rfl
set_option maxRecDepth 100000 in
set_option maxHeartbeats 2000000 in
theorem spAreAlike_any (n : Int) (b o m c : Nat) (es : List (Int × Int)) (b2 o2 la c2 : Nat) (f : Nat → Int) (b3 o3 lb c3 : Nat) (g : Nat → Int) (w : World) (h : Eds w b o m es) (hm : m ≤ 1048576) (h2 : Ints w b2 o2 la f) (hla : la ≤ 1048576) (h3 : Ints w b3 o3 lb g) (hlb : lb ≤ 1048576) :
    Calls Try.prog 15 #[.agg #[.int .i64 n, .slice (some ⟨b, o, none⟩) m c], .slice (some ⟨b2, o2, none⟩) la c2, .slice (some ⟨b3, o3, none⟩) lb c3] w (Ret (.tuple #[.bool (aaV n es f la g lb), .int .i64 (aaC n es f la g lb)]) w) := by
  have KC := cell_rg
  have hbb := (by go_grown : Below w.heap.size w (w.alloc (.cells #[.int .i64 n, .slice (some ⟨b, o, none⟩) m c] 31)))
  have hbx := Box2.made w (.int .i64 n) (.slice (some ⟨b, o, none⟩) m c) 31
  have hlm := Lib.hid h.len
  obtain ⟨w1, hw1⟩ : ∃ w1, w1 = w.alloc (.cells #[.int .i64 n, .slice (some ⟨b, o, none⟩) m c] 31) := ⟨_, rfl⟩
  have hs1 : w1.heap.size = w.heap.size + 1 := by rw [hw1]; simp [go_sem]
  rw [← hw1] at hbb hbx
  obtain ⟨wl, hwl⟩ : ∃ wl, wl = w1.alloc (.cells #[.slice (some ⟨b2, o2, none⟩) la c2, .slice (some ⟨b3, o3, none⟩) lb c3] 25) := ⟨_, rfl⟩
  have hc2 := cell_two w1 (.slice (some ⟨b2, o2, none⟩) la c2) (.slice (some ⟨b3, o3, none⟩) lb c3) 25
  have hbl : Below w1.heap.size w1 wl := by rw [hwl]; exact (Below.refl _ _).alloc (Nat.le_refl _) _
  rw [← hwl] at hc2
  have hB0 := hbb.andB hbl
  have HLK := Lib.hid (l02Code_any n b o m c es wl (h.below hB0) hm w1.heap.size 2 2 (fun j => if j = 0 then b2 else b3) (fun j => if j = 0 then o2 else o3) (fun j => if j = 0 then la else lb) (fun j => if j = 0 then c2 else c3) (fun j => if j = 0 then f else g) (by rw [hwl]; simp [go_sem]) (by omega)
    (fun j hj => by
      rcases (show j = 0 ∨ j = 1 by omega) with rfl | rfl
      · exact hc2.1
      · exact hc2.2)
    (fun j hj => by
      rcases (show j = 0 ∨ j = 1 by omega) with rfl | rfl
      · exact ⟨h2.below hB0, hla⟩
      · exact ⟨h3.below hB0, hlb⟩))
  rw [lkC_2, hs1] at HLK
  have hB0x := hbx.below hbl
  rw [show gcC n es (colB es f la && colB es g lb) = aaC n es f la g lb from rfl] at HLK
  rcases (show aaC n es f la g lb = 0 ∨ aaC n es f la g lb ≠ 0 from Classical.em _) with h0 | h0
  rotate_left
  · have HV := Lib.hid (aa_n h0)
    rw [HV.out]
    obtain ⟨K, hK⟩ : ∃ K, aaC n es f la g lb = K := ⟨_, rfl⟩
    rw [hK] at HLK h0 ⊢
    have hkb : (K != 0) = true := by simpa using h0
    clear hK h0 hc2
    go_enter Try.func15, Try.ntmps15
    go_wp2_with fail
    rw [← hw1, ← hwl]
    refine HLK.out.mono ?_
    rintro e w2 ⟨rfl, hb2⟩
    go_wp2_with fail
    go_ret2
    exact ⟨rfl, hB0.andB hb2⟩
  obtain ⟨hG, ⟨hle, hca⟩, ⟨hle2, hcb⟩, hv⟩ := aa_0 h0
  obtain rfl : la = m := by rw [hle, hlm.out]
  obtain rfl : lb = la := by rw [hle2, hlm.out]
  obtain ⟨l, rfl⟩ : ∃ l, l = lb := ⟨lb, rfl⟩
  have hl0 : 0 < l := by
    obtain ⟨f0, hf0, _⟩ := (at3 hG hca (v := 0) (by omega) (by have := hG.wf.1; omega)).1 0 (by omega)
    rw [hlm.out] at hf0; omega
  obtain ⟨r, hr⟩ : ∃ r, r = B (AlikeP es.length f g) := ⟨_, rfl⟩
  obtain ⟨mdA, hA⟩ : ∃ mdA, mdA = mdL (atL es 0) f l := ⟨_, rfl⟩
  obtain ⟨mdB, hB⟩ : ∃ mdB, mdB = mdL (atL es 0) g l := ⟨_, rfl⟩
  have hAl : mdA.length = l := by rw [hA, mdL_len]
  have hBl : mdB.length = l := by rw [hB, mdL_len]
  have HMA := Lib.hid (fun W (E : Eds W b o l es) (I : Ints W b2 o2 l f) => hA ▸ l02Made_any n b o l c b2 o2 c2 es f W E hm hG I hca)
  have HMB := Lib.hid (fun W (E : Eds W b o l es) (I : Ints W b3 o3 l g) => hB ▸ l02Made_any n b o l c b3 o3 c3 es g W E hm hG I hcb)
  have hrs : sameB l (ia mdA) (ia mdB) = r := by
    rw [hr]
    refine B_congr ?_
    rw [← alike_iff hG hca hcb, hlm.out]
    constructor
    · intro x e he
      have := x e he
      rw [hA, hB, mdL_at _ _ he, mdL_at _ _ he] at this
      exact this
    · intro x e he
      rw [hA, hB, mdL_at _ _ he, mdL_at _ _ he]
      exact x e he
  have HSA : Hid (∀ W base A ca A' cb, OwnL base W A mdA.length ca mdA → OwnL base W A' mdB.length cb mdB → Calls Try.prog 46 #[.slice A mdA.length ca, .slice A' mdB.length cb] W (Ret (.bool r) W)) := fun W base A ca A' cb O1 O2 => by
    obtain ⟨g1, o1, rfl, I1⟩ := O1.src (by omega)
    obtain ⟨g2, o2, rfl, I2⟩ := O2.src (by omega)
    rw [hAl] at I1 ⊢
    rw [hBl] at I2 ⊢
    rw [← hrs]
    exact l02Same_any g1 o1 l ca g2 o2 cb (ia mdA) (ia mdB) W I1 I2 hm
  rw [hv, ← hr, h0]
  rw [h0] at HLK
  clear hrs hA hB hAl hBl hr hv h0 hle hle2 hca hcb hG hc2
  go_enter Try.func15, Try.ntmps15
  go_wp2_with fail
  rw [← hw1, ← hwl]
  refine HLK.out.mono ?_
  rintro e w2 ⟨rfl, hb2⟩
  have hB2 := hB0.andB hb2
  obtain ⟨s1, p1, q1⟩ := hB0x.below hb2
  have E := h.below hB2
  have I2 := h2.below hB2
  have I3 := h3.below hB2
  clear hb2 hB0 hB0x hbl hbb hbx hw1 hwl HLK hs1
  go_wp2_with fail
  refine wp_region_facts (fun i v W => match i with
    | 0 => v = .agg #[.int .i64 n, .slice (some ⟨b, o, none⟩) l c]
    | 1 => v = .slice (some ⟨b2, o2, none⟩) l c2
    | 2 => NewL w2.heap.size (mdA) v W
    | 3 => v = .agg #[.int .i64 n, .slice (some ⟨b, o, none⟩) l c]
    | 4 => v = .slice (some ⟨b3, o3, none⟩) l c3
    | 5 => NewL w2.heap.size (mdB) v W
    | 6 => v = .bool r
    | 7 => v = .bool r
    | _ => v = .int .i64 0) (by kernel_rfl) (by kernel_rfl) ?_ ?_ ?_
  · intro i v W W' hf hb
    match i, hf with
    | 0, hf => exact hf
    | 1, hf => exact hf
    | 2, hf => exact NewL.below hf hb
    | 3, hf => exact hf
    | 4, hf => exact hf
    | 5, hf => exact NewL.below hf hb
    | 6, hf => exact hf
    | 7, hf => exact hf
    | (i + 8), hf => exact hf
  · refine ⟨?_, ?_, ?_, ?_, ?_, ?_, ?_, ?_, ?_, trivial⟩
    · intro a W hW hs hd
      have e3 : a.tmps[3]?.getD undef = .pointer (some ⟨w.heap.size, 0, none⟩) := hs 3 (by kernel_rfl)
      have k0 := (hW.cell (p := ⟨w.heap.size, 0, none⟩) (s1)).trans (p1)
      have k1 := (hW.cell (p := ⟨w.heap.size, 1, none⟩) (s1)).trans (q1)
      clear hs hd
      unfold Grows
      go_simp
      exact Below.refl _ _
    · intro a W hW hs hd
      have e1 : a.tmps[1]?.getD undef = .slice (some ⟨b2, o2, none⟩) l c2 := hs 1 (by kernel_rfl)
      clear hs hd
      unfold Grows
      go_simp
      exact Below.refl _ _
    · intro a W hW hs hd
      have e17 : (a.tmps[17]?.getD undef) = .agg #[.int .i64 n, .slice (some ⟨b, o, none⟩) l c] := hd 0 17 (by kernel_rfl) (by kernel_rfl)
      have e18 : (a.tmps[18]?.getD undef) = .slice (some ⟨b2, o2, none⟩) l c2 := hd 1 18 (by kernel_rfl) (by kernel_rfl)
      clear hs hd
      unfold Grows
      go_simp
      refine ⟨Below.refl _ _, (HMA.out W (E.below hW) (I2.below hW)).mono ?_⟩
      rintro e w6 ⟨A6, c6, rfl, ho6, hb6⟩
      exact ⟨_, rfl, hb6, A6, c6, rfl, ho6.mono (hW.size)⟩
    · intro a W hW hs hd
      have e3 : a.tmps[3]?.getD undef = .pointer (some ⟨w.heap.size, 0, none⟩) := hs 3 (by kernel_rfl)
      have k0 := (hW.cell (p := ⟨w.heap.size, 0, none⟩) (s1)).trans (p1)
      have k1 := (hW.cell (p := ⟨w.heap.size, 1, none⟩) (s1)).trans (q1)
      clear hs hd
      unfold Grows
      go_simp
      exact Below.refl _ _
    · intro a W hW hs hd
      have e2 : a.tmps[2]?.getD undef = .slice (some ⟨b3, o3, none⟩) l c3 := hs 2 (by kernel_rfl)
      clear hs hd
      unfold Grows
      go_simp
      exact Below.refl _ _
    · intro a W hW hs hd
      have e20 : (a.tmps[20]?.getD undef) = .agg #[.int .i64 n, .slice (some ⟨b, o, none⟩) l c] := hd 3 20 (by kernel_rfl) (by kernel_rfl)
      have e21 : (a.tmps[21]?.getD undef) = .slice (some ⟨b3, o3, none⟩) l c3 := hd 4 21 (by kernel_rfl) (by kernel_rfl)
      clear hs hd
      unfold Grows
      go_simp
      refine ⟨Below.refl _ _, (HMB.out W (E.below hW) (I3.below hW)).mono ?_⟩
      rintro e w6 ⟨A6, c6, rfl, ho6, hb6⟩
      exact ⟨_, rfl, hb6, A6, c6, rfl, ho6.mono (hW.size)⟩
    · intro a W hW hs hd
      have e19 : NewL w2.heap.size (mdA) (a.tmps[19]?.getD undef) W := hd 2 19 (by kernel_rfl) (by kernel_rfl)
      obtain ⟨A19, c19, e19, O19⟩ := e19
      have e22 : NewL w2.heap.size (mdB) (a.tmps[22]?.getD undef) W := hd 5 22 (by kernel_rfl) (by kernel_rfl)
      obtain ⟨A22, c22, e22, O22⟩ := e22
      clear hs hd
      unfold Grows
      go_simp
      refine ⟨Below.refl _ _, (HSA.out _ _ _ _ _ _ O19 O22).mono ?_⟩
      rintro e w6 ⟨rfl, hb6⟩
      exact ⟨_, rfl, hb6, rfl⟩
    · intro a W hW hs hd
      have e23 : (a.tmps[23]?.getD undef) = .bool r := hd 6 23 (by kernel_rfl) (by kernel_rfl)
      clear hs hd
      unfold Grows
      go_simp
      exact Below.refl _ _
    · intro a W hW hs hd
      clear hs hd
      unfold Grows
      go_simp
      exact Below.refl _ _
  intro vs W hW hf
  have f6 : vs 6 = .bool r := hf 7 6 (by kernel_rfl)
  have f7 : vs 7 = .int .i64 0 := hf 8 7 (by kernel_rfl)
  simp only [dsts, List.filterMap_cons, List.filterMap_nil, List.foldl_cons, List.foldl_nil, Act.put, List.setIfInBounds_toArray, List.set_cons_succ, List.set_cons_zero, f6, f7]
  clear hf
  clear s1 p1 q1 E I2 I3
  go_wp2_with fail
  go_ret2
  exact ⟨rfl, hB2.andB hW⟩
end Go.Proofs.Ytjdhibcijjnopaa
