import Derived.Test.YtppfplhbfgjjhaaFb
import Derived.Test.YtppfplhbfgjjhaaCe
namespace Go.Proofs.Ytppfplhbfgjjhaa
open Go.RowKit Go.Sort
/-! ### The program's rules -/
theorem modular1_any (s x : Int) (md : Nat) (r : Bool) (p : Nat) (w : World) (h : w.cell? ⟨p, 0, none⟩ = some (.int .i64 md)) (h1 : 2 ≤ md) (h2 : md ≤ 6) (hs0 : 0 ≤ s) (hs : s < md) (hx0 : 1 ≤ x) (hx : x < md) :
    Calls Try.prog 127 #[.int .i64 s, .int .i64 x, .bool r, .pointer (some ⟨p, 0, none⟩)] w (Is (.int .i64 (if r then (s + x).tmod md else (s + md - x).tmod md)) w) := by
  have w1 : IntKind.i64.wrap (s + x) = s + x := IntWalk.i64_in _ (by omega)
  have w2 : IntKind.i64.wrap (s + md) = s + md := IntWalk.i64_in _ (by omega)
  have w3 : IntKind.i64.wrap (s + md - x) = s + md - x := IntWalk.i64_in _ (by omega)
  have hm0 : ((md : Int) == 0) = false := by simp; omega
  cases r with
  | true =>
    rw [show (if true = true then (s + x).tmod md else (s + md - x).tmod md) = (s + x) % md from Int.tmod_eq_emod_of_nonneg (by omega)]
    go_enter Try.func127, Try.ntmps127
    go_wp2_with fail
    go_ret
    exact ⟨rfl, rfl⟩
  | false =>
    rw [show (if false = true then (s + x).tmod md else (s + md - x).tmod md) = (s + md - x) % md from Int.tmod_eq_emod_of_nonneg (by omega)]
    go_enter Try.func127, Try.ntmps127
    go_wp2_with fail
    go_ret
    exact ⟨rfl, rfl⟩
theorem modular2_any (s k : Int) (w : World) : Calls Try.prog 128 #[.int .i64 s, .int .i64 k] w (Is (.bool (canE s k)) w) := by
  by_cases hk : 1 < k
  · have HC : Hid (canE s k = true) := by show _ = _; simp [canE, hk]
    rw [HC.out]
    go_enter Try.func128, Try.ntmps128
    go_wp2_with fail
    go_ret
    exact ⟨rfl, rfl⟩
  · have HC : Hid (canE s k = ((s == 0) == (k == 0))) := by show _ = _; simp [canE, hk]
    rw [HC.out]
    obtain ⟨r1, hr1⟩ : ∃ r, r = (s == 0) := ⟨_, rfl⟩
    obtain ⟨r2, hr2⟩ : ∃ r, r = (k == 0) := ⟨_, rfl⟩
    rw [← hr1, ← hr2]
    have e1 := hr1.symm
    have e2 := hr2.symm
    clear hr1 hr2
    cases r1 <;> cases r2
    all_goals
      go_enter Try.func128, Try.ntmps128
      go_wp2_with fail
      go_ret
      exact ⟨rfl, rfl⟩
theorem paired1_any (s x : Int) (r : Bool) (w : World) : Calls Try.prog 129 #[.int .i64 s, .int .i64 x, .bool r] w (Is (.int .i64 (bits .xor .i64 s x)) w) := by
  go_enter Try.func129, Try.ntmps129
  go_wp2_with fail
  go_ret
  exact ⟨rfl, rfl⟩
theorem paired2_any (s k : Int) (w : World) : Calls Try.prog 130 #[.int .i64 s, .int .i64 k] w (Is (.bool (canE s k)) w) := by
  by_cases hk : 1 < k
  · have HC : Hid (canE s k = true) := by show _ = _; simp [canE, hk]
    rw [HC.out]
    go_enter Try.func130, Try.ntmps130
    go_wp2_with fail
    go_ret
    exact ⟨rfl, rfl⟩
  · have HC : Hid (canE s k = ((s == 0) == (k == 0))) := by show _ = _; simp [canE, hk]
    rw [HC.out]
    obtain ⟨r1, hr1⟩ : ∃ r, r = (s == 0) := ⟨_, rfl⟩
    obtain ⟨r2, hr2⟩ : ∃ r, r = (k == 0) := ⟨_, rfl⟩
    rw [← hr1, ← hr2]
    have e1 := hr1.symm
    have e2 := hr2.symm
    clear hr1 hr2
    cases r1 <;> cases r2
    all_goals
      go_enter Try.func130, Try.ntmps130
      go_wp2_with fail
      go_ret
      exact ⟨rfl, rfl⟩
end Go.Proofs.Ytppfplhbfgjjhaa
namespace Go.Proofs.Ytppfplhbfgjjhaa
open Go.RowKit Go.Sort
/-! ### The values of a rule -/
def upL (k : Nat) : List Int := (List.range k).map fun j => ((j + 1 : Nat) : Int)
theorem upL_succ (k : Nat) : upL (k + 1) = upL k ++ [((k + 1 : Nat) : Int)] := by simp [upL, List.range_succ]
theorem upL_len (k : Nat) : (upL k).length = k := by simp [upL]
set_option maxRecDepth 100000 in
theorem upTo_any (h : Nat) (w : World) (hh : h ≤ 1000) : Calls Try.prog 126 #[.int .i64 1, .int .i64 h] w (RetL (upL h) w) := by
  go_enter Try.func126, Try.ntmps126
  go_wp2_with fail
  go_loopw [5, 6] (fun lv iv wr => ∃ j : Nat, j ≤ h ∧ iv = .int .i64 ((j + 1 : Nat) : Int) ∧ (∃ A c', lv = .slice A (upL j).length c' ∧ OwnL w.heap.size wr A (upL j).length c' (upL j)) ∧ Below w.heap.size w wr) (fun _ i _ => h + 1 - (intOf i).toNat)
  case atStart => exact ⟨0, Nat.zero_le _, rfl, ⟨_, _, rfl, OwnL.nil _ _⟩, Below.refl _ _⟩
  case round =>
    obtain ⟨j, hj, rfl, ⟨A, c', rfl, hown⟩, hbr⟩ := hrel
    have hsz := hbr.size
    have hle := upL_len j
    obtain ⟨x, hx⟩ : ∃ x, x = j + 1 := ⟨_, rfl⟩
    have HX := Lib.hid hx
    rw [← hx]
    by_cases hlt : j < h
    · have hx0 : ((x : Int) != 0) = true := by simp; omega
      have hxh : (x : Int) ≤ (h : Int) := by omega
      clear hx
      go_wp2_with (first
        | (at_builtin; refine wp_app1 rfl rfl rfl rfl hown (by omega) (by omega) ?_; intro A' c'' w2 hown' hbel' hgr'))
      have hx := HX.out
      have e : upL (j + 1) = upL j ++ [(x : Int)] := by rw [hx]; exact upL_succ j
      have e2 : (upL (j + 1)).length = (upL j).length + 1 := by rw [e]; simp
      go_roundw
      case rel => first | exact ⟨j + 1, by omega, by rw [hx]; go_num, ⟨A', c'', by rw [e2, upL_len], by rw [e2, e]; exact hown'⟩, hbel' _ _ hbr (Nat.le_refl _)⟩ | ((repeat apply Exists.intro); exact ⟨⟨j + 1, by omega, by rw [hx]; go_num, ⟨A', c'', by rw [e2, upL_len], by rw [e2, e]; exact hown'⟩, hbel' _ _ hbr (Nat.le_refl _)⟩, rfl⟩)
      case measure => simp [intOf]; omega
    · have hxh : ¬ (x : Int) ≤ (h : Int) := by omega
      have hjh : j = h := by omega
      clear hx
      go_wp2_with fail
      go_ret
      rw [← hjh]
      exact ⟨A, c', rfl, hown, hbr⟩
end Go.Proofs.Ytppfplhbfgjjhaa
namespace Go.Proofs.Ytppfplhbfgjjhaa
open Go.RowKit Go.Sort
/-! ### The rules' values -/
set_option maxRecDepth 100000 in
theorem modular_any (md : Nat) (w : World) (h1 : 2 ≤ md) (h2 : md ≤ 6) : Calls Try.prog 71 #[.int .i64 md] w (fun e w' => ∃ A c, e = .returned (.agg #[.slice A (md - 1) c, .func (.func 127) #[] #[.pointer (some ⟨w.heap.size, 0, none⟩)], .func (.func 128) #[] #[]]) ∧ OwnL w.heap.size w' A (md - 1) c (upL (md - 1)) ∧ w'.cell? ⟨w.heap.size, 0, none⟩ = some (.int .i64 md) ∧ Below w.heap.size w w') := by
  have hwm : IntKind.i64.wrap ((md : Int) - 1) = ((md - 1 : Nat) : Int) := by rw [IntWalk.i64_in _ (by omega)]; omega
  go_enter Try.func71, Try.ntmps71
  go_wp2_with fail
  refine (upTo_any (md - 1) _ (by omega)).mono ?_
  rintro ee w2 ⟨A, c, rfl, O, hb⟩
  rw [upL_len] at O ⊢
  have k0 := hb.cell (p := ⟨w.heap.size, 0, none⟩) (by simp; omega)
  have k1 := hb.cell (p := ⟨w.heap.size + 1, 0, none⟩) (by simp)
  have k2 := hb.cell (p := ⟨w.heap.size + 1, 1, none⟩) (by simp)
  have k3 := hb.cell (p := ⟨w.heap.size + 1, 2, none⟩) (by simp)
  have f1 := (Kept.of (S := fun _ => False) hb).frozen (b := w.heap.size + 1) (by simp) id 0
  have f2 := (Kept.of (S := fun _ => False) hb).frozen (b := w.heap.size + 1) (by simp) id 1
  have f3 := (Kept.of (S := fun _ => False) hb).frozen (b := w.heap.size + 1) (by simp) id 2
  simp [go_sem] at k0 k1 k2 k3 f1 f2 f3
  have hs2 : w.heap.size + 2 ≤ w2.heap.size := by have := hb.size; simpa using this
  have hbW : Below w.heap.size w w2 := (by go_grown : Below w.heap.size w ((w.alloc (.cells #[.int .i64 md] 2)).alloc (.cells #[.slice none 0 0, .nilFunc, .nilFunc] 82))).thenB (by simp; omega) hb
  go_wp2_with fail
  have sw := World.cell?_setCell_other
  have hO : OwnL w.heap.size w2 A (md - 1) c (upL (md - 1)) := O.mono (by simp; omega)
  have OA : blkOf A ≠ some (w.heap.size + 1) := fun hh => by have := (O.blk _ hh).1; simp at this; omega
  obtain ⟨w3, hw3⟩ : ∃ w3, w3 = (((w2.setCell ⟨w.heap.size + 1, 0, none⟩ (.slice A (md - 1) c)).setCell ⟨w.heap.size + 1, 1, none⟩ (.func (.func 127) #[] #[.pointer (some ⟨w.heap.size, 0, none⟩)])).setCell ⟨w.heap.size + 1, 2, none⟩ (.func (.func 128) #[] #[])) := ⟨_, rfl⟩
  have j0 : w3.cell? ⟨w.heap.size, 0, none⟩ = some (.int .i64 md) := by
    rw [hw3, sw _ _ _ _ (fun hh => by have := congrArg Addr.block hh; simp at this), sw _ _ _ _ (fun hh => by have := congrArg Addr.block hh; simp at this), sw _ _ _ _ (fun hh => by have := congrArg Addr.block hh; simp at this)]; exact k0
  have j1 : w3.cell? ⟨w.heap.size + 1, 0, none⟩ = some (.slice A (md - 1) c) := by
    rw [hw3, sw _ _ _ _ (fun hh => by injection hh with _ h2; omega), sw _ _ _ _ (fun hh => by injection hh with _ h2; omega)]; exact World.cell?_setCell_same _ _ _ k1
  have j2 : w3.cell? ⟨w.heap.size + 1, 1, none⟩ = some (.func (.func 127) #[] #[.pointer (some ⟨w.heap.size, 0, none⟩)]) := by
    rw [hw3, sw _ _ _ _ (fun hh => by injection hh with _ h2; omega)]
    exact World.cell?_setCell_same _ _ _ (by rw [sw _ _ _ _ (fun hh => by injection hh with _ h2; omega)]; exact k2)
  have j3 : w3.cell? ⟨w.heap.size + 1, 2, none⟩ = some (.func (.func 128) #[] #[]) := by
    rw [hw3]
    exact World.cell?_setCell_same _ _ _ (by rw [sw _ _ _ _ (fun hh => by injection hh with _ h2; omega), sw _ _ _ _ (fun hh => by injection hh with _ h2; omega)]; exact k3)
  have hO3 : OwnL w.heap.size w3 A (md - 1) c (upL (md - 1)) := by rw [hw3]; exact ((hO.setOther (fun hh => OA hh.symm) _).setOther (fun hh => OA hh.symm) _).setOther (fun hh => OA hh.symm) _
  have hb3 : Below w.heap.size w w3 := by rw [hw3]; exact ((hbW.setCell (by simp) _).setCell (by simp) _).setCell (by simp) _
  rw [← hw3]
  clear hw3 sw
  (try simp only [Exit.inBlock, Exit.then])
  refine bodyPost_ret (v := .agg #[.slice A (md - 1) c, .func (.func 127) #[] #[.pointer (some ⟨w.heap.size, 0, none⟩)], .func (.func 128) #[] #[]]) ?_ rfl ?_
  · simp [results, Try.results71, go_sem, j1, j2, j3]
  · exact ⟨A, c, rfl, hO3, j0, hb3⟩
end Go.Proofs.Ytppfplhbfgjjhaa
namespace Go.Proofs.Ytppfplhbfgjjhaa
open Go.RowKit Go.Sort
set_option maxRecDepth 100000 in
theorem paired_any (w : World) : Calls Try.prog 72 #[] w (fun e w' => ∃ A c, e = .returned (.agg #[.slice A 3 c, .func (.func 129) #[] #[], .func (.func 130) #[] #[]]) ∧ OwnL w.heap.size w' A 3 c (upL 3) ∧ Below w.heap.size w w') := by
  go_enter Try.func72, Try.ntmps72
  go_wp2_with fail
  refine (upTo_any 3 _ (by omega)).mono ?_
  rintro ee w2 ⟨A, c, rfl, O, hb⟩
  rw [upL_len] at O ⊢
  have k1 := hb.cell (p := ⟨w.heap.size, 0, none⟩) (by simp)
  have k2 := hb.cell (p := ⟨w.heap.size, 1, none⟩) (by simp)
  have k3 := hb.cell (p := ⟨w.heap.size, 2, none⟩) (by simp)
  have f1 := (Kept.of (S := fun _ => False) hb).frozen (b := w.heap.size) (by simp) id 0
  have f2 := (Kept.of (S := fun _ => False) hb).frozen (b := w.heap.size) (by simp) id 1
  have f3 := (Kept.of (S := fun _ => False) hb).frozen (b := w.heap.size) (by simp) id 2
  simp [go_sem] at k1 k2 k3 f1 f2 f3
  have hs2 : w.heap.size + 1 ≤ w2.heap.size := by have := hb.size; simpa using this
  have hbW : Below w.heap.size w w2 := (by go_grown : Below w.heap.size w (w.alloc (.cells #[.slice none 0 0, .nilFunc, .nilFunc] 82))).thenB (by simp) hb
  go_wp2_with fail
  have sw := World.cell?_setCell_other
  have hO : OwnL w.heap.size w2 A 3 c (upL 3) := O.mono (by simp)
  have OA : blkOf A ≠ some (w.heap.size) := fun hh => by have := (O.blk _ hh).1; simp at this; omega
  obtain ⟨w3, hw3⟩ : ∃ w3, w3 = (((w2.setCell ⟨w.heap.size, 0, none⟩ (.slice A 3 c)).setCell ⟨w.heap.size, 1, none⟩ (.func (.func 129) #[] #[])).setCell ⟨w.heap.size, 2, none⟩ (.func (.func 130) #[] #[])) := ⟨_, rfl⟩
  have j1 : w3.cell? ⟨w.heap.size, 0, none⟩ = some (.slice A 3 c) := by
    rw [hw3, sw _ _ _ _ (fun hh => by injection hh with _ h2; omega), sw _ _ _ _ (fun hh => by injection hh with _ h2; omega)]; exact World.cell?_setCell_same _ _ _ k1
  have j2 : w3.cell? ⟨w.heap.size, 1, none⟩ = some (.func (.func 129) #[] #[]) := by
    rw [hw3, sw _ _ _ _ (fun hh => by injection hh with _ h2; omega)]
    exact World.cell?_setCell_same _ _ _ (by rw [sw _ _ _ _ (fun hh => by injection hh with _ h2; omega)]; exact k2)
  have j3 : w3.cell? ⟨w.heap.size, 2, none⟩ = some (.func (.func 130) #[] #[]) := by
    rw [hw3]
    exact World.cell?_setCell_same _ _ _ (by rw [sw _ _ _ _ (fun hh => by injection hh with _ h2; omega), sw _ _ _ _ (fun hh => by injection hh with _ h2; omega)]; exact k3)
  have hO3 : OwnL w.heap.size w3 A 3 c (upL 3) := by rw [hw3]; exact ((hO.setOther (fun hh => OA hh.symm) _).setOther (fun hh => OA hh.symm) _).setOther (fun hh => OA hh.symm) _
  have hb3 : Below w.heap.size w w3 := by rw [hw3]; exact ((hbW.setCell (by simp) _).setCell (by simp) _).setCell (by simp) _
  rw [← hw3]
  clear hw3 sw
  (try simp only [Exit.inBlock, Exit.then])
  refine bodyPost_ret (v := .agg #[.slice A 3 c, .func (.func 129) #[] #[], .func (.func 130) #[] #[]]) ?_ rfl ?_
  · simp [results, Try.results72, go_sem, j1, j2, j3]
  · exact ⟨A, c, rfl, hO3, hb3⟩
end Go.Proofs.Ytppfplhbfgjjhaa
namespace Go.Proofs.Ytppfplhbfgjjhaa
open Go.RowKit Go.Sort
/-! ### The closure that counts flows -/
theorem enF3 : Enters 125 := fun args w => by kernel_rfl
set_option maxHeartbeats 1000000 in
theorem countF1_any {bm s : Nat} {w : World} (h : St2 bm s w) (v : Value) :
    Calls Try.prog 125 #[v, .pointer (some ⟨bm, 0, none⟩)] w (fun e w' => e = .returned (.bool false) ∧ St2 bm (s + 1) w' ∧ Kept (fun k => k = bm) w w') := by
  have c1 := h.c
  have f1 := h.f
  have l1 := h.l
  have hw := W64_succ s
  have hk : Kept (fun k => k = bm) w (w.setCell ⟨bm, 0, none⟩ (.int .i64 (W64 (s + 1)))) := Kept.setCell (S := fun k => k = bm) (Kept.refl _ _) (a := ⟨bm, 0, none⟩) rfl _
  have HS : Hid (St2 bm (s + 1) (w.setCell ⟨bm, 0, none⟩ (.int .i64 (W64 (s + 1))))) := ⟨World.cell?_setCell_same _ _ _ c1, by simpa using f1, by simpa using l1⟩
  go_enter Try.func125, Try.ntmps125
  go_wp2_with fail
  go_ret
  exact ⟨rfl, HS.out, hk⟩
theorem enM1 : Enters 127 := fun args w => by kernel_rfl
theorem enM2 : Enters 128 := fun args w => by kernel_rfl
theorem enP1 : Enters 129 := fun args w => by kernel_rfl
theorem enP2 : Enters 130 := fun args w => by kernel_rfl
theorem enFl : Enters 160 := fun args w => by kernel_rfl
end Go.Proofs.Ytppfplhbfgjjhaa
namespace Go.Proofs.Ytppfplhbfgjjhaa
open Go.RowKit Go.Sort
/-! ### The search for flows in memory -/
def MuF (T : Nat → Prop) (gl gs gm : Nat) : Nat → Prop := fun k => k = gl ∨ k = gs ∨ k = gm ∨ T k
/-- What of a search stays. -/
structure FS (w0 : World) (T : Nat → Prop) (bE bD bL bG bS bM bR bF gl gs gm b o m c N : Nat) (A : Option Addr) (cA : Nat) (L : List Nat) (dv chv cev : Value) (V : Option Addr) (nv cV cM : Nat) (es : List (Int × Int)) : Prop where
  lt : bE < w0.heap.size ∧ bD < w0.heap.size ∧ bL < w0.heap.size ∧ bG < w0.heap.size ∧ bS < w0.heap.size ∧ bM < w0.heap.size ∧ bR < w0.heap.size ∧ bF < w0.heap.size
  cE : w0.cell? ⟨bE, 0, none⟩ = some (.slice A L.length cA)
  cD : w0.cell? ⟨bD, 0, none⟩ = some dv
  cL : w0.cell? ⟨bL, 0, none⟩ = some (.slice (some ⟨gl, 0, none⟩) m m)
  g0 : w0.cell? ⟨bG, 0, none⟩ = some (.int .i64 N)
  g1 : w0.cell? ⟨bG, 1, none⟩ = some (.slice (some ⟨b, o, none⟩) m c)
  cS : w0.cell? ⟨bS, 0, none⟩ = some (.slice (some ⟨gs, 0, none⟩) N N)
  cMo : w0.cell? ⟨bM, 0, none⟩ = some (.slice (some ⟨gm, 0, none⟩) N cM)
  r0 : w0.cell? ⟨bR, 0, none⟩ = some (.slice V nv cV)
  r1 : w0.cell? ⟨bR, 1, none⟩ = some chv
  r2 : w0.cell? ⟨bR, 2, none⟩ = some cev
  cF : w0.cell? ⟨bF, 0, none⟩ = some (.func (.func 160) #[] #[.pointer (some ⟨bE, 0, none⟩), .pointer (some ⟨bD, 0, none⟩), .pointer (some ⟨bL, 0, none⟩), .pointer (some ⟨bG, 0, none⟩), .pointer (some ⟨bS, 0, none⟩), .pointer (some ⟨bM, 0, none⟩), .pointer (some ⟨bR, 0, none⟩), .pointer (some ⟨bF, 0, none⟩)])
  E : Eds w0 b o m es
  I : SrcI w0 A L.length (fun j => ((L.getD j 0 : Nat) : Int))
  IV : SrcI w0 V nv (fun j => ((j + 1 : Nat) : Int))
  hL : ∀ d, d ∈ L → d < m
  n : ¬ MuF T gl gs gm bE ∧ ¬ MuF T gl gs gm bD ∧ ¬ MuF T gl gs gm bL ∧ ¬ MuF T gl gs gm bG ∧ ¬ MuF T gl gs gm bS ∧ ¬ MuF T gl gs gm bM ∧ ¬ MuF T gl gs gm bR ∧ ¬ MuF T gl gs gm bF
  nb : ¬ MuF T gl gs gm b
  nA : ∀ g, blkOf A = some g → ¬ MuF T gl gs gm g
  nV : ∀ g, blkOf V = some g → ¬ MuF T gl gs gm g
  ne : gl ≠ gs ∧ gl ≠ gm ∧ gs ≠ gm
  nT : ¬ T gl ∧ ¬ T gs ∧ ¬ T gm
/-- What the search turns by itself. -/
def OwnF (gl gs gm : Nat) : Nat → Prop := fun k => k = gl ∨ k = gs ∨ k = gm
/-- What of a search turns: the values, the sums at the vertices, and how many edges come there yet. -/
structure FW (w0 : World) (T : Nat → Prop) (gl gs gm N m : Nat) (P : Nat → World → Prop) (F nt mo : Nat → Int) (s : Nat) (w : World) : Prop where
  k : Kept (MuF T gl gs gm) w0 w
  rl : w.rowIs gl 2 m (fun j => .int .i64 (F j))
  rs : w.rowIs gs 2 N (fun j => .int .i64 (nt j))
  rm : w.rowIs gm 2 N (fun j => .int .i64 (mo j))
  p : P s w
  st : ∀ s w w', P s w → Kept (OwnF gl gs gm) w w' → P s w'
section
variable {w0 w w' : World} {T : Nat → Prop} {gl gs gm N m : Nat} {P : Nat → World → Prop} {F nt mo nt' mo' : Nat → Int} {s : Nat}
theorem FW.cell (h : FW w0 T gl gs gm N m P F nt mo s w) {p : Nat} (hl : p < w0.heap.size) (hn : ¬ MuF T gl gs gm p) (j : Nat) {v : Value} (hv : w0.cell? ⟨p, j, none⟩ = some v) : w.cell? ⟨p, j, none⟩ = some v :=
  (h.k.cell hl hn j).trans hv
theorem FW.below (h : FW w0 T gl gs gm N m P F nt mo s w) (hb : Below w.heap.size w w') : FW w0 T gl gs gm N m P F nt mo s w' :=
  ⟨h.k.thenB hb, (Kept.of (S := fun _ => False) hb).row h.rl id, (Kept.of (S := fun _ => False) hb).row h.rs id, (Kept.of (S := fun _ => False) hb).row h.rm id, h.st _ _ _ h.p (Kept.of hb), h.st⟩
theorem FW.setL (h : FW w0 T gl gs gm N m P F nt mo s w) (ne : gl ≠ gs ∧ gl ≠ gm ∧ gs ≠ gm) (i : Nat) (x : Int) : FW w0 T gl gs gm N m P (upF F i x) nt mo s (w.setCell ⟨gl, i, none⟩ (.int .i64 x)) :=
  ⟨h.k.setCell (.inl rfl) _, (h.rl.set i _).congr (fun j _ => by simp only [upF]; split <;> rfl), h.rs.setOther (Ne.symm ne.1) _, h.rm.setOther (Ne.symm ne.2.1) _, h.st _ _ _ h.p (Kept.setCell (S := OwnF gl gs gm) (Kept.refl _ _) (a := ⟨gl, i, none⟩) (.inl rfl) _), h.st⟩
theorem FW.setM (h : FW w0 T gl gs gm N m P F nt mo s w) (ne : gl ≠ gs ∧ gl ≠ gm ∧ gs ≠ gm) (i : Nat) (x : Int) : FW w0 T gl gs gm N m P F nt (upF mo i x) s (w.setCell ⟨gm, i, none⟩ (.int .i64 x)) :=
  ⟨h.k.setCell (.inr (.inr (.inl rfl))) _, h.rl.setOther ne.2.1 _, h.rs.setOther ne.2.2 _, (h.rm.set i _).congr (fun j _ => by simp only [upF]; split <;> rfl), h.st _ _ _ h.p (Kept.setCell (S := OwnF gl gs gm) (Kept.refl _ _) (a := ⟨gm, i, none⟩) (.inr (.inr rfl)) _), h.st⟩
theorem FW.setS (h : FW w0 T gl gs gm N m P F nt mo s w) (ne : gl ≠ gs ∧ gl ≠ gm ∧ gs ≠ gm) (a b : Nat) (u v : Int) (ha : a < N) (hb : b < N) : FW w0 T gl gs gm N m P F (put2 nt a b u v) mo s ((w.setCell ⟨gs, a, none⟩ (.int .i64 u)).setCell ⟨gs, b, none⟩ (.int .i64 v)) :=
  ⟨(h.k.setCell (.inr (.inl rfl)) _).setCell (.inr (.inl rfl)) _, (h.rl.setOther ne.1 _).setOther ne.1 _, (rowPut u v h.rs ha hb).2.2.2.2, (h.rm.setOther (Ne.symm ne.2.2) _).setOther (Ne.symm ne.2.2) _,
   h.st _ _ _ h.p (Kept.setCell (S := OwnF gl gs gm) (Kept.setCell (S := OwnF gl gs gm) (Kept.refl _ _) (a := ⟨gs, a, none⟩) (.inr (.inl rfl)) _) (a := ⟨gs, b, none⟩) (.inr (.inl rfl)) _), h.st⟩
theorem FW.setS1 (h : FW w0 T gl gs gm N m P F nt mo s w) (ne : gl ≠ gs ∧ gl ≠ gm ∧ gs ≠ gm) (i : Nat) (x : Int) : FW w0 T gl gs gm N m P F (upF nt i x) mo s (w.setCell ⟨gs, i, none⟩ (.int .i64 x)) :=
  ⟨h.k.setCell (.inr (.inl rfl)) _, h.rl.setOther ne.1 _, (h.rs.set i _).congr (fun j _ => by simp only [upF]; split <;> rfl), h.rm.setOther (Ne.symm ne.2.2) _, h.st _ _ _ h.p (Kept.setCell (S := OwnF gl gs gm) (Kept.refl _ _) (a := ⟨gs, i, none⟩) (.inr (.inl rfl)) _), h.st⟩
theorem FW.drew (h : FW w0 T gl gs gm N m P F nt mo s w) : FW w0 T gl gs gm N m P F nt mo s w.drew := h.below (Below.refl _ _).drew
theorem FW.congr (h : FW w0 T gl gs gm N m P F nt mo s w) (h1 : nt = nt') (h2 : mo = mo') : FW w0 T gl gs gm N m P F nt' mo' s w := by subst h1 h2; exact h
/-- Before or behind the store of a new sum. -/
def FWC (w0 : World) (T : Nat → Prop) (gl gs gm N m : Nat) (P : Nat → World → Prop) (F nt mo : Nat → Int) (s i : Nat) (x : Int) (w : World) : Prop := FW w0 T gl gs gm N m P F nt mo s w ∨ FW w0 T gl gs gm N m P F (upF nt i x) mo s w
theorem FWC.cell {i : Nat} {x : Int} (h : FWC w0 T gl gs gm N m P F nt mo s i x w) {p : Nat} (hl : p < w0.heap.size) (hn : ¬ MuF T gl gs gm p) (j : Nat) {v : Value} (hv : w0.cell? ⟨p, j, none⟩ = some v) : w.cell? ⟨p, j, none⟩ = some v :=
  h.elim (fun h => h.cell hl hn j hv) (fun h => h.cell hl hn j hv)
theorem FWC.below {i : Nat} {x : Int} (h : FWC w0 T gl gs gm N m P F nt mo s i x w) (hb : Below w.heap.size w w') : FWC w0 T gl gs gm N m P F nt mo s i x w' := h.imp (fun h => h.below hb) (fun h => h.below hb)
theorem FWC.set {i : Nat} {x : Int} (h : FWC w0 T gl gs gm N m P F nt mo s i x w) (ne : gl ≠ gs ∧ gl ≠ gm ∧ gs ≠ gm) : FW w0 T gl gs gm N m P F (upF nt i x) mo s (w.setCell ⟨gs, i, none⟩ (.int .i64 x)) := by
  rcases h with h | h
  · exact h.setS1 ne i x
  · have h2 := h.setS1 ne i x
    exact h2.congr (by funext j; simp only [upF]; split <;> rfl) rfl
theorem FWC.row {i : Nat} {x : Int} (h : FWC w0 T gl gs gm N m P F nt mo s i x w) : ∃ f : Nat → Int, w.rowIs gs 2 N (fun j => .int .i64 (f j)) := h.elim (fun h => ⟨_, h.rs⟩) (fun h => ⟨_, h.rs⟩)
theorem FW.did (h : FW w0 T gl gs gm N m P F nt mo s w) {s' : Nat} (hT : ¬ T gl ∧ ¬ T gs ∧ ¬ T gm) (p : P s' w') (k : Kept T w w') : FW w0 T gl gs gm N m P F nt mo s' w' :=
  ⟨h.k.trans (k.wide fun _ h => .inr (.inr (.inr h))), k.row h.rl hT.1, k.row h.rs hT.2.1, k.row h.rm hT.2.2, p, h.st⟩
end
theorem put2_put2 {net : Nat → Int} {a b : Nat} (u v u' v' : Int) : put2 (put2 net a b u v) a b u' v' = put2 net a b u' v' := by
  funext j
  simp only [put2]
  split
  · rfl
  · split <;> rfl
theorem put2_up {net : Nat → Int} {a b : Nat} (h : a ≠ b) (u v : Int) : upF (upF net a u) b v = put2 net a b u v := by
  funext j
  simp only [put2, upF]
theorem put2_self {net : Nat → Int} {a b : Nat} : put2 net a b (net a) (net b) = net := by
  funext j
  simp only [put2]
  split
  · next h => rw [h]
  · split
    · next h => rw [h]
    · rfl
/-- The call for each flow that is found. -/
def DoF (r : Bool) (P : Nat → World → Prop) (w0 : World) (T : Nat → Prop) (gl gs gm m : Nat) (p : Program) (dn : FuncId) (dc : Array Value) : Prop :=
  ∀ (s : Nat) (F : Nat → Int) (w : World), P s w → Kept (MuF T gl gs gm) w0 w → w.rowIs gl 2 m (fun j => .int .i64 (F j)) →
    Calls p dn (#[.slice (some ⟨gl, 0, none⟩) m m] ++ dc) w (fun e w' => e = .returned (.bool r) ∧ P (s + 1) w' ∧ Kept T w w')
theorem csP_zero {f : Nat → Nat} : ∀ {x}, csP f x = 0 → ∀ y, 1 ≤ y → y < x → f y = 0 := by
  intro x
  induction x with
  | zero => intro _ y _ h; omega
  | succ x ih =>
    intro h y h1 h2
    simp only [csP] at h
    rcases Nat.lt_or_ge y x with h3 | h3
    · exact ih (by omega) y h1 h3
    · obtain rfl : y = x := by omega
      rw [if_neg (by omega)] at h
      omega
/-- A new box of a list. -/
def NewP (base : Nat) (v : Value) (W : World) : Prop := ∃ p, v = .pointer (some ⟨p, 0, none⟩) ∧ base ≤ p ∧ p < W.heap.size ∧ W.cell? ⟨p, 0, none⟩ = some (.slice none 0 0) ∧ W.frozen? ⟨p, 0, none⟩ = false
theorem NewP.below {base : Nat} {v : Value} {W W' : World} (h : NewP base v W) (hb : Below W.heap.size W W') : NewP base v W' := by
  obtain ⟨p, e, h1, h2, h3, h4⟩ := h
  exact ⟨p, e, h1, Nat.lt_of_lt_of_le h2 hb.size, (hb.cell (p := ⟨p, 0, none⟩) h2).trans h3, (hb.frozen (p := ⟨p, 0, none⟩) h2).trans h4⟩
def FrsP (v : Value) (W : World) : Prop := ∃ p, v = .pointer (some ⟨p, 0, none⟩) ∧ W.heap.size ≤ p
theorem upL_src {base : Nat} {W : World} {A : Option Addr} {k c : Nat} (O : OwnL base W A k c (upL k)) : SrcI W A k (fun j => ((j + 1 : Nat) : Int)) := fun h0 => by
  obtain ⟨g, o, e, I⟩ := O.src h0
  exact ⟨g, o, e, ⟨I.blk, fun i hi => by rw [I.c i hi]; simp [ia, upL, List.getD_eq_getElem?_getD, hi]⟩⟩
noncomputable def xV (N : Nat) (n : Nat) : Int := if 12 < (N : Int) then 0 else W64 n
def xC (N : Nat) : Int := if 12 < (N : Int) then 3 else 0
end Go.Proofs.Ytppfplhbfgjjhaa
