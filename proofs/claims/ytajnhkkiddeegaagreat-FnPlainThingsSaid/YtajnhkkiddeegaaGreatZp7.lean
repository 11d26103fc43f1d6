import Derived.StillTailTactics
import Derived.Test.YtajnhkkiddeegaaGreatZp6
set_option linter.unusedVariables false
set_option linter.unusedSimpArgs false
namespace Go.Proofs.YtajnhkkiddeegaaGreat
open Go.RowKit Go.Sort
/-- The call returns a number; the source goes on. -/
def RetN (P : Int → Prop) (A : Option Addr) (l c p : Nat) (w : World) (e : Ending) (w' : World) : Prop := ∃ x : Int, e = .returned (.int .i64 x) ∧ P x ∧ DR A l c p w w'
theorem u64_ex (y : Int) : ∃ x : Nat, x < 18446744073709551616 ∧ IntKind.u64.wrap y = (x : Int) := by
  rw [IntKind.wrap_u64]
  exact ⟨(y % 18446744073709551616).toNat, by omega, by omega⟩
def NextP (n x : Int) : Prop := 0 ≤ x ∧ (1 ≤ n → x ≤ n - 1) ∧ (n < 1 → x = 0)
theorem nextP_mod {x n : Int} (h0 : 0 ≤ x) (h1 : 1 ≤ n) : NextP n (x % n) :=
  ⟨Int.emod_nonneg _ (by omega), fun _ => by have := Int.emod_lt_of_pos x (show 0 < n by omega); omega, fun h => by omega⟩
set_option maxRecDepth 100000 in
set_option maxHeartbeats 800000 in
theorem l01Next_any (A : Option Addr) (l c p : Nat) (n : Int) (w : World) (S : SR A l c p w) (hl : l ≤ 4096) :
    Calls Tryz.prog 66 #[.pointer (some ⟨p, 0, none⟩), .int .i64 n] w (RetN (NextP n) A l c p w) := by
  have KC := cell_rg
  have HS := Lib.hid S
  by_cases h1 : n < 1
  · go_enter Tryz.func66, Tryz.ntmps66
    go_wp2_with fail
    go_ret
    exact ⟨0, rfl, ⟨by omega, by omega, fun _ => rfl⟩, DR.refl HS.out⟩
  obtain ⟨z0, q0, ⟨k, hk, q1⟩, ⟨h, hh, q2⟩, f1, f2, hby⟩ := S
  obtain ⟨x1, hx1, e1⟩ := u64_ex (IntKind.u64.wrap ((h : Int) * 6364136223846793005) + 1442695040888963407)
  obtain ⟨x2, hx2, e2⟩ : ∃ x2 : Nat, x2 ≤ 16777215 ∧ wrap64 (bits .and .u64 ((x1 : Int) / 8589934592) 16777215) = (x2 : Int) := by
    have hd : x1 / 8589934592 < 18446744073709551616 := by omega
    have h3 : x1 / 8589934592 &&& 16777215 ≤ 16777215 := Nat.and_le_right
    refine ⟨x1 / 8589934592 &&& 16777215, h3, ?_⟩
    rw [show ((x1 : Int) / 8589934592) = ((x1 / 8589934592 : Nat) : Int) by simp, show (16777215 : Int) = ((16777215 : Nat) : Int) from rfl, u64_and_nat _ _ hd (by omega)]
    exact IntWalk.wrap64_in ((x1 / 8589934592 &&& 16777215 : Nat) : Int) (by omega)
  go_enter Tryz.func66, Tryz.ntmps66
  go_wp2_with fail
  have D := HS.out.hashed hx1
  obtain ⟨w2, hw2⟩ : ∃ w2, w2 = w.setCell ⟨p, 2, none⟩ (.int .u64 x1) := ⟨_, rfl⟩
  rw [← hw2] at D ⊢
  clear hw2 z0 q0 q1 q2 f1 f2 hby e1 hx1 hk hh
  have S := D.2
  obtain ⟨z0, q0, ⟨k, hk, q1⟩, ⟨h, hh, q2⟩, f1, f2, hby⟩ := S
  by_cases hkl : k < l
  · obtain ⟨b, o, hA, zb, hbp, hcs⟩ := hby (by omega)
    obtain ⟨v, hv, cv⟩ := hcs k hkl
    have hwa : IntKind.i64.wrap ((x2 : Int) + v) = (x2 : Int) + v := IntWalk.i64_in _ (by omega)
    have hwv : IntKind.i64.wrap (v : Int) = (v : Int) := IntWalk.i64_in _ (by omega)
    have hwk : IntKind.i64.wrap ((k : Int) + 1) = (k : Int) + 1 := IntWalk.i64_in _ (by omega)
    subst hA
    clear hcs
    (refine wp_region_quiet_below (by kernel_rfl) (by kernel_rfl) ?_
     repeat (any_goals (go_big_quiet_step (first | fail)))
     all_goals (refine wpQuiet_nil ?_; intro wq1 hq1; replace hq1 := below_of_rg hq1))
    have D := D.thenB hq1
    have z1 := Nat.lt_of_lt_of_le z0 hq1.size
    have q0 := (hq1.cell (p := ⟨p, 0, none⟩) z0).trans q0
    have q1 := (hq1.cell (p := ⟨p, 1, none⟩) z0).trans q1
    have cv := (hq1.cell (p := ⟨b, o + k, none⟩) zb).trans cv
    have zb := Nat.lt_of_lt_of_le zb hq1.size
    clear q2 f1 f2 hby hq1 z0
    go_wp2_with fail
    (refine wp_region_quiet_below (by kernel_rfl) (by kernel_rfl) ?_
     repeat (any_goals (go_big_quiet_step (first | fail)))
     all_goals (refine wpQuiet_nil ?_; intro wq2 hq2; replace hq2 := below_of_rg hq2))
    have D := D.thenB hq2
    have S := D.2
    have q1 := (hq2.cell (p := ⟨p, 1, none⟩) z1).trans q1
    obtain ⟨z0, q0, _, _, f1, f2, hby⟩ := S
    have DM := D.trans (D.2.moved (x := k + 1) (by omega))
    have HDM := Lib.hid DM
    clear D DM hq2
    go_wp2_with fail
    go_ret
    exact ⟨_, rfl, nextP_mod (by omega) (by omega), HDM.out⟩
  · (refine wp_region_quiet_below (by kernel_rfl) (by kernel_rfl) ?_
     repeat (any_goals (go_big_quiet_step (first | fail)))
     all_goals (refine wpQuiet_nil ?_; intro wq1 hq1; replace hq1 := below_of_rg hq1))
    have D := Lib.hid (D.thenB hq1)
    clear z0 q0 q1 q2 f1 f2 hby hq1
    go_wp2_with fail
    go_ret
    exact ⟨_, rfl, nextP_mod (by omega) (by omega), D.out⟩
set_option maxRecDepth 100000 in
set_option maxHeartbeats 400000 in
theorem l01Pick_any (A : Option Addr) (l c p b o m c2 : Nat) (ls : Nat → Int) (w : World) (S : SR A l c p w) (hl : l ≤ 4096) (I : Ints w b o m ls) (hb : b ≠ p) (hm0 : 0 < m) (hm : m ≤ 1048576) :
    Calls Tryz.prog 76 #[.pointer (some ⟨p, 0, none⟩), .slice (some ⟨b, o, none⟩) m c2] w (RetN (fun x => ∃ k, k < m ∧ x = ls k) A l c p w) := by
  have HN := Lib.hid (l01Next_any A l c p (m : Int) w S hl)
  go_enter Tryz.func76, Tryz.ntmps76
  go_wp2_with fail
  refine HN.out.mono ?_
  rintro e w2 ⟨x, rfl, hx, D⟩
  have I2 := D.1.ints I hb
  obtain ⟨j, rfl⟩ : ∃ j : Nat, x = j := ⟨x.toNat, by have := hx.1; omega⟩
  have hj : j < m := by have := hx.2.1 (by omega); omega
  have cj := I2.c j hj
  have zb := I2.blk
  clear hx I2
  go_wp2_with fail
  go_ret
  exact ⟨_, rfl, ⟨j, hj, rfl⟩, D⟩
/-- The code's bytes, as they are handed in. -/
def Bys0 (w : World) (A : Option Addr) (l : Nat) : Prop := 0 < l → ∃ b o, A = some ⟨b, o, none⟩ ∧ b < w.heap.size ∧ ∀ i, i < l → ∃ v : Nat, v < 256 ∧ w.cell? ⟨b, o + i, none⟩ = some (.int .u8 v)
theorem Bys0.below {w w' : World} {A : Option Addr} {l : Nat} (h : Bys0 w A l) (hb : Below w.heap.size w w') : Bys0 w' A l := fun hl => by
  obtain ⟨b, o, e, hbl, hc⟩ := h hl
  exact ⟨b, o, e, Nat.lt_of_lt_of_le hbl hb.size, fun i hi => by
    obtain ⟨v, hv, hcv⟩ := hc i hi
    exact ⟨v, hv, (hb.cell (p := ⟨b, o + i, none⟩) hbl).trans hcv⟩⟩
theorem SR.made {A : Option Addr} {l c : Nat} {w : World} (h : Bys0 w A l) (t : TypeId) {x : Nat} (hx : x < 18446744073709551616) : SR A l c w.heap.size (w.alloc (.cells #[.slice A l c, .int .i64 0, .int .u64 x] t)) := by
  have hh := heap_alloc_new w (.cells #[.slice A l c, .int .i64 0, .int .u64 x] t)
  have hb : Below w.heap.size w (w.alloc (.cells #[.slice A l c, .int .i64 0, .int .u64 x] t)) := (Below.refl _ _).alloc (Nat.le_refl _) _
  have hc : ∀ k : Nat, (w.alloc (.cells #[.slice A l c, .int .i64 0, .int .u64 x] t)).cell? ⟨w.heap.size, k, none⟩ = #[Value.slice A l c, .int .i64 0, .int .u64 x][k]? := fun k => cell_of_row _ _ _ _ _ _ hh
  have hf : ∀ k : Nat, (w.alloc (.cells #[.slice A l c, .int .i64 0, .int .u64 x] t)).frozen? ⟨w.heap.size, k, none⟩ = false := fun k => by
    unfold World.frozen?
    rw [show (w.alloc (.cells #[.slice A l c, .int .i64 0, .int .u64 x] t)).heap[(⟨w.heap.size, k, none⟩ : Addr).block]? = some (.cells #[.slice A l c, .int .i64 0, .int .u64 x] t) from hh]
    simp
  refine ⟨by simp, hc 0, ⟨0, Nat.zero_le _, hc 1⟩, ⟨x, hx, hc 2⟩, hf 1, hf 2, fun hl => ?_⟩
  obtain ⟨b, o, e, hbl, hcs⟩ := (h.below hb) hl
  obtain ⟨b', o', e', hbl', _⟩ := h hl
  rw [e] at e'
  injection e' with e'
  injection e' with e1
  subst e1
  exact ⟨_, _, e, hbl, by omega, hcs⟩
set_option maxRecDepth 100000 in
set_option maxHeartbeats 800000 in
theorem l01From_any (A : Option Addr) (l c : Nat) (w : World) (h : Bys0 w A l) (hl : l ≤ 4096) :
    Calls Tryz.prog 51 #[.slice A l c] w (fun e w' => e = .returned (.pointer (some ⟨w.heap.size, 0, none⟩)) ∧ Below w.heap.size w w' ∧ SR A l c w.heap.size w') := by
  have KC := cell_rg
  obtain ⟨x0, hx0, e0⟩ : ∃ x0 : Nat, x0 < 18446744073709551616 ∧ IntKind.u64.wrap (13291 + (l : Int)) = (x0 : Int) := ⟨13291 + l, by omega, by rw [IntKind.wrap_u64]; omega⟩
  have el : IntKind.u64.wrap (l : Int) = (l : Int) := by rw [IntKind.wrap_u64]; omega
  go_enter Tryz.func51, Tryz.ntmps51
  go_wp2_with fail
  have S1 := SR.made (c := c) h 100 hx0
  have hb1 : Below w.heap.size w (w.alloc (.cells #[.slice A l c, .int .i64 0, .int .u64 x0] 100)) := (Below.refl _ _).alloc (Nat.le_refl _) _
  obtain ⟨w1, hw1⟩ : ∃ w1, w1 = w.alloc (.cells #[.slice A l c, .int .i64 0, .int .u64 x0] 100) := ⟨_, rfl⟩
  rw [← hw1] at S1 hb1 ⊢
  clear hw1 e0 el
  obtain ⟨p, hp⟩ : ∃ p, p = w.heap.size := ⟨_, rfl⟩
  have HP := Lib.hid hp
  rw [← hp] at S1 ⊢
  clear hp
  go_loopw [4] (fun kv wv => ∃ k : Nat, k ≤ l ∧ kv = .int .i64 k ∧ DR A l c p w1 wv) (fun k _ => l - (intOf k).toNat)
  case atStart => exact ⟨0, Nat.zero_le _, rfl, DR.refl S1⟩
  case round =>
    clear S1
    obtain ⟨k, hk, rfl, D⟩ := hrel
    by_cases hlt : k < l
    · have hk4 : (k : Int) < 4096 := by omega
      obtain ⟨z0, q0, _, ⟨h2, hh, q2⟩, f1, f2, hby⟩ := D.2
      obtain ⟨b, o, hA, zb, hbp, hcs⟩ := hby (by omega)
      obtain ⟨v, hv, cv⟩ := hcs k hlt
      obtain ⟨x1, hx1, e1⟩ := u64_ex (IntKind.u64.wrap (IntKind.u64.wrap ((h2 : Int) * 1099511628211) + (v : Int)) + 151)
      have ev : IntKind.u64.wrap (v : Int) = (v : Int) := by rw [IntKind.wrap_u64]; omega
      subst hA
      clear hcs hby
      go_wp2_with fail
      go_still_tail 15, (by kernel_rfl)
      change wpList _ _ _ _ _ wr.drew
      have D2 : DR _ l c p w1 wr.drew := D.thenB ((Below.refl _ _).drew)
      have HD3 := Lib.hid (D2.trans (D2.2.hashed hx1))
      clear D D2
      go_wp2_with fail
      go_roundw
      case rel => exact ⟨k + 1, by omega, by go_num, HD3.out⟩
      case measure => simp [intOf]; omega
    · obtain rfl : k = l := by omega
      go_wp2_with fail
      go_ret
      have hb2 : Below w.heap.size w wr := by
        have := D.1.below (B := w.heap.size) (by have := hb1.size; exact this) (fun q hq => by have : q = p := hq; rw [this, HP.out]; exact Nat.le_refl _)
        exact hb1.trans this
      rw [HP.out] at *
      exact ⟨rfl, hb2, D.2⟩
end Go.Proofs.YtajnhkkiddeegaaGreat
namespace Go.Proofs.YtajnhkkiddeegaaGreat
open Go.RowKit Go.Sort
def Mut (S : Nat → Prop) (bc bu : Nat) : Nat → Prop := fun k => k = bc ∨ k = bu ∨ S k
/-- What of a painter stays. -/
structure PS (w0 : World) (S : Nat → Prop) (bp bc bu N m : Nat) (A : Option Addr) (cA : Nat) (L : List Nat) (b o c cc cu : Nat) (es : List (Int × Int)) (fv : Value) : Prop where
  p0 : w0.cell? ⟨bp, 0, none⟩ = some (.int .i64 N)
  p1 : w0.cell? ⟨bp, 1, none⟩ = some (.slice (some ⟨b, o, none⟩) m c)
  p2 : w0.cell? ⟨bp, 2, none⟩ = some (.slice A L.length cA)
  p3 : w0.cell? ⟨bp, 3, none⟩ = some (.slice (some ⟨bc, 0, none⟩) m cc)
  p4 : w0.cell? ⟨bp, 4, none⟩ = some (.slice (some ⟨bu, 0, none⟩) N cu)
  p5 : w0.cell? ⟨bp, 5, none⟩ = some fv
  pl : bp < w0.heap.size
  E : Eds w0 b o m es
  I : SrcI w0 A L.length (fun j => ((L.getD j 0 : Nat) : Int))
  hL : ∀ d, d ∈ L → d < m
  np : ¬ Mut S bc bu bp
  nb : ¬ Mut S bc bu b
  nA : ∀ g, blkOf A = some g → ¬ Mut S bc bu g
  ne : bc ≠ bu
/-- What of a painter turns: the colours, and what is used at the vertices. -/
structure PW (w0 : World) (S : Nat → Prop) (bc bu N m : Nat) (f : Nat → Int) (U : Nat → Nat) (w : World) : Prop where
  k : Kept (Mut S bc bu) w0 w
  rc : w.rowIs bc 2 m (fun j => .int .i64 (f j))
  ru : w.rowIs bu 81 N (fun j => .int .u64 (U j))
theorem PW.cell {w0 w : World} {S : Nat → Prop} {bp bc bu N m : Nat} {f : Nat → Int} {U : Nat → Nat} (h : PW w0 S bc bu N m f U w) (hl : bp < w0.heap.size) (hn : ¬ Mut S bc bu bp) (j : Nat) {v : Value} (hv : w0.cell? ⟨bp, j, none⟩ = some v) : w.cell? ⟨bp, j, none⟩ = some v :=
  (h.k.cell hl hn j).trans hv
theorem PW.below {w0 w w' : World} {S : Nat → Prop} {bc bu N m : Nat} {f : Nat → Int} {U : Nat → Nat} (h : PW w0 S bc bu N m f U w) (hb : Below w.heap.size w w') : PW w0 S bc bu N m f U w' :=
  ⟨h.k.thenB hb, h.rc.of_block (hb.block _ h.rc.lt), h.ru.of_block (hb.block _ h.ru.lt)⟩
theorem PW.congr {w0 w : World} {S : Nat → Prop} {bc bu N m : Nat} {f f' : Nat → Int} {U U' : Nat → Nat} (h : PW w0 S bc bu N m f U w) (hf : ∀ j, j < m → f j = f' j) (hU : ∀ j, j < N → U j = U' j) : PW w0 S bc bu N m f' U' w :=
  ⟨h.k, h.rc.congr (fun j hj => by rw [hf j hj]), h.ru.congr (fun j hj => by rw [hU j hj])⟩
theorem PW.drew {w0 w : World} {S : Nat → Prop} {bc bu N m : Nat} {f : Nat → Int} {U : Nat → Nat} (h : PW w0 S bc bu N m f U w) : PW w0 S bc bu N m f U w.drew := ⟨h.k.drew, h.rc.drew, h.ru.drew⟩
end Go.Proofs.YtajnhkkiddeegaaGreat
