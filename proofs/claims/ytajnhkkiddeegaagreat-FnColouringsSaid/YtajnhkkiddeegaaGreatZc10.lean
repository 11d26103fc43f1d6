import Derived.StillTailTactics
import Derived.Test.YtajnhkkiddeegaaGreatZc6
import Derived.Test.YtajnhkkiddeegaaGreatZc9
set_option linter.unusedVariables false
set_option linter.unusedSimpArgs false
namespace Go.Proofs.YtajnhkkiddeegaaGreat
open Go.RowKit Go.Sort
def Mut (S : Nat → Prop) (bc bu : Nat) : Nat → Prop := fun k => k = bc ∨ k = bu ∨ S k
/-- What of a painter stays. -/
structure PS (w0 : World) (S : Nat → Prop) (bp bc bu N m : Nat) (A : Option Addr) (cA : Nat) (L : List Nat) (b o c cc cu : Nat) (es : List (Int × Int)) (fv : Value) : Prop where
  p0 : w0.cell? ⟨bp, 0, none⟩ = some (.int .i64 N)
  p1 : w0.cell? ⟨bp, 1, none⟩ = some (.slice (some ⟨b, o, none⟩) m c)
  p2 : w0.cell? ⟨bp, 2, none⟩ = some (.slice A L.length cA)
  p3 : w0.cell? ⟨bp, 3, none⟩ = some (.slice (some ⟨bc, 0, none⟩) m cc)
  p4 : w0.cell? ⟨bp, 4, none⟩ = some (.slice (some ⟨bu, 0, none⟩) N cu)
  p5 : w0.cell? ⟨bp, 5, none⟩ = some fv
  pl : bp < w0.heap.size
  E : Eds w0 b o m es
  I : SrcI w0 A L.length (fun j => ((L.getD j 0 : Nat) : Int))
  hL : ∀ d, d ∈ L → d < m
  np : ¬ Mut S bc bu bp
  nb : ¬ Mut S bc bu b
  nA : ∀ g, blkOf A = some g → ¬ Mut S bc bu g
  ne : bc ≠ bu
/-- What of a painter turns: the colours, and what is used at the vertices. -/
structure PW (w0 : World) (S : Nat → Prop) (bc bu N m : Nat) (f : Nat → Int) (U : Nat → Nat) (w : World) : Prop where
  k : Kept (Mut S bc bu) w0 w
  rc : w.rowIs bc 2 m (fun j => .int .i64 (f j))
  ru : w.rowIs bu 81 N (fun j => .int .u64 (U j))
theorem PW.cell {w0 w : World} {S : Nat → Prop} {bp bc bu N m : Nat} {f : Nat → Int} {U : Nat → Nat} (h : PW w0 S bc bu N m f U w) (hl : bp < w0.heap.size) (hn : ¬ Mut S bc bu bp) (j : Nat) {v : Value} (hv : w0.cell? ⟨bp, j, none⟩ = some v) : w.cell? ⟨bp, j, none⟩ = some v :=
  (h.k.cell hl hn j).trans hv
theorem PW.below {w0 w w' : World} {S : Nat → Prop} {bc bu N m : Nat} {f : Nat → Int} {U : Nat → Nat} (h : PW w0 S bc bu N m f U w) (hb : Below w.heap.size w w') : PW w0 S bc bu N m f U w' :=
  ⟨h.k.thenB hb, h.rc.of_block (hb.block _ h.rc.lt), h.ru.of_block (hb.block _ h.ru.lt)⟩
theorem PW.congr {w0 w : World} {S : Nat → Prop} {bc bu N m : Nat} {f f' : Nat → Int} {U U' : Nat → Nat} (h : PW w0 S bc bu N m f U w) (hf : ∀ j, j < m → f j = f' j) (hU : ∀ j, j < N → U j = U' j) : PW w0 S bc bu N m f' U' w :=
  ⟨h.k, h.rc.congr (fun j hj => by rw [hf j hj]), h.ru.congr (fun j hj => by rw [hU j hj])⟩
theorem PW.setC {w0 w : World} {S : Nat → Prop} {bc bu N m : Nat} {f : Nat → Int} {U : Nat → Nat} (h : PW w0 S bc bu N m f U w) (ne : bc ≠ bu) (i : Nat) (x : Int) : PW w0 S bc bu N m (upF f i x) U (w.setCell ⟨bc, i, none⟩ (.int .i64 x)) :=
  ⟨h.k.setCell (.inl rfl) _, (h.rc.set i _).congr (fun j _ => by simp only [upF]; split <;> rfl), h.ru.setOther (Ne.symm ne) _⟩
theorem PW.setU {w0 w : World} {S : Nat → Prop} {bc bu N m : Nat} {f : Nat → Int} {U U' : Nat → Nat} (h : PW w0 S bc bu N m f U w) (ne : bc ≠ bu) (v : Nat) (x : Nat) (hU : ∀ j, U' j = if j = v then x else U j) : PW w0 S bc bu N m f U' (w.setCell ⟨bu, v, none⟩ (.int .u64 x)) :=
  ⟨h.k.setCell (.inr (.inl rfl)) _, h.rc.setOther ne _, (h.ru.set v _).congr (fun j _ => by rw [hU]; split <;> rfl)⟩
theorem PW.drew {w0 w : World} {S : Nat → Prop} {bc bu N m : Nat} {f : Nat → Int} {U : Nat → Nat} (h : PW w0 S bc bu N m f U w) : PW w0 S bc bu N m f U w.drew := ⟨h.k.drew, h.rc.drew, h.ru.drew⟩
/-- Given to the first k ends. -/
def gU (es : List (Int × Int)) (U : Nat → Nat) (e x k : Nat) : Nat → Nat := fun v => if (0 < k ∧ v = va es e) ∨ (1 < k ∧ v = vb es e) then U v ||| 2 ^ x else U v
/-- Taken from the first k ends. -/
def tU (es : List (Int × Int)) (U : Nat → Nat) (e x k : Nat) : Nat → Nat := fun v => if (k = 0 ∧ v = va es e) ∨ (k < 2 ∧ v = vb es e) then U v ||| 2 ^ x else U v
theorem andNot_or (a x : Nat) (ha : a < 8) (hx : x < 3) (hb : a.testBit x = false) : bits .andNot .u64 ((a ||| 2 ^ x : Nat) : Int) ((2 ^ x : Nat) : Int) = (a : Int) := by
  have h1 : a = 0 ∨ a = 1 ∨ a = 2 ∨ a = 3 ∨ a = 4 ∨ a = 5 ∨ a = 6 ∨ a = 7 := by omega
  have h2 : x = 0 ∨ x = 1 ∨ x = 2 := by omega
  rcases h1 with rfl | rfl | rfl | rfl | rfl | rfl | rfl | rfl <;> rcases h2 with rfl | rfl | rfl <;> first | (exact absurd hb (by decide)) | decide
theorem or8 {a x : Nat} (ha : a < 8) (hx : x < 3) : a ||| 2 ^ x < 8 := by
  have hp : 2 ^ x < 8 := by
    have : x = 0 ∨ x = 1 ∨ x = 2 := by omega
    rcases this with rfl | rfl | rfl <;> decide
  exact Nat.or_lt_two_pow (n := 3) ha hp
def vq (es : List (Int × Int)) (i k : Nat) : Nat := if k = 0 then va es i else vb es i
theorem vq_0 {es : List (Int × Int)} {N : Int} (hn : WfP N es) {i : Nat} (hi : i < es.length) : ((vq es i 0 : Nat) : Int) = ea es i := by
  have hw := hn.2.2.2.2 i hi
  simp [vq, va]; omega
theorem vq_1 {es : List (Int × Int)} {N : Int} (hn : WfP N es) {i : Nat} (hi : i < es.length) : ((vq es i 1 : Nat) : Int) = eb es i := by
  have hw := hn.2.2.2.2 i hi
  simp [vq, vb]; omega
theorem edge_idx {es : List (Int × Int)} {N : Int} (hn : WfP N es) {i k : Nat} (hi : i < es.length) (hk : k < 2) (W : World) : (Instr.index 78 (.agg #[.int .i64 (ea es i), .int .i64 (eb es i)]) (.int .i64 k)).run Tryz.prog W = .ok (.int .i64 (vq es i k : Nat)) W := by
  obtain ⟨y, hy⟩ : ∃ y, y = ((vq es i k : Nat) : Int) := ⟨_, rfl⟩
  rw [← hy]
  rcases (show k = 0 ∨ k = 1 by omega) with rfl | rfl
  · rw [vq_0 hn hi] at hy; subst hy; kernel_rfl
  · rw [vq_1 hn hi] at hy; subst hy; kernel_rfl
theorem vq_lt (es : List (Int × Int)) {N : Nat} (hn : WfP N es) {i k : Nat} (hi : i < es.length) : vq es i k < N := by
  have hw := hn.2.2.2.2 i hi
  unfold vq va vb; split <;> omega
theorem va_ne (es : List (Int × Int)) {N : Int} (hn : WfP N es) {i : Nat} (hi : i < es.length) : va es i ≠ vb es i := by
  have hw := hn.2.2.2.2 i hi
  unfold va vb; omega
set_option maxRecDepth 100000 in
set_option maxHeartbeats 2000000 in
theorem give_any {w0 : World} {S : Nat → Prop} {bp bc bu N m : Nat} {A : Option Addr} {cA : Nat} {L : List Nat} {b o c cc cu : Nat} {es : List (Int × Int)} {fv : Value} (ps : PS w0 S bp bc bu N m A cA L b o c cc cu es fv) (hn : WfP N es)
    (f : Nat → Int) (U : Nat → Nat) (i x : Nat) (w : World) (pw : PW w0 S bc bu N m f U w) (hi : i < m) (hx : x < 3) (h8 : ∀ v, U v < 8) :
    Calls Tryz.prog 104 #[.pointer (some ⟨bp, 0, none⟩), .int .i64 i, .int .i64 x] w (fun e w' => e = .returned (.tuple #[]) ∧ PW w0 S bc bu N m (upF f i x) (givU es U i x) w') := by
  have hl := Lib.hid ps.E.len
  have HN := Lib.hid hn
  have c1 := pw.cell ps.pl ps.np 1 ps.p1
  have c3 := pw.cell ps.pl ps.np 3 ps.p3
  have f1 := pw.rc.frozen i
  have r1 := pw.rc.cell hi
  have P1 := pw.setC ps.ne i x
  have c1' := P1.cell ps.pl ps.np 1 ps.p1
  have E := P1.k.eds ps.E ps.nb
  have d1 := E.ca i hi
  have d2 := E.cb i hi
  have HIX := Lib.hid (fun k (hk : k < 2) W => edge_idx hn (by rw [hl.out]; exact hi) hk W)
  clear hn E
  go_enter Tryz.func104, Tryz.ntmps104
  go_wp2_with fail
  obtain ⟨w1, hw1⟩ : ∃ w1, w1 = w.setCell ⟨bc, i, none⟩ (.int .i64 x) := ⟨_, rfl⟩
  rw [← hw1] at P1 ⊢
  clear hw1 c1 c3 f1 r1 c1' d1 d2 pw
  go_loopw [23] (fun kv wv => ∃ k : Nat, k ≤ 2 ∧ kv = .int .i64 k ∧ PW w0 S bc bu N m (upF f i x) (gU es U i x k) wv) (fun k _ => 2 - (intOf k).toNat)
  case atStart => exact ⟨0, by omega, rfl, P1.congr (fun _ _ => rfl) (fun j _ => by simp [gU])⟩
  case round =>
    clear P1
    obtain ⟨k, hk, rfl, P⟩ := hrel
    by_cases hk2 : k < 2
    · have c4 := P.cell ps.pl ps.np 4 ps.p4
      have hvN := vq_lt es HN.out (k := k) (by rw [hl.out]; exact hi : i < es.length)
      obtain ⟨v, hv⟩ : ∃ v, v = vq es i k := ⟨_, rfl⟩
      have hidx := fun W => HIX.out k hk2 W
      rw [← hv] at hvN hidx
      have hgv : Hid (gU es U i x k v = U v) := by
        show _ = _
        have hne := va_ne es HN.out (by rw [hl.out]; exact hi : i < es.length)
        rcases (show k = 0 ∨ k = 1 by omega) with rfl | rfl
        · simp [gU]
        · simp only [gU]; rw [if_neg]; simp only [vq] at hv; simp at hv; omega
      have r1 := P.ru.cell hvN
      have f1 := P.ru.frozen v
      rw [hgv.out] at r1
      have hgs : Hid (∀ j, gU es U i x (k + 1) j = if j = v then U v ||| 2 ^ x else gU es U i x k j) := fun j => by
        have hne := va_ne es HN.out (by rw [hl.out]; exact hi : i < es.length)
        rcases (show k = 0 ∨ k = 1 by omega) with rfl | rfl
        · simp only [vq, if_true] at hv
          by_cases e : j = v
          · subst e; rw [if_pos rfl]; simp [gU, ← hv]
          · rw [if_neg e]; simp [gU]; intro h; omega
        · simp [vq] at hv
          by_cases e : j = v
          · subst e; rw [if_pos rfl]; simp [gU, ← hv]
          · rw [if_neg e]; simp only [gU]
            by_cases e2 : j = va es i
            · rw [if_pos (by omega), if_pos (by omega)]
            · rw [if_neg (by omega), if_neg (by omega)]
      have hu8 : U v < 18446744073709551616 := by have := h8 v; omega
      have hX := wrap_pow (x := x) (by omega)
      have hX2 := pow64 (x := x) (by omega)
      have P2 := Lib.hid (P.setU ps.ne v (U v ||| 2 ^ x) hgs.out)
      obtain ⟨pc, hpc⟩ : ∃ pc : Nat, pc = 2 ^ x := ⟨_, rfl⟩
      rw [← hpc] at hX hX2 P2
      have hor := u64_or_nat _ pc hu8 hX2
      clear P hgs hgv hv hX2 hpc
      go_wp2_with fail
      go_still_tail 11, (by kernel_rfl)
      change wpList _ _ _ _ _ wr.drew
      go_wp2_with fail
      go_roundw
      case rel => exact ⟨k + 1, by omega, by go_num, P2.out.drew⟩
      case measure => simp [intOf]; omega
    · obtain rfl : k = 2 := by omega
      have P2 := P.congr (U' := givU es U i x) (fun _ _ => rfl) (fun j _ => by simp [gU, givU])
      clear P
      go_wp2_with fail
      go_end0
      exact ⟨rfl, P2⟩
set_option maxRecDepth 100000 in
set_option maxHeartbeats 2000000 in
theorem take_any {w0 : World} {S : Nat → Prop} {bp bc bu N m : Nat} {A : Option Addr} {cA : Nat} {L : List Nat} {b o c cc cu : Nat} {es : List (Int × Int)} {fv : Value} (ps : PS w0 S bp bc bu N m A cA L b o c cc cu es fv) (hn : WfP N es)
    (f : Nat → Int) (U : Nat → Nat) (i x : Nat) (w : World) (pw : PW w0 S bc bu N m (upF f i x) (givU es U i x) w) (hi : i < m) (hx : x < 3) (h8 : ∀ v, U v < 8) (hf : f i = -1) (ha : (U (va es i)).testBit x = false) (hb : (U (vb es i)).testBit x = false) :
    Calls Tryz.prog 139 #[.pointer (some ⟨bp, 0, none⟩), .int .i64 i] w (fun e w' => e = .returned (.tuple #[]) ∧ PW w0 S bc bu N m f U w') := by
  have hl := Lib.hid ps.E.len
  have HN := Lib.hid hn
  have HF := Lib.hid hf
  have HA := Lib.hid ha
  have HB := Lib.hid hb
  have c1 := pw.cell ps.pl ps.np 1 ps.p1
  have E := pw.k.eds ps.E ps.nb
  have d1 := E.ca i hi
  have d2 := E.cb i hi
  have HIX := Lib.hid (fun k (hk : k < 2) W => edge_idx hn (by rw [hl.out]; exact hi) hk W)
  have P0 := pw.congr (f' := upF f i x) (U' := tU es U i x 0) (fun _ _ => rfl) (fun j _ => by simp [tU, givU])
  clear hn E pw hf ha hb
  go_enter Tryz.func139, Tryz.ntmps139
  go_wp2_with fail
  clear c1 d1 d2
  go_loopw [14] (fun kv wv => ∃ k : Nat, k ≤ 2 ∧ kv = .int .i64 k ∧ PW w0 S bc bu N m (upF f i x) (tU es U i x k) wv) (fun k _ => 2 - (intOf k).toNat)
  case atStart => exact ⟨0, by omega, rfl, P0⟩
  case round =>
    clear P0
    obtain ⟨k, hk, rfl, P⟩ := hrel
    by_cases hk2 : k < 2
    · have c4 := P.cell ps.pl ps.np 4 ps.p4
      have c3 := P.cell ps.pl ps.np 3 ps.p3
      have hvN := vq_lt es HN.out (k := k) (by rw [hl.out]; exact hi : i < es.length)
      obtain ⟨v, hv⟩ : ∃ v, v = vq es i k := ⟨_, rfl⟩
      have hidx := fun W => HIX.out k hk2 W
      rw [← hv] at hvN hidx
      have hgv : Hid (tU es U i x k v = U v ||| 2 ^ x) := by
        show _ = _
        rcases (show k = 0 ∨ k = 1 by omega) with rfl | rfl
        · simp [vq] at hv; simp [tU, hv]
        · simp [vq] at hv; simp [tU, hv]
      have htb : (U v).testBit x = false := by
        rcases (show k = 0 ∨ k = 1 by omega) with rfl | rfl
        · simp [vq] at hv; rw [hv]; exact HA.out
        · simp [vq] at hv; rw [hv]; exact HB.out
      have r1 := P.ru.cell hvN
      have f1 := P.ru.frozen v
      have r2 := P.rc.cell hi
      rw [upF_same] at r2
      rw [hgv.out] at r1
      have hgs : Hid (∀ j, tU es U i x (k + 1) j = if j = v then U v else tU es U i x k j) := fun j => by
        have hne := va_ne es HN.out (by rw [hl.out]; exact hi : i < es.length)
        rcases (show k = 0 ∨ k = 1 by omega) with rfl | rfl
        · simp [vq] at hv
          by_cases e : j = v
          · subst e; rw [if_pos rfl]; simp only [tU]; rw [if_neg (by omega)]
          · rw [if_neg e]; simp only [tU]
            by_cases e2 : j = vb es i
            · rw [if_pos (by omega), if_pos (by omega)]
            · rw [if_neg (by omega), if_neg (by omega)]
        · simp [vq] at hv
          by_cases e : j = v
          · subst e; rw [if_pos rfl]; simp only [tU]; rw [if_neg (by omega)]
          · rw [if_neg e]; simp only [tU]; rw [if_neg (by omega), if_neg (by omega)]
      have hX := wrap_pow (x := x) (by omega)
      have han := andNot_or (U v) x (h8 v) hx htb
      have P2 := Lib.hid (P.setU ps.ne v (U v) hgs.out)
      obtain ⟨pc, hpc⟩ : ∃ pc : Nat, pc = 2 ^ x := ⟨_, rfl⟩
      rw [← hpc] at hX han r1
      clear P hgs hgv hv hpc
      go_wp2_with fail
      go_still_tail 17, (by kernel_rfl)
      change wpList _ _ _ _ _ wr.drew
      go_wp2_with fail
      go_roundw
      case rel => exact ⟨k + 1, by omega, by go_num, P2.out.drew⟩
      case measure => simp [intOf]; omega
    · obtain rfl : k = 2 := by omega
      have P2 := P.congr (U' := U) (fun _ _ => rfl) (fun j _ => by simp [tU])
      have c3 := P2.cell ps.pl ps.np 3 ps.p3
      have f1 := P2.rc.frozen i
      have r1 := P2.rc.cell hi
      have P3 := Lib.hid ((P2.setC ps.ne i (-1)).congr (f' := f) (U' := U) (fun j _ => by
        by_cases e : j = i
        · subst e; rw [upF_same, HF.out]
        · rw [upF_other e, upF_other e]) (fun _ _ => rfl))
      clear P P2
      go_wp2_with fail
      go_end0
      exact ⟨rfl, P3.out⟩
end Go.Proofs.YtajnhkkiddeegaaGreat
