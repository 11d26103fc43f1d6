import Derived.Test.YtccinfmphkihoaaFb
import Derived.Test.YtccinfmphkihoaaGm
namespace Go.Proofs.Ytccinfmphkihoaa
open Go.RowKit Go.Sort
/-! ### The reference's leaders -/
def lsF (f : Int → Int) (N : Nat) : List Int := (List.range N).map fun v : Nat => f v
theorem lsF_len (f : Int → Int) (N : Nat) : (lsF f N).length = N := by simp [lsF]
theorem lsF_at (f : Int → Int) {N j : Nat} (h : j < N) : ia (lsF f N) j = f j := by simp [ia, lsF, h]
theorem lsF_succ (f : Int → Int) (N : Nat) : lsF f (N + 1) = lsF f N ++ [f N] := by simp [lsF, List.range_succ]
theorem lsF_set (f : Int → Int) (N k : Nat) (x : Int) : (lsF f N).set k x = lsF (upI f k x) N := by
  apply List.ext_getElem
  · simp [lsF]
  · intro j h1 h2
    simp only [lsF, List.getElem_set, List.getElem_map, List.getElem_range, upI]
    by_cases e : k = j
    · subst e; simp
    · rw [if_neg e, if_neg (by omega)]
theorem lsF_congr {f g : Int → Int} {N : Nat} (h : ∀ v : Nat, v < N → f v = g v) : lsF f N = lsF g N := by
  apply List.ext_getElem
  · simp [lsF]
  · intro j h1 h2
    simp only [lsF, List.getElem_map, List.getElem_range]
    exact h j (by simpa [lsF] using h1)
theorem OwnL.store {base : Nat} {w : World} {g m c : Nat} {xs : List Int} (h : OwnL base w (some ⟨g, 0, none⟩) m c xs) (k : Nat) (x : Int) : OwnL base (w.setCell ⟨g, k, none⟩ (.int .i64 x)) (some ⟨g, 0, none⟩) m c (xs.set k x) :=
  ⟨by simp [h.1], by have := (h.2.stored k (.int .i64 x)).1; simpa [nums, List.map_set] using this⟩
theorem OwnL.cell {base : Nat} {w : World} {g m c : Nat} {xs : List Int} (h : OwnL base w (some ⟨g, 0, none⟩) m c xs) {j : Nat} (hj : j < m) : w.cell? ⟨g, j, none⟩ = some (.int .i64 (ia xs j)) := by
  rw [h.2.cellAt j (by omega)]; exact nums_at xs j (by rw [h.1]; exact hj)
set_option maxRecDepth 100000 in
set_option maxHeartbeats 3200000 in
theorem leaders_any (N b o m c : Nat) (es : List (Int × Int)) (w : World) (h : Eds w b o m es) (hm : m ≤ 1048576) (hR : InR N es) (hN : N ≤ 20) (hN1 : 1 ≤ N) :
    Calls Try.prog 65 #[.int .i64 N, .slice (some ⟨b, o, none⟩) m c] w (RetL (lsF (leadF es noSk) N) w) := by
  have KC := cell_rg
  have hl := Lib.hid h.len
  have HR := Lib.hid hR
  clear hR
  go_enter Try.func65, Try.ntmps65
  go_wp2_with fail
  have O : OwnL w.heap.size (w.alloc (.cells #[] 2)) (some ⟨w.heap.size, 0, none⟩) 0 0 [] := OwnL.empty _ _ _ (Nat.le_refl _) (heap_alloc_new w _)
  go_loopw [5, 6] (fun lv iv wr => ∃ (j : Nat) (A : Option Addr) (c' : Nat), j ≤ N ∧ iv = .int .i64 j ∧ lv = .slice A j c' ∧ OwnL w.heap.size wr A j c' (lsF (fun v => v) j) ∧ Below w.heap.size w wr) (fun _ i _ => N - (intOf i).toNat)
  case atStart => exact ⟨0, _, _, Nat.zero_le _, rfl, rfl, O, (Below.refl _ _).alloc (Nat.le_refl _) _⟩
  case round =>
    obtain ⟨j, A, c', hj, rfl, rfl, ho, hbr⟩ := hrel
    clear O
    have hsz := hbr.size
    by_cases hlt : j < N
    · go_wp2_with (first
        | (at_builtin; refine wp_appL1 rfl rfl rfl rfl rfl ho (by omega) (by omega) ?_; intro A2 c2 w2 ho2 hg2 hat2))
      have hb2 := Lib.hid (hbr.grown hg2 hsz (fun k hk => (ho.blk k hk).1))
      have ho3 := Lib.hid (show OwnL w.heap.size w2 A2 (j + 1) c2 (lsF (fun v => v) (j + 1)) by rw [lsF_succ]; exact ho2)
      go_roundw
      case rel => exact ⟨j + 1, A2, c2, by omega, by go_num, rfl, ho3.out, hb2.out⟩
      case measure => simp [intOf]; omega
    · obtain rfl : j = N := by omega
      obtain ⟨g, rfl, hbg, hlg⟩ : ∃ g, A = some ⟨g, 0, none⟩ ∧ w.heap.size ≤ g ∧ g < wr.heap.size := by
        rcases ho.cases with ⟨_, h0, _⟩ | h0
        · omega
        · exact h0
      go_wp2_with fail
      obtain ⟨w4, rfl⟩ : ∃ w4, w4 = wr := ⟨wr, rfl⟩
      go_loopg [7] (2 * ldSum (fun v => v) j + 1) (fun gk mv wr => ∃ (f : Int → Int) (mo : Bool), Hid (gk = 2 * ldSum f j + (if mo then 1 else 0)) ∧ mv = .bool mo ∧ Hid (LdI j es f) ∧ Hid (mo = false → ∀ i, i < m → f (ea es i) = f (eb es i)) ∧ OwnL w.heap.size wr (some ⟨g, 0, none⟩) j c' (lsF f j) ∧ Below w.heap.size w wr)
      case atStart => exact ⟨_, true, rfl, rfl, LdI.start _ _, (fun h => by cases h), ho, hbr⟩
      case round =>
        clear ho hbr
        obtain ⟨f, mo, HG, rfl, HI, HQ, ho, hbr⟩ := hrel
        cases mo with
        | false =>
          have HF := Lib.hid (lsF_congr (N := j) (fun v hv => ld_end HI.out HR.out (fun i hi => HQ.out rfl i (by rw [hl.out] at hi; exact hi)) v (by omega) (by omega)))
          go_wp2_with fail
          go_ret
          refine ⟨some ⟨g, 0, none⟩, c', ?_, by rw [← HF.out, lsF_len]; exact ho, hbr⟩
          rw [lsF_len]; rfl
        | true =>
          go_wp2_with fail
          obtain ⟨w5, rfl⟩ : ∃ w5, w5 = wr := ⟨wr, rfl⟩
          go_loopw [7, 8] (fun mv iv wv => ∃ k : Nat, k ≤ m ∧ iv = .int .i64 k ∧ mv = .bool (ldMore es f k) ∧ OwnL w.heap.size wv (some ⟨g, 0, none⟩) j c' (lsF (ldPass es f k) j) ∧ Below w.heap.size w wv) (fun _ i _ => m - (intOf i).toNat)
          case atStart => exact ⟨0, Nat.zero_le _, rfl, rfl, ho, hbr⟩
          case round =>
            clear ho hbr
            obtain ⟨k, hk, rfl, rfl, ho, hbr⟩ := hrel
            have hsz := hbr.size
            by_cases hlt : k < m
            · have r := HR.out k (by rw [hl.out]; exact hlt)
              obtain ⟨x, hx⟩ : ∃ x : Nat, ea es k = x := ⟨(ea es k).toNat, by omega⟩
              obtain ⟨y, hy⟩ : ∃ y : Nat, eb es k = y := ⟨(eb es k).toNat, by omega⟩
              have hxj : x < j := by omega
              have hyj : y < j := by omega
              have E := h.below hbr
              have c1 := E.ca k hlt
              have c2 := E.cb k hlt
              have z1 := E.blk
              have z2 := (ho.blk g rfl).2
              rw [hx] at c1
              rw [hy] at c2
              have r1 := ho.cell hxj
              have r2 := ho.cell hyj
              rw [lsF_at _ hxj] at r1
              rw [lsF_at _ hyj] at r2
              obtain ⟨p, hp⟩ : ∃ p, p = ldPass es f k := ⟨_, rfl⟩
              obtain ⟨mk, hmk⟩ : ∃ mk, mk = ldMore es f k := ⟨_, rfl⟩
              rw [← hp] at r1 r2 ho
              rw [← hmk]
              have HST : Hid (ldPass es f (k + 1) = if p x = p y then p else upI (upI p x (min (p x) (p y))) y (min (p x) (p y))) := by
                show ldStep _ _ _ = _; rw [ldStep, hx, hy, ← hp]
              have HMO : Hid (ldMore es f (k + 1) = (mk || decide (p x ≠ p y))) := by
                show (_ || _) = _; rw [hx, hy, ← hp, ← hmk]
              clear hp hmk hx hy r E
              by_cases heq : p x = p y
              · have hne : (p x != p y) = false := by simp [heq]
                have HST := Lib.hid (HST.out.trans (if_pos heq))
                have HMO := Lib.hid (HMO.out.trans (by simp [heq] : _ = mk))
                clear heq
                go_wp2_with fail
                (refine wp_region_quiet_below (by kernel_rfl) (by kernel_rfl) ?_
                 repeat (any_goals (go_big_quiet_step (first | fail)))
                 all_goals (refine wpQuiet_nil ?_; intro wq2 hq2; replace hq2 := below_of_rg hq2))
                go_wp2_with fail
                go_roundw
                case rel => exact ⟨k + 1, by omega, by go_num, by rw [HMO.out], by rw [HST.out]; exact ho.below hq2, hbr.andB hq2⟩
                case measure => simp [intOf]; omega
              · have hne : (p x != p y) = true := by simp [heq]
                have HST := Lib.hid (HST.out.trans (if_neg heq))
                have HMO := Lib.hid (HMO.out.trans (by simp [heq] : _ = true))
                have hxy : x ≠ y := fun e => heq (by rw [e])
                have hmin : (p x < p y ∧ min (p x) (p y) = p x) ∨ (p y < p x ∧ min (p x) (p y) = p y) := by omega
                rcases hmin with ⟨hlt3, hmn⟩ | ⟨hlt3, hmn⟩
                · rw [hmn] at HST
                  clear hmn
                  have hgb : g ≠ b := by have := h.blk; omega
                  have hbw : b < w.heap.size := h.blk
                  go_wp2_with fail
                  (refine wp_region_quiet_below (by kernel_rfl) (by kernel_rfl) ?_
                   repeat (any_goals (go_big_quiet_step (first | fail)))
                   all_goals (refine wpQuiet_nil ?_; intro wq2 hq2; replace hq2 := below_of_rg hq2))
                  have ho1 := ho.below hq2
                  have c1 := (bcell hq2).1 _ _ z1 ▸ c1
                  have c2 := (bcell hq2).1 _ _ z1 ▸ c2
                  have r1 := ho1.cell hxj
                  have r2 := ho1.cell hyj
                  have f1 := ho1.2.frozenAt x
                  have f2 := ho1.2.frozenAt y
                  have ho2 := Lib.hid ((ho1.store x (p x)).store y (p x))
                  have c2' : (wq2.setCell ⟨g, x, none⟩ (.int .i64 (p x))).cell? ⟨b, o + k * 2 + 1, none⟩ = some (.int .i64 y) := by
                    rw [World.cell?_setCell_other _ _ _ _ (fun hh => hgb (congrArg Addr.block hh))]; exact c2
                  have r2' : (wq2.setCell ⟨g, x, none⟩ (.int .i64 (p x))).cell? ⟨g, y, none⟩ = some (.int .i64 (ia (lsF p j) y)) := by
                    rw [World.cell?_setCell_other _ _ _ _ (fun hh => hxy (congrArg Addr.off hh))]; exact r2
                  have hB2 : Hid (Below w.heap.size w ((wq2.setCell ⟨g, x, none⟩ (.int .i64 (p x))).setCell ⟨g, y, none⟩ (.int .i64 (p x)))) := ((hbr.andB hq2).setCell hbg _).setCell hbg _
                  clear heq ho ho1 c2 hbr hxy
                  go_wp2_with fail
                  go_roundw
                  case rel => exact ⟨k + 1, by omega, by go_num, by rw [HMO.out], by rw [HST.out, ← lsF_set, ← lsF_set]; exact ho2.out, hB2.out⟩
                  case measure => simp [intOf]; omega
                · rw [hmn] at HST
                  clear hmn
                  have hgb : g ≠ b := by have := h.blk; omega
                  have hbw : b < w.heap.size := h.blk
                  go_wp2_with fail
                  (refine wp_region_quiet_below (by kernel_rfl) (by kernel_rfl) ?_
                   repeat (any_goals (go_big_quiet_step (first | fail)))
                   all_goals (refine wpQuiet_nil ?_; intro wq2 hq2; replace hq2 := below_of_rg hq2))
                  have ho1 := ho.below hq2
                  have c1 := (bcell hq2).1 _ _ z1 ▸ c1
                  have c2 := (bcell hq2).1 _ _ z1 ▸ c2
                  have r1 := ho1.cell hxj
                  have r2 := ho1.cell hyj
                  have f1 := ho1.2.frozenAt x
                  have f2 := ho1.2.frozenAt y
                  have ho2 := Lib.hid ((ho1.store x (p y)).store y (p y))
                  have c2' : (wq2.setCell ⟨g, x, none⟩ (.int .i64 (p y))).cell? ⟨b, o + k * 2 + 1, none⟩ = some (.int .i64 y) := by
                    rw [World.cell?_setCell_other _ _ _ _ (fun hh => hgb (congrArg Addr.block hh))]; exact c2
                  have r2' : (wq2.setCell ⟨g, x, none⟩ (.int .i64 (p y))).cell? ⟨g, y, none⟩ = some (.int .i64 (ia (lsF p j) y)) := by
                    rw [World.cell?_setCell_other _ _ _ _ (fun hh => hxy (congrArg Addr.off hh))]; exact r2
                  have hB2 : Hid (Below w.heap.size w ((wq2.setCell ⟨g, x, none⟩ (.int .i64 (p y))).setCell ⟨g, y, none⟩ (.int .i64 (p y)))) := ((hbr.andB hq2).setCell hbg _).setCell hbg _
                  clear heq ho ho1 c2 hbr hxy
                  go_wp2_with fail
                  go_roundw
                  case rel => exact ⟨k + 1, by omega, by go_num, by rw [HMO.out], by rw [HST.out, ← lsF_set, ← lsF_set]; exact ho2.out, hB2.out⟩
                  case measure => simp [intOf]; omega
            · obtain rfl : k = m := by omega
              have HI2 := Lib.hid (ldPass_inv HI.out HR.out k (by rw [hl.out]; exact Nat.le_refl _))
              cases hmk : ldMore es f k with
              | false =>
                have HE := Lib.hid (ldPass_no k hmk)
                have HG2 := Lib.hid (show 2 * ldSum f j + 0 < gk by have := HG.out; simp at this; omega)
                rw [HE.out.1] at ho
                clear hmk
                go_wp2_with fail
                go_roundg (2 * ldSum f j + 0)
                case measure => exact HG2.out
                case rel => exact ⟨f, false, rfl, rfl, HI.out, fun _ => HE.out.2, ho, hbr⟩
              | true =>
                have HE := Lib.hid (ldPass_lt HI.out HR.out k (by rw [hl.out]; exact Nat.le_refl _) hmk)
                have HG2 := Lib.hid (show 2 * ldSum (ldPass es f k) j + 1 < gk by have := HG.out; have := HE.out; simp at this; simp at *; omega)
                clear hmk
                go_wp2_with fail
                go_roundg (2 * ldSum (ldPass es f k) j + 1)
                case measure => exact HG2.out
                case rel => exact ⟨_, true, rfl, rfl, HI2.out, (fun h => by cases h), ho, hbr⟩

set_option maxHeartbeats 800000 in
theorem parts_any (N b o m c : Nat) (es : List (Int × Int)) (w : World) (h : Eds w b o m es) (hm : m ≤ 1048576) (hR : InR N es) (hN : N ≤ 20) (hN1 : 1 ≤ N) :
    Calls Try.prog 54 #[.int .i64 N, .slice (some ⟨b, o, none⟩) m c] w (Ret (.int .i64 (ldCnt es noSk N)) w) := by
  go_enter Try.func54, Try.ntmps54
  go_wp2_with (go_at_call 65; refine (leaders_any N b o m c es _ h hm hR hN hN1).mono ?_; rintro e w1 ⟨A, c1, rfl, ho, hb1⟩)
  obtain ⟨g, rfl, hbg, hlg⟩ : ∃ g, A = some ⟨g, 0, none⟩ ∧ w.heap.size ≤ g ∧ g < w1.heap.size := by
    rcases ho.cases with ⟨_, h0, _⟩ | h0
    · rw [lsF_len] at h0; omega
    · exact h0
  rw [lsF_len] at ho ⊢
  go_loop [6, 7] (fun cv iv => ∃ k : Nat, k ≤ N ∧ iv = .int .i64 k ∧ cv = .int .i64 (ldCnt es noSk k)) (fun _ i => N - (intOf i).toNat)
  case atStart => exact ⟨0, Nat.zero_le _, rfl, rfl⟩
  case round =>
    obtain ⟨k, hk, rfl, rfl⟩ := hrel
    have hlc := ldCnt_le es noSk k
    by_cases hlt : k < N
    · have r1 := ho.cell hlt
      rw [lsF_at _ hlt] at r1
      by_cases hx : leadF es noSk k = k
      · have e : (leadF es noSk k == k) = true := by simp [hx]
        have HE : Hid (ldCnt es noSk (k + 1) = ldCnt es noSk k + 1) := by show (_ + _) = _; rw [if_pos hx]
        clear hx
        go_wp2_with fail
        go_round
        case rel => exact ⟨k + 1, by omega, by go_num, by rw [HE.out]; go_num⟩
        case measure => simp [intOf]; omega
      · have e : (leadF es noSk k == k) = false := by simp [hx]
        have HE : Hid (ldCnt es noSk (k + 1) = ldCnt es noSk k) := by show (_ + _) = _; rw [if_neg hx]; rfl
        clear hx
        go_wp2_with fail
        go_round
        case rel => exact ⟨k + 1, by omega, by go_num, by rw [HE.out]⟩
        case measure => simp [intOf]; omega
    · obtain rfl : k = N := by omega
      go_wp2_with fail
      go_ret
      exact ⟨rfl, hb1⟩
end Go.Proofs.Ytccinfmphkihoaa
