import Derived.Test.YtppfplhbfgjjhaaM13
import Derived.Test.YtppfplhbfgjjhaaM4
import Derived.Test.YtppfplhbfgjjhaaM14
namespace Go.Proofs.Ytppfplhbfgjjhaa
open Go.RowKit Go.Sort
/-! ### The reference's leaders -/
def lsF (f : Int → Int) (N : Nat) : List Int := (List.range N).map fun v : Nat => f v
theorem lsF_len (f : Int → Int) (N : Nat) : (lsF f N).length = N := by simp [lsF]
theorem lsF_at (f : Int → Int) {N j : Nat} (h : j < N) : ia (lsF f N) j = f j := by simp [ia, lsF, h]
theorem lsF_succ (f : Int → Int) (N : Nat) : lsF f (N + 1) = lsF f N ++ [f N] := by simp [lsF, List.range_succ]
theorem lsF_set (f : Int → Int) (N k : Nat) (x : Int) : (lsF f N).set k x = lsF (upI f k x) N := by
  apply List.ext_getElem
  · simp [lsF]
  · intro j h1 h2
    simp only [lsF, List.getElem_set, List.getElem_map, List.getElem_range, upI]
    by_cases e : k = j
    · subst e; simp
    · rw [if_neg e, if_neg (by omega)]
theorem lsF_congr {f g : Int → Int} {N : Nat} (h : ∀ v : Nat, v < N → f v = g v) : lsF f N = lsF g N := by
  apply List.ext_getElem
  · simp [lsF]
  · intro j h1 h2
    simp only [lsF, List.getElem_map, List.getElem_range]
    exact h j (by simpa [lsF] using h1)
theorem OwnL.store {base : Nat} {w : World} {g m c : Nat} {xs : List Int} (h : OwnL base w (some ⟨g, 0, none⟩) m c xs) (k : Nat) (x : Int) : OwnL base (w.setCell ⟨g, k, none⟩ (.int .i64 x)) (some ⟨g, 0, none⟩) m c (xs.set k x) :=
  ⟨by simp [h.1], by have := (h.2.stored k (.int .i64 x)).1; simpa [nums, List.map_set] using this⟩
theorem OwnL.cell {base : Nat} {w : World} {g m c : Nat} {xs : List Int} (h : OwnL base w (some ⟨g, 0, none⟩) m c xs) {j : Nat} (hj : j < m) : w.cell? ⟨g, j, none⟩ = some (.int .i64 (ia xs j)) := by
  rw [h.2.cellAt j (by omega)]; exact nums_at xs j (by rw [h.1]; exact hj)
set_option maxRecDepth 100000 in
set_option maxHeartbeats 3200000 in
theorem leaders_any (N b o m c : Nat) (es : List (Int × Int)) (w : World) (h : Eds w b o m es) (hm : m ≤ 1048576) (hR : InR N es) (hN : N ≤ 20) (hN1 : 1 ≤ N) :
    Calls Try.prog 161 #[.int .i64 N, .slice (some ⟨b, o, none⟩) m c] w (RetL (lsF (leadF es noSk) N) w) := by
  have KC := cell_rg
  have hl := Lib.hid h.len
  have HR := Lib.hid hR
  clear hR
  go_enter Try.func161, Try.ntmps161
  go_wp2_with fail
  have O : OwnL w.heap.size (w.alloc (.cells #[] 2)) (some ⟨w.heap.size, 0, none⟩) 0 0 [] := OwnL.empty _ _ _ (Nat.le_refl _) (heap_alloc_new w _)
  go_loopw [5, 6] (fun lv iv wr => ∃ (j : Nat) (A : Option Addr) (c' : Nat), j ≤ N ∧ iv = .int .i64 j ∧ lv = .slice A j c' ∧ OwnL w.heap.size wr A j c' (lsF (fun v => v) j) ∧ Below w.heap.size w wr) (fun _ i _ => N - (intOf i).toNat)
  case atStart => exact ⟨0, _, _, Nat.zero_le _, rfl, rfl, O, (Below.refl _ _).alloc (Nat.le_refl _) _⟩
  case round =>
    obtain ⟨j, A, c', hj, rfl, rfl, ho, hbr⟩ := hrel
    clear O
    have hsz := hbr.size
    by_cases hlt : j < N
    · go_wp2_with (first
        | (at_builtin; refine wp_appL1 rfl rfl rfl rfl rfl ho (by omega) (by omega) ?_; intro A2 c2 w2 ho2 hg2 hat2))
      have hb2 := Lib.hid (hbr.grown hg2 hsz (fun k hk => (ho.blk k hk).1))
      have ho3 := Lib.hid (show OwnL w.heap.size w2 A2 (j + 1) c2 (lsF (fun v => v) (j + 1)) by rw [lsF_succ]; exact ho2)
      go_roundw
      case rel => exact ⟨j + 1, A2, c2, by omega, by go_num, rfl, ho3.out, hb2.out⟩
      case measure => simp [intOf]; omega
    · obtain rfl : j = N := by omega
      obtain ⟨g, rfl, hbg, hlg⟩ : ∃ g, A = some ⟨g, 0, none⟩ ∧ w.heap.size ≤ g ∧ g < wr.heap.size := by
        rcases ho.cases with ⟨_, h0, _⟩ | h0
        · omega
        · exact h0
      go_wp2_with fail
      obtain ⟨w4, rfl⟩ : ∃ w4, w4 = wr := ⟨wr, rfl⟩
      go_loopg [7] (2 * ldSum (fun v => v) j + 1) (fun gk mv wr => ∃ (f : Int → Int) (mo : Bool), Hid (gk = 2 * ldSum f j + (if mo then 1 else 0)) ∧ mv = .bool mo ∧ Hid (LdI j es f) ∧ Hid (mo = false → ∀ i, i < m → f (ea es i) = f (eb es i)) ∧ OwnL w.heap.size wr (some ⟨g, 0, none⟩) j c' (lsF f j) ∧ Below w.heap.size w wr)
      case atStart => exact ⟨_, true, rfl, rfl, LdI.start _ _, (fun h => by cases h), ho, hbr⟩
      case round =>
        clear ho hbr
        obtain ⟨f, mo, HG, rfl, HI, HQ, ho, hbr⟩ := hrel
        cases mo with
        | false =>
          have HF := Lib.hid (lsF_congr (N := j) (fun v hv => ld_end HI.out HR.out (fun i hi => HQ.out rfl i (by rw [hl.out] at hi; exact hi)) v (by omega) (by omega)))
          go_wp2_with fail
          go_ret
          refine ⟨some ⟨g, 0, none⟩, c', ?_, by rw [← HF.out, lsF_len]; exact ho, hbr⟩
          rw [lsF_len]; rfl
        | true =>
          go_wp2_with fail
          obtain ⟨w5, rfl⟩ : ∃ w5, w5 = wr := ⟨wr, rfl⟩
          go_loopw [7, 8] (fun mv iv wv => ∃ k : Nat, k ≤ m ∧ iv = .int .i64 k ∧ mv = .bool (ldMore es f k) ∧ OwnL w.heap.size wv (some ⟨g, 0, none⟩) j c' (lsF (ldPass es f k) j) ∧ Below w.heap.size w wv) (fun _ i _ => m - (intOf i).toNat)
          case atStart => exact ⟨0, Nat.zero_le _, rfl, rfl, ho, hbr⟩
          case round =>
            clear ho hbr
            obtain ⟨k, hk, rfl, rfl, ho, hbr⟩ := hrel
            have hsz := hbr.size
            by_cases hlt : k < m
            · have r := HR.out k (by rw [hl.out]; exact hlt)
              obtain ⟨x, hx⟩ : ∃ x : Nat, ea es k = x := ⟨(ea es k).toNat, by omega⟩
              obtain ⟨y, hy⟩ : ∃ y : Nat, eb es k = y := ⟨(eb es k).toNat, by omega⟩
              have hxj : x < j := by omega
              have hyj : y < j := by omega
              have E := h.below hbr
              have c1 := E.ca k hlt
              have c2 := E.cb k hlt
              have z1 := E.blk
              have z2 := (ho.blk g rfl).2
              rw [hx] at c1
              rw [hy] at c2
              have r1 := ho.cell hxj
              have r2 := ho.cell hyj
              rw [lsF_at _ hxj] at r1
              rw [lsF_at _ hyj] at r2
              obtain ⟨p, hp⟩ : ∃ p, p = ldPass es f k := ⟨_, rfl⟩
              obtain ⟨mk, hmk⟩ : ∃ mk, mk = ldMore es f k := ⟨_, rfl⟩
              rw [← hp] at r1 r2 ho
              rw [← hmk]
              have HST : Hid (ldPass es f (k + 1) = if p x = p y then p else upI (upI p x (min (p x) (p y))) y (min (p x) (p y))) := by
                show ldStep _ _ _ = _; rw [ldStep, hx, hy, ← hp]
              have HMO : Hid (ldMore es f (k + 1) = (mk || decide (p x ≠ p y))) := by
                show (_ || _) = _; rw [hx, hy, ← hp, ← hmk]
              clear hp hmk hx hy r E
              by_cases heq : p x = p y
              · have hne : (p x != p y) = false := by simp [heq]
                have HST := Lib.hid (HST.out.trans (if_pos heq))
                have HMO := Lib.hid (HMO.out.trans (by simp [heq] : _ = mk))
                clear heq
                go_wp2_with fail
                (refine wp_region_quiet_below (by kernel_rfl) (by kernel_rfl) ?_
                 repeat (any_goals (go_big_quiet_step (first | fail)))
                 all_goals (refine wpQuiet_nil ?_; intro wq2 hq2; replace hq2 := below_of_rg hq2))
                go_wp2_with fail
                go_roundw
                case rel => exact ⟨k + 1, by omega, by go_num, by rw [HMO.out], by rw [HST.out]; exact ho.below hq2, hbr.andB hq2⟩
                case measure => simp [intOf]; omega
              · have hne : (p x != p y) = true := by simp [heq]
                have HST := Lib.hid (HST.out.trans (if_neg heq))
                have HMO := Lib.hid (HMO.out.trans (by simp [heq] : _ = true))
                have hxy : x ≠ y := fun e => heq (by rw [e])
                have hmin : (p x < p y ∧ min (p x) (p y) = p x) ∨ (p y < p x ∧ min (p x) (p y) = p y) := by omega
                rcases hmin with ⟨hlt3, hmn⟩ | ⟨hlt3, hmn⟩
                · rw [hmn] at HST
                  clear hmn
                  have hgb : g ≠ b := by have := h.blk; omega
                  have hbw : b < w.heap.size := h.blk
                  go_wp2_with fail
                  (refine wp_region_quiet_below (by kernel_rfl) (by kernel_rfl) ?_
                   repeat (any_goals (go_big_quiet_step (first | fail)))
                   all_goals (refine wpQuiet_nil ?_; intro wq2 hq2; replace hq2 := below_of_rg hq2))
                  have ho1 := ho.below hq2
                  have c1 := (bcell hq2).1 _ _ z1 ▸ c1
                  have c2 := (bcell hq2).1 _ _ z1 ▸ c2
                  have r1 := ho1.cell hxj
                  have r2 := ho1.cell hyj
                  have f1 := ho1.2.frozenAt x
                  have f2 := ho1.2.frozenAt y
                  have ho2 := Lib.hid ((ho1.store x (p x)).store y (p x))
                  have c2' : (wq2.setCell ⟨g, x, none⟩ (.int .i64 (p x))).cell? ⟨b, o + k * 2 + 1, none⟩ = some (.int .i64 y) := by
                    rw [World.cell?_setCell_other _ _ _ _ (fun hh => hgb (congrArg Addr.block hh))]; exact c2
                  have r2' : (wq2.setCell ⟨g, x, none⟩ (.int .i64 (p x))).cell? ⟨g, y, none⟩ = some (.int .i64 (ia (lsF p j) y)) := by
                    rw [World.cell?_setCell_other _ _ _ _ (fun hh => hxy (congrArg Addr.off hh))]; exact r2
                  have hB2 : Hid (Below w.heap.size w ((wq2.setCell ⟨g, x, none⟩ (.int .i64 (p x))).setCell ⟨g, y, none⟩ (.int .i64 (p x)))) := ((hbr.andB hq2).setCell hbg _).setCell hbg _
                  clear heq ho ho1 c2 hbr hxy
                  go_wp2_with fail
                  go_roundw
                  case rel => exact ⟨k + 1, by omega, by go_num, by rw [HMO.out], by rw [HST.out, ← lsF_set, ← lsF_set]; exact ho2.out, hB2.out⟩
                  case measure => simp [intOf]; omega
                · rw [hmn] at HST
                  clear hmn
                  have hgb : g ≠ b := by have := h.blk; omega
                  have hbw : b < w.heap.size := h.blk
                  go_wp2_with fail
                  (refine wp_region_quiet_below (by kernel_rfl) (by kernel_rfl) ?_
                   repeat (any_goals (go_big_quiet_step (first | fail)))
                   all_goals (refine wpQuiet_nil ?_; intro wq2 hq2; replace hq2 := below_of_rg hq2))
                  have ho1 := ho.below hq2
                  have c1 := (bcell hq2).1 _ _ z1 ▸ c1
                  have c2 := (bcell hq2).1 _ _ z1 ▸ c2
                  have r1 := ho1.cell hxj
                  have r2 := ho1.cell hyj
                  have f1 := ho1.2.frozenAt x
                  have f2 := ho1.2.frozenAt y
                  have ho2 := Lib.hid ((ho1.store x (p y)).store y (p y))
                  have c2' : (wq2.setCell ⟨g, x, none⟩ (.int .i64 (p y))).cell? ⟨b, o + k * 2 + 1, none⟩ = some (.int .i64 y) := by
                    rw [World.cell?_setCell_other _ _ _ _ (fun hh => hgb (congrArg Addr.block hh))]; exact c2
                  have r2' : (wq2.setCell ⟨g, x, none⟩ (.int .i64 (p y))).cell? ⟨g, y, none⟩ = some (.int .i64 (ia (lsF p j) y)) := by
                    rw [World.cell?_setCell_other _ _ _ _ (fun hh => hxy (congrArg Addr.off hh))]; exact r2
                  have hB2 : Hid (Below w.heap.size w ((wq2.setCell ⟨g, x, none⟩ (.int .i64 (p y))).setCell ⟨g, y, none⟩ (.int .i64 (p y)))) := ((hbr.andB hq2).setCell hbg _).setCell hbg _
                  clear heq ho ho1 c2 hbr hxy
                  go_wp2_with fail
                  go_roundw
                  case rel => exact ⟨k + 1, by omega, by go_num, by rw [HMO.out], by rw [HST.out, ← lsF_set, ← lsF_set]; exact ho2.out, hB2.out⟩
                  case measure => simp [intOf]; omega
            · obtain rfl : k = m := by omega
              have HI2 := Lib.hid (ldPass_inv HI.out HR.out k (by rw [hl.out]; exact Nat.le_refl _))
              cases hmk : ldMore es f k with
              | false =>
                have HE := Lib.hid (ldPass_no k hmk)
                have HG2 := Lib.hid (show 2 * ldSum f j + 0 < gk by have := HG.out; simp at this; omega)
                rw [HE.out.1] at ho
                clear hmk
                go_wp2_with fail
                go_roundg (2 * ldSum f j + 0)
                case measure => exact HG2.out
                case rel => exact ⟨f, false, rfl, rfl, HI.out, fun _ => HE.out.2, ho, hbr⟩
              | true =>
                have HE := Lib.hid (ldPass_lt HI.out HR.out k (by rw [hl.out]; exact Nat.le_refl _) hmk)
                have HG2 := Lib.hid (show 2 * ldSum (ldPass es f k) j + 1 < gk by have := HG.out; have := HE.out; simp at this; simp at *; omega)
                clear hmk
                go_wp2_with fail
                go_roundg (2 * ldSum (ldPass es f k) j + 1)
                case measure => exact HG2.out
                case rel => exact ⟨_, true, rfl, rfl, HI2.out, (fun h => by cases h), ho, hbr⟩

set_option maxHeartbeats 800000 in
theorem parts_any (N b o m c : Nat) (es : List (Int × Int)) (w : World) (h : Eds w b o m es) (hm : m ≤ 1048576) (hR : InR N es) (hN : N ≤ 20) (hN1 : 1 ≤ N) :
    Calls Try.prog 131 #[.int .i64 N, .slice (some ⟨b, o, none⟩) m c] w (Ret (.int .i64 (ldCnt es noSk N)) w) := by
  go_enter Try.func131, Try.ntmps131
  go_wp2_with (go_at_call 161; refine (leaders_any N b o m c es _ h hm hR hN hN1).mono ?_; rintro e w1 ⟨A, c1, rfl, ho, hb1⟩)
  obtain ⟨g, rfl, hbg, hlg⟩ : ∃ g, A = some ⟨g, 0, none⟩ ∧ w.heap.size ≤ g ∧ g < w1.heap.size := by
    rcases ho.cases with ⟨_, h0, _⟩ | h0
    · rw [lsF_len] at h0; omega
    · exact h0
  rw [lsF_len] at ho ⊢
  go_loop [6, 7] (fun cv iv => ∃ k : Nat, k ≤ N ∧ iv = .int .i64 k ∧ cv = .int .i64 (ldCnt es noSk k)) (fun _ i => N - (intOf i).toNat)
  case atStart => exact ⟨0, Nat.zero_le _, rfl, rfl⟩
  case round =>
    obtain ⟨k, hk, rfl, rfl⟩ := hrel
    have hlc := ldCnt_le es noSk k
    by_cases hlt : k < N
    · have r1 := ho.cell hlt
      rw [lsF_at _ hlt] at r1
      by_cases hx : leadF es noSk k = k
      · have e : (leadF es noSk k == k) = true := by simp [hx]
        have HE : Hid (ldCnt es noSk (k + 1) = ldCnt es noSk k + 1) := by show (_ + _) = _; rw [if_pos hx]
        clear hx
        go_wp2_with fail
        go_round
        case rel => exact ⟨k + 1, by omega, by go_num, by rw [HE.out]; go_num⟩
        case measure => simp [intOf]; omega
      · have e : (leadF es noSk k == k) = false := by simp [hx]
        have HE : Hid (ldCnt es noSk (k + 1) = ldCnt es noSk k) := by show (_ + _) = _; rw [if_neg hx]; rfl
        clear hx
        go_wp2_with fail
        go_round
        case rel => exact ⟨k + 1, by omega, by go_num, by rw [HE.out]⟩
        case measure => simp [intOf]; omega
    · obtain rfl : k = N := by omega
      go_wp2_with fail
      go_ret
      exact ⟨rfl, hb1⟩
end Go.Proofs.Ytppfplhbfgjjhaa
namespace Go.Proofs.Ytppfplhbfgjjhaa
open Go.RowKit Go.Sort
/-! ### The reference's rest of the edges -/
def atK (ls : Nat → Int) (l : Nat) : Nat → Nat
  | 0 => 0
  | k + 1 => if atK ls l k < l ∧ ls (atK ls l k) = (k : Int) then atK ls l k + 1 else atK ls l k
theorem SetP.lt {ls : Nat → Int} {l : Nat} {u : Int} (h : SetP ls l u) : ∀ {i j : Nat}, i < j → j < l → ls i < ls j := by
  intro i j hij hj
  induction j with
  | zero => omega
  | succ j ih =>
    have h1 := (h (j + 1) hj).2 (by omega)
    simp only [Nat.add_sub_cancel] at h1
    by_cases e : i = j
    · subst e; exact h1
    · exact Int.lt_trans (ih (by omega) (by omega)) h1
theorem atK_inv {ls : Nat → Int} {l : Nat} {u : Int} (h : SetP ls l u) : ∀ k, atK ls l k ≤ l ∧ (∀ j, j < atK ls l k → ls j < k) ∧ ∀ j, atK ls l k ≤ j → j < l → (k : Int) ≤ ls j := by
  intro k
  induction k with
  | zero => exact ⟨Nat.zero_le _, fun j hj => by simp [atK] at hj, fun j _ hj => (h j hj).1.1⟩
  | succ k ih =>
    obtain ⟨h1, h2, h3⟩ := ih
    simp only [atK]
    split
    · rename_i hc
      refine ⟨by omega, fun j hj => ?_, fun j hj hjl => ?_⟩
      · by_cases e : j = atK ls l k
        · rw [e, hc.2]; omega
        · have := h2 j (by omega); omega
      · have := h.lt (i := atK ls l k) (j := j) (by omega) hjl
        rw [hc.2] at this; omega
    · rename_i hc
      refine ⟨h1, fun j hj => by have := h2 j hj; omega, fun j hj hjl => ?_⟩
      have h4 := h3 j hj hjl
      by_cases e : j = atK ls l k
      · have : ls j ≠ k := fun e2 => hc ⟨by omega, by rw [← e]; exact e2⟩
        omega
      · have h5 := h3 (atK ls l k) (Nat.le_refl _) (by omega)
        have := h.lt (i := atK ls l k) (j := j) (by omega) hjl
        omega
theorem atK_skip {ls : Nat → Int} {l : Nat} {u : Int} (h : SetP ls l u) (k : Nat) : (atK ls l k < l ∧ ls (atK ls l k) = k) ↔ skS (setN ls l) k = true := by
  obtain ⟨h1, h2, h3⟩ := atK_inv h k
  simp only [skS, hasB, Int.toNat_natCast]
  rw [setN_bit]
  constructor
  · rintro ⟨a, b⟩; exact ⟨_, a, by rw [b]; simp⟩
  · rintro ⟨j, hj, e⟩
    have h0 := (h j hj).1.1
    have e2 : ls j = k := by omega
    have hge : atK ls l k ≤ j := Nat.le_of_not_lt fun hlt => by have := h2 j hlt; omega
    by_cases e3 : j = atK ls l k
    · rw [← e3]; exact ⟨hj, e2⟩
    · have := h.lt (i := atK ls l k) (j := j) (by omega) hj
      have := h3 (atK ls l k) (Nat.le_refl _) (by omega)
      omega
theorem restTo_yes {es : List (Int × Int)} {sk : Nat → Bool} {k : Nat} (h : sk k = false) : restTo es sk (k + 1) = restTo es sk k ++ [(ea es k, eb es k)] := by simp only [restTo]; rw [h]; rfl
theorem restTo_no {es : List (Int × Int)} {sk : Nat → Bool} {k : Nat} (h : sk k = true) : restTo es sk (k + 1) = restTo es sk k := by simp only [restTo]; rw [h]; exact List.append_nil _
theorem flatE_append (xs ys : List (Int × Int)) : flatE (xs ++ ys) = flatE xs ++ flatE ys := by simp [flatE]
theorem OwnE.empty (base : Nat) (w : World) (g : Nat) (hb : base ≤ g) (h : w.heap[g]? = some (.cells #[] 98 (0, 0))) : OwnE base w g 0 0 [] :=
  ⟨rfl, rfl, .inr ⟨g, 0, #[], rfl, hb, h, Nat.le_refl _, by unfold maxLen; omega, rfl, rfl⟩⟩
/-- One edge more behind edges of the call's own, at the operation. -/
theorem wp_appE {o : Oper} {a : Act} {K : Act → World → Prop} {Q : Exit → Act → World → Prop} {s x : Operand}
    (ho : o.op = .call { callee := .builtin .append, args := #[s, x], argTypes := #[28, 28] })
    {base g m c : Nat} {es : List (Int × Int)} {w1 : World} {B : Nat} {T : TypeId} {fr : Nat × Nat} {p q : Int} (hs : a.eval s = .slice (some ⟨g, 0, none⟩) m c) (hx : a.eval x = .slice (some ⟨B, 0, none⟩) 1 1)
    (hB : w1.heap[B]? = some (.cells #[.int .i64 p, .int .i64 q] T fr))
    (hown : OwnE base w1 g m c es) (hbase : base ≤ w1.heap.size) (hm : m ≤ 1048576)
    (h : ∀ g' c' w', OwnE base w' g' (m + 1) c' (es ++ [(p, q)]) → w1.grownBy w' (some g) → LiesAt (some ⟨g, 0, none⟩) (some ⟨g', 0, none⟩) w1 → K (a.put o.dst (.slice (some ⟨g', 0, none⟩) (m + 1) c')) w') :
    o.wp Try.prog a w1 K Q := by
  obtain ⟨i0, hi, hz0, hz1, hz2⟩ := info_parts infE
  refine wp_append_lies w1 s x 28 ho base 98 i0 (.agg #[.int .i64 0, .int .i64 0]) 2 16 Try.underlying28 hi hz0 hz1 hz2 rfl (by decide) (.slice (some ⟨g, 0, none⟩) m c) m (flatE es) hs hown.2
    ⟨B, 0, none⟩ 1 1 [.int .i64 p, .int .i64 q] hx rfl (World.news_of_block (cs := #[.int .i64 p, .int .i64 q]) hB) (fun u hu => by simp at hu; rcases hu with rfl | rfl <;> rfl) (by decide) (by unfold maxLen; omega) (by omega) hbase _ rfl ?_
  intro g' cap w2 hown' hgrow hat _
  refine h g' cap w2 ⟨by simp [hown.1], by rw [flatE_append]; exact hown'⟩ hgrow ?_
  rcases hat with e | e
  · simp only [Value.ownBlock, Option.some.injEq] at e
    exact .inl (by rw [e])
  · exact .inr ⟨g', rfl, by omega⟩
theorem wp_appE1 {ops : Array Oper} {rest : List Oper} {o : Oper} {a : Act} {Q : Exit → Act → World → Prop} {s x : Operand} (hgd : o.guard = none)
    (ho : o.op = .call { callee := .builtin .append, args := #[s, x], argTypes := #[28, 28] })
    {base g m c : Nat} {es : List (Int × Int)} {wr : World} {T : TypeId} {p q : Int} (hs : a.eval s = .slice (some ⟨g, 0, none⟩) m c) {H : Nat} (hx : a.eval x = .slice (some ⟨H, 0, none⟩) 1 1) (hH : wr.heap.size = H)
    (hown : OwnE base wr g m c es) (hbase : base ≤ wr.heap.size) (hm : m ≤ 1048576)
    (h : ∀ g' c' w', OwnE base w' g' (m + 1) c' (es ++ [(p, q)]) → wr.grownBy w' (some g) → LiesAt (some ⟨g, 0, none⟩) (some ⟨g', 0, none⟩) wr → wpList Try.prog ops Q rest (a.put o.dst (.slice (some ⟨g', 0, none⟩) (m + 1) c')) w') :
    wpList Try.prog ops Q (o :: rest) a (wr.alloc (.cells #[.int .i64 p, .int .i64 q] T)) := by
  subst hH
  exact wpList_plain hgd fun _ hK => wp_appE ho hs hx (heap_alloc_new wr _) (hown.below ((Below.refl _ _).alloc (Nat.le_refl _) _)) (by simp; omega) hm
    fun A' c' w' h1 h2 h3 => hK _ _ (h A' c' w' h1 (grownTrans (below_grownBy ((Below.refl _ _).alloc (Nat.le_refl _) _) _) h2) (h3.low (by simp)))
set_option maxRecDepth 100000 in
set_option maxHeartbeats 1600000 in
theorem rest_any (n : Int) (b o m c b2 o2 l c2 : Nat) (es : List (Int × Int)) (ls : Nat → Int) (u : Int) (w : World) (h : Eds w b o m es) (hm : m ≤ 1048576) (h2 : Ints w b2 o2 l ls) (hl2 : l ≤ 1048576) (hls : SetP ls l u) :
    Calls Try.prog 132 #[.agg #[.int .i64 n, .slice (some ⟨b, o, none⟩) m c], .slice (some ⟨b2, o2, none⟩) l c2] w (RetE (restE es (skS (setN ls l))) w) := by
  have hl := Lib.hid h.len
  have HSK := Lib.hid (fun k => atK_skip hls k)
  have HIN := Lib.hid (fun k => (atK_inv hls k).1)
  go_enter Try.func132, Try.ntmps132
  go_wp2_with fail
  have hbb := (by go_grown : Below w.heap.size w (w.alloc (.cells #[.int .i64 n, .slice (some ⟨b, o, none⟩) m c] 30)))
  have hbx := Box2.made w (.int .i64 n) (.slice (some ⟨b, o, none⟩) m c) 30
  obtain ⟨w1, hw1⟩ : ∃ w1, w1 = w.alloc (Obj.cells #[Value.int IntKind.i64 n, Value.slice (some ⟨b, o, none⟩) m c] 30) := ⟨_, rfl⟩
  have hs1 : w1.heap.size = w.heap.size + 1 := by rw [hw1]; simp [go_sem]
  rw [← hw1] at hbb hbx ⊢
  have O : OwnE w1.heap.size (w1.alloc (.cells #[] 98)) (w.heap.size + 1) 0 0 [] := OwnE.empty _ _ _ (by omega) (by rw [← hs1]; exact heap_alloc_new w1 _)
  have HS1 := Lib.hid hs1
  clear hw1 hs1
  go_loopw [5, 6, 7] (fun ov av kv wr => ∃ (k g c' : Nat), k ≤ m ∧ kv = .int .i64 k ∧ av = .int .i64 (atK ls l k) ∧ ov = .slice (some ⟨g, 0, none⟩) (restTo es (skS (setN ls l)) k).length c' ∧ OwnE w1.heap.size wr g (restTo es (skS (setN ls l)) k).length c' (restTo es (skS (setN ls l)) k) ∧ Below w1.heap.size w1 wr) (fun _ _ k _ => m - (intOf k).toNat)
  case atStart => exact ⟨0, _, _, Nat.zero_le _, rfl, rfl, rfl, O, (Below.refl _ _).alloc (Nat.le_refl _) _⟩
  case round =>
    clear O
    obtain ⟨k, g, c', hk, rfl, rfl, rfl, ho, hb1⟩ := hrel
    have hbr := hbb.andB hb1
    obtain ⟨z1, p1, q1⟩ := hbx.below hb1
    have hln := restTo_len es (skS (setN ls l)) k
    have hsz := hb1.size
    have hak := HIN.out k
    by_cases hlt : k < m
    · have E := h.below hbr
      have d1 := E.ca k hlt
      have d2 := E.cb k hlt
      have zb := E.blk
      have I := h2.below hbr
      cases hsk : skS (setN ls l) k with
      | true =>
        have hc := (HSK.out k).2 hsk
        have c1 := I.c (atK ls l k) hc.1
        have ha1 : atK ls l k < l := hc.1
        have HA : Hid (atK ls l (k + 1) = atK ls l k + 1) := by show (if _ then _ else _) = _; rw [if_pos hc]
        have HE := Lib.hid (restTo_no (es := es) hsk)
        rw [hc.2] at c1
        obtain ⟨ak, hak2⟩ : ∃ ak, atK ls l k = ak := ⟨_, rfl⟩
        rw [hak2] at c1 ha1 hak HA ⊢
        clear hc hsk hak2 E I d1 d2
        go_wp2_with fail
        go_roundw
        case rel => exact ⟨k + 1, g, c', by omega, by go_num, by rw [HA.out]; go_num, by rw [HE.out], by rw [HE.out]; exact ho, hb1⟩
        case measure => simp [intOf]; omega
      | false =>
        have hc : ¬ (atK ls l k < l ∧ ls (atK ls l k) = k) := fun hc => by rw [(HSK.out k).1 hc] at hsk; cases hsk
        have HA : Hid (atK ls l (k + 1) = atK ls l k) := by show (if _ then _ else _) = _; rw [if_neg hc]
        have e := restTo_yes (es := es) hsk
        have HE := Lib.hid e
        have HE2 : Hid ((restTo es (skS (setN ls l)) (k + 1)).length = (restTo es (skS (setN ls l)) k).length + 1) := by show _ = _; rw [e]; simp
        clear hsk e
        by_cases ha1 : atK ls l k < l
        · have c1 := I.c (atK ls l k) ha1
          obtain ⟨v, hv⟩ : ∃ v, ls (atK ls l k) = v := ⟨_, rfl⟩
          have hne : (v == (k : Int)) = false := by
            rw [← hv]; simp; exact fun e => hc ⟨ha1, e⟩
          rw [hv] at c1
          obtain ⟨ak, hak2⟩ : ∃ ak, atK ls l k = ak := ⟨_, rfl⟩
          rw [hak2] at c1 ha1 hak HA ⊢
          clear hc hv hak2 E I
          go_wp2_with (first
            | (at_builtin; refine wp_appE1 rfl rfl rfl rfl rfl ho (by omega) (by omega) ?_; intro g2 c3 w5 ho3 hg5 hat5))
          have hb5 := hb1.grown hg5 hsz (fun y hy => by have := ho.ge.1; simp at hy; omega)
          go_roundw
          case rel => exact ⟨k + 1, g2, c3, by omega, by go_num, by rw [HA.out], by rw [HE2.out], by rw [HE2.out, HE.out]; exact ho3, hb5⟩
          case measure => simp [intOf]; omega
        · obtain ⟨ak, hak2⟩ : ∃ ak, atK ls l k = ak := ⟨_, rfl⟩
          rw [hak2] at ha1 hak HA ⊢
          clear hc hak2 E I
          go_wp2_with (first
            | (at_builtin; refine wp_appE1 rfl rfl rfl rfl rfl ho (by omega) (by omega) ?_; intro g2 c3 w5 ho3 hg5 hat5))
          have hb5 := hb1.grown hg5 hsz (fun y hy => by have := ho.ge.1; simp at hy; omega)
          go_roundw
          case rel => exact ⟨k + 1, g2, c3, by omega, by go_num, by rw [HA.out], by rw [HE2.out], by rw [HE2.out, HE.out]; exact ho3, hb5⟩
          case measure => simp [intOf]; omega
    · obtain rfl : k = m := by omega
      have e : restE es (skS (setN ls l)) = restTo es (skS (setN ls l)) k := by unfold restE; rw [hl.out]
      have HE := Lib.hid e
      clear e
      go_wp2_with fail
      go_ret
      exact ⟨g, c', by rw [HE.out]; rfl, by rw [HE.out]; exact ⟨ho.1, (ho.mono hbb.size).2⟩, hbr⟩
end Go.Proofs.Ytppfplhbfgjjhaa
namespace Go.Proofs.Ytppfplhbfgjjhaa
open Go.RowKit Go.Sort
/-! ### Which edges are left out -/
theorem sk_none : skI (-1) = noSk := by funext e; simp [skI, noSk]
theorem skS_none : skS 0 = noSk := by funext e; simp [skS, noSk, hasB]
theorem skS_one (i : Nat) : skS (2 ^ i) = skI i := by
  funext e
  rw [Bool.eq_iff_iff]
  simp [skS, skI, hasB, Nat.testBit_two_pow]
  omega
end Go.Proofs.Ytppfplhbfgjjhaa
