import Derived.Test.YtjdhibcijjnopaaFb
import Derived.Test.YtjdhibcijjnopaaGm
namespace Go.Proofs.Ytjdhibcijjnopaa
open Go.RowKit Go.Sort
/-! ### The reference's distances -/
set_option maxRecDepth 100000 in
set_option maxHeartbeats 3200000 in
theorem l01Far_any (n : Int) (b o m c : Nat) (es : List (Int × Int)) (a wo : Int) (w : World) (h : Eds w b o m es) (hm : m ≤ 1048576) (hn : WfP n es) (ha : 0 ≤ a) (ha2 : a ≤ n - 1) :
    Calls Try.prog 68 #[.agg #[.int .i64 n, .slice (some ⟨b, o, none⟩) m c], .int .i64 a, .int .i64 wo] w (RetI n.toNat (fun v => farF es (skI wo) n a v) w) := by
  have KC := cell_rg
  have hl := Lib.hid h.len
  have HW := Lib.hid hn
  have hn2 := hn.1
  have hn20 := hn.2.1
  have HBI := Lib.hid (fun i => BInv.bfs (sk := skI wo) hn ha ha2 i)
  have HAT := Lib.hid (fun i (h1 : ¬ i < (bfs es (skI wo) a i).q.length) (h2 : i ≤ (bfs es (skI wo) a i).q.length) => farF_at (sk := skI wo) hn ha ha2 h1 h2)
  obtain ⟨N, rfl⟩ : ∃ N : Nat, n = N := ⟨n.toNat, by omega⟩
  obtain ⟨x, rfl⟩ : ∃ x : Nat, a = x := ⟨a.toNat, by omega⟩
  rw [Int.toNat_natCast]
  have hmk := run_make_row' (P := Try.prog) 25 2 (.int .i64 0) 8 Try.underlying25 inf2 rfl .i64 .i64 N (by omega) (by omega)
  clear hn
  go_enter Try.func68, Try.ntmps68
  go_wp2_with fail
  obtain ⟨w1, hw1⟩ : ∃ w1, w1 = w.alloc (Obj.cells #[Value.int IntKind.i64 N, Value.slice (some ⟨b, o, none⟩) m c] 31) := ⟨_, rfl⟩
  have X := Box2.made w (.int .i64 N) (.slice (some ⟨b, o, none⟩) m c) 31
  have hs1 : w1.heap.size = w.heap.size + 1 := by rw [hw1]; simp [go_sem]
  have hb1 : Below w.heap.size w w1 := by rw [hw1]; exact (Below.refl _ _).alloc (Nat.le_refl _) _
  rw [← hw1] at X ⊢
  have R := World.rowIs_made w1 (.int .i64 0) N 2
  obtain ⟨w2, hw2⟩ : ∃ w2, w2 = w1.alloc (.cells (madeCells #[.int .i64 0] N) 2) := ⟨_, rfl⟩
  have hs2 : w2.heap.size = w.heap.size + 2 := by rw [hw2]; simp [go_sem]; omega
  have hb2 : Below w1.heap.size w1 w2 := by rw [hw2]; exact (Below.refl _ _).alloc (Nat.le_refl _) _
  rw [← hw2] at R ⊢
  rw [hs1] at R
  have F0 : FarB w w.heap.size (w.heap.size + 1) N (.int .i64 N) (.slice (some ⟨b, o, none⟩) m c) (fun v => if v < ((0 : Nat) : Int) then -1 else 0) w2 := ⟨hb1.andB hb2, X.below hb2, R.congr (fun v _ => by rw [if_neg (by omega)]), by omega, by omega⟩
  clear hw1 hw2 X R hb1 hb2
  go_loopw [8] (fun i wr => ∃ j : Nat, j ≤ N ∧ i = .int .i64 j ∧ FarB w w.heap.size (w.heap.size + 1) N (.int .i64 N) (.slice (some ⟨b, o, none⟩) m c) (fun v => if v < (j : Int) then -1 else 0) wr) (fun i _ => N - (intOf i).toNat)
  case atStart => exact ⟨0, Nat.zero_le _, rfl, F0⟩
  case round =>
    obtain ⟨j, hj, rfl, F⟩ := hrel
    clear F0
    by_cases hlt : j < N
    · have p1 := F.box.c0
      have z1 := F.box.lt
      have c1 := F.row.cell hlt
      have f1 := F.row.frozen j
      have F1 := Lib.hid ((F.set j (-1)).congr (far' := fun v => if v < ((j + 1 : Nat) : Int) then -1 else 0) (fun v _ => by
        simp only [upI]; split <;> split <;> (try split) <;> omega))
      clear F
      go_wp2_with fail
      go_roundw
      case rel => exact ⟨j + 1, by omega, by go_num, F1.out⟩
      case measure => simp [intOf]; omega
    · obtain rfl : j = N := by omega
      have F1 := F.congr (far' := fun _ => -1) (fun v hv => by rw [if_pos (by omega)])
      have F2 := Lib.hid ((F1.set x 0).congr (far' := fun v => if v = (x : Int) then 0 else -1) (fun v _ => by simp only [upI]))
      have p1 := F.box.c0
      have z1 := F.box.lt
      have hxN : x < j := by omega
      have c1 := F1.row.cell hxN
      have f1 := F1.row.frozen x
      clear F F1
      go_wp2_with fail
      have F := F2.out
      clear F2 p1 z1 c1 f1
      obtain ⟨w3, hw3⟩ : ∃ w3, w3 = wr.setCell ⟨w.heap.size + 1, x, none⟩ (.int .i64 0) := ⟨_, rfl⟩
      have hs3 : w3.heap.size = wr.heap.size := by rw [hw3]; simp
      rw [← hw3] at F ⊢
      clear hw3
      have z2 := F.row.lt
      have O : OwnL w3.heap.size (w3.alloc (.cells #[.int .i64 x] 2)) (some ⟨wr.heap.size, 0, none⟩) 1 1 [(x : Int)] := by
        rw [← hs3]
        exact ⟨rfl, rfl, .inr ⟨w3.heap.size, 1, #[.int .i64 x], rfl, Nat.le_refl _, heap_alloc_new w3 _, by omega, by unfold maxLen; omega, rfl, rfl⟩⟩
      have F := F.below ((Below.refl _ _).alloc (Nat.le_refl _) (.cells #[.int .i64 x] 2))
      go_loopw [9, 10] (fun lv iv wr => ∃ (i : Nat) (far : Int → Int) (q : List Int) (A : Option Addr) (c' : Nat), i ≤ q.length ∧ iv = .int .i64 i ∧ lv = .slice A q.length c' ∧ Hid (bfs es (skI wo) x i = ⟨far, q⟩) ∧ OwnL w3.heap.size wr A q.length c' q ∧ FarB w w.heap.size (w.heap.size + 1) j (.int .i64 j) (.slice (some ⟨b, o, none⟩) m c) far wr) (fun _ i _ => j - (intOf i).toNat)
      case atStart => exact ⟨0, _, _, _, _, Nat.zero_le _, rfl, rfl, rfl, O, F⟩
      case round =>
        obtain ⟨i, far, q, A, c', hi, rfl, rfl, HS, O, F⟩ := hrel
        have hq20 : q.length ≤ j := by have := (HBI.out i).len; rw [HS.out, Int.toNat_natCast] at this; exact this
        have hsz := F.bel.size
        by_cases hlt : i < q.length
        · have HI : BInv j x ⟨far, q⟩ := HS.out ▸ HBI.out i
          have hur := HI.rng _ (iaMem (xs := q) (i := i) hlt)
          obtain ⟨u, hu⟩ : ∃ u : Nat, ia q i = u := ⟨(ia q i).toNat, by omega⟩
          obtain ⟨L, hL⟩ : ∃ L, L = atL es u := ⟨_, rfl⟩
          have HI2 : Hid (∀ k, k ≤ L.length → BInv j x (bVis es (skI wo) u L ⟨far, q⟩ k)) := fun k hk => by
            rw [hL] at hk ⊢; exact HI.vis HW.out (hu ▸ iaMem (xs := q) (i := i) hlt) k hk
          have HLk : Hid (∀ k, k < L.length → ∃ f : Nat, f < m ∧ ia L k = f ∧ (ea es f = u ∨ eb es f = u)) := fun k hk => by
            rw [hL] at hk ⊢; obtain ⟨f, hf, e⟩ := atL_at hk; exact ⟨f, by rw [hl.out] at hf; exact hf, e⟩
          have HNX : Hid (bfs es (skI wo) x (i + 1) = bVis es (skI wo) u L ⟨far, q⟩ L.length) := by
            show _ = _
            rw [bfs_succ (by rw [HS.out]; exact hlt), HS.out, hL]; show bNext _ _ _ _ = _; unfold bNext; rw [hu]
          have HLl : Hid (L.length ≤ m) := by show _ ≤ _; rw [hL]; have := atTo_len es u es.length; rw [hl.out] at this; exact hl.out ▸ this
          have HRL : Hid (∀ W, Eds W b o m es → Calls Try.prog 85 #[.agg #[.int .i64 j, .slice (some ⟨b, o, none⟩) m c], .int .i64 u] W (RetL L W)) := fun W hE => by rw [hL]; exact l01At_any j b o m c es u W hE hm
          obtain ⟨g2, o2, rfl, I⟩ := O.src (by omega)
          have c1 := I.c i hlt
          rw [hu] at c1
          have z3 := I.blk
          have p1 := F.box.c0
          have q1 := F.box.c1
          have z1 := F.box.lt
          clear hL HI I hur
          go_wp2_with fail
          go_still_tail 5, (by kernel_rfl)
          change wpList _ _ _ _ _ wr.drew
          have hd := (Below.refl wr.heap.size wr).drew
          have O := O.below hd
          have F := F.below hd
          obtain ⟨w4, hw4⟩ : ∃ w4, w4 = wr.drew := ⟨_, rfl⟩
          rw [← hw4] at O F ⊢
          clear hw4 hd c1 z3 p1 q1 z1
          go_wp2_with fail
          refine (HRL.out _ (h.below F.bel)).mono ?_
          rintro e w5 ⟨A3, c3, rfl, O3, hb5⟩
          have hw4 := F.row.lt
          have hg2 : g2 < w4.heap.size := (O.blk g2 rfl).2
          have O := O.below hb5
          have F := F.below hb5
          have NE : blkOf A3 = none ∨ blkOf A3 ≠ blkOf (some (⟨g2, o2, none⟩ : Addr)) := blk_apart' (s := w4.heap.size) (fun g hg => (O3.blk g hg).1) (fun g hg => by simp [blkOf] at hg; omega)
          clear hg2 hb5 hsz
          go_wp2_with fail
          go_loopw [9, 12] (fun lv kv wv => ∃ (k : Nat) (far' : Int → Int) (q' : List Int) (A' : Option Addr) (c'' : Nat), k ≤ L.length ∧ kv = .int .i64 k ∧ lv = .slice A' q'.length c'' ∧ Hid (bVis es (skI wo) u L ⟨far, q⟩ k = ⟨far', q'⟩) ∧ OwnL w3.heap.size wv A' q'.length c'' q' ∧ FarB w w.heap.size (w.heap.size + 1) j (.int .i64 j) (.slice (some ⟨b, o, none⟩) m c) far' wv ∧ OwnL w4.heap.size wv A3 L.length c3 L ∧ (blkOf A3 = none ∨ blkOf A3 ≠ blkOf A')) (fun _ k _ => L.length - (intOf k).toNat)
          case atStart => exact ⟨0, _, _, _, _, Nat.zero_le _, rfl, rfl, rfl, O, F, O3, NE⟩
          case round =>
            clear O F O3 NE
            obtain ⟨k, far', q', A', c'', hk, rfl, rfl, HV, O, F, O3, NE⟩ := hrel
            have hsz := F.bel.size
            have hLm := HLl.out
            by_cases hlt2 : k < L.length
            · obtain ⟨f, hf, ef, hv⟩ := HLk.out k hlt2
              have HI : BInv j x ⟨far', q'⟩ := HV.out ▸ HI2.out k hk
              obtain ⟨ys, hys⟩ := bVis_q (es := es) (sk := skI wo) (u := (u : Int)) (L := L) (s := ⟨far, q⟩) k
              rw [HV.out] at hys
              have hq'l : i < q'.length := by rw [show q' = q ++ ys from hys]; simp; omega
              have hu' : ia q' i = u := by rw [show q' = q ++ ys from hys, ia_app hlt, hu]
              have huq : (u : Int) ∈ q' := hu' ▸ iaMem (xs := q') (i := i) hq'l
              have hur := HI.rng _ huq
              have hfu : 0 ≤ far' u := (HI.mem u).2 huq
              have hfu2 : far' u < q'.length := HI.hi u
              have hql : q'.length ≤ j := by have := HI.len; rw [Int.toNat_natCast] at this; exact this
              have hvr := oth_in HW.out (by rw [hl.out]; exact hf) hv
              obtain ⟨v, hvv⟩ : ∃ v : Nat, oth es f u = v := ⟨(oth es f u).toNat, by omega⟩
              have hvj : v < j := by omega
              have huj : u < j := by omega
              have HOT : Hid (∀ W, Eds W b o m es → Calls Try.prog 103 #[.agg #[.int .i64 j, .slice (some ⟨b, o, none⟩) m c], .int .i64 f, .int .i64 u] W (Ret (.int .i64 v) W)) := fun W hE => by
                rw [← hvv]; exact spOther_any j b o m c es f u W hE hf hm HW.out (by omega) (by omega)
              have HST : Hid (bVis es (skI wo) u L ⟨far, q⟩ (k + 1) = bStep es (skI wo) u ⟨far', q'⟩ f) := by
                show bStep _ _ _ _ _ = _; rw [HV.out, ef, Int.toNat_natCast]
              have hw1 : IntKind.i64.wrap (far' u + 1) = far' u + 1 := IntWalk.i64_in _ (by omega)
              obtain ⟨g3, o3, rfl, I3⟩ := O3.src (by omega)
              obtain ⟨g4, o4, rfl, I4⟩ := O.src (by omega)
              have hg3 := (O3.blk g3 rfl)
              have hg4 := (O.blk g4 rfl)
              have c1 := I3.c k hlt2
              have c2 := I4.c i hq'l
              rw [ef] at c1
              rw [hu'] at c2
              have z3 := I3.blk
              have z4 := I4.blk
              have E := h.below F.bel
              have zb := E.blk
              have p1 := F.box.c0
              have q1 := F.box.c1
              have z1 := F.box.lt
              have HO := Lib.hid hvv
              clear HI hys hu' huq hur hfu hfu2 hvr hv ef hvv I3 I4
              go_wp2_with fail
              (refine wp_region_quiet_below (by kernel_rfl) (by kernel_rfl) ?_
               repeat (any_goals (go_big_quiet_step (first | (go_at_call 103; exact Ret.rg (HOT.out _ (E.below (below_regrown _ _ _)))))))
               all_goals (refine wpQuiet_nil ?_; intro wq2 hq2; replace hq2 := below_of_rg hq2))
              have O := O.below hq2
              have F := F.below hq2
              have O3 := O3.below hq2
              have c1 := (bcell hq2).1 _ _ z3 ▸ c1
              have c2 := (bcell hq2).1 _ _ z4 ▸ c2
              clear E zb p1 q1 z1 z3 z4
              by_cases hs : (f : Int) = wo
              · have hs' : ((f : Int) != wo) = false := by simp [hs]
                have HE : Hid (bVis es (skI wo) u L ⟨far, q⟩ (k + 1) = ⟨far', q'⟩) := by show _ = _; rw [HST.out, bStep_no (fun hc => by rw [skI_yes hs'] at hc; cases hc.1)]
                clear hs c2
                go_wp2_with fail
                go_roundw
                case rel => exact ⟨k + 1, far', q', _, c'', by omega, by go_num, rfl, HE, O, F, O3, NE⟩
                case measure => simp [intOf]; omega
              · have hs' : ((f : Int) != wo) = true := by simp [hs]
                have r1 := F.row.cell hvj
                by_cases hfv : far' v < 0
                · have HE : Hid (bVis es (skI wo) u L ⟨far, q⟩ (k + 1) = ⟨upI far' v (far' u + 1), q' ++ [(v : Int)]⟩) := by show _ = _; rw [HST.out, bStep_yes (skI_no hs') (by rw [HO.out]; exact hfv), HO.out]
                  have r2 := F.row.cell huj
                  have f1 := F.row.frozen v
                  have F1 := Lib.hid (F.set v (far' u + 1))
                  have O1 := O.setOther (a := ⟨w.heap.size + 1, v, none⟩) (blk_ne (fun g hg => (O.blk g hg).1) (by omega)) (.int .i64 (far' u + 1))
                  have O31 := Lib.hid (O3.setOther (a := ⟨w.heap.size + 1, v, none⟩) (blk_ne (fun g hg => (O3.blk g hg).1) (by omega)) (.int .i64 (far' u + 1)))
                  have hsq := hq2.size
                  clear F O3 O hs
                  go_wp2_with (first
                    | (at_builtin; refine wp_appL1 rfl rfl rfl rfl (by simp) O1 (by simp; omega) (by omega) ?_; intro A2 c2' w6 O2 hg6 hat6))
                  have e2 : (q' ++ [(v : Int)]).length = q'.length + 1 := by simp
                  have hs6 : (wq2.setCell ⟨w.heap.size + 1, v, none⟩ (.int .i64 (far' u + 1))).heap.size = wq2.heap.size := by simp
                  have F2 := F1.out.grown hg6 (by simp [blkOf]; omega) (by simp [blkOf]; omega) (fun y hy => by simp [blkOf] at hy; omega)
                  have O32 := O31.out.kept hg6 NE
                  have NE2 := hat6.apart (AX := some ⟨g3, o3, none⟩) (fun g hg => by simp [blkOf] at hg; omega) NE
                  go_roundw
                  case rel => exact ⟨k + 1, _, _, A2, c2', by omega, by go_num, by rw [e2], HE, by rw [e2]; exact O2, F2, O32, NE2⟩
                  case measure => simp [intOf]; omega
                · have HE : Hid (bVis es (skI wo) u L ⟨far, q⟩ (k + 1) = ⟨far', q'⟩) := by show _ = _; rw [HST.out, bStep_no (fun hc => by have := hc.2; rw [HO.out] at this; exact hfv this)]
                  clear hs c2
                  go_wp2_with fail
                  go_roundw
                  case rel => exact ⟨k + 1, far', q', _, c'', by omega, by go_num, rfl, HE, O, F, O3, NE⟩
                  case measure => simp [intOf]; omega
            · obtain rfl : k = L.length := by omega
              have HE : Hid (bfs es (skI wo) x (i + 1) = ⟨far', q'⟩) := by show _ = _; rw [HNX.out, HV.out]
              obtain ⟨ys, hys⟩ := bVis_q (es := es) (sk := skI wo) (u := (u : Int)) (L := L) (s := ⟨far, q⟩) L.length
              rw [HV.out] at hys
              have hq'l : i + 1 ≤ q'.length := by rw [show q' = q ++ ys from hys]; simp; omega
              clear hys O3
              go_wp2_with fail
              go_roundw
              case rel => exact ⟨i + 1, far', q', A', c'', hq'l, by go_num, rfl, HE, O, F⟩
              case measure => simp [intOf]; omega
        · obtain rfl : i = q.length := by omega
          have HE := Lib.hid (HAT.out q.length (by rw [HS.out]; exact hlt) (by rw [HS.out]; exact Nat.le_refl _))
          have HF : Hid (∀ v : Int, far v = farF es (skI wo) j x v) := fun v => by rw [HE.out, HS.out]
          go_wp2_with fail
          go_ret
          exact ⟨w.heap.size + 1, rfl, by omega, F.row.congr (fun v _ => by rw [HF.out]), F.bel⟩
end Go.Proofs.Ytjdhibcijjnopaa
