import Derived.Test.YtajnhkkiddeegaaGreatZp15
set_option linter.unusedVariables false
set_option linter.unusedSimpArgs false
namespace Go.Proofs.YtajnhkkiddeegaaGreat
open Go.RowKit Go.Sort
end Go.Proofs.YtajnhkkiddeegaaGreat
namespace Go.Proofs.YtajnhkkiddeegaaGreat
open Go.RowKit Go.Sort
set_option maxRecDepth 100000 in
set_option maxHeartbeats 3200000 in
theorem l01Far_any (n : Int) (b o m c : Nat) (es : List (Int × Int)) (a wo : Int) (w : World) (h : Eds w b o m es) (hm : m ≤ 1048576) (hn : WfP n es) (ha : 0 ≤ a) (ha2 : a ≤ n - 1) :
    Calls Tryz.prog 93 #[.agg #[.int .i64 n, .slice (some ⟨b, o, none⟩) m c], .int .i64 a, .int .i64 wo] w (RetI n.toNat (fun v => farF es (skI wo) n a v) w) := by
  have KC := cell_rg
  have hl := Lib.hid h.len
  have HW := Lib.hid hn
  have hn2 := hn.1
  have hn20 := hn.2.1
  have HBI := Lib.hid (fun i => BInv.bfs (sk := skI wo) hn ha ha2 i)
  have HAT := Lib.hid (fun i (h1 : ¬ i < (bfs es (skI wo) a i).q.length) (h2 : i ≤ (bfs es (skI wo) a i).q.length) => farF_at (sk := skI wo) hn ha ha2 h1 h2)
  obtain ⟨N, rfl⟩ : ∃ N : Nat, n = N := ⟨n.toNat, by omega⟩
  obtain ⟨x, rfl⟩ : ∃ x : Nat, a = x := ⟨a.toNat, by omega⟩
  rw [Int.toNat_natCast]
  have hmk := run_make_row' (P := Tryz.prog) 34 2 (.int .i64 0) 8 Tryz.underlying34 inf2 rfl .i64 .i64 N (by omega) (by omega)
  clear hn
  go_enter Tryz.func93, Tryz.ntmps93
  go_wp2_with fail
  obtain ⟨w1, hw1⟩ : ∃ w1, w1 = w.alloc (Obj.cells #[Value.int IntKind.i64 N, Value.slice (some ⟨b, o, none⟩) m c] 26) := ⟨_, rfl⟩
  have X := Box2.made w (.int .i64 N) (.slice (some ⟨b, o, none⟩) m c) 26
  have hs1 : w1.heap.size = w.heap.size + 1 := by rw [hw1]; simp [go_sem]
  have hb1 : Below w.heap.size w w1 := by rw [hw1]; exact (Below.refl _ _).alloc (Nat.le_refl _) _
  rw [← hw1] at X ⊢
  have R := World.rowIs_made w1 (.int .i64 0) N 2
  obtain ⟨w2, hw2⟩ : ∃ w2, w2 = w1.alloc (.cells (madeCells #[.int .i64 0] N) 2) := ⟨_, rfl⟩
  have hs2 : w2.heap.size = w.heap.size + 2 := by rw [hw2]; simp [go_sem]; omega
  have hb2 : Below w1.heap.size w1 w2 := by rw [hw2]; exact (Below.refl _ _).alloc (Nat.le_refl _) _
  rw [← hw2] at R ⊢
  rw [hs1] at R
  have F0 : FarB w w.heap.size (w.heap.size + 1) N (.int .i64 N) (.slice (some ⟨b, o, none⟩) m c) (fun v => if v < ((0 : Nat) : Int) then -1 else 0) w2 := ⟨hb1.andB hb2, X.below hb2, R.congr (fun v _ => by rw [if_neg (by omega)]), by omega, by omega⟩
  clear hw1 hw2 X R hb1 hb2
  go_loopw [8] (fun i wr => ∃ j : Nat, j ≤ N ∧ i = .int .i64 j ∧ FarB w w.heap.size (w.heap.size + 1) N (.int .i64 N) (.slice (some ⟨b, o, none⟩) m c) (fun v => if v < (j : Int) then -1 else 0) wr) (fun i _ => N - (intOf i).toNat)
  case atStart => exact ⟨0, Nat.zero_le _, rfl, F0⟩
  case round =>
    obtain ⟨j, hj, rfl, F⟩ := hrel
    clear F0
    by_cases hlt : j < N
    · have p1 := F.box.c0
      have z1 := F.box.lt
      have c1 := F.row.cell hlt
      have f1 := F.row.frozen j
      have F1 := Lib.hid ((F.set j (-1)).congr (far' := fun v => if v < ((j + 1 : Nat) : Int) then -1 else 0) (fun v _ => by
        simp only [upI]; split <;> split <;> (try split) <;> omega))
      clear F
      go_wp2_with fail
      go_roundw
      case rel => exact ⟨j + 1, by omega, by go_num, F1.out⟩
      case measure => simp [intOf]; omega
    · obtain rfl : j = N := by omega
      have F1 := F.congr (far' := fun _ => -1) (fun v hv => by rw [if_pos (by omega)])
      have F2 := Lib.hid ((F1.set x 0).congr (far' := fun v => if v = (x : Int) then 0 else -1) (fun v _ => by simp only [upI]))
      have p1 := F.box.c0
      have z1 := F.box.lt
      have hxN : x < j := by omega
      have c1 := F1.row.cell hxN
      have f1 := F1.row.frozen x
      clear F F1
      go_wp2_with fail
      have F := F2.out
      clear F2 p1 z1 c1 f1
      obtain ⟨w3, hw3⟩ : ∃ w3, w3 = wr.setCell ⟨w.heap.size + 1, x, none⟩ (.int .i64 0) := ⟨_, rfl⟩
      have hs3 : w3.heap.size = wr.heap.size := by rw [hw3]; simp
      rw [← hw3] at F ⊢
      clear hw3
      have z2 := F.row.lt
      have O : OwnL w3.heap.size (w3.alloc (.cells #[.int .i64 x] 2)) (some ⟨wr.heap.size, 0, none⟩) 1 1 [(x : Int)] := by
        rw [← hs3]
        exact ⟨rfl, rfl, .inr ⟨w3.heap.size, 1, #[.int .i64 x], rfl, Nat.le_refl _, heap_alloc_new w3 _, by omega, by unfold maxLen; omega, rfl, rfl⟩⟩
      have F := F.below ((Below.refl _ _).alloc (Nat.le_refl _) (.cells #[.int .i64 x] 2))
      go_loopw [9, 10] (fun lv iv wr => ∃ (i : Nat) (far : Int → Int) (q : List Int) (A : Option Addr) (c' : Nat), i ≤ q.length ∧ iv = .int .i64 i ∧ lv = .slice A q.length c' ∧ Hid (bfs es (skI wo) x i = ⟨far, q⟩) ∧ OwnL w3.heap.size wr A q.length c' q ∧ FarB w w.heap.size (w.heap.size + 1) j (.int .i64 j) (.slice (some ⟨b, o, none⟩) m c) far wr) (fun _ i _ => j - (intOf i).toNat)
      case atStart => exact ⟨0, _, _, _, _, Nat.zero_le _, rfl, rfl, rfl, O, F⟩
      case round =>
        obtain ⟨i, far, q, A, c', hi, rfl, rfl, HS, O, F⟩ := hrel
        have hq20 : q.length ≤ j := by have := (HBI.out i).len; rw [HS.out, Int.toNat_natCast] at this; exact this
        have hsz := F.bel.size
        by_cases hlt : i < q.length
        · have HI : BInv j x ⟨far, q⟩ := HS.out ▸ HBI.out i
          have hur := HI.rng _ (iaMem (xs := q) (i := i) hlt)
          obtain ⟨u, hu⟩ : ∃ u : Nat, ia q i = u := ⟨(ia q i).toNat, by omega⟩
          obtain ⟨L, hL⟩ : ∃ L, L = atL es u := ⟨_, rfl⟩
          have HI2 : Hid (∀ k, k ≤ L.length → BInv j x (bVis es (skI wo) u L ⟨far, q⟩ k)) := fun k hk => by
            rw [hL] at hk ⊢; exact HI.vis HW.out (hu ▸ iaMem (xs := q) (i := i) hlt) k hk
          have HLk : Hid (∀ k, k < L.length → ∃ f : Nat, f < m ∧ ia L k = f ∧ (ea es f = u ∨ eb es f = u)) := fun k hk => by
            rw [hL] at hk ⊢; obtain ⟨f, hf, e⟩ := atL_at hk; exact ⟨f, by rw [hl.out] at hf; exact hf, e⟩
          have HNX : Hid (bfs es (skI wo) x (i + 1) = bVis es (skI wo) u L ⟨far, q⟩ L.length) := by
            show _ = _
            rw [bfs_succ (by rw [HS.out]; exact hlt), HS.out, hL]; show bNext _ _ _ _ = _; unfold bNext; rw [hu]
          have HLl : Hid (L.length ≤ m) := by show _ ≤ _; rw [hL]; have := atTo_len es u es.length; rw [hl.out] at this; exact hl.out ▸ this
          have HRL : Hid (∀ W, Eds W b o m es → Calls Tryz.prog 112 #[.agg #[.int .i64 j, .slice (some ⟨b, o, none⟩) m c], .int .i64 u] W (RetL L W)) := fun W hE => by rw [hL]; exact l01At_any j b o m c es u W hE hm
          obtain ⟨g2, o2, rfl, I⟩ := O.src (by omega)
          have c1 := I.c i hlt
          rw [hu] at c1
          have z3 := I.blk
          have p1 := F.box.c0
          have q1 := F.box.c1
          have z1 := F.box.lt
          clear hL HI I hur
          go_wp2_with fail
          go_still_tail 5, (by kernel_rfl)
          change wpList _ _ _ _ _ wr.drew
          have hd := (Below.refl wr.heap.size wr).drew
          have O := O.below hd
          have F := F.below hd
          obtain ⟨w4, hw4⟩ : ∃ w4, w4 = wr.drew := ⟨_, rfl⟩
          rw [← hw4] at O F ⊢
          clear hw4 hd c1 z3 p1 q1 z1
          go_wp2_with fail
          refine (HRL.out _ (h.below F.bel)).mono ?_
          rintro e w5 ⟨A3, c3, rfl, O3, hb5⟩
          have hw4 := F.row.lt
          have hg2 : g2 < w4.heap.size := (O.blk g2 rfl).2
          have O := O.below hb5
          have F := F.below hb5
          have NE : blkOf A3 = none ∨ blkOf A3 ≠ blkOf (some (⟨g2, o2, none⟩ : Addr)) := blk_apart' (s := w4.heap.size) (fun g hg => (O3.blk g hg).1) (fun g hg => by simp [blkOf] at hg; omega)
          clear hg2 hb5 hsz
          go_wp2_with fail
          go_loopw [9, 12] (fun lv kv wv => ∃ (k : Nat) (far' : Int → Int) (q' : List Int) (A' : Option Addr) (c'' : Nat), k ≤ L.length ∧ kv = .int .i64 k ∧ lv = .slice A' q'.length c'' ∧ Hid (bVis es (skI wo) u L ⟨far, q⟩ k = ⟨far', q'⟩) ∧ OwnL w3.heap.size wv A' q'.length c'' q' ∧ FarB w w.heap.size (w.heap.size + 1) j (.int .i64 j) (.slice (some ⟨b, o, none⟩) m c) far' wv ∧ OwnL w4.heap.size wv A3 L.length c3 L ∧ (blkOf A3 = none ∨ blkOf A3 ≠ blkOf A')) (fun _ k _ => L.length - (intOf k).toNat)
          case atStart => exact ⟨0, _, _, _, _, Nat.zero_le _, rfl, rfl, rfl, O, F, O3, NE⟩
          case round =>
            clear O F O3 NE
            obtain ⟨k, far', q', A', c'', hk, rfl, rfl, HV, O, F, O3, NE⟩ := hrel
            have hsz := F.bel.size
            have hLm := HLl.out
            by_cases hlt2 : k < L.length
            · obtain ⟨f, hf, ef, hv⟩ := HLk.out k hlt2
              have HI : BInv j x ⟨far', q'⟩ := HV.out ▸ HI2.out k hk
              obtain ⟨ys, hys⟩ := bVis_q (es := es) (sk := skI wo) (u := (u : Int)) (L := L) (s := ⟨far, q⟩) k
              rw [HV.out] at hys
              have hq'l : i < q'.length := by rw [show q' = q ++ ys from hys]; simp; omega
              have hu' : ia q' i = u := by rw [show q' = q ++ ys from hys, ia_app hlt, hu]
              have huq : (u : Int) ∈ q' := hu' ▸ iaMem (xs := q') (i := i) hq'l
              have hur := HI.rng _ huq
              have hfu : 0 ≤ far' u := (HI.mem u).2 huq
              have hfu2 : far' u < q'.length := HI.hi u
              have hql : q'.length ≤ j := by have := HI.len; rw [Int.toNat_natCast] at this; exact this
              have hvr := oth_in HW.out (by rw [hl.out]; exact hf) hv
              obtain ⟨v, hvv⟩ : ∃ v : Nat, oth es f u = v := ⟨(oth es f u).toNat, by omega⟩
              have hvj : v < j := by omega
              have huj : u < j := by omega
              have HOT : Hid (∀ W, Eds W b o m es → Calls Tryz.prog 134 #[.agg #[.int .i64 j, .slice (some ⟨b, o, none⟩) m c], .int .i64 f, .int .i64 u] W (Ret (.int .i64 v) W)) := fun W hE => by
                rw [← hvv]; exact spOther_any j b o m c es f u W hE hf hm HW.out (by omega) (by omega)
              have HST : Hid (bVis es (skI wo) u L ⟨far, q⟩ (k + 1) = bStep es (skI wo) u ⟨far', q'⟩ f) := by
                show bStep _ _ _ _ _ = _; rw [HV.out, ef, Int.toNat_natCast]
              have hw1 : IntKind.i64.wrap (far' u + 1) = far' u + 1 := IntWalk.i64_in _ (by omega)
              obtain ⟨g3, o3, rfl, I3⟩ := O3.src (by omega)
              obtain ⟨g4, o4, rfl, I4⟩ := O.src (by omega)
              have hg3 := (O3.blk g3 rfl)
              have hg4 := (O.blk g4 rfl)
              have c1 := I3.c k hlt2
              have c2 := I4.c i hq'l
              rw [ef] at c1
              rw [hu'] at c2
              have z3 := I3.blk
              have z4 := I4.blk
              have E := h.below F.bel
              have zb := E.blk
              have p1 := F.box.c0
              have q1 := F.box.c1
              have z1 := F.box.lt
              have HO := Lib.hid hvv
              clear HI hys hu' huq hur hfu hfu2 hvr hv ef hvv I3 I4
              go_wp2_with fail
              (refine wp_region_quiet_below (by kernel_rfl) (by kernel_rfl) ?_
               repeat (any_goals (go_big_quiet_step (first | (go_at_call 134; exact Ret.rg (HOT.out _ (E.below (below_regrown _ _ _)))))))
               all_goals (refine wpQuiet_nil ?_; intro wq2 hq2; replace hq2 := below_of_rg hq2))
              have O := O.below hq2
              have F := F.below hq2
              have O3 := O3.below hq2
              have c1 := (bcell hq2).1 _ _ z3 ▸ c1
              have c2 := (bcell hq2).1 _ _ z4 ▸ c2
              clear E zb p1 q1 z1 z3 z4
              by_cases hs : (f : Int) = wo
              · have hs' : ((f : Int) != wo) = false := by simp [hs]
                have HE : Hid (bVis es (skI wo) u L ⟨far, q⟩ (k + 1) = ⟨far', q'⟩) := by show _ = _; rw [HST.out, bStep_no (fun hc => by rw [skI_yes hs'] at hc; cases hc.1)]
                clear hs c2
                go_wp2_with fail
                go_roundw
                case rel => exact ⟨k + 1, far', q', _, c'', by omega, by go_num, rfl, HE, O, F, O3, NE⟩
                case measure => simp [intOf]; omega
              · have hs' : ((f : Int) != wo) = true := by simp [hs]
                have r1 := F.row.cell hvj
                by_cases hfv : far' v < 0
                · have HE : Hid (bVis es (skI wo) u L ⟨far, q⟩ (k + 1) = ⟨upI far' v (far' u + 1), q' ++ [(v : Int)]⟩) := by show _ = _; rw [HST.out, bStep_yes (skI_no hs') (by rw [HO.out]; exact hfv), HO.out]
                  have r2 := F.row.cell huj
                  have f1 := F.row.frozen v
                  have F1 := Lib.hid (F.set v (far' u + 1))
                  have O1 := O.setOther (a := ⟨w.heap.size + 1, v, none⟩) (blk_ne (fun g hg => (O.blk g hg).1) (by omega)) (.int .i64 (far' u + 1))
                  have O31 := Lib.hid (O3.setOther (a := ⟨w.heap.size + 1, v, none⟩) (blk_ne (fun g hg => (O3.blk g hg).1) (by omega)) (.int .i64 (far' u + 1)))
                  have hsq := hq2.size
                  clear F O3 O hs
                  go_wp2_with (first
                    | (at_builtin; refine wp_appL1 rfl rfl rfl rfl (by simp) O1 (by simp; omega) (by omega) ?_; intro A2 c2' w6 O2 hg6 hat6))
                  have e2 : (q' ++ [(v : Int)]).length = q'.length + 1 := by simp
                  have hs6 : (wq2.setCell ⟨w.heap.size + 1, v, none⟩ (.int .i64 (far' u + 1))).heap.size = wq2.heap.size := by simp
                  have F2 := F1.out.grown hg6 (by simp [blkOf]; omega) (by simp [blkOf]; omega) (fun y hy => by simp [blkOf] at hy; omega)
                  have O32 := O31.out.kept hg6 NE
                  have NE2 := hat6.apart (AX := some ⟨g3, o3, none⟩) (fun g hg => by simp [blkOf] at hg; omega) NE
                  go_roundw
                  case rel => exact ⟨k + 1, _, _, A2, c2', by omega, by go_num, by rw [e2], HE, by rw [e2]; exact O2, F2, O32, NE2⟩
                  case measure => simp [intOf]; omega
                · have HE : Hid (bVis es (skI wo) u L ⟨far, q⟩ (k + 1) = ⟨far', q'⟩) := by show _ = _; rw [HST.out, bStep_no (fun hc => by have := hc.2; rw [HO.out] at this; exact hfv this)]
                  clear hs c2
                  go_wp2_with fail
                  go_roundw
                  case rel => exact ⟨k + 1, far', q', _, c'', by omega, by go_num, rfl, HE, O, F, O3, NE⟩
                  case measure => simp [intOf]; omega
            · obtain rfl : k = L.length := by omega
              have HE : Hid (bfs es (skI wo) x (i + 1) = ⟨far', q'⟩) := by show _ = _; rw [HNX.out, HV.out]
              obtain ⟨ys, hys⟩ := bVis_q (es := es) (sk := skI wo) (u := (u : Int)) (L := L) (s := ⟨far, q⟩) L.length
              rw [HV.out] at hys
              have hq'l : i + 1 ≤ q'.length := by rw [show q' = q ++ ys from hys]; simp; omega
              clear hys O3
              go_wp2_with fail
              go_roundw
              case rel => exact ⟨i + 1, far', q', A', c'', hq'l, by go_num, rfl, HE, O, F⟩
              case measure => simp [intOf]; omega
        · obtain rfl : i = q.length := by omega
          have HE := Lib.hid (HAT.out q.length (by rw [HS.out]; exact hlt) (by rw [HS.out]; exact Nat.le_refl _))
          have HF : Hid (∀ v : Int, far v = farF es (skI wo) j x v) := fun v => by rw [HE.out, HS.out]
          go_wp2_with fail
          go_ret
          exact ⟨w.heap.size + 1, rfl, by omega, F.row.congr (fun v _ => by rw [HF.out]), F.bel⟩
end Go.Proofs.YtajnhkkiddeegaaGreat
namespace Go.Proofs.YtajnhkkiddeegaaGreat
open Go.RowKit Go.Sort
noncomputable def bdF (n : Int) (es : List (Int × Int)) (e : Nat) (v : Int) : Int := farF es noSk n (leadF es noSk (ea es e)) v
noncomputable def bdP (n : Int) (es : List (Int × Int)) (e : Nat) : Prop := (bdF n es e (ea es e) + bdF n es e (eb es e)) % 2 = 0
noncomputable def bpB (n : Int) (es : List (Int × Int)) (m : Nat) : Bool := B (∀ e, e < m → ¬ bdP n es e)
theorem bd_in {n : Int} {es : List (Int × Int)} (hn : WfP n es) {e : Nat} (he : e < es.length) :
    (0 ≤ leadF es noSk (ea es e) ∧ leadF es noSk (ea es e) ≤ n - 1) ∧ (0 ≤ bdF n es e (ea es e) ∧ bdF n es e (ea es e) ≤ 19) ∧ 0 ≤ bdF n es e (eb es e) ∧ bdF n es e (eb es e) ≤ 19 := by
  have r := hn.2.2.2.2 e he
  have h0 := leadF_nonneg es noSk (ea es e)
  have h1 := leadF_le (es := es) (sk := noSk) (v := ea es e) r.1
  have hr := (leadF_spec (es := es) (sk := noSk) (v := ea es e) r.1).1.symm
  have ha : AdjE es noSk (ea es e) (eb es e) := ⟨e, he, rfl, .inl ⟨rfl, rfl⟩⟩
  have b1 := farF_bd (sk := noSk) hn (a := leadF es noSk (ea es e)) h0 (by omega) (ea es e)
  have b2 := farF_bd (sk := noSk) hn (a := leadF es noSk (ea es e)) h0 (by omega) (eb es e)
  have f1 := (farF_iff (sk := noSk) hn (a := leadF es noSk (ea es e)) h0 (by omega) (ea es e)).2 hr
  have f2 := (farF_iff (sk := noSk) hn (a := leadF es noSk (ea es e)) h0 (by omega) (eb es e)).2 (hr.step ha)
  exact ⟨⟨h0, by omega⟩, ⟨f1, b1.2⟩, f2, b2.2⟩
theorem sdTo_row {es : List (Int × Int)} {sk : Nat → Bool} {N : Nat} : ∀ k j, j < (sdTo es sk N k).length → ∃ v : Nat, v < k ∧ leadF es sk v = v ∧ ra (sdTo es sk N k) j = cmTo es sk v N := by
  intro k
  induction k with
  | zero => intro j hj; simp [sdTo] at hj
  | succ k ih =>
    intro j hj
    by_cases hc : leadF es sk k = k
    · rw [sdTo_yes hc] at hj ⊢
      by_cases hjl : j < (sdTo es sk N k).length
      · obtain ⟨v, hv, h⟩ := ih j hjl
        exact ⟨v, by omega, h.1, by rw [ra_app_lt hjl]; exact h.2⟩
      · obtain rfl : j = (sdTo es sk N k).length := by simp at hj; omega
        exact ⟨k, by omega, hc, ra_app_at⟩
    · rw [sdTo_no hc] at hj ⊢
      obtain ⟨v, hv, h⟩ := ih j hj
      exact ⟨v, by omega, h⟩
theorem sdTo_all {es : List (Int × Int)} {sk : Nat → Bool} {N : Nat} : ∀ k (v : Nat), v < k → leadF es sk v = v → ∃ j, j < (sdTo es sk N k).length ∧ ra (sdTo es sk N k) j = cmTo es sk v N := by
  intro k
  induction k with
  | zero => intro v hv; omega
  | succ k ih =>
    intro v hv hl
    by_cases e : v = k
    · subst e
      rw [sdTo_yes hl]
      exact ⟨(sdTo es sk N v).length, by simp, ra_app_at⟩
    · obtain ⟨j, hj, h⟩ := ih v (by omega) hl
      by_cases hc : leadF es sk k = k
      · rw [sdTo_yes hc]; exact ⟨j, by simp; omega, by rw [ra_app_lt hj]; exact h⟩
      · rw [sdTo_no hc]; exact ⟨j, hj, h⟩
/-- The first of a part is its leader. -/
theorem cmTo_first {es : List (Int × Int)} {sk : Nat → Bool} {v : Nat} (h : leadF es sk v = v) : ∀ k, v < k → 1 ≤ (cmTo es sk v k).length ∧ ia (cmTo es sk v k) 0 = v := by
  intro k
  induction k with
  | zero => intro hk; omega
  | succ k ih =>
    intro hk
    by_cases e : v = k
    · subst e
      rw [cmTo_yes (Rch.refl _ _ _), cmTo_low h]
      exact ⟨by simp, by simp [ia]⟩
    · have := ih (by omega)
      simp only [cmTo, List.length_append]
      exact ⟨by omega, by rw [ia_app (by omega)]; exact this.2⟩
set_option maxRecDepth 100000 in
set_option maxHeartbeats 1600000 in
theorem spIsBipartite_any (n : Int) (b o m c : Nat) (es : List (Int × Int)) (w : World) (h : Eds w b o m es) (hm : m ≤ 1048576) :
    Calls Tryz.prog 46 #[.agg #[.int .i64 n, .slice (some ⟨b, o, none⟩) m c]] w (Ret (.tuple #[.bool (B (IsG n es) && bpB n es m), .int .i64 (imC n es)]) w) := by
  have KC := cell_rg
  have hbox := Box2.made w (.int .i64 n) (.slice (some ⟨b, o, none⟩) m c) 26
  have hbb := (by go_grown : Below w.heap.size w (w.alloc (.cells #[.int .i64 n, .slice (some ⟨b, o, none⟩) m c] 26)))
  have HSP := Lib.hid (l01Is_any n b o m c es _ (h.alloc (.cells #[.int .i64 n, .slice (some ⟨b, o, none⟩) m c] 26)) hm)
  by_cases hG : IsG n es
  rotate_left
  · have HC : Hid (imC n es = 1) := by simp [Hid, imC, B_false hG]
    have HR : Hid ((B (IsG n es) && bpB n es m) = false) := by simp [Hid, B_false hG]
    rw [B_false hG] at HSP
    clear hG hbox
    go_enter Tryz.func46, Tryz.ntmps46
    go_wp2_with fail
    refine HSP.out.mono ?_
    rintro e w1 ⟨rfl, hb1⟩
    have hB1 := hbb.thenB (by simp) hb1
    clear hb1 hbb
    go_wp2_with fail
    go_ret2
    exact ⟨retBC HR.out.symm HC.out.symm, hB1⟩
  have HC : Hid (imC n es = 0) := by simp [Hid, imC, B_true hG]
  have HR : Hid ((B (IsG n es) && bpB n es m) = bpB n es m) := by simp [Hid, B_true hG]
  have HW := Lib.hid hG.wf
  have hl := Lib.hid h.len
  rw [B_true hG] at HSP
  have hn2 := hG.wf.1
  have hn20 := hG.wf.2.1
  obtain ⟨N, rfl⟩ : ∃ N : Nat, n = N := ⟨n.toNat, by omega⟩
  clear hG
  go_enter Tryz.func46, Tryz.ntmps46
  go_wp2_with fail
  refine HSP.out.mono ?_
  rintro e w1 ⟨rfl, hb1⟩
  have hB1 := hbb.thenB (by simp) hb1
  have hbx := hbox.below hb1
  obtain ⟨s1, p1, q1⟩ := hbox.below hb1
  clear hb1 hbb hbox
  go_wp2_with (go_at_call 99; refine (leaders_any N b o m c es _ (h.below hB1) hm HW.out.inR (by omega) (by omega)).mono ?_; rintro e w2 ⟨A2, c2, rfl, ho, hb2⟩)
  have hB2 := hB1.andB hb2
  have hbx := hbx.below hb2
  obtain ⟨g2, rfl, hbg, hlg⟩ : ∃ g, A2 = some ⟨g, 0, none⟩ ∧ w1.heap.size ≤ g ∧ g < w2.heap.size := by
    rcases ho.cases with ⟨_, h0, _⟩ | h0
    · rw [lsF_len] at h0; omega
    · exact h0
  rw [lsF_len] at ho ⊢
  clear s1 p1 q1 hb2
  go_loopw [5] (fun ev wr => ∃ e : Nat, e ≤ m ∧ ev = .int .i64 e ∧ Hid (∀ e', e' < e → ¬ bdP N es e') ∧ Below w2.heap.size w2 wr) (fun e _ => m - (intOf e).toNat)
  case atStart => exact ⟨0, Nat.zero_le _, rfl, fun e he => absurd he (by omega), Below.refl _ _⟩
  case round =>
    obtain ⟨e, he, rfl, HP, hb1⟩ := hrel
    have hbr := hB2.andB hb1
    obtain ⟨z1, pp1, qq1⟩ := hbx.below hb1
    have O := ho.below hb1
    by_cases hlt : e < m
    · have r := HW.out.2.2.2.2 e (by rw [hl.out]; exact hlt)
      have bi := bd_in HW.out (by rw [hl.out]; exact hlt : e < es.length)
      have HBD : Hid (bdP N es e ↔ (bdF N es e (ea es e) + bdF N es e (eb es e)) % 2 = 0) := Iff.rfl
      unfold bdF at bi HBD
      obtain ⟨x, hx⟩ : ∃ x : Nat, ea es e = x := ⟨(ea es e).toNat, by omega⟩
      obtain ⟨y, hy⟩ : ∃ y : Nat, eb es e = y := ⟨(eb es e).toNat, by omega⟩
      rw [hx, hy] at bi HBD
      obtain ⟨v, hv⟩ : ∃ v : Nat, leadF es noSk x = v := ⟨(leadF es noSk x).toNat, by omega⟩
      rw [hv] at bi HBD
      have hxN : x < N := by omega
      have hyN : y < N := by omega
      have E := h.below hbr
      have d1 := E.ca e hlt
      have d2 := E.cb e hlt
      have zb := E.blk
      rw [hx] at d1
      rw [hy] at d2
      have l1 := O.cell hxN
      rw [lsF_at _ hxN, hv] at l1
      have zg := (O.blk g2 rfl).2
      have HFA := Lib.hid (fun W hE => sk_none ▸ Int.toNat_natCast N ▸ l01Far_any N b o m c es v (-1) W hE hm HW.out (by omega) (by omega))
      obtain ⟨fx, hfx⟩ : ∃ fx, farF es noSk N v x = fx := ⟨_, rfl⟩
      obtain ⟨fy, hfy⟩ : ∃ fy, farF es noSk N v y = fy := ⟨_, rfl⟩
      rw [hfx, hfy] at bi HBD
      have HFX := Lib.hid hfx
      have HXE := Lib.hid hx
      have HYE := Lib.hid hy
      have HFY := Lib.hid hfy
      have b1 := bi.2.1.1
      have b2 := bi.2.1.2
      have b3 := bi.2.2.1
      have b4 := bi.2.2.2
      clear r hx hy hv hfx hfy bi
      go_wp2_with fail
      go_still_tail 10, (by kernel_rfl)
      change wpList _ _ _ _ _ wr.drew
      have hbd : Below wr.heap.size wr wr.drew := (Below.refl _ _).drew
      have X := Box2.below ⟨z1, pp1, qq1⟩ hbd
      have E := E.below hbd
      obtain ⟨w4, hw4⟩ : ∃ w4, w4 = wr.drew := ⟨_, rfl⟩
      rw [← hw4] at X E hbd ⊢
      clear hw4 z1 pp1 qq1 d1 d2 zb l1 zg
      go_wp2_with fail
      refine (HFA.out _ E).mono ?_
      rintro _ w5 ⟨g5, rfl, hg5, R, hb5⟩
      obtain ⟨z1, pp1, qq1⟩ := X.below hb5
      have E := E.below hb5
      have d1 := E.ca e hlt
      have d2 := E.cb e hlt
      have zb := E.blk
      have r1 := R.cell hxN
      have r2 := R.cell hyN
      have zg := R.lt
      have hb6 := (hb1.andB hbd).andB hb5
      have hws : IntKind.i64.wrap (fx + fy) = fx + fy := IntWalk.i64_in _ (by omega)
      have hwt : (fx + fy).tmod 2 = (fx + fy) % 2 := Int.tmod_eq_emod_of_nonneg (by omega)
      simp only [HFX.out] at r1
      simp only [HFY.out] at r2
      rw [HXE.out] at d1
      rw [HYE.out] at d2
      by_cases hbad : (fx + fy) % 2 = 0
      · have h1 : ((fx + fy) % 2 == 0) = true := by simp [hbad]
        have HV : Hid (bpB N es m = false) := B_false fun hh => hh e hlt (HBD.out.2 hbad)
        clear hbad
        go_wp2_with fail
        (refine wp_region_quiet_below (by kernel_rfl) (by kernel_rfl) ?_
         repeat (any_goals (go_big_quiet_step (first | fail)))
         all_goals (refine wpQuiet_nil ?_; intro wq7 hq7; replace hq7 := below_of_rg hq7))
        go_wp2_with fail
        go_ret2
        exact ⟨retBC (by rw [HR.out, HV.out]) HC.out.symm, (hB2.andB hb6).andB hq7⟩
      · have h1 : ((fx + fy) % 2 == 0) = false := by simp [hbad]
        have HP' : Hid (∀ e', e' < e + 1 → ¬ bdP N es e') := fun e' he' => by
          by_cases e2 : e' = e
          · subst e2; exact fun hh => hbad (HBD.out.1 hh)
          · exact HP.out e' (by omega)
        clear hbad
        go_wp2_with fail
        (refine wp_region_quiet_below (by kernel_rfl) (by kernel_rfl) ?_
         repeat (any_goals (go_big_quiet_step (first | fail)))
         all_goals (refine wpQuiet_nil ?_; intro wq7 hq7; replace hq7 := below_of_rg hq7))
        go_wp2_with fail
        go_roundw
        case rel => exact ⟨e + 1, by omega, by go_num, HP', hb6.andB hq7⟩
        case measure => simp [intOf]; omega
    · obtain rfl : e = m := by omega
      have HV : Hid (bpB N es e = true) := B_true HP.out
      go_wp2_with fail
      go_ret2
      exact ⟨retBC (by rw [HR.out, HV.out]) HC.out.symm, hbr⟩
set_option maxRecDepth 100000 in
set_option maxHeartbeats 3200000 in
theorem imIsBipartite_any (n : Int) (b o m c : Nat) (es : List (Int × Int)) (w : World) (h : Eds w b o m es) (hm : m ≤ 1048576) :
    Calls Tryz.prog 32 #[.agg #[.int .i64 n, .slice (some ⟨b, o, none⟩) m c]] w (Ret (.tuple #[.bool (B (IsG n es) && bpB n es m), .int .i64 (imC n es)]) w) := by
  have KC := cell_rg
  have hbox := Box2.made w (.int .i64 n) (.slice (some ⟨b, o, none⟩) m c) 26
  have hbb := (by go_grown : Below w.heap.size w (w.alloc (.cells #[.int .i64 n, .slice (some ⟨b, o, none⟩) m c] 26)))
  have HGC := Lib.hid (graphCode_any n b o m c es true _ (h.alloc (.cells #[.int .i64 n, .slice (some ⟨b, o, none⟩) m c] 26)) hm)
  by_cases hG : IsG n es
  rotate_left
  · have HC : Hid (imC n es = 1) := by simp [Hid, imC, B_false hG]
    have HR : Hid ((B (IsG n es) && bpB n es m) = false) := by simp [Hid, B_false hG]
    rw [show gcC n es true = 1 by simp [gcC, B_false hG]] at HGC
    clear hG hbox
    go_enter Tryz.func32, Tryz.ntmps32
    go_wp2_with fail
    refine HGC.out.mono ?_
    rintro e w1 ⟨rfl, hb1⟩
    have hB1 := hbb.thenB (by simp) hb1
    clear hb1 hbb
    go_wp2_with fail
    go_ret2
    exact ⟨retBC HR.out.symm HC.out.symm, hB1⟩
  have HC : Hid (imC n es = 0) := by simp [Hid, imC, B_true hG]
  have HR : Hid ((B (IsG n es) && bpB n es m) = bpB n es m) := by simp [Hid, B_true hG]
  have HW := Lib.hid hG.wf
  have hl := Lib.hid h.len
  rw [show gcC n es true = 0 by simp [gcC, B_true hG]] at HGC
  have hn2 := hG.wf.1
  have hn20 := hG.wf.2.1
  obtain ⟨N, rfl⟩ : ∃ N : Nat, n = N := ⟨n.toNat, by omega⟩
  have HS0 := Lib.hid (fun W hE => skS_none ▸ sides_any N b o m c 0 es W hE hm hG.wf (by omega))
  rw [Int.toNat_natCast] at HS0
  clear hG
  go_enter Tryz.func32, Tryz.ntmps32
  go_wp2_with fail
  refine HGC.out.mono ?_
  rintro e w1 ⟨rfl, hb1⟩
  have hB1 := hbb.thenB (by simp) hb1
  have hbx := hbox.below hb1
  obtain ⟨s1, p1, q1⟩ := hbox.below hb1
  clear hb1 hbb hbox
  go_wp2_with (go_at_call 83; refine (HS0.out _ (h.below hB1)).mono ?_; rintro e w2 ⟨A2, c2, rfl, ho, hb2⟩)
  have hB2 := hB1.andB hb2
  have hbx := hbx.below hb2
  have HROW := Lib.hid (fun j hj => sdTo_row (es := es) (sk := noSk) (N := N) N j hj)
  have HALL := Lib.hid (fun v hv hl => sdTo_all (es := es) (sk := noSk) (N := N) N v hv hl)
  obtain ⟨rows, hrows⟩ : ∃ rows, sdTo es noSk N N = rows := ⟨_, rfl⟩
  have hlen : rows.length ≤ 20 := by rw [← hrows, sdTo_len]; have := ldCnt_le es noSk N; omega
  rw [hrows] at ho HROW HALL ⊢
  clear s1 p1 q1 hb2 hrows
  go_loopw [18] (fun iv wr => ∃ i : Nat, i ≤ rows.length ∧ iv = .int .i64 i ∧ Hid (∀ i', i' < i → ∀ v : Nat, leadF es noSk v = v → ra rows i' = cmTo es noSk v N → ∀ e, e < m → leadF es noSk (ea es e) = v → ¬ bdP N es e) ∧ Below w2.heap.size w2 wr) (fun i _ => rows.length - (intOf i).toNat)
  case atStart => exact ⟨0, Nat.zero_le _, rfl, fun i hi => absurd hi (by omega), Below.refl _ _⟩
  case round =>
    obtain ⟨w3, rfl⟩ : ∃ w3, w3 = wr := ⟨wr, rfl⟩
    obtain ⟨i, hi, rfl, HP, hb1⟩ := hrel
    have hbr := hB2.andB hb1
    by_cases hlt : i < rows.length
    · obtain ⟨v, hvN, hlv, hrv⟩ := HROW.out i hlt
      have hcf := cmTo_first hlv N hvN
      have hcl := cmTo_len es noSk v N
      obtain ⟨g2, Aj, cj, rfl, hbg, hlg, hcell, hown⟩ := (ho.below hb1).at hlt
      rw [hrv] at hcell hown
      obtain ⟨g4, o4, rfl, I4⟩ := hown.src (by omega)
      have c4 := I4.c 0 (by omega)
      rw [hcf.2, Nat.add_zero] at c4
      have z4 := I4.blk
      obtain ⟨lc, hlc⟩ : ∃ lc, (cmTo es noSk v N).length = lc := ⟨_, rfl⟩
      have hlc1 : 0 < lc := by rw [← hlc]; exact hcf.1
      have hlc2 : lc ≤ N := by rw [← hlc]; exact hcl
      rw [hlc] at hcell
      have E := h.below hbr
      obtain ⟨z1, pp1, qq1⟩ := hbx.below hb1
      have HFA := Lib.hid (fun W hE => skS_none ▸ Int.toNat_natCast N ▸ distances_any N b o m c 0 es v W hE hm HW.out (by omega) (by omega) (by omega))
      have HLV := Lib.hid hlv
      have HRV := Lib.hid hrv
      clear hlv hrv hcf hcl I4 hlc hown
      go_wp2_with fail
      go_still_tail 4, (by kernel_rfl)
      change wpList _ _ _ _ _ w3.drew
      have hbd : Below w3.heap.size w3 w3.drew := (Below.refl _ _).drew
      have X := Box2.below ⟨z1, pp1, qq1⟩ hbd
      have E := E.below hbd
      obtain ⟨w4, hw4⟩ : ∃ w4, w4 = w3.drew := ⟨_, rfl⟩
      rw [← hw4] at X E hbd ⊢
      clear hw4 z1 pp1 qq1 c4 z4 hcell
      go_wp2_with fail
      refine (HFA.out _ E).mono ?_
      rintro _ w5 ⟨g5, rfl, hg5, R, hb5⟩
      have X := X.below hb5
      have E := E.below hb5
      have hb6 := (hb1.andB hbd).andB hb5
      obtain ⟨z1, pp1, qq1⟩ := X
      clear hb5 hbd
      go_wp2_with fail
      go_loopw [30] (fun ev wv => ∃ e : Nat, e ≤ m ∧ ev = .int .i64 e ∧ Hid (∀ e', e' < e → leadF es noSk (ea es e') = v → ¬ bdP N es e') ∧ Below w5.heap.size w5 wv) (fun e _ => m - (intOf e).toNat)
      case atStart => exact ⟨0, Nat.zero_le _, rfl, fun e he => absurd he (by omega), Below.refl _ _⟩
      case round =>
        clear z1 pp1 qq1
        obtain ⟨e, he, rfl, HQ, hb7⟩ := hrel
        have hb8 := hb6.andB hb7
        by_cases hlte : e < m
        · have r := HW.out.2.2.2.2 e (by rw [hl.out]; exact hlte)
          have bi := bd_in HW.out (by rw [hl.out]; exact hlte : e < es.length)
          have hfi := farF_iff (sk := noSk) HW.out (a := v) (by omega) (by omega) (ea es e)
          have hli := lead_is (es := es) (sk := noSk) (v := v) (w := (ea es e).toNat) HLV.out
          have HBD : Hid (bdP N es e ↔ (bdF N es e (ea es e) + bdF N es e (eb es e)) % 2 = 0) := Iff.rfl
          unfold bdF at bi HBD
          obtain ⟨x, hx⟩ : ∃ x : Nat, ea es e = x := ⟨(ea es e).toNat, by omega⟩
          obtain ⟨y, hy⟩ : ∃ y : Nat, eb es e = y := ⟨(eb es e).toNat, by omega⟩
          have hxN : x < N := by omega
          have hyN : y < N := by omega
          have E := E.below hb7
          have d1 := E.ca e hlte
          have d2 := E.cb e hlte
          have R := R.of_block (hb7.block _ R.lt)
          have r1 := R.cell hxN
          have r2 := R.cell hyN
          have zg := R.lt
          rw [hx] at d1
          rw [hy] at d2
          rw [hx] at hfi hli
          rw [hx, hy] at bi HBD
          rw [Int.toNat_natCast] at hli
          obtain ⟨fx, hfx⟩ : ∃ fx, farF es noSk N v x = fx := ⟨_, rfl⟩
          obtain ⟨fy, hfy⟩ : ∃ fy, farF es noSk N v y = fy := ⟨_, rfl⟩
          simp only [hfx] at r1
          rw [hfx] at hfi
          simp only [hfy] at r2
          have hiff : 0 ≤ fx ↔ leadF es noSk x = v := hfi.trans hli.symm
          have HXE := Lib.hid hx
          clear hfi hli hx hy E R r
          by_cases hf : 0 ≤ fx
          · have hlx := hiff.1 hf
            rw [hlx, hfx, hfy] at bi HBD
            have b2 := bi.2.1.2
            have b3 := bi.2.2.1
            have b4 := bi.2.2.2
            have t1 : fx.tmod 2 = fx % 2 := Int.tmod_eq_emod_of_nonneg (by omega)
            have t2 : fy.tmod 2 = fy % 2 := Int.tmod_eq_emod_of_nonneg (by omega)
            have hd1 : decide (0 ≤ fx) = true := by simp [hf]
            by_cases hbad : (fx + fy) % 2 = 0
            · have hm1 : (fx % 2 == fy % 2) = true := by simp; omega
              have HV : Hid (bpB N es m = false) := B_false fun hh => hh e hlte (HBD.out.2 hbad)
              clear hbad hiff hlx bi hfx hfy
              go_wp2_with fail
              have Y := Box2.made wr (.int .i64 x) (.int .i64 y) 78
              have hba : Below wr.heap.size wr (wr.alloc (.cells #[.int .i64 x, .int .i64 y] 78)) := (Below.refl _ _).alloc (Nat.le_refl _) _
              have r1 := (bcell hba).1 _ _ zg ▸ r1
              have r2 := (bcell hba).1 _ _ zg ▸ r2
              have zg := bsz hba _ zg
              obtain ⟨w7, hw7⟩ : ∃ w7, w7 = wr.alloc (.cells #[.int .i64 x, .int .i64 y] 78) := ⟨_, rfl⟩
              rw [← hw7] at Y hba r1 r2 zg ⊢
              obtain ⟨y1, y2, y3⟩ := Y
              clear hw7 d1 d2
              (refine wp_region_quiet_below (by kernel_rfl) (by kernel_rfl) ?_
               repeat (any_goals (go_big_quiet_step (first | fail)))
               all_goals (refine wpQuiet_nil ?_; intro wq9 hq9; replace hq9 := below_of_rg hq9))
              go_wp2_with fail
              go_ret2
              exact ⟨retBC (by rw [HR.out, HV.out]) HC.out.symm, ((hB2.andB hb8).andB hba).andB hq9⟩
            · have hm1 : (fx % 2 == fy % 2) = false := by simp; omega
              have HQ' : Hid (∀ e', e' < e + 1 → leadF es noSk (ea es e') = v → ¬ bdP N es e') := fun e' he' hl' => by
                by_cases e2 : e' = e
                · subst e2; exact fun hh => hbad (HBD.out.1 hh)
                · exact HQ.out e' (by omega) hl'
              clear hbad hiff hlx bi hfx hfy
              go_wp2_with fail
              have Y := Box2.made wr (.int .i64 x) (.int .i64 y) 78
              have hba : Below wr.heap.size wr (wr.alloc (.cells #[.int .i64 x, .int .i64 y] 78)) := (Below.refl _ _).alloc (Nat.le_refl _) _
              have r1 := (bcell hba).1 _ _ zg ▸ r1
              have r2 := (bcell hba).1 _ _ zg ▸ r2
              have zg := bsz hba _ zg
              obtain ⟨w7, hw7⟩ : ∃ w7, w7 = wr.alloc (.cells #[.int .i64 x, .int .i64 y] 78) := ⟨_, rfl⟩
              rw [← hw7] at Y hba r1 r2 zg ⊢
              obtain ⟨y1, y2, y3⟩ := Y
              clear hw7 d1 d2
              (refine wp_region_quiet_below (by kernel_rfl) (by kernel_rfl) ?_
               repeat (any_goals (go_big_quiet_step (first | fail)))
               all_goals (refine wpQuiet_nil ?_; intro wq9 hq9; replace hq9 := below_of_rg hq9))
              go_wp2_with fail
              go_roundw
              case rel => exact ⟨e + 1, by omega, by go_num, HQ', (hb7.andB hba).andB hq9⟩
              case measure => simp [intOf]; omega
          · have hlx : ¬ leadF es noSk x = v := fun hh => hf (hiff.2 hh)
            have hd1 : decide (0 ≤ fx) = false := by simp; omega
            have HQ' : Hid (∀ e', e' < e + 1 → leadF es noSk (ea es e') = v → ¬ bdP N es e') := fun e' he' hl' => by
              by_cases e2 : e' = e
              · subst e2; rw [HXE.out] at hl'; exact absurd hl' hlx
              · exact HQ.out e' (by omega) hl'
            clear hiff hlx bi hfx hfy hf
            go_wp2_with fail
            have Y := Box2.made wr (.int .i64 x) (.int .i64 y) 78
            have hba : Below wr.heap.size wr (wr.alloc (.cells #[.int .i64 x, .int .i64 y] 78)) := (Below.refl _ _).alloc (Nat.le_refl _) _
            have r1 := (bcell hba).1 _ _ zg ▸ r1
            have r2 := (bcell hba).1 _ _ zg ▸ r2
            have zg := bsz hba _ zg
            obtain ⟨w7, hw7⟩ : ∃ w7, w7 = wr.alloc (.cells #[.int .i64 x, .int .i64 y] 78) := ⟨_, rfl⟩
            rw [← hw7] at Y hba r1 r2 zg ⊢
            obtain ⟨y1, y2, y3⟩ := Y
            clear hw7 d1 d2
            (refine wp_region_quiet_below (by kernel_rfl) (by kernel_rfl) ?_
             repeat (any_goals (go_big_quiet_step (first | fail)))
             all_goals (refine wpQuiet_nil ?_; intro wq9 hq9; replace hq9 := below_of_rg hq9))
            go_wp2_with fail
            go_roundw
            case rel => exact ⟨e + 1, by omega, by go_num, HQ', (hb7.andB hba).andB hq9⟩
            case measure => simp [intOf]; omega
        · obtain rfl : e = m := by omega
          have HP' : Hid (∀ i', i' < i + 1 → ∀ v : Nat, leadF es noSk v = v → ra rows i' = cmTo es noSk v N → ∀ e', e' < e → leadF es noSk (ea es e') = v → ¬ bdP N es e') := fun i' hi' v' hv' hr' e' he' hl' => by
            by_cases e2 : i' = i
            · subst e2
              refine HQ.out e' he' ?_
              rw [hl']
              have hv'N : v' < N := by
                have r := HW.out.2.2.2.2 e' (by rw [hl.out]; exact he')
                have := leadF_le (es := es) (sk := noSk) (v := ea es e') r.1
                omega
              have a1 := (cmTo_first HLV.out N hvN).2
              have a2 := (cmTo_first hv' N hv'N).2
              rw [← HRV.out, hr', a2] at a1
              exact a1
            · exact HP.out i' (by omega) v' hv' hr' e' he' hl'
          go_wp2_with fail
          go_roundw
          case rel => exact ⟨i + 1, by omega, by go_num, HP', hb8⟩
          case measure => simp [intOf]; omega
    · obtain rfl : i = rows.length := by omega
      have HV : Hid (bpB N es m = true) := B_true fun e he => by
        have r := HW.out.2.2.2.2 e (by rw [hl.out]; exact he)
        have h0 := leadF_nonneg es noSk (ea es e)
        have h1 := leadF_le (es := es) (sk := noSk) (v := ea es e) r.1
        have h2 := leadF_lead (es := es) (sk := noSk) (v := ea es e) r.1
        obtain ⟨v, hv⟩ : ∃ v : Nat, leadF es noSk (ea es e) = v := ⟨(leadF es noSk (ea es e)).toNat, by omega⟩
        rw [hv] at h2
        obtain ⟨j, hj, hr⟩ := HALL.out v (by omega) h2
        exact HP.out j hj v h2 hr e he hv
      go_wp2_with fail
      go_ret2
      exact ⟨retBC (by rw [HR.out, HV.out]) HC.out.symm, hbr⟩
end Go.Proofs.YtajnhkkiddeegaaGreat
namespace Go.Proofs.YtajnhkkiddeegaaGreat
open Go.RowKit Go.Sort
noncomputable def icnV (n : Int) (es : List (Int × Int)) : Bool := B (IsG n es) && cnB' n es
set_option maxHeartbeats 400000 in
theorem imIsConnected_any (n : Int) (b o m c : Nat) (es : List (Int × Int)) (w : World) (h : Eds w b o m es) (hm : m ≤ 1048576) :
    Calls Tryz.prog 33 #[.agg #[.int .i64 n, .slice (some ⟨b, o, none⟩) m c]] w (Ret (.tuple #[.bool (icnV n es), .int .i64 (imC n es)]) w) := by
  have hbox := Box2.made w (.int .i64 n) (.slice (some ⟨b, o, none⟩) m c) 26
  have hbb := (by go_grown : Below w.heap.size w (w.alloc (.cells #[.int .i64 n, .slice (some ⟨b, o, none⟩) m c] 26)))
  have HGC := Lib.hid (graphCode_any n b o m c es true _ (h.alloc (.cells #[.int .i64 n, .slice (some ⟨b, o, none⟩) m c] 26)) hm)
  by_cases hG : IsG n es
  · have HC : Hid (imC n es = 0) := by simp [Hid, imC, B_true hG]
    have HR : Hid (icnV n es = cnB' n es) := by simp [Hid, icnV, B_true hG]
    have HG := Lib.hid hG
    rw [show gcC n es true = 0 by simp [gcC, B_true hG]] at HGC
    clear hG
    go_enter Tryz.func33, Tryz.ntmps33
    go_wp2_with fail
    refine HGC.out.mono ?_
    rintro e w1 ⟨rfl, hb1⟩
    have hB1 := hbb.thenB (by simp) hb1
    obtain ⟨s1, p1, q1⟩ := hbox.below hb1
    clear hb1 hbb hbox
    go_wp2_with fail
    refine (isConnected_any n b o m c es _ (h.below hB1) hm HG.out.wf).mono ?_
    rintro e w2 ⟨rfl, hb2⟩
    go_wp2_with fail
    go_ret2
    exact ⟨retBC HR.out.symm HC.out.symm, hB1.andB hb2⟩
  · have HC : Hid (imC n es = 1) := by simp [Hid, imC, B_false hG]
    have HR : Hid (icnV n es = false) := by simp [Hid, icnV, B_false hG]
    rw [show gcC n es true = 1 by simp [gcC, B_false hG]] at HGC
    clear hG hbox
    go_enter Tryz.func33, Tryz.ntmps33
    go_wp2_with fail
    refine HGC.out.mono ?_
    rintro e w1 ⟨rfl, hb1⟩
    have hB1 := hbb.thenB (by simp) hb1
    clear hb1 hbb
    go_wp2_with fail
    go_ret2
    exact ⟨retBC HR.out.symm HC.out.symm, hB1⟩
end Go.Proofs.YtajnhkkiddeegaaGreat
namespace Go.Proofs.YtajnhkkiddeegaaGreat
open Go.RowKit Go.Sort
theorem ints2 (w : World) (a b : Int) (t : TypeId) : Ints (w.alloc (.cells #[.int .i64 a, .int .i64 b] t)) w.heap.size 0 2 (fun j => if j = 0 then a else b) :=
  ⟨by simp, fun j hj => by
    match j, hj with
    | 0, _ => simp
    | 1, _ => simp⟩
noncomputable def diC (n : Int) (es : List (Int × Int)) (a b : Int) : Int :=
  if vtxC n es 2 (fun j => if j = 0 then a else b) = 0 then (if farF es noSk n a b < 0 then 4 else 0) else vtxC n es 2 (fun j => if j = 0 then a else b)
noncomputable def diV (n : Int) (es : List (Int × Int)) (a b : Int) : Int := if diC n es a b = 0 then farF es noSk n a b else 0
theorem di_cases (n : Int) (es : List (Int × Int)) (a b : Int) :
    (¬ IsG n es ∧ diC n es a b = 1 ∧ diV n es a b = 0 ∧ vtxC n es 2 (fun j => if j = 0 then a else b) = 1) ∨
    (IsG n es ∧ ¬ ((0 ≤ a ∧ a ≤ n - 1) ∧ (0 ≤ b ∧ b ≤ n - 1)) ∧ diC n es a b = 2 ∧ diV n es a b = 0 ∧ vtxC n es 2 (fun j => if j = 0 then a else b) = 2) ∨
    (IsG n es ∧ (0 ≤ a ∧ a ≤ n - 1) ∧ (0 ≤ b ∧ b ≤ n - 1) ∧ farF es noSk n a b < 0 ∧ diC n es a b = 4 ∧ diV n es a b = 0 ∧ vtxC n es 2 (fun j => if j = 0 then a else b) = 0) ∨
    (IsG n es ∧ (0 ≤ a ∧ a ≤ n - 1) ∧ (0 ≤ b ∧ b ≤ n - 1) ∧ 0 ≤ farF es noSk n a b ∧ diC n es a b = 0 ∧ diV n es a b = farF es noSk n a b ∧ vtxC n es 2 (fun j => if j = 0 then a else b) = 0) := by
  have key : (∀ j, j < 2 → 0 ≤ (if j = 0 then a else b) ∧ (if j = 0 then a else b) ≤ n - 1) ↔ (0 ≤ a ∧ a ≤ n - 1) ∧ (0 ≤ b ∧ b ≤ n - 1) :=
    ⟨fun h => ⟨h 0 (by omega), h 1 (by omega)⟩, fun h j hj => by
      rcases (show j = 0 ∨ j = 1 by omega) with rfl | rfl
      · exact h.1
      · exact h.2⟩
  by_cases hG : IsG n es
  · by_cases hv : (0 ≤ a ∧ a ≤ n - 1) ∧ (0 ≤ b ∧ b ≤ n - 1)
    · have e := vtxC_0 (k := 2) (g := fun j => if j = 0 then a else b) hG (key.2 hv)
      by_cases hf : farF es noSk n a b < 0
      · right; right; left; simp [diC, diV, e, hG, hv, hf]
      · right; right; right; simp [diC, diV, e, hG, hv, hf]; omega
    · have e := vtxC_2 (k := 2) (g := fun j => if j = 0 then a else b) hG (fun h => hv (key.1 h))
      right; left; exact ⟨hG, hv, by simp [diC, e], by simp [diV, diC, e], e⟩
  · have e := vtxC_1 (k := 2) (g := fun j => if j = 0 then a else b) hG
    left; exact ⟨hG, by simp [diC, e], by simp [diV, diC, e], e⟩
set_option maxHeartbeats 800000 in
theorem spDistanceOf_any (n : Int) (b o m c : Nat) (es : List (Int × Int)) (x y : Int) (w : World) (h : Eds w b o m es) (hm : m ≤ 1048576) :
    Calls Tryz.prog 39 #[.agg #[.int .i64 n, .slice (some ⟨b, o, none⟩) m c], .int .i64 x, .int .i64 y] w (Ret (.tuple #[.int .i64 (diV n es x y), .int .i64 (diC n es x y)]) w) := by
  have hbox := Box2.made w (.int .i64 n) (.slice (some ⟨b, o, none⟩) m c) 26
  have hbv := (by go_grown : Below w.heap.size w ((w.alloc (.cells #[.int .i64 n, .slice (some ⟨b, o, none⟩) m c] 26)).alloc (.cells #[.int .i64 x, .int .i64 y] 2)))
  have hbx := hbox.below (by go_grown : Below _ _ ((w.alloc (.cells #[.int .i64 n, .slice (some ⟨b, o, none⟩) m c] 26)).alloc (.cells #[.int .i64 x, .int .i64 y] 2)))
  have HV := Lib.hid (vertices_any n b o m c (w.alloc (.cells #[.int .i64 n, .slice (some ⟨b, o, none⟩) m c] 26)).heap.size 0 2 2 es (fun j => if j = 0 then x else y) _ ((h.alloc _).alloc _) hm (ints2 (w.alloc (.cells #[.int .i64 n, .slice (some ⟨b, o, none⟩) m c] 26)) x y 2) (by omega))
  clear hbox
  rcases di_cases n es x y with ⟨hG, h1, h2, h3⟩ | ⟨hG, hv, h1, h2, h3⟩ | ⟨hG, hx, hy, hf, h1, h2, h3⟩ | ⟨hG, hx, hy, hf, h1, h2, h3⟩
  · rw [h1, h2]
    rw [h3] at HV
    clear h1 h2 h3
    go_enter Tryz.func39, Tryz.ntmps39
    go_wp2_with fail
    refine (show Calls _ _ _ _ _ from by simpa [go_sem] using HV.out).mono ?_
    rintro e w1 ⟨rfl, hb1⟩
    have hB1 := hbv.thenB (by simp; omega) hb1
    clear hb1 hbx hbv
    go_wp2_with fail
    go_ret2
    exact ⟨rfl, hB1⟩
  · rw [h1, h2]
    rw [h3] at HV
    clear h1 h2 h3 hv
    go_enter Tryz.func39, Tryz.ntmps39
    go_wp2_with fail
    refine (show Calls _ _ _ _ _ from by simpa [go_sem] using HV.out).mono ?_
    rintro e w1 ⟨rfl, hb1⟩
    have hB1 := hbv.thenB (by simp; omega) hb1
    clear hb1 hbx hbv
    go_wp2_with fail
    go_ret2
    exact ⟨rfl, hB1⟩
  · rw [h1, h2]
    rw [h3] at HV
    obtain ⟨u, rfl⟩ : ∃ u : Nat, y = u := ⟨y.toNat, by omega⟩
    have hu : u < n.toNat := by omega
    have HF := Lib.hid (fun W hE => sk_none ▸ l01Far_any n b o m c es x (-1) W hE hm hG.wf hx.1 hx.2)
    clear h1 h2 h3
    go_enter Tryz.func39, Tryz.ntmps39
    go_wp2_with fail
    refine (show Calls _ _ _ _ _ from by simpa [go_sem] using HV.out).mono ?_
    rintro e w1 ⟨rfl, hb1⟩
    obtain ⟨s1, p1, q1⟩ := hbx.below hb1
    have hB1 := hbv.thenB (by simp; omega) hb1
    clear hb1 hbx hbv
    go_wp2_with fail
    refine (HF.out _ (h.below hB1)).mono ?_
    rintro e w2 ⟨g, rfl, hg, R, hb2⟩
    have r1 := R.cell hu
    clear R
    go_wp2_with fail
    go_ret2
    exact ⟨rfl, hB1.andB hb2⟩
  · rw [h1, h2]
    rw [h3] at HV
    obtain ⟨u, rfl⟩ : ∃ u : Nat, y = u := ⟨y.toNat, by omega⟩
    have hu : u < n.toNat := by omega
    have HF := Lib.hid (fun W hE => sk_none ▸ l01Far_any n b o m c es x (-1) W hE hm hG.wf hx.1 hx.2)
    have hf2 : ¬ farF es noSk n x u < 0 := by omega
    clear h1 h2 h3
    go_enter Tryz.func39, Tryz.ntmps39
    go_wp2_with fail
    refine (show Calls _ _ _ _ _ from by simpa [go_sem] using HV.out).mono ?_
    rintro e w1 ⟨rfl, hb1⟩
    obtain ⟨s1, p1, q1⟩ := hbx.below hb1
    have hB1 := hbv.thenB (by simp; omega) hb1
    clear hb1 hbx hbv
    go_wp2_with fail
    refine (HF.out _ (h.below hB1)).mono ?_
    rintro e w2 ⟨g, rfl, hg, R, hb2⟩
    have r1 := R.cell hu
    clear R
    go_wp2_with fail
    go_ret2
    exact ⟨rfl, hB1.andB hb2⟩
theorem gc_v2 (n : Int) (es : List (Int × Int)) (x y : Int) : gcC n es (vxB n x && vxB n y) = vtxC n es 2 (fun j => if j = 0 then x else y) := by
  cases hG : B (IsG n es) with
  | false => rw [vtxC_1 (B_not.1 hG)]; simp [gcC, hG]
  | true =>
    have hg := B_iff.1 hG
    have hw := hg.wf
    rw [vxB_wf hw.1 hw.2.1, vxB_wf hw.1 hw.2.1]
    by_cases hv : (0 ≤ x ∧ x ≤ n - 1) ∧ (0 ≤ y ∧ y ≤ n - 1)
    · rw [vtxC_0 hg (fun j hj => by
        rcases (show j = 0 ∨ j = 1 by omega) with rfl | rfl
        · exact hv.1
        · exact hv.2), inB_true hv.1.1 hv.1.2, inB_true hv.2.1 hv.2.2]; simp [gcC, hG]
    · rw [vtxC_2 hg (fun h => hv ⟨h 0 (by omega), h 1 (by omega)⟩)]
      have : (inB x 0 (n - 1) && inB y 0 (n - 1)) = false := by
        rw [Bool.eq_false_iff]; intro hc; rw [Bool.and_eq_true, inB_iff, inB_iff] at hc; exact hv hc
      rw [this]; simp [gcC, hG]
set_option maxHeartbeats 1600000 in
theorem imDistanceOf_any (n : Int) (b o m c : Nat) (es : List (Int × Int)) (x y : Int) (w : World) (h : Eds w b o m es) (hm : m ≤ 1048576) :
    Calls Tryz.prog 38 #[.agg #[.int .i64 n, .slice (some ⟨b, o, none⟩) m c], .int .i64 x, .int .i64 y] w (Ret (.tuple #[.int .i64 (diV n es x y), .int .i64 (diC n es x y)]) w) := by
  have KC := cell_rg
  have hbb := (by go_grown : Below w.heap.size w (w.alloc (.cells #[.int .i64 n, .slice (some ⟨b, o, none⟩) m c] 26)))
  have hbx := Box2.made w (.int .i64 n) (.slice (some ⟨b, o, none⟩) m c) 26
  have hGC : ∀ r, r = (vxB n x && vxB n y) → ∀ d os, Calls Tryz.prog 52 #[.agg #[.int .i64 n, .slice (some ⟨b, o, none⟩) m c], .bool r] (grow (redrawn (w.alloc (.cells #[.int .i64 n, .slice (some ⟨b, o, none⟩) m c] 26)) d) os) fun e w'' => e = .returned (.int .i64 (vtxC n es 2 (fun j => if j = 0 then x else y))) ∧ ∃ p : Regrown, w'' = grow (redrawn (w.alloc (.cells #[.int .i64 n, .slice (some ⟨b, o, none⟩) m c] 26)) p.d) p.os := fun r hr d os => by
    subst hr
    exact Ret.rg (gc_v2 n es x y ▸ graphCode_any n _ _ _ _ es _ _ ((h.alloc _).below (below_regrown _ _ _)) hm)
  have HGC := Lib.hid hGC
  clear hGC
  have hIV : ∀ v W, Calls Tryz.prog 91 #[.agg #[.int .i64 n, .slice (some ⟨b, o, none⟩) m c], .int .i64 v] W (Ret (.bool (vxB n v)) W) := fun v W => isVertex_any n _ m c v W
  have HX := Lib.hid (hIV x)
  have HY := Lib.hid (hIV y)
  clear hIV
  have HD := Lib.hid (di_cases n es x y)
  cases hA : vxB n x with
  | false =>
    rw [hA] at HX HGC
    rcases HD.out with ⟨hG, h1, h2, h3⟩ | ⟨hG, hv, h1, h2, h3⟩ | ⟨hG, hx, hy, hf, h1, h2, h3⟩ | ⟨hG, hx, hy, hf, h1, h2, h3⟩
    rotate_left 2
    · exfalso; rw [vxB_wf hG.wf.1 hG.wf.2.1] at hA; exact inB_not.1 hA hx
    · exfalso; rw [vxB_wf hG.wf.1 hG.wf.2.1] at hA; exact inB_not.1 hA hx
    all_goals
      rw [h1, h2]
      rw [h3] at HGC
      clear h1 h2 h3 HD
      go_enter Tryz.func38, Tryz.ntmps38
      go_wp2_with fail
      (refine wp_region_quiet_below (by kernel_rfl) (by kernel_rfl) ?_
       repeat (any_goals (go_big_quiet_step (first | (go_at_call 91; exact Ret.rg (HX.out _)) | (go_at_call 52; exact HGC.out _ (by simp) _ _))))
       all_goals (refine wpQuiet_nil ?_; intro wq1 hq1; replace hq1 := below_of_rg hq1))
      have hB1 := hbb.thenB (by simp) hq1
      clear hq1 hbx hbb
      go_wp2_with fail
      go_ret2
      exact ⟨rfl, hB1⟩
  | true =>
    rw [hA] at HX HGC
    cases hA2 : vxB n y with
    | false =>
      rw [hA2] at HY HGC
      rcases HD.out with ⟨hG, h1, h2, h3⟩ | ⟨hG, hv, h1, h2, h3⟩ | ⟨hG, hx, hy, hf, h1, h2, h3⟩ | ⟨hG, hx, hy, hf, h1, h2, h3⟩
      rotate_left 2
      · exfalso; rw [vxB_wf hG.wf.1 hG.wf.2.1] at hA2; exact inB_not.1 hA2 hy
      · exfalso; rw [vxB_wf hG.wf.1 hG.wf.2.1] at hA2; exact inB_not.1 hA2 hy
      all_goals
        rw [h1, h2]
        rw [h3] at HGC
        clear h1 h2 h3 HD
        go_enter Tryz.func38, Tryz.ntmps38
        go_wp2_with fail
        (refine wp_region_quiet_below (by kernel_rfl) (by kernel_rfl) ?_
         repeat (any_goals (go_big_quiet_step (first | (go_at_call 91; first | with_reducible exact Ret.rg (HX.out _) | with_reducible exact Ret.rg (HY.out _)) | (go_at_call 52; exact HGC.out _ (by simp) _ _))))
         all_goals (refine wpQuiet_nil ?_; intro wq1 hq1; replace hq1 := below_of_rg hq1))
        have hB1 := hbb.thenB (by simp) hq1
        clear hq1 hbx hbb
        go_wp2_with fail
        go_ret2
        exact ⟨rfl, hB1⟩
    | true =>
      rw [hA2] at HY HGC
      rcases HD.out with ⟨hG, h1, h2, h3⟩ | ⟨hG, hv, h1, h2, h3⟩ | ⟨hG, hx, hy, hf, h1, h2, h3⟩ | ⟨hG, hx, hy, hf, h1, h2, h3⟩
      · rw [h1, h2]
        rw [h3] at HGC
        clear h1 h2 h3 HD
        go_enter Tryz.func38, Tryz.ntmps38
        go_wp2_with fail
        (refine wp_region_quiet_below (by kernel_rfl) (by kernel_rfl) ?_
         repeat (any_goals (go_big_quiet_step (first | (go_at_call 91; first | with_reducible exact Ret.rg (HX.out _) | with_reducible exact Ret.rg (HY.out _)) | (go_at_call 52; exact HGC.out _ (by simp) _ _))))
         all_goals (refine wpQuiet_nil ?_; intro wq1 hq1; replace hq1 := below_of_rg hq1))
        have hB1 := hbb.thenB (by simp) hq1
        clear hq1 hbx hbb
        go_wp2_with fail
        go_ret2
        exact ⟨rfl, hB1⟩
      · exfalso
        rw [vxB_wf hG.wf.1 hG.wf.2.1] at hA hA2
        exact hv ⟨inB_iff.1 hA, inB_iff.1 hA2⟩
      all_goals
        rw [h1, h2]
        rw [h3] at HGC
        obtain ⟨u, rfl⟩ : ∃ u : Nat, y = u := ⟨y.toNat, by omega⟩
        have hu : u < n.toNat := by omega
        have HF := Lib.hid (fun W hE => skS_none ▸ distances_any n b o m c 0 es x W hE hm hG.wf hx.1 hx.2 (by omega))
        have hf2 : (farF es noSk n x u < 0) ∨ ¬ farF es noSk n x u < 0 := Classical.em _
        clear h1 h2 h3 HD
        go_enter Tryz.func38, Tryz.ntmps38
        go_wp2_with fail
        (refine wp_region_quiet_below (by kernel_rfl) (by kernel_rfl) ?_
         repeat (any_goals (go_big_quiet_step (first | (go_at_call 91; first | with_reducible exact Ret.rg (HX.out _) | with_reducible exact Ret.rg (HY.out _)) | (go_at_call 52; exact HGC.out _ (by simp) _ _))))
         all_goals (refine wpQuiet_nil ?_; intro wq1 hq1; replace hq1 := below_of_rg hq1))
        obtain ⟨s1, p1, q1'⟩ := hbx.below hq1
        have hB1 := hbb.thenB (by simp) hq1
        clear hq1 hbx hbb
        go_wp2_with fail
        refine (HF.out _ (h.below hB1)).mono ?_
        rintro e w2 ⟨g, rfl, hg, R, hb2⟩
        have r1 := R.cell hu
        clear R
        rcases hf2 with hf2 | hf2
        all_goals first
          | (exfalso; omega)
          | (go_wp2_with fail
             go_ret2
             exact ⟨rfl, hB1.andB hb2⟩)
end Go.Proofs.YtajnhkkiddeegaaGreat
