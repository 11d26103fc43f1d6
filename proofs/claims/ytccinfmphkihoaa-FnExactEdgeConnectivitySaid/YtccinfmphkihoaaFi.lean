import Derived.Test.YtccinfmphkihoaaFb
import Derived.Test.YtccinfmphkihoaaRp
import Derived.Test.YtccinfmphkihoaaOtherEnd
import Derived.Deep.LoopGhost
namespace Go.Proofs.Ytccinfmphkihoaa
open Go.RowKit Go.Sort
/-! ### The program's distances -/
def skS (s : Nat) (e : Nat) : Bool := hasB s (e : Int)
set_option maxRecDepth 100000 in
set_option maxHeartbeats 800000 in
theorem distances_any (n : Int) (b o m c s : Nat) (es : List (Int × Int)) (a : Int) (w : World) (h : Eds w b o m es) (hm : m ≤ 1048576) (hn : WfP n es) (ha : 0 ≤ a) (ha2 : a ≤ n - 1) (hs : s < 18446744073709551616) :
    Calls Try.prog 94 #[.agg #[.int .i64 n, .slice (some ⟨b, o, none⟩) m c], .int .i64 a, .int .u64 s] w (RetI n.toNat (fun v => farF es (skS s) n a v) w) := by
  have KC := cell_rg
  have hl := Lib.hid h.len
  have HW := Lib.hid hn
  have hn2 := hn.1
  have hn20 := hn.2.1
  have hnm := hn.2.2.2.1
  have hpar := hn.2.2.1
  have HBI := Lib.hid (fun i => BInv.bfs (sk := skS s) hn ha ha2 i)
  have HAT := Lib.hid (fun i (h1 : ¬ i < (bfs es (skS s) a i).q.length) (h2 : i ≤ (bfs es (skS s) a i).q.length) => farF_at (sk := skS s) hn ha ha2 h1 h2)
  obtain ⟨N, rfl⟩ : ∃ N : Nat, n = N := ⟨n.toNat, by omega⟩
  obtain ⟨x, rfl⟩ : ∃ x : Nat, a = x := ⟨a.toNat, by omega⟩
  rw [Int.toNat_natCast]
  have hm30 : m ≤ 30 := by have := hl.out; omega
  clear hn hnm
  go_enter Try.func94, Try.ntmps94
  go_wp2_with fail
  obtain ⟨w1, hw1⟩ : ∃ w1, w1 = w.alloc (Obj.cells #[Value.int IntKind.i64 N, Value.slice (some ⟨b, o, none⟩) m c] 30) := ⟨_, rfl⟩
  have X := Box2.made w (.int .i64 N) (.slice (some ⟨b, o, none⟩) m c) 30
  have hs1 : w1.heap.size = w.heap.size + 1 := by rw [hw1]; simp [go_sem]
  have hb1 : Below w.heap.size w w1 := by rw [hw1]; exact (Below.refl _ _).alloc (Nat.le_refl _) _
  rw [← hw1] at X ⊢
  have HS1 := Lib.hid hs1
  clear hw1 hs1
  have hba : Below w1.heap.size w1 (w1.alloc (.cells #[.int .i64 (-1)] 2)) := (Below.refl _ _).alloc (Nat.le_refl _) _
  (with_reducible refine (repeat_any N (-1) (w.heap.size + 1) 0 1 _ (by have := ints1 w1 (-1) 2; rw [HS1.out] at this; exact this) (by omega) (by omega)).mono ?_)
  rintro e w2 ⟨O1, rfl, hO1, R, hb2⟩
  have hs2 : w1.heap.size + 1 ≤ O1 := by simpa using hO1
  have hs1 := HS1.out
  have F1 : FarB w w.heap.size O1 N (.int .i64 N) (.slice (some ⟨b, o, none⟩) m c) (fun _ => -1) w2 := ⟨(hb1.andB hba).andB hb2, (X.below hba).below hb2, R, by omega, by omega⟩
  have F2 := Lib.hid ((F1.set x 0).congr (far' := fun v => if v = (x : Int) then 0 else -1) (fun v _ => by simp only [upI]))
  have hxN : x < N := by omega
  have c1 := F1.row.cell hxN
  have f1 := F1.row.frozen x
  have hOX : w.heap.size < O1 := by omega
  clear F1 R hb2 hba X hb1 hO1 hs2
  go_wp2_with fail
  have F := F2.out
  clear F2 c1 f1
  obtain ⟨w3, hw3⟩ : ∃ w3, w3 = w2.setCell ⟨O1, x, none⟩ (.int .i64 0) := ⟨_, rfl⟩
  have hs3 : w3.heap.size = w2.heap.size := by rw [hw3]; simp
  rw [← hw3] at F ⊢
  clear hw3
  have z2 := F.row.lt
  have Qu : OwnQ w3.heap.size (w3.alloc (.cells #[.int .i64 x] 2)) (some ⟨w2.heap.size, 0, none⟩) 1 1 [(x : Int)] := by
    rw [← hs3]
    exact OwnQ.made _ _ _ (Nat.le_refl _)
  have F := F.below ((Below.refl _ _).alloc (Nat.le_refl _) (.cells #[.int .i64 x] 2))
  go_loopg [8] N (fun gk lv wr => ∃ (i : Nat) (far : Int → Int) (q : List Int) (A : Option Addr) (m' c' : Nat), Hid (gk + i = N ∧ m' + i = q.length) ∧ lv = .slice A m' c' ∧ Hid (bfs es (skS s) x i = ⟨far, q⟩) ∧ OwnQ w3.heap.size wr A m' c' (q.drop i) ∧ FarB w w.heap.size O1 N (.int .i64 N) (.slice (some ⟨b, o, none⟩) m c) far wr)
  case atStart => exact ⟨0, _, _, _, _, _, ⟨rfl, rfl⟩, rfl, rfl, Qu, F⟩
  case round =>
    clear Qu F
    obtain ⟨w4, rfl⟩ : ∃ w4, w4 = wr := ⟨wr, rfl⟩
    obtain ⟨i, far, q, A, m', c', HG, rfl, HS, Qu, F⟩ := hrel
    have hq20 : q.length ≤ N := by have := (HBI.out i).len; rw [HS.out, Int.toNat_natCast] at this; exact this
    have hm20 : m' ≤ 20 := by have := HG.out; omega
    cases m' with
    | succ m1 =>
      have hlt : i < q.length := by have := HG.out; omega
      have HI : BInv N x ⟨far, q⟩ := HS.out ▸ HBI.out i
      have hur := HI.rng _ (iaMem (xs := q) (i := i) hlt)
      obtain ⟨u, hu⟩ : ∃ u : Nat, ia q i = u := ⟨(ia q i).toNat, by omega⟩
      obtain ⟨L, hL⟩ : ∃ L, L = atL es u := ⟨_, rfl⟩
      have HI2 : Hid (∀ k, k ≤ L.length → BInv N x (bVis es (skS s) u L ⟨far, q⟩ k)) := fun k hk => by
        rw [hL] at hk ⊢; exact HI.vis HW.out (hu ▸ iaMem (xs := q) (i := i) hlt) k hk
      have HLk : Hid (∀ k, k < L.length → ∃ f : Nat, f < m ∧ ia L k = f ∧ (ea es f = u ∨ eb es f = u)) := fun k hk => by
        rw [hL] at hk ⊢; obtain ⟨f, hf, e⟩ := atL_at hk; exact ⟨f, by rw [hl.out] at hf; exact hf, e⟩
      have HNX : Hid (bfs es (skS s) x (i + 1) = bVis es (skS s) u L ⟨far, q⟩ L.length) := by
        show _ = _
        rw [bfs_succ (by rw [HS.out]; exact hlt), HS.out, hL]; show bNext _ _ _ _ = _; unfold bNext; rw [hu]
      have HLl : Hid (L.length ≤ m) := by show _ ≤ _; rw [hL]; have := atTo_len es u es.length; rw [hl.out] at this; exact hl.out ▸ this
      have HRL : Hid (∀ W, Eds W b o m es → Calls Try.prog 125 #[.agg #[.int .i64 N, .slice (some ⟨b, o, none⟩) m c], .int .i64 u] W (RetL L W)) := fun W hE => by rw [hL]; exact at_any N b o m c es u W hE hm
      obtain ⟨g2, o2, rfl, hg2, hg2', I⟩ := Qu.src
      have c1 := I.c 0 (by omega)
      have hu0 : ia (q.drop i) 0 = u := by rw [← hu]; simp [ia]
      rw [hu0, Nat.add_zero] at c1
      have p1 := F.box.c0
      have q1 := F.box.c1
      have z1 := F.box.lt
      have HUQ := Lib.hid hu
      have hlen := Qu.le
      clear hL HI I hur hu0 hu
      go_wp2_with fail
      go_region_held3 (fun W => W.cell? ⟨w.heap.size, 0, none⟩ = some (.int .i64 N) ∧ W.cell? ⟨w.heap.size, 1, none⟩ = some (.slice (some ⟨b, o, none⟩) m c) ∧ W.cell? ⟨g2, o2, none⟩ = some (.int .i64 u)) (first | go_keep | (rw [(bcell hb5).1 _ _ z1, (bcell hb5).1 _ _ z1, (bcell hb5).1 _ _ hg2']; exact ⟨p1, q1, c1⟩))
        ((go_at_call 125; refine (HRL.out _ (h.below F.bel.drew)).mono ?_; rintro e w5 ⟨A3, c3, rfl, O3, hb5⟩))
      have hb : Below w4.heap.size w4 w5 := ((Below.refl _ _).drew).andB hb5
      have Qu := Qu.below hb
      have F := F.below hb
      have hz5 : w4.heap.size ≤ w5.heap.size := hb.size
      have O3 : OwnL w4.heap.size w5 A3 L.length c3 L := O3
      have NE : blkOf A3 = none ∨ blkOf A3 ≠ blkOf (some (⟨g2, o2, none⟩ : Addr)) := blk_apart' (s := w4.heap.size) (fun g hg => (O3.blk g hg).1) (fun g hg => by simp [blkOf] at hg; omega)
      have hw4 : O1 < w4.heap.size := by omega
      have hXO : w.heap.size < w4.heap.size := by omega
      clear c1 p1 q1 z1 hb hb5 hz5
      go_wp2_with fail
      go_loopw [8, 32] (fun lv kv wv => ∃ (k : Nat) (far' : Int → Int) (q' : List Int) (A' : Option Addr) (m'' c'' : Nat), k ≤ L.length ∧ kv = .int .i64 k ∧ Hid (m'' + i = q'.length) ∧ lv = .slice A' m'' c'' ∧ Hid (bVis es (skS s) u L ⟨far, q⟩ k = ⟨far', q'⟩) ∧ OwnQ w3.heap.size wv A' m'' c'' (q'.drop i) ∧ FarB w w.heap.size O1 N (.int .i64 N) (.slice (some ⟨b, o, none⟩) m c) far' wv ∧ OwnL w4.heap.size wv A3 L.length c3 L ∧ (blkOf A3 = none ∨ blkOf A3 ≠ blkOf A')) (fun _ k _ => L.length - (intOf k).toNat)
      case atStart => exact ⟨0, _, _, _, _, _, Nat.zero_le _, rfl, HG.out.2, rfl, rfl, Qu, F, O3, NE⟩
      case round =>
        clear Qu F O3 NE
        obtain ⟨k, far', q', A', m'', c'', hk, rfl, HM, rfl, HV, Qu, F, O3, NE⟩ := hrel
        have hsz := F.bel.size
        have hLm := HLl.out
        obtain ⟨ys, hys⟩ := bVis_q (es := es) (sk := skS s) (u := (u : Int)) (L := L) (s := ⟨far, q⟩) k
        rw [HV.out] at hys
        have hq'l : i < q'.length := by rw [show q' = q ++ ys from hys]; simp; omega
        have hu' : ia q' i = u := by rw [show q' = q ++ ys from hys, ia_app hlt, HUQ.out]
        have hm1 : 1 ≤ m'' := by have := HM.out; omega
        have HI : BInv N x ⟨far', q'⟩ := HV.out ▸ HI2.out k hk
        have hql : q'.length ≤ N := by have := HI.len; rw [Int.toNat_natCast] at this; exact this
        have hm20 : m'' ≤ 20 := by have := HM.out; omega
        clear hys
        by_cases hlt2 : k < L.length
        · obtain ⟨f, hf, ef, hv⟩ := HLk.out k hlt2
          have huq : (u : Int) ∈ q' := hu' ▸ iaMem (xs := q') (i := i) hq'l
          have hur := HI.rng _ huq
          have hfu : 0 ≤ far' u := (HI.mem u).2 huq
          have hfu2 : far' u < q'.length := HI.hi u
          have hvr := oth_in HW.out (by rw [hl.out]; exact hf) hv
          have hee := HW.out.2.2.2.2 f (by rw [hl.out]; exact hf)
          obtain ⟨v, hvv⟩ : ∃ v : Nat, oth es f u = v := ⟨(oth es f u).toNat, by omega⟩
          have hvj : v < N := by omega
          have huj : u < N := by omega
          have HOT : Hid (∀ W, Calls Try.prog 126 #[.agg #[.int .i64 (ea es f), .int .i64 (eb es f)], .int .i64 u] W (Ret (.int .i64 v) W)) := fun W => by
            rw [← hvv]; exact other_any (ea es f) (eb es f) u W (by omega) (by omega) (by omega) (by omega) (by omega) (by omega)
          have HST : Hid (bVis es (skS s) u L ⟨far, q⟩ (k + 1) = bStep es (skS s) u ⟨far', q'⟩ f) := by
            show bStep _ _ _ _ _ = _; rw [HV.out, ef, Int.toNat_natCast]
          have hw1 : IntKind.i64.wrap (far' u + 1) = far' u + 1 := IntWalk.i64_in _ (by omega)
          obtain ⟨g3, o3, rfl, I3⟩ := O3.src (by omega)
          obtain ⟨g4, o4, rfl, hg4, hg4', I4⟩ := Qu.src
          have hg3 := (O3.blk g3 rfl)
          have c1 := I3.c k hlt2
          have c2 := I4.c 0 (by omega)
          rw [ef] at c1
          rw [show ia (q'.drop i) 0 = u by rw [← hu']; simp [ia], Nat.add_zero] at c2
          have z3 := I3.blk
          have z4 := I4.blk
          have E := h.below F.bel
          have d1 := E.ca f hf
          have d2 := E.cb f hf
          have zb := E.blk
          have p1 := F.box.c0
          have q1 := F.box.c1
          have z1 := F.box.lt
          have HO := Lib.hid hvv
          have HHA : Hid (∀ W, Calls Try.prog 93 #[.int .u64 s, .int .i64 f] W (Is (.bool (skS s f)) W)) := fun W => has_any s f W hs (by omega) (by omega)
          clear HI hu' huq hur hfu hfu2 hvr hv ef hvv I3 I4 hee
          go_wp2_with fail
          (refine wp_region_quiet_below (by kernel_rfl) (by kernel_rfl) ?_
           repeat (any_goals (go_big_quiet_step (first | (go_at_call 126; exact Ret.rg (HOT.out _)))))
           all_goals (refine wpQuiet_nil ?_; intro wq2 hq2; replace hq2 := below_of_rg hq2))
          have Qu := Qu.below hq2
          have F := F.below hq2
          have O3 := O3.below hq2
          have c2 := (bcell hq2).1 _ _ z4 ▸ c2
          clear E zb p1 q1 z1 z3 z4 c1 d1 d2
          have r1 := F.row.cell hvj
          by_cases hfv : far' v < 0
          · cases hsk : skS s f with
            | true =>
              have HE : Hid (bVis es (skS s) u L ⟨far, q⟩ (k + 1) = ⟨far', q'⟩) := by show _ = _; rw [HST.out, bStep_no (fun hc => by rw [hsk] at hc; cases hc.1)]
              rw [hsk] at HHA
              clear c2
              go_wp2_with (go_at_call 93; refine (HHA.out _).mono ?_; rintro e w' ⟨rfl, rfl⟩)
              go_roundw
              case rel => exact ⟨k + 1, far', q', _, m'', c'', by omega, by go_num, HM, rfl, HE, Qu, F, O3, NE⟩
              case measure => simp [intOf]; omega
            | false =>
              rw [hsk] at HHA
              have HE : Hid (bVis es (skS s) u L ⟨far, q⟩ (k + 1) = ⟨upI far' v (far' u + 1), q' ++ [(v : Int)]⟩) := by show _ = _; rw [HST.out, bStep_yes hsk (by rw [HO.out]; exact hfv), HO.out]
              have r2 := F.row.cell huj
              have f1 := F.row.frozen v
              have F1 := Lib.hid (F.set v (far' u + 1))
              have Qu1 := Qu.setOther (a := ⟨O1, v, none⟩) (blk_ne (fun g hg => (Qu.blk g hg).1) (by omega)) (.int .i64 (far' u + 1))
              have O31 := Lib.hid (O3.setOther (a := ⟨O1, v, none⟩) (blk_ne (fun g hg => (O3.blk g hg).1) (by omega)) (.int .i64 (far' u + 1)))
              have hsq := hq2.size
              clear F O3 Qu hsk
              go_wp2_with (first
                | (go_at_call 93; refine (HHA.out _).mono ?_; rintro e w' ⟨rfl, rfl⟩)
                | (at_builtin; refine wp_appQ1 rfl rfl rfl rfl (by simp) Qu1 (by simp; omega) (by omega) ?_; intro A2 c2' w6 Q2 hg6 hat6))
              have hs6 : (wq2.setCell ⟨O1, v, none⟩ (.int .i64 (far' u + 1))).heap.size = wq2.heap.size := by simp
              have F2 := F1.out.grown hg6 (by simp [blkOf]; omega) (by simp [blkOf]; omega) (fun y hy => by simp [blkOf] at hy; omega)
              have O32 := O31.out.kept hg6 NE
              have NE2 := hat6.apart (AX := some ⟨g3, o3, none⟩) (fun g hg => by simp [blkOf] at hg; omega) NE
              have HM2 : Hid (m'' + 1 + i = (q' ++ [(v : Int)]).length) := by show _ = _; rw [List.length_append, List.length_singleton, ← HM.out]; omega
              have Q3 := Lib.hid (show OwnQ w3.heap.size w6 A2 (m'' + 1) c2' ((q' ++ [(v : Int)]).drop i) by rw [List.drop_append_of_le_length (by omega)]; exact Q2)
              go_roundw
              case rel => exact ⟨k + 1, _, _, A2, m'' + 1, c2', by omega, by go_num, HM2, rfl, HE, Q3.out, F2, O32, NE2⟩
              case measure => simp [intOf]; omega
          · have HE : Hid (bVis es (skS s) u L ⟨far, q⟩ (k + 1) = ⟨far', q'⟩) := by show _ = _; rw [HST.out, bStep_no (fun hc => by have := hc.2; rw [HO.out] at this; exact hfv this)]
            clear c2
            go_wp2_with fail
            go_roundw
            case rel => exact ⟨k + 1, far', q', _, m'', c'', by omega, by go_num, HM, rfl, HE, Qu, F, O3, NE⟩
            case measure => simp [intOf]; omega
        · obtain rfl : k = L.length := by omega
          have HE : Hid (bfs es (skS s) x (i + 1) = ⟨far', q'⟩) := by show _ = _; rw [HNX.out, HV.out]
          obtain ⟨g4, o4, rfl, hg4, hg4', I4⟩ := Qu.src
          obtain ⟨m3, rfl⟩ : ∃ m3, m'' = m3 + 1 := ⟨m'' - 1, by omega⟩
          have hle := Qu.le
          have QT := Lib.hid (show OwnQ w3.heap.size wr (some ⟨g4, if c'' = 1 then o4 else o4 + 1, none⟩) m3 (c'' - 1) (q'.drop (i + 1)) by have := Qu.tail; rwa [List.drop_drop] at this)
          have HG2 : Hid (N - (i + 1) + (i + 1) = N ∧ m3 + (i + 1) = q'.length) := ⟨by omega, by have := HM.out; omega⟩
          have HLT : Hid (N - (i + 1) < gk) := by have := HG.out; show _ < _; omega
          clear HI hu' O3 I4 Qu
          by_cases hc1 : c'' = 1
          · subst hc1
            obtain rfl : m3 = 0 := by omega
            rw [if_pos rfl] at QT
            go_wp2_with fail
            go_roundg (N - (i + 1))
            case measure => exact HLT.out
            case rel => exact ⟨i + 1, far', q', _, 0, _, HG2, rfl, HE, QT.out, F⟩
          · rw [if_neg hc1] at QT
            go_wp2_with fail
            go_roundg (N - (i + 1))
            case measure => exact HLT.out
            case rel => exact ⟨i + 1, far', q', _, m3, c'' - 1, HG2, rfl, HE, QT.out, F⟩
    | zero =>
      have hlt : i = q.length := by have := HG.out; omega
      subst hlt
      have HE := Lib.hid (HAT.out q.length (by rw [HS.out]; exact Nat.lt_irrefl _) (by rw [HS.out]; exact Nat.le_refl _))
      have HF : Hid (∀ v : Int, far v = farF es (skS s) N x v) := fun v => by rw [HE.out, HS.out]
      go_wp2_with fail
      go_ret
      exact ⟨O1, rfl, by omega, F.row.congr (fun v _ => by rw [HF.out]), F.bel⟩
end Go.Proofs.Ytccinfmphkihoaa
