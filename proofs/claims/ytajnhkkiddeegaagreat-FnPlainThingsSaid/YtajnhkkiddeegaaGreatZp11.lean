import Derived.Laws.CopyOwn
import Derived.Deep.LoopGhost
import Derived.Test.YtajnhkkiddeegaaGreatZp10
set_option linter.unusedVariables false
set_option linter.unusedSimpArgs false
namespace Go.Proofs.YtajnhkkiddeegaaGreat
open Go.RowKit Go.Sort
theorem mul64_any (N : Nat) (h : N ≤ 1000) (w : World) : Calls Tryz.prog 154 #[.int .u64 1, .int .u64 N] w (Is (.tuple #[.int .u64 0, .int .u64 N]) w) := by
  have a1 : bits .and .u64 (N : Int) 4294967295 = N := by
    rw [show (4294967295 : Int) = ((4294967295 : Nat) : Int) from rfl, u64_and_nat _ _ (by omega) (by omega), show (4294967295 : Nat) = 2 ^ 32 - 1 from by decide, Nat.and_two_pow_sub_one_eq_mod, Nat.mod_eq_of_lt (by omega)]
  have a0 : bits .and .u64 1 4294967295 = 1 := by kernel_rfl
  have a3 : bits .and .u64 0 4294967295 = 0 := by kernel_rfl
  have a2 : (N : Int) / 4294967296 = 0 := by omega
  go_enter Tryz.func154, Tryz.ntmps154
  go_wp2
  go_ret2
  exact ⟨by simp, rfl⟩
theorem mul_any (N : Nat) (h : N ≤ 1000) (w : World) : Calls Tryz.prog 137 #[.int .u64 1, .int .u64 N] w (Is (.tuple #[.int .u64 0, .int .u64 N]) w) := by
  go_enter Tryz.func137, Tryz.ntmps137
  go_wp2_with (go_at_call 154; refine (mul64_any _ h _).mono ?_; rintro e w' ⟨rfl, rfl⟩)
  go_ret2
  exact ⟨rfl, rfl⟩
def rpL (k : Int) (N r : Nat) : List Value := List.replicate r (.int .i64 k) ++ List.replicate (N - r) (.int .i64 0)
theorem rpL_len (k : Int) {N r : Nat} (h : r ≤ N) : (rpL k N r).length = N := by simp [rpL]; omega
theorem rpL_splice (k : Int) {N r d : Nat} (_h : r + d ≤ N) : splice (rpL k N r) r (List.replicate d (.int .i64 k)) = rpL k N (r + d) := by
  have e1 : (rpL k N r).take r = List.replicate r (.int .i64 k) := by simp [rpL]
  have e2 : (rpL k N r).drop (r + d) = List.replicate (N - (r + d)) (.int .i64 0) := by
    rw [rpL, List.drop_append]
    simp; omega
  unfold splice
  rw [List.length_replicate, e1, e2, ← List.append_assoc, List.replicate_append_replicate]
  rfl
theorem rpL_made (k : Int) (N : Nat) : madeCells #[.int .i64 0] N = (rpL k N 0).toArray := by
  apply Array.ext
  · simp [madeCells, rpL]
  · intro j h1 h2
    simp [madeCells, rpL, Nat.mod_one]
theorem rpL_at (k : Int) {N r j : Nat} (h : j < r) : (rpL k N r)[j]? = some (.int .i64 k) := by
  rw [rpL, List.getElem?_append_left (by simpa using h)]; simp [h]
theorem infsz : (Tryz.prog.info? 2).map (·.size) = some 1 := by kernel_rfl
set_option maxRecDepth 100000 in
set_option maxHeartbeats 1600000 in
theorem repeat_any (N : Nat) (k : Int) (b o c : Nat) (w : World) (h : Ints w b o 1 (fun _ => k)) (h1 : 1 ≤ N) (h2 : N ≤ 1000) :
    Calls Tryz.prog 102 #[.slice (some ⟨b, o, none⟩) 1 c, .int .i64 N] w (RetI N (fun _ => k) w) := by
  have hmk := run_make_row' (P := Tryz.prog) 34 2 (.int .i64 0) 8 Tryz.underlying34 inf2 rfl .i64 .i64 N (by omega) (by omega)
  have c0 := h.c 0 (by omega)
  have zb := h.blk
  have HZ : Hid ((w.alloc (Obj.cells (madeCells #[Value.int IntKind.i64 0] N) 2)).heap[w.heap.size]? = some (.cells (rpL k N 0).toArray 2 (0, 0))) := by
    show _ = _; rw [rpL_made k N]; exact heap_alloc_new w _
  have hsrc : ∀ j v, [Value.int .i64 k][j]? = some v → (w.alloc (Obj.cells (madeCells #[Value.int IntKind.i64 0] N) 2)).cell? ((⟨b, o, none⟩ : Addr).add j) = some v := fun j v hj => by
    match j, hj with
    | 0, hj =>
      simp only [List.getElem?_cons_zero, Option.some.injEq] at hj
      subst hj
      rw [Addr.add_lit, ((Below.refl w.heap.size w).alloc (Nat.le_refl _) _).cell (p := ⟨b, o + 0, none⟩) zb]; exact c0
  have HSRC := Lib.hid hsrc
  clear hsrc
  go_enter Tryz.func102, Tryz.ntmps102
  go_wp2_with (first
    | (go_at_call 137; refine (mul_any N h2 _).mono ?_; rintro e w' ⟨rfl, rfl⟩)
    | (refine wpList_copy_splice (o := ⟨some 33, _, _, _, _, _⟩) rfl (.tmp 31) (.tmp 32) 34 34 rfl 2 Tryz.underlying34 infsz _ _ _ _ _ _ rfl rfl w.heap.size 0 (rpL k N 0) 2 HZ.out [.int .i64 k] (by simp [Nat.min_def]; omega) (fun _ => ⟨rfl, _, rfl, HSRC.out⟩) (by rw [rpL_len k (by omega)]; simp; omega) (by intro v hv; simp at hv; subst hv; rfl) w.heap.size w ((Below.refl _ _).alloc (Nat.le_refl _) _) (Nat.le_refl _) ?_; intro w2 hg2 hb2))
  have hg3 : Hid (w2.heap[w.heap.size]? = some (.cells (rpL k N 1).toArray 2 (0, 0))) := by
    have := hg2.out
    rw [show [Value.int .i64 k] = List.replicate 1 (.int .i64 k) from rfl, rpL_splice k (by omega)] at this
    exact this
  clear hg2 HZ HSRC
  go_loopw [8] (fun rv wr => ∃ r : Nat, 1 ≤ r ∧ r ≤ N ∧ rv = .int .i64 r ∧ Hid (wr.heap[w.heap.size]? = some (.cells (rpL k N r).toArray 2 (0, 0))) ∧ Below w.heap.size w wr) (fun r _ => N - (intOf r).toNat)
  case atStart => exact ⟨1, Nat.le_refl _, h1, rfl, hg3, hb2⟩
  case round =>
    obtain ⟨r, hr1, hr2, rfl, HG, hbr⟩ := hrel
    clear hg3
    by_cases hlt : r < N
    · have z1 : w.heap.size < wr.heap.size := (Array.getElem?_eq_some_iff.1 HG.out).1
      obtain ⟨d, hd⟩ : ∃ d, d = Nat.min r (N - r) := ⟨_, rfl⟩
      have hd1 : 1 ≤ d ∧ r + d ≤ N := by have : Nat.min r (N - r) = min r (N - r) := rfl; omega
      have HD := Lib.hid hd
      have i0 : (0 : Int) ≤ (r : Int) := by omega
      have i1 : (r : Int) ≤ (N : Int) := by omega
      have iw : IntKind.i64.wrap ((r : Int) + (d : Int)) = (r : Int) + (d : Int) := IntWalk.i64_in _ (by omega)
      have HSRC : Hid (∀ j v, (List.replicate d (Value.int .i64 k))[j]? = some v → wr.cell? ((⟨w.heap.size, 0, none⟩ : Addr).add j) = some v) := fun j v hj => by
        have hj2 : j < d := by have := (List.getElem?_eq_some_iff.1 hj).1; simpa using this
        rw [Addr.add_lit, cell_of_row wr _ _ _ _ _ HG.out, Nat.zero_add, List.getElem?_toArray, rpL_at k (by have : Nat.min r (N - r) = min r (N - r) := rfl; omega)]
        simpa [hj2] using hj
      clear hd
      go_wp2_with fail
      go_region_held3 (fun _ => True) (trivial)
        ((refine step_copy_splice (by rfl) (.tmp 41) (.tmp 44) 34 34 (by rfl) 2 Tryz.underlying34 infsz _ _ _ _ _ _ (by rfl) (by rfl) w.heap.size r (rpL k N r) 2 (by exact HG.out) (List.replicate d (.int .i64 k)) (by simp; exact HD.out) (fun _ => ⟨(by first | rfl | rw [if_neg (by omega)]), _, by rfl, by exact HSRC.out⟩) (by rw [rpL_len k (by omega)]; simp; omega) (by intro v hv; simp at hv; rw [hv.2]; rfl) w.heap.size w (by exact hbr.drew) (Nat.le_refl _) ?_; intro w4 hg4 hb4))
      have hg5 : Hid (w4.heap[w.heap.size]? = some (.cells (rpL k N (r + d)).toArray 2 (0, 0))) := by
        have := hg4.out
        rw [rpL_splice k hd1.2] at this
        exact this
      clear hg4
      go_wp2_with fail
      go_roundw
      case rel => exact ⟨r + d, by omega, hd1.2, by go_num, hg5, hb4⟩
      case measure => simp [intOf]; omega
    · obtain rfl : r = N := by omega
      have HR : Hid (wr.rowIs w.heap.size 2 r (fun _ => .int .i64 k)) := ⟨_, HG.out, by simp [rpL], fun j hj => by rw [List.getElem?_toArray]; exact rpL_at k hj⟩
      go_wp2_with fail
      go_ret
      exact ⟨w.heap.size, rfl, Nat.le_refl _, HR.out, hbr⟩
end Go.Proofs.YtajnhkkiddeegaaGreat
namespace Go.Proofs.YtajnhkkiddeegaaGreat
open Go.RowKit Go.Sort
def skS (s : Nat) (e : Nat) : Bool := hasB s (e : Int)
set_option maxRecDepth 100000 in
set_option maxHeartbeats 800000 in
theorem distances_any (n : Int) (b o m c s : Nat) (es : List (Int × Int)) (a : Int) (w : World) (h : Eds w b o m es) (hm : m ≤ 1048576) (hn : WfP n es) (ha : 0 ≤ a) (ha2 : a ≤ n - 1) (hs : s < 18446744073709551616) :
    Calls Tryz.prog 82 #[.agg #[.int .i64 n, .slice (some ⟨b, o, none⟩) m c], .int .i64 a, .int .u64 s] w (RetI n.toNat (fun v => farF es (skS s) n a v) w) := by
  have KC := cell_rg
  have hl := Lib.hid h.len
  have HW := Lib.hid hn
  have hn2 := hn.1
  have hn20 := hn.2.1
  have hnm := hn.2.2.2.1
  have hpar := hn.2.2.1
  have HBI := Lib.hid (fun i => BInv.bfs (sk := skS s) hn ha ha2 i)
  have HAT := Lib.hid (fun i (h1 : ¬ i < (bfs es (skS s) a i).q.length) (h2 : i ≤ (bfs es (skS s) a i).q.length) => farF_at (sk := skS s) hn ha ha2 h1 h2)
  obtain ⟨N, rfl⟩ : ∃ N : Nat, n = N := ⟨n.toNat, by omega⟩
  obtain ⟨x, rfl⟩ : ∃ x : Nat, a = x := ⟨a.toNat, by omega⟩
  rw [Int.toNat_natCast]
  have hm30 : m ≤ 30 := by have := hl.out; omega
  clear hn hnm
  go_enter Tryz.func82, Tryz.ntmps82
  go_wp2_with fail
  obtain ⟨w1, hw1⟩ : ∃ w1, w1 = w.alloc (Obj.cells #[Value.int IntKind.i64 N, Value.slice (some ⟨b, o, none⟩) m c] 26) := ⟨_, rfl⟩
  have X := Box2.made w (.int .i64 N) (.slice (some ⟨b, o, none⟩) m c) 26
  have hs1 : w1.heap.size = w.heap.size + 1 := by rw [hw1]; simp [go_sem]
  have hb1 : Below w.heap.size w w1 := by rw [hw1]; exact (Below.refl _ _).alloc (Nat.le_refl _) _
  rw [← hw1] at X ⊢
  have HS1 := Lib.hid hs1
  clear hw1 hs1
  have hba : Below w1.heap.size w1 (w1.alloc (.cells #[.int .i64 (-1)] 2)) := (Below.refl _ _).alloc (Nat.le_refl _) _
  (with_reducible refine (repeat_any N (-1) (w.heap.size + 1) 0 1 _ (by have := ints1 w1 (-1) 2; rw [HS1.out] at this; exact this) (by omega) (by omega)).mono ?_)
  rintro e w2 ⟨O1, rfl, hO1, R, hb2⟩
  have hs2 : w1.heap.size + 1 ≤ O1 := by simpa using hO1
  have hs1 := HS1.out
  have F1 : FarB w w.heap.size O1 N (.int .i64 N) (.slice (some ⟨b, o, none⟩) m c) (fun _ => -1) w2 := ⟨(hb1.andB hba).andB hb2, (X.below hba).below hb2, R, by omega, by omega⟩
  have F2 := Lib.hid ((F1.set x 0).congr (far' := fun v => if v = (x : Int) then 0 else -1) (fun v _ => by simp only [upI]))
  have hxN : x < N := by omega
  have c1 := F1.row.cell hxN
  have f1 := F1.row.frozen x
  have hOX : w.heap.size < O1 := by omega
  clear F1 R hb2 hba X hb1 hO1 hs2
  go_wp2_with fail
  have F := F2.out
  clear F2 c1 f1
  obtain ⟨w3, hw3⟩ : ∃ w3, w3 = w2.setCell ⟨O1, x, none⟩ (.int .i64 0) := ⟨_, rfl⟩
  have hs3 : w3.heap.size = w2.heap.size := by rw [hw3]; simp
  rw [← hw3] at F ⊢
  clear hw3
  have z2 := F.row.lt
  have Qu : OwnQ w3.heap.size (w3.alloc (.cells #[.int .i64 x] 2)) (some ⟨w2.heap.size, 0, none⟩) 1 1 [(x : Int)] := by
    rw [← hs3]
    exact OwnQ.made _ _ _ (Nat.le_refl _)
  have F := F.below ((Below.refl _ _).alloc (Nat.le_refl _) (.cells #[.int .i64 x] 2))
  go_loopg [8] N (fun gk lv wr => ∃ (i : Nat) (far : Int → Int) (q : List Int) (A : Option Addr) (m' c' : Nat), Hid (gk + i = N ∧ m' + i = q.length) ∧ lv = .slice A m' c' ∧ Hid (bfs es (skS s) x i = ⟨far, q⟩) ∧ OwnQ w3.heap.size wr A m' c' (q.drop i) ∧ FarB w w.heap.size O1 N (.int .i64 N) (.slice (some ⟨b, o, none⟩) m c) far wr)
  case atStart => exact ⟨0, _, _, _, _, _, ⟨rfl, rfl⟩, rfl, rfl, Qu, F⟩
  case round =>
    clear Qu F
    obtain ⟨w4, rfl⟩ : ∃ w4, w4 = wr := ⟨wr, rfl⟩
    obtain ⟨i, far, q, A, m', c', HG, rfl, HS, Qu, F⟩ := hrel
    have hq20 : q.length ≤ N := by have := (HBI.out i).len; rw [HS.out, Int.toNat_natCast] at this; exact this
    have hm20 : m' ≤ 20 := by have := HG.out; omega
    cases m' with
    | succ m1 =>
      have hlt : i < q.length := by have := HG.out; omega
      have HI : BInv N x ⟨far, q⟩ := HS.out ▸ HBI.out i
      have hur := HI.rng _ (iaMem (xs := q) (i := i) hlt)
      obtain ⟨u, hu⟩ : ∃ u : Nat, ia q i = u := ⟨(ia q i).toNat, by omega⟩
      obtain ⟨L, hL⟩ : ∃ L, L = atL es u := ⟨_, rfl⟩
      have HI2 : Hid (∀ k, k ≤ L.length → BInv N x (bVis es (skS s) u L ⟨far, q⟩ k)) := fun k hk => by
        rw [hL] at hk ⊢; exact HI.vis HW.out (hu ▸ iaMem (xs := q) (i := i) hlt) k hk
      have HLk : Hid (∀ k, k < L.length → ∃ f : Nat, f < m ∧ ia L k = f ∧ (ea es f = u ∨ eb es f = u)) := fun k hk => by
        rw [hL] at hk ⊢; obtain ⟨f, hf, e⟩ := atL_at hk; exact ⟨f, by rw [hl.out] at hf; exact hf, e⟩
      have HNX : Hid (bfs es (skS s) x (i + 1) = bVis es (skS s) u L ⟨far, q⟩ L.length) := by
        show _ = _
        rw [bfs_succ (by rw [HS.out]; exact hlt), HS.out, hL]; show bNext _ _ _ _ = _; unfold bNext; rw [hu]
      have HLl : Hid (L.length ≤ m) := by show _ ≤ _; rw [hL]; have := atTo_len es u es.length; rw [hl.out] at this; exact hl.out ▸ this
      have HRL : Hid (∀ W, Eds W b o m es → Calls Tryz.prog 103 #[.agg #[.int .i64 N, .slice (some ⟨b, o, none⟩) m c], .int .i64 u] W (RetL L W)) := fun W hE => by rw [hL]; exact at_any N b o m c es u W hE hm
      obtain ⟨g2, o2, rfl, hg2, hg2', I⟩ := Qu.src
      have c1 := I.c 0 (by omega)
      have hu0 : ia (q.drop i) 0 = u := by rw [← hu]; simp [ia]
      rw [hu0, Nat.add_zero] at c1
      have p1 := F.box.c0
      have q1 := F.box.c1
      have z1 := F.box.lt
      have HUQ := Lib.hid hu
      have hlen := Qu.le
      clear hL HI I hur hu0 hu
      go_wp2_with fail
      go_region_held3 (fun W => W.cell? ⟨w.heap.size, 0, none⟩ = some (.int .i64 N) ∧ W.cell? ⟨w.heap.size, 1, none⟩ = some (.slice (some ⟨b, o, none⟩) m c) ∧ W.cell? ⟨g2, o2, none⟩ = some (.int .i64 u)) (first | go_keep | (rw [(bcell hb5).1 _ _ z1, (bcell hb5).1 _ _ z1, (bcell hb5).1 _ _ hg2']; exact ⟨p1, q1, c1⟩))
        ((go_at_call 103; refine (HRL.out _ (h.below F.bel.drew)).mono ?_; rintro e w5 ⟨A3, c3, rfl, O3, hb5⟩))
      have hb : Below w4.heap.size w4 w5 := ((Below.refl _ _).drew).andB hb5
      have Qu := Qu.below hb
      have F := F.below hb
      have hz5 : w4.heap.size ≤ w5.heap.size := hb.size
      have O3 : OwnL w4.heap.size w5 A3 L.length c3 L := O3
      have NE : blkOf A3 = none ∨ blkOf A3 ≠ blkOf (some (⟨g2, o2, none⟩ : Addr)) := blk_apart' (s := w4.heap.size) (fun g hg => (O3.blk g hg).1) (fun g hg => by simp [blkOf] at hg; omega)
      have hw4 : O1 < w4.heap.size := by omega
      have hXO : w.heap.size < w4.heap.size := by omega
      clear c1 p1 q1 z1 hb hb5 hz5
      go_wp2_with fail
      go_loopw [8, 32] (fun lv kv wv => ∃ (k : Nat) (far' : Int → Int) (q' : List Int) (A' : Option Addr) (m'' c'' : Nat), k ≤ L.length ∧ kv = .int .i64 k ∧ Hid (m'' + i = q'.length) ∧ lv = .slice A' m'' c'' ∧ Hid (bVis es (skS s) u L ⟨far, q⟩ k = ⟨far', q'⟩) ∧ OwnQ w3.heap.size wv A' m'' c'' (q'.drop i) ∧ FarB w w.heap.size O1 N (.int .i64 N) (.slice (some ⟨b, o, none⟩) m c) far' wv ∧ OwnL w4.heap.size wv A3 L.length c3 L ∧ (blkOf A3 = none ∨ blkOf A3 ≠ blkOf A')) (fun _ k _ => L.length - (intOf k).toNat)
      case atStart => exact ⟨0, _, _, _, _, _, Nat.zero_le _, rfl, HG.out.2, rfl, rfl, Qu, F, O3, NE⟩
      case round =>
        clear Qu F O3 NE
        obtain ⟨k, far', q', A', m'', c'', hk, rfl, HM, rfl, HV, Qu, F, O3, NE⟩ := hrel
        have hsz := F.bel.size
        have hLm := HLl.out
        obtain ⟨ys, hys⟩ := bVis_q (es := es) (sk := skS s) (u := (u : Int)) (L := L) (s := ⟨far, q⟩) k
        rw [HV.out] at hys
        have hq'l : i < q'.length := by rw [show q' = q ++ ys from hys]; simp; omega
        have hu' : ia q' i = u := by rw [show q' = q ++ ys from hys, ia_app hlt, HUQ.out]
        have hm1 : 1 ≤ m'' := by have := HM.out; omega
        have HI : BInv N x ⟨far', q'⟩ := HV.out ▸ HI2.out k hk
        have hql : q'.length ≤ N := by have := HI.len; rw [Int.toNat_natCast] at this; exact this
        have hm20 : m'' ≤ 20 := by have := HM.out; omega
        clear hys
        by_cases hlt2 : k < L.length
        · obtain ⟨f, hf, ef, hv⟩ := HLk.out k hlt2
          have huq : (u : Int) ∈ q' := hu' ▸ iaMem (xs := q') (i := i) hq'l
          have hur := HI.rng _ huq
          have hfu : 0 ≤ far' u := (HI.mem u).2 huq
          have hfu2 : far' u < q'.length := HI.hi u
          have hvr := oth_in HW.out (by rw [hl.out]; exact hf) hv
          have hee := HW.out.2.2.2.2 f (by rw [hl.out]; exact hf)
          obtain ⟨v, hvv⟩ : ∃ v : Nat, oth es f u = v := ⟨(oth es f u).toNat, by omega⟩
          have hvj : v < N := by omega
          have huj : u < N := by omega
          have HOT : Hid (∀ W, Calls Tryz.prog 126 #[.agg #[.int .i64 (ea es f), .int .i64 (eb es f)], .int .i64 u] W (Ret (.int .i64 v) W)) := fun W => by
            rw [← hvv]; exact other_any (ea es f) (eb es f) u W (by omega) (by omega) (by omega) (by omega) (by omega) (by omega)
          have HST : Hid (bVis es (skS s) u L ⟨far, q⟩ (k + 1) = bStep es (skS s) u ⟨far', q'⟩ f) := by
            show bStep _ _ _ _ _ = _; rw [HV.out, ef, Int.toNat_natCast]
          have hw1 : IntKind.i64.wrap (far' u + 1) = far' u + 1 := IntWalk.i64_in _ (by omega)
          obtain ⟨g3, o3, rfl, I3⟩ := O3.src (by omega)
          obtain ⟨g4, o4, rfl, hg4, hg4', I4⟩ := Qu.src
          have hg3 := (O3.blk g3 rfl)
          have c1 := I3.c k hlt2
          have c2 := I4.c 0 (by omega)
          rw [ef] at c1
          rw [show ia (q'.drop i) 0 = u by rw [← hu']; simp [ia], Nat.add_zero] at c2
          have z3 := I3.blk
          have z4 := I4.blk
          have E := h.below F.bel
          have d1 := E.ca f hf
          have d2 := E.cb f hf
          have zb := E.blk
          have p1 := F.box.c0
          have q1 := F.box.c1
          have z1 := F.box.lt
          have HO := Lib.hid hvv
          have HHA : Hid (∀ W, Calls Tryz.prog 105 #[.int .u64 s, .int .i64 f] W (Is (.bool (skS s f)) W)) := fun W => has_any s f W hs (by omega) (by omega)
          clear HI hu' huq hur hfu hfu2 hvr hv ef hvv I3 I4 hee
          go_wp2_with fail
          (refine wp_region_quiet_below (by kernel_rfl) (by kernel_rfl) ?_
           repeat (any_goals (go_big_quiet_step (first | (go_at_call 126; exact Ret.rg (HOT.out _)))))
           all_goals (refine wpQuiet_nil ?_; intro wq2 hq2; replace hq2 := below_of_rg hq2))
          have Qu := Qu.below hq2
          have F := F.below hq2
          have O3 := O3.below hq2
          have c2 := (bcell hq2).1 _ _ z4 ▸ c2
          clear E zb p1 q1 z1 z3 z4 c1 d1 d2
          have r1 := F.row.cell hvj
          by_cases hfv : far' v < 0
          · cases hsk : skS s f with
            | true =>
              have HE : Hid (bVis es (skS s) u L ⟨far, q⟩ (k + 1) = ⟨far', q'⟩) := by show _ = _; rw [HST.out, bStep_no (fun hc => by rw [hsk] at hc; cases hc.1)]
              rw [hsk] at HHA
              clear c2
              go_wp2_with (go_at_call 105; refine (HHA.out _).mono ?_; rintro e w' ⟨rfl, rfl⟩)
              go_roundw
              case rel => exact ⟨k + 1, far', q', _, m'', c'', by omega, by go_num, HM, rfl, HE, Qu, F, O3, NE⟩
              case measure => simp [intOf]; omega
            | false =>
              rw [hsk] at HHA
              have HE : Hid (bVis es (skS s) u L ⟨far, q⟩ (k + 1) = ⟨upI far' v (far' u + 1), q' ++ [(v : Int)]⟩) := by show _ = _; rw [HST.out, bStep_yes hsk (by rw [HO.out]; exact hfv), HO.out]
              have r2 := F.row.cell huj
              have f1 := F.row.frozen v
              have F1 := Lib.hid (F.set v (far' u + 1))
              have Qu1 := Qu.setOther (a := ⟨O1, v, none⟩) (blk_ne (fun g hg => (Qu.blk g hg).1) (by omega)) (.int .i64 (far' u + 1))
              have O31 := Lib.hid (O3.setOther (a := ⟨O1, v, none⟩) (blk_ne (fun g hg => (O3.blk g hg).1) (by omega)) (.int .i64 (far' u + 1)))
              have hsq := hq2.size
              clear F O3 Qu hsk
              go_wp2_with (first
                | (go_at_call 105; refine (HHA.out _).mono ?_; rintro e w' ⟨rfl, rfl⟩)
                | (at_builtin; refine wp_appQ1 rfl rfl rfl rfl (by simp) Qu1 (by simp; omega) (by omega) ?_; intro A2 c2' w6 Q2 hg6 hat6))
              have hs6 : (wq2.setCell ⟨O1, v, none⟩ (.int .i64 (far' u + 1))).heap.size = wq2.heap.size := by simp
              have F2 := F1.out.grown hg6 (by simp [blkOf]; omega) (by simp [blkOf]; omega) (fun y hy => by simp [blkOf] at hy; omega)
              have O32 := O31.out.kept hg6 NE
              have NE2 := hat6.apart (AX := some ⟨g3, o3, none⟩) (fun g hg => by simp [blkOf] at hg; omega) NE
              have HM2 : Hid (m'' + 1 + i = (q' ++ [(v : Int)]).length) := by show _ = _; rw [List.length_append, List.length_singleton, ← HM.out]; omega
              have Q3 := Lib.hid (show OwnQ w3.heap.size w6 A2 (m'' + 1) c2' ((q' ++ [(v : Int)]).drop i) by rw [List.drop_append_of_le_length (by omega)]; exact Q2)
              go_roundw
              case rel => exact ⟨k + 1, _, _, A2, m'' + 1, c2', by omega, by go_num, HM2, rfl, HE, Q3.out, F2, O32, NE2⟩
              case measure => simp [intOf]; omega
          · have HE : Hid (bVis es (skS s) u L ⟨far, q⟩ (k + 1) = ⟨far', q'⟩) := by show _ = _; rw [HST.out, bStep_no (fun hc => by have := hc.2; rw [HO.out] at this; exact hfv this)]
            clear c2
            go_wp2_with fail
            go_roundw
            case rel => exact ⟨k + 1, far', q', _, m'', c'', by omega, by go_num, HM, rfl, HE, Qu, F, O3, NE⟩
            case measure => simp [intOf]; omega
        · obtain rfl : k = L.length := by omega
          have HE : Hid (bfs es (skS s) x (i + 1) = ⟨far', q'⟩) := by show _ = _; rw [HNX.out, HV.out]
          obtain ⟨g4, o4, rfl, hg4, hg4', I4⟩ := Qu.src
          obtain ⟨m3, rfl⟩ : ∃ m3, m'' = m3 + 1 := ⟨m'' - 1, by omega⟩
          have hle := Qu.le
          have QT := Lib.hid (show OwnQ w3.heap.size wr (some ⟨g4, if c'' = 1 then o4 else o4 + 1, none⟩) m3 (c'' - 1) (q'.drop (i + 1)) by have := Qu.tail; rwa [List.drop_drop] at this)
          have HG2 : Hid (N - (i + 1) + (i + 1) = N ∧ m3 + (i + 1) = q'.length) := ⟨by omega, by have := HM.out; omega⟩
          have HLT : Hid (N - (i + 1) < gk) := by have := HG.out; show _ < _; omega
          clear HI hu' O3 I4 Qu
          by_cases hc1 : c'' = 1
          · subst hc1
            obtain rfl : m3 = 0 := by omega
            rw [if_pos rfl] at QT
            go_wp2_with fail
            go_roundg (N - (i + 1))
            case measure => exact HLT.out
            case rel => exact ⟨i + 1, far', q', _, 0, _, HG2, rfl, HE, QT.out, F⟩
          · rw [if_neg hc1] at QT
            go_wp2_with fail
            go_roundg (N - (i + 1))
            case measure => exact HLT.out
            case rel => exact ⟨i + 1, far', q', _, m3, c'' - 1, HG2, rfl, HE, QT.out, F⟩
    | zero =>
      have hlt : i = q.length := by have := HG.out; omega
      subst hlt
      have HE := Lib.hid (HAT.out q.length (by rw [HS.out]; exact Nat.lt_irrefl _) (by rw [HS.out]; exact Nat.le_refl _))
      have HF : Hid (∀ v : Int, far v = farF es (skS s) N x v) := fun v => by rw [HE.out, HS.out]
      go_wp2_with fail
      go_ret
      exact ⟨O1, rfl, by omega, F.row.congr (fun v _ => by rw [HF.out]), F.bel⟩
end Go.Proofs.YtajnhkkiddeegaaGreat
namespace Go.Proofs.YtajnhkkiddeegaaGreat
open Go.RowKit Go.Sort
theorem cmTo_yes {es : List (Int × Int)} {sk : Nat → Bool} {v : Int} {k : Nat} (h : Rch es sk v k) : cmTo es sk v (k + 1) = cmTo es sk v k ++ [(k : Int)] := by simp only [cmTo]; rw [if_pos (B_true h)]
theorem cmTo_no {es : List (Int × Int)} {sk : Nat → Bool} {v : Int} {k : Nat} (h : ¬ Rch es sk v k) : cmTo es sk v (k + 1) = cmTo es sk v k := by simp only [cmTo]; rw [if_neg (by rw [B_false h]; decide), List.append_nil]
theorem sdTo_yes {es : List (Int × Int)} {sk : Nat → Bool} {N k : Nat} (h : leadF es sk k = k) : sdTo es sk N (k + 1) = sdTo es sk N k ++ [cmTo es sk k N] := by simp only [sdTo]; rw [if_pos h]
theorem sdTo_no {es : List (Int × Int)} {sk : Nat → Bool} {N k : Nat} (h : ¬ leadF es sk k = k) : sdTo es sk N (k + 1) = sdTo es sk N k := by simp only [sdTo]; rw [if_neg h, List.append_nil]
theorem hasB_or (s u x : Nat) : hasB (s ||| 2 ^ u) (x : Int) = if x = u then true else hasB s (x : Int) := by
  simp only [hasB, Nat.testBit_or, Nat.testBit_two_pow, Int.toNat_natCast]
  by_cases h : x = u
  · simp [h]
  · rw [if_neg h, decide_eq_false (fun e => h e.symm), Bool.or_false]
/-- Which vertices are seen when so many have been asked. -/
def SeenP (es : List (Int × Int)) (sk : Nat → Bool) (N v s : Nat) : Prop := s < 18446744073709551616 ∧ ∀ u : Nat, u < N → (hasB s (u : Int) = true ↔ leadF es sk u < v)
def SeenI (es : List (Int × Int)) (sk : Nat → Bool) (N v k s : Nat) : Prop := s < 18446744073709551616 ∧ ∀ u : Nat, u < N → (hasB s (u : Int) = true ↔ (leadF es sk u < v ∨ (u < k ∧ Rch es sk v u)))
theorem SeenP.at {es : List (Int × Int)} {sk : Nat → Bool} {N v s : Nat} (h : SeenP es sk N v s) (hv : v < N) : hasB s (v : Int) = true ↔ ¬ leadF es sk v = v := by
  rw [h.2 v hv]
  have := leadF_le (es := es) (sk := sk) (v := v) (by omega)
  omega
theorem SeenP.skip {es : List (Int × Int)} {sk : Nat → Bool} {N v s : Nat} (h : SeenP es sk N v s) (hl : ¬ leadF es sk v = v) : SeenP es sk N (v + 1) s := by
  refine ⟨h.1, fun u hu => (h.2 u hu).trans ⟨fun h => by omega, fun hlt => ?_⟩⟩
  have hne : leadF es sk u ≠ v := fun e => hl (by
    have := leadF_lead (es := es) (sk := sk) (v := u) (by omega)
    rwa [e] at this)
  omega
theorem SeenI.done {es : List (Int × Int)} {sk : Nat → Bool} {N v s : Nat} (h : SeenI es sk N v N s) (hl : leadF es sk v = v) : SeenP es sk N (v + 1) s := by
  refine ⟨h.1, fun u hu => (h.2 u hu).trans ?_⟩
  have hli := lead_is (es := es) (sk := sk) (v := v) (w := u) hl
  constructor
  · rintro (h1 | ⟨_, h1⟩)
    · omega
    · have := hli.2 h1; omega
  · intro h1
    by_cases e : leadF es sk u = v
    · exact .inr ⟨hu, hli.1 e⟩
    · left; omega
theorem SeenI.no {es : List (Int × Int)} {sk : Nat → Bool} {N v k s : Nat} (h : SeenI es sk N v k s) (hr : ¬ Rch es sk v k) : SeenI es sk N v (k + 1) s := by
  refine ⟨h.1, fun u hu => (h.2 u hu).trans ?_⟩
  constructor
  · rintro (h1 | ⟨h1, h2⟩)
    · exact .inl h1
    · exact .inr ⟨by omega, h2⟩
  · rintro (h1 | ⟨h1, h2⟩)
    · exact .inl h1
    · by_cases e : u = k
      · subst e; exact absurd h2 hr
      · exact .inr ⟨by omega, h2⟩
theorem SeenI.yes {es : List (Int × Int)} {sk : Nat → Bool} {N v k s : Nat} (h : SeenI es sk N v k s) (hk : k ≤ 63) (hr : Rch es sk v k) : SeenI es sk N v (k + 1) (s ||| 2 ^ k) := by
  refine ⟨Nat.or_lt_two_pow (n := 64) h.1 (pow64 hk), fun u hu => ?_⟩
  rw [hasB_or]
  by_cases e : u = k
  · subst e; rw [if_pos rfl]; exact ⟨fun _ => .inr ⟨by omega, hr⟩, fun _ => rfl⟩
  · rw [if_neg e, h.2 u hu]
    constructor
    · rintro (h1 | ⟨h1, h2⟩)
      · exact .inl h1
      · exact .inr ⟨by omega, h2⟩
    · rintro (h1 | ⟨h1, h2⟩)
      · exact .inl h1
      · exact .inr ⟨by omega, h2⟩
set_option maxRecDepth 100000 in
set_option maxHeartbeats 1600000 in
theorem sides_any (n : Int) (b o m c s : Nat) (es : List (Int × Int)) (w : World) (h : Eds w b o m es) (hm : m ≤ 1048576) (hn : WfP n es) (hs : s < 18446744073709551616) :
    Calls Tryz.prog 83 #[.agg #[.int .i64 n, .slice (some ⟨b, o, none⟩) m c], .int .u64 s] w (RetLL (sdTo es (skS s) n.toNat n.toNat) w) := by
  have hl := Lib.hid h.len
  have HW := Lib.hid hn
  have hn2 := hn.1
  have hn20 := hn.2.1
  have HD := Lib.hid (fun (v : Nat) (hv : (v : Int) ≤ n - 1) W hE => distances_any n b o m c s es v W hE hm hn (by omega) hv hs)
  have HFI := Lib.hid (fun (v : Nat) (hv : (v : Int) ≤ n - 1) u => farF_iff (sk := skS s) hn (a := v) (by omega) hv u)
  obtain ⟨N, rfl⟩ : ∃ N : Nat, n = N := ⟨n.toNat, by omega⟩
  rw [Int.toNat_natCast] at HD ⊢
  clear hn
  go_enter Tryz.func83, Tryz.ntmps83
  go_wp2_with fail
  have hbb := (by go_grown : Below w.heap.size w (w.alloc (.cells #[.int .i64 N, .slice (some ⟨b, o, none⟩) m c] 26)))
  have hbx := Box2.made w (.int .i64 N) (.slice (some ⟨b, o, none⟩) m c) 26
  obtain ⟨w1, hw1⟩ : ∃ w1, w1 = w.alloc (Obj.cells #[Value.int IntKind.i64 N, Value.slice (some ⟨b, o, none⟩) m c] 26) := ⟨_, rfl⟩
  rw [← hw1] at hbb hbx ⊢
  clear hw1
  have O0 := OwnLL.nil w1.heap.size w1
  have hX := hbx.lt
  go_loopw [5, 6, 13] (fun lv sv iv wr => ∃ (v s' : Nat) (A : Option Addr) (c' : Nat), v ≤ N ∧ iv = .int .i64 v ∧ sv = .int .u64 s' ∧ lv = .slice A (sdTo es (skS s) N v).length c' ∧ Hid (SeenP es (skS s) N v s') ∧ OwnLL w1.heap.size wr.heap.size wr A (sdTo es (skS s) N v).length c' (sdTo es (skS s) N v) ∧ Below w1.heap.size w1 wr) (fun _ _ i _ => N - (intOf i).toNat)
  case atStart => exact ⟨0, 0, _, _, Nat.zero_le _, rfl, rfl, rfl, ⟨by omega, fun u _ => by have := leadF_nonneg es (skS s) u; simp [hasB]; omega⟩, O0, Below.refl _ _⟩
  case round =>
    clear O0
    obtain ⟨v, s', A, c', hv, rfl, rfl, rfl, HS, O, hb1⟩ := hrel
    have X := hbx.below hb1
    have hbr := hbb.andB hb1
    have hln : (sdTo es (skS s) N v).length ≤ v := by rw [sdTo_len]; exact ldCnt_le es (skS s) v
    have hO := O.2.1
    have hbase : w1.heap.size ≤ wr.heap.size := hb1.size
    by_cases hlt : v < N
    · have HA := Lib.hid (HS.out.at hlt)
      have hHA : ∀ W, Calls Tryz.prog 105 #[.int .u64 s', .int .i64 v] W (Is (.bool (hasB s' v)) W) := fun W => has_any s' v W HS.out.1 (by omega) (by omega)
      cases hh : hasB s' (v : Int) with
      | true =>
        have e := sdTo_no (N := N) (HA.out.1 hh)
        have HE := Lib.hid e
        rw [hh] at hHA
        have HH := Lib.hid hHA
        have HS2 := Lib.hid (HS.out.skip (HA.out.1 hh))
        clear hHA hh e
        go_wp2_with (go_at_call 105; refine (HH.out _).mono ?_; rintro e w' ⟨rfl, rfl⟩)
        go_roundw
        case rel => exact ⟨v + 1, s', A, c', by omega, by go_num, rfl, by rw [HE.out], HS2.out, by rw [HE.out]; exact O, hb1⟩
        case measure => simp [intOf]; omega
      | false =>
        have hlead : leadF es (skS s) v = v := by
          refine Classical.byContradiction fun hc => ?_
          have := HA.out.2 hc
          rw [hh] at this; cases this
        have HLD := Lib.hid hlead
        have HE := Lib.hid (sdTo_yes (N := N) hlead)
        rw [hh] at hHA
        have HH := Lib.hid hHA
        obtain ⟨s1, p1, q1⟩ := X
        have E := h.below hbr
        clear hHA hh hlead
        go_wp2_with (first
          | (go_at_call 105; refine (HH.out _).mono ?_; rintro e w' ⟨rfl, rfl⟩)
          | (go_at_call 82; refine (HD.out v (by omega) _ E).mono ?_; rintro e w2 ⟨g2, rfl, hg2, R, hb2⟩))
        have O := O.below hb2
        have hb3 := hb1.andB hb2
        have hz2 := hb2.size
        clear hb2 s1 p1 q1 E
        obtain ⟨w4, rfl⟩ : ∃ w4, w4 = wr := ⟨wr, rfl⟩
        go_loopw [6, 8, 24] (fun sv lv kv wv => ∃ (k s2 : Nat) (A2 : Option Addr) (c2 : Nat), k ≤ N ∧ kv = .int .i64 k ∧ sv = .int .u64 s2 ∧ lv = .slice A2 (cmTo es (skS s) v k).length c2 ∧ Hid (SeenI es (skS s) N v k s2) ∧ OwnL w2.heap.size wv A2 (cmTo es (skS s) v k).length c2 (cmTo es (skS s) v k) ∧ Below w2.heap.size w2 wv) (fun _ _ k _ => N - (intOf k).toNat)
        case atStart => exact ⟨0, s', _, _, Nat.zero_le _, rfl, rfl, rfl, ⟨HS.out.1, fun u hu => (HS.out.2 u hu).trans ⟨.inl, fun h => h.elim id (fun h => absurd h.1 (by omega))⟩⟩, OwnL.nil _ _, Below.refl _ _⟩
        case round =>
          obtain ⟨k, s2, A2, c2, hk, rfl, rfl, rfl, HI, ho, hbk⟩ := hrel
          have hcl := cmTo_len es (skS s) v k
          have hsz := hbk.size
          by_cases hlt2 : k < N
          · have r1 := (R.of_block (hbk.block _ R.lt)).cell hlt2
            have HF := Lib.hid (HFI.out v (by omega) k)
            by_cases hf : 0 ≤ farF es (skS s) N v k
            · have e := cmTo_yes (HF.out.1 hf)
              have e2 : (cmTo es (skS s) v (k + 1)).length = (cmTo es (skS s) v k).length + 1 := by rw [e]; simp
              have HE1 := Lib.hid e
              have HE2 := Lib.hid e2
              have HI2 := HI.out.yes (k := k) (by omega) (HF.out.1 hf)
              have hX := wrap_pow (x := k) (by omega)
              have hX2 := pow64 (x := k) (by omega)
              obtain ⟨pc, hpc⟩ : ∃ pc : Nat, pc = 2 ^ k := ⟨_, rfl⟩
              rw [← hpc] at hX hX2 HI2
              have hor := u64_or_nat s2 pc HI.out.1 hX2
              have HI3 := Lib.hid HI2
              clear hpc hX2 HI2 e e2
              go_wp2_with (first
                | (at_builtin; refine wp_appL1 rfl rfl rfl rfl rfl ho (by omega) (by omega) ?_; intro A3 c3 w5 ho3 hg5 hat5))
              have hb5 := hbk.grown hg5 hsz (fun y hy => (ho.blk y hy).1)
              go_roundw
              case rel => exact ⟨k + 1, _, A3, c3, by omega, by go_num, rfl, by rw [HE2.out], HI3.out, by rw [HE2.out, HE1.out]; exact ho3, hb5⟩
              case measure => simp [intOf]; omega
            · have HE1 := Lib.hid (cmTo_no (fun x => hf (HF.out.2 x)))
              have HI3 := Lib.hid (HI.out.no (fun x => hf (HF.out.2 x)))
              go_wp2_with fail
              go_roundw
              case rel => exact ⟨k + 1, _, A2, c2, by omega, by go_num, rfl, by rw [HE1.out], HI3.out, by rw [HE1.out]; exact ho, hbk⟩
              case measure => simp [intOf]; omega
          · obtain rfl : k = N := by omega
            have HS3 := Lib.hid (HI.out.done HLD.out)
            have O := O.below hbk
            have hb4 := hb3.andB hbk
            have e2 : (sdTo es (skS s) k (v + 1)).length = (sdTo es (skS s) k v).length + 1 := by rw [HE.out]; simp
            have HE2 := Lib.hid e2
            have ho' := ho.mono (show w1.heap.size ≤ w2.heap.size by omega)
            have hnew : ∀ g, blkOf A2 = some g → w4.heap.size ≤ g := fun g hg => by have := (ho.blk g hg).1; omega
            clear e2 ho R
            go_wp2_with (first
              | (at_builtin; refine wp_appR1 rfl rfl rfl rfl rfl rfl O ho' hnew (by omega) (by omega) ?_; intro A3 c3 w5 O5 hg5 _))
            have hb5 := hb4.grown hg5 hb4.size (fun y hy => (O.blk y hy).1)
            go_roundw
            case rel => exact ⟨v + 1, _, A3, c3, by omega, by go_num, rfl, by rw [HE2.out], HS3.out, by rw [HE2.out, HE.out]; exact O5, hb5⟩
            case measure => simp [intOf]; omega
    · obtain rfl : v = N := by omega
      go_wp2_with fail
      go_ret
      exact ⟨A, c', rfl, O.mono (by omega), hbr⟩
end Go.Proofs.YtajnhkkiddeegaaGreat
namespace Go.Proofs.YtajnhkkiddeegaaGreat
open Go.RowKit Go.Sort
def lsF (f : Int → Int) (N : Nat) : List Int := (List.range N).map fun v : Nat => f v
theorem lsF_len (f : Int → Int) (N : Nat) : (lsF f N).length = N := by simp [lsF]
theorem lsF_at (f : Int → Int) {N j : Nat} (h : j < N) : ia (lsF f N) j = f j := by simp [ia, lsF, h]
theorem lsF_succ (f : Int → Int) (N : Nat) : lsF f (N + 1) = lsF f N ++ [f N] := by simp [lsF, List.range_succ]
theorem lsF_set (f : Int → Int) (N k : Nat) (x : Int) : (lsF f N).set k x = lsF (upI f k x) N := by
  apply List.ext_getElem
  · simp [lsF]
  · intro j h1 h2
    simp only [lsF, List.getElem_set, List.getElem_map, List.getElem_range, upI]
    by_cases e : k = j
    · subst e; simp
    · rw [if_neg e, if_neg (by omega)]
theorem lsF_congr {f g : Int → Int} {N : Nat} (h : ∀ v : Nat, v < N → f v = g v) : lsF f N = lsF g N := by
  apply List.ext_getElem
  · simp [lsF]
  · intro j h1 h2
    simp only [lsF, List.getElem_map, List.getElem_range]
    exact h j (by simpa [lsF] using h1)
theorem OwnL.store {base : Nat} {w : World} {g m c : Nat} {xs : List Int} (h : OwnL base w (some ⟨g, 0, none⟩) m c xs) (k : Nat) (x : Int) : OwnL base (w.setCell ⟨g, k, none⟩ (.int .i64 x)) (some ⟨g, 0, none⟩) m c (xs.set k x) :=
  ⟨by simp [h.1], by have := (h.2.stored k (.int .i64 x)).1; simpa [nums, List.map_set] using this⟩
theorem OwnL.cell {base : Nat} {w : World} {g m c : Nat} {xs : List Int} (h : OwnL base w (some ⟨g, 0, none⟩) m c xs) {j : Nat} (hj : j < m) : w.cell? ⟨g, j, none⟩ = some (.int .i64 (ia xs j)) := by
  rw [h.2.cellAt j (by omega)]; exact nums_at xs j (by rw [h.1]; exact hj)
set_option maxRecDepth 100000 in
set_option maxHeartbeats 3200000 in
theorem leaders_any (N b o m c : Nat) (es : List (Int × Int)) (w : World) (h : Eds w b o m es) (hm : m ≤ 1048576) (hR : InR N es) (hN : N ≤ 20) (hN1 : 1 ≤ N) :
    Calls Tryz.prog 99 #[.int .i64 N, .slice (some ⟨b, o, none⟩) m c] w (RetL (lsF (leadF es noSk) N) w) := by
  have KC := cell_rg
  have hl := Lib.hid h.len
  have HR := Lib.hid hR
  clear hR
  go_enter Tryz.func99, Tryz.ntmps99
  go_wp2_with fail
  have O : OwnL w.heap.size (w.alloc (.cells #[] 2)) (some ⟨w.heap.size, 0, none⟩) 0 0 [] := OwnL.empty _ _ _ (Nat.le_refl _) (heap_alloc_new w _)
  go_loopw [5, 6] (fun lv iv wr => ∃ (j : Nat) (A : Option Addr) (c' : Nat), j ≤ N ∧ iv = .int .i64 j ∧ lv = .slice A j c' ∧ OwnL w.heap.size wr A j c' (lsF (fun v => v) j) ∧ Below w.heap.size w wr) (fun _ i _ => N - (intOf i).toNat)
  case atStart => exact ⟨0, _, _, Nat.zero_le _, rfl, rfl, O, (Below.refl _ _).alloc (Nat.le_refl _) _⟩
  case round =>
    obtain ⟨j, A, c', hj, rfl, rfl, ho, hbr⟩ := hrel
    clear O
    have hsz := hbr.size
    by_cases hlt : j < N
    · go_wp2_with (first
        | (at_builtin; refine wp_appL1 rfl rfl rfl rfl rfl ho (by omega) (by omega) ?_; intro A2 c2 w2 ho2 hg2 hat2))
      have hb2 := Lib.hid (hbr.grown hg2 hsz (fun k hk => (ho.blk k hk).1))
      have ho3 := Lib.hid (show OwnL w.heap.size w2 A2 (j + 1) c2 (lsF (fun v => v) (j + 1)) by rw [lsF_succ]; exact ho2)
      go_roundw
      case rel => exact ⟨j + 1, A2, c2, by omega, by go_num, rfl, ho3.out, hb2.out⟩
      case measure => simp [intOf]; omega
    · obtain rfl : j = N := by omega
      obtain ⟨g, rfl, hbg, hlg⟩ : ∃ g, A = some ⟨g, 0, none⟩ ∧ w.heap.size ≤ g ∧ g < wr.heap.size := by
        rcases ho.cases with ⟨_, h0, _⟩ | h0
        · omega
        · exact h0
      go_wp2_with fail
      obtain ⟨w4, rfl⟩ : ∃ w4, w4 = wr := ⟨wr, rfl⟩
      go_loopg [7] (2 * ldSum (fun v => v) j + 1) (fun gk mv wr => ∃ (f : Int → Int) (mo : Bool), Hid (gk = 2 * ldSum f j + (if mo then 1 else 0)) ∧ mv = .bool mo ∧ Hid (LdI j es f) ∧ Hid (mo = false → ∀ i, i < m → f (ea es i) = f (eb es i)) ∧ OwnL w.heap.size wr (some ⟨g, 0, none⟩) j c' (lsF f j) ∧ Below w.heap.size w wr)
      case atStart => exact ⟨_, true, rfl, rfl, LdI.start _ _, (fun h => by cases h), ho, hbr⟩
      case round =>
        clear ho hbr
        obtain ⟨f, mo, HG, rfl, HI, HQ, ho, hbr⟩ := hrel
        cases mo with
        | false =>
          have HF := Lib.hid (lsF_congr (N := j) (fun v hv => ld_end HI.out HR.out (fun i hi => HQ.out rfl i (by rw [hl.out] at hi; exact hi)) v (by omega) (by omega)))
          go_wp2_with fail
          go_ret
          refine ⟨some ⟨g, 0, none⟩, c', ?_, by rw [← HF.out, lsF_len]; exact ho, hbr⟩
          rw [lsF_len]; rfl
        | true =>
          go_wp2_with fail
          obtain ⟨w5, rfl⟩ : ∃ w5, w5 = wr := ⟨wr, rfl⟩
          go_loopw [7, 8] (fun mv iv wv => ∃ k : Nat, k ≤ m ∧ iv = .int .i64 k ∧ mv = .bool (ldMore es f k) ∧ OwnL w.heap.size wv (some ⟨g, 0, none⟩) j c' (lsF (ldPass es f k) j) ∧ Below w.heap.size w wv) (fun _ i _ => m - (intOf i).toNat)
          case atStart => exact ⟨0, Nat.zero_le _, rfl, rfl, ho, hbr⟩
          case round =>
            clear ho hbr
            obtain ⟨k, hk, rfl, rfl, ho, hbr⟩ := hrel
            have hsz := hbr.size
            by_cases hlt : k < m
            · have r := HR.out k (by rw [hl.out]; exact hlt)
              obtain ⟨x, hx⟩ : ∃ x : Nat, ea es k = x := ⟨(ea es k).toNat, by omega⟩
              obtain ⟨y, hy⟩ : ∃ y : Nat, eb es k = y := ⟨(eb es k).toNat, by omega⟩
              have hxj : x < j := by omega
              have hyj : y < j := by omega
              have E := h.below hbr
              have c1 := E.ca k hlt
              have c2 := E.cb k hlt
              have z1 := E.blk
              have z2 := (ho.blk g rfl).2
              rw [hx] at c1
              rw [hy] at c2
              have r1 := ho.cell hxj
              have r2 := ho.cell hyj
              rw [lsF_at _ hxj] at r1
              rw [lsF_at _ hyj] at r2
              obtain ⟨p, hp⟩ : ∃ p, p = ldPass es f k := ⟨_, rfl⟩
              obtain ⟨mk, hmk⟩ : ∃ mk, mk = ldMore es f k := ⟨_, rfl⟩
              rw [← hp] at r1 r2 ho
              rw [← hmk]
              have HST : Hid (ldPass es f (k + 1) = if p x = p y then p else upI (upI p x (min (p x) (p y))) y (min (p x) (p y))) := by
                show ldStep _ _ _ = _; rw [ldStep, hx, hy, ← hp]
              have HMO : Hid (ldMore es f (k + 1) = (mk || decide (p x ≠ p y))) := by
                show (_ || _) = _; rw [hx, hy, ← hp, ← hmk]
              clear hp hmk hx hy r E
              by_cases heq : p x = p y
              · have hne : (p x != p y) = false := by simp [heq]
                have HST := Lib.hid (HST.out.trans (if_pos heq))
                have HMO := Lib.hid (HMO.out.trans (by simp [heq] : _ = mk))
                clear heq
                go_wp2_with fail
                (refine wp_region_quiet_below (by kernel_rfl) (by kernel_rfl) ?_
                 repeat (any_goals (go_big_quiet_step (first | fail)))
                 all_goals (refine wpQuiet_nil ?_; intro wq2 hq2; replace hq2 := below_of_rg hq2))
                go_wp2_with fail
                go_roundw
                case rel => exact ⟨k + 1, by omega, by go_num, by rw [HMO.out], by rw [HST.out]; exact ho.below hq2, hbr.andB hq2⟩
                case measure => simp [intOf]; omega
              · have hne : (p x != p y) = true := by simp [heq]
                have HST := Lib.hid (HST.out.trans (if_neg heq))
                have HMO := Lib.hid (HMO.out.trans (by simp [heq] : _ = true))
                have hxy : x ≠ y := fun e => heq (by rw [e])
                have hmin : (p x < p y ∧ min (p x) (p y) = p x) ∨ (p y < p x ∧ min (p x) (p y) = p y) := by omega
                rcases hmin with ⟨hlt3, hmn⟩ | ⟨hlt3, hmn⟩
                · rw [hmn] at HST
                  clear hmn
                  have hgb : g ≠ b := by have := h.blk; omega
                  have hbw : b < w.heap.size := h.blk
                  go_wp2_with fail
                  (refine wp_region_quiet_below (by kernel_rfl) (by kernel_rfl) ?_
                   repeat (any_goals (go_big_quiet_step (first | fail)))
                   all_goals (refine wpQuiet_nil ?_; intro wq2 hq2; replace hq2 := below_of_rg hq2))
                  have ho1 := ho.below hq2
                  have c1 := (bcell hq2).1 _ _ z1 ▸ c1
                  have c2 := (bcell hq2).1 _ _ z1 ▸ c2
                  have r1 := ho1.cell hxj
                  have r2 := ho1.cell hyj
                  have f1 := ho1.2.frozenAt x
                  have f2 := ho1.2.frozenAt y
                  have ho2 := Lib.hid ((ho1.store x (p x)).store y (p x))
                  have c2' : (wq2.setCell ⟨g, x, none⟩ (.int .i64 (p x))).cell? ⟨b, o + k * 2 + 1, none⟩ = some (.int .i64 y) := by
                    rw [World.cell?_setCell_other _ _ _ _ (fun hh => hgb (congrArg Addr.block hh))]; exact c2
                  have r2' : (wq2.setCell ⟨g, x, none⟩ (.int .i64 (p x))).cell? ⟨g, y, none⟩ = some (.int .i64 (ia (lsF p j) y)) := by
                    rw [World.cell?_setCell_other _ _ _ _ (fun hh => hxy (congrArg Addr.off hh))]; exact r2
                  have hB2 : Hid (Below w.heap.size w ((wq2.setCell ⟨g, x, none⟩ (.int .i64 (p x))).setCell ⟨g, y, none⟩ (.int .i64 (p x)))) := ((hbr.andB hq2).setCell hbg _).setCell hbg _
                  clear heq ho ho1 c2 hbr hxy
                  go_wp2_with fail
                  go_roundw
                  case rel => exact ⟨k + 1, by omega, by go_num, by rw [HMO.out], by rw [HST.out, ← lsF_set, ← lsF_set]; exact ho2.out, hB2.out⟩
                  case measure => simp [intOf]; omega
                · rw [hmn] at HST
                  clear hmn
                  have hgb : g ≠ b := by have := h.blk; omega
                  have hbw : b < w.heap.size := h.blk
                  go_wp2_with fail
                  (refine wp_region_quiet_below (by kernel_rfl) (by kernel_rfl) ?_
                   repeat (any_goals (go_big_quiet_step (first | fail)))
                   all_goals (refine wpQuiet_nil ?_; intro wq2 hq2; replace hq2 := below_of_rg hq2))
                  have ho1 := ho.below hq2
                  have c1 := (bcell hq2).1 _ _ z1 ▸ c1
                  have c2 := (bcell hq2).1 _ _ z1 ▸ c2
                  have r1 := ho1.cell hxj
                  have r2 := ho1.cell hyj
                  have f1 := ho1.2.frozenAt x
                  have f2 := ho1.2.frozenAt y
                  have ho2 := Lib.hid ((ho1.store x (p y)).store y (p y))
                  have c2' : (wq2.setCell ⟨g, x, none⟩ (.int .i64 (p y))).cell? ⟨b, o + k * 2 + 1, none⟩ = some (.int .i64 y) := by
                    rw [World.cell?_setCell_other _ _ _ _ (fun hh => hgb (congrArg Addr.block hh))]; exact c2
                  have r2' : (wq2.setCell ⟨g, x, none⟩ (.int .i64 (p y))).cell? ⟨g, y, none⟩ = some (.int .i64 (ia (lsF p j) y)) := by
                    rw [World.cell?_setCell_other _ _ _ _ (fun hh => hxy (congrArg Addr.off hh))]; exact r2
                  have hB2 : Hid (Below w.heap.size w ((wq2.setCell ⟨g, x, none⟩ (.int .i64 (p y))).setCell ⟨g, y, none⟩ (.int .i64 (p y)))) := ((hbr.andB hq2).setCell hbg _).setCell hbg _
                  clear heq ho ho1 c2 hbr hxy
                  go_wp2_with fail
                  go_roundw
                  case rel => exact ⟨k + 1, by omega, by go_num, by rw [HMO.out], by rw [HST.out, ← lsF_set, ← lsF_set]; exact ho2.out, hB2.out⟩
                  case measure => simp [intOf]; omega
            · obtain rfl : k = m := by omega
              have HI2 := Lib.hid (ldPass_inv HI.out HR.out k (by rw [hl.out]; exact Nat.le_refl _))
              cases hmk : ldMore es f k with
              | false =>
                have HE := Lib.hid (ldPass_no k hmk)
                have HG2 := Lib.hid (show 2 * ldSum f j + 0 < gk by have := HG.out; simp at this; omega)
                rw [HE.out.1] at ho
                clear hmk
                go_wp2_with fail
                go_roundg (2 * ldSum f j + 0)
                case measure => exact HG2.out
                case rel => exact ⟨f, false, rfl, rfl, HI.out, fun _ => HE.out.2, ho, hbr⟩
              | true =>
                have HE := Lib.hid (ldPass_lt HI.out HR.out k (by rw [hl.out]; exact Nat.le_refl _) hmk)
                have HG2 := Lib.hid (show 2 * ldSum (ldPass es f k) j + 1 < gk by have := HG.out; have := HE.out; simp at this; simp at *; omega)
                clear hmk
                go_wp2_with fail
                go_roundg (2 * ldSum (ldPass es f k) j + 1)
                case measure => exact HG2.out
                case rel => exact ⟨_, true, rfl, rfl, HI2.out, (fun h => by cases h), ho, hbr⟩
set_option maxHeartbeats 800000 in
theorem parts_any (N b o m c : Nat) (es : List (Int × Int)) (w : World) (h : Eds w b o m es) (hm : m ≤ 1048576) (hR : InR N es) (hN : N ≤ 20) (hN1 : 1 ≤ N) :
    Calls Tryz.prog 135 #[.int .i64 N, .slice (some ⟨b, o, none⟩) m c] w (Ret (.int .i64 (ldCnt es noSk N)) w) := by
  go_enter Tryz.func135, Tryz.ntmps135
  go_wp2_with (go_at_call 99; refine (leaders_any N b o m c es _ h hm hR hN hN1).mono ?_; rintro e w1 ⟨A, c1, rfl, ho, hb1⟩)
  obtain ⟨g, rfl, hbg, hlg⟩ : ∃ g, A = some ⟨g, 0, none⟩ ∧ w.heap.size ≤ g ∧ g < w1.heap.size := by
    rcases ho.cases with ⟨_, h0, _⟩ | h0
    · rw [lsF_len] at h0; omega
    · exact h0
  rw [lsF_len] at ho ⊢
  go_loop [6, 7] (fun cv iv => ∃ k : Nat, k ≤ N ∧ iv = .int .i64 k ∧ cv = .int .i64 (ldCnt es noSk k)) (fun _ i => N - (intOf i).toNat)
  case atStart => exact ⟨0, Nat.zero_le _, rfl, rfl⟩
  case round =>
    obtain ⟨k, hk, rfl, rfl⟩ := hrel
    have hlc := ldCnt_le es noSk k
    by_cases hlt : k < N
    · have r1 := ho.cell hlt
      rw [lsF_at _ hlt] at r1
      by_cases hx : leadF es noSk k = k
      · have e : (leadF es noSk k == k) = true := by simp [hx]
        have HE : Hid (ldCnt es noSk (k + 1) = ldCnt es noSk k + 1) := by show (_ + _) = _; rw [if_pos hx]
        clear hx
        go_wp2_with fail
        go_round
        case rel => exact ⟨k + 1, by omega, by go_num, by rw [HE.out]; go_num⟩
        case measure => simp [intOf]; omega
      · have e : (leadF es noSk k == k) = false := by simp [hx]
        have HE : Hid (ldCnt es noSk (k + 1) = ldCnt es noSk k) := by show (_ + _) = _; rw [if_neg hx]; rfl
        clear hx
        go_wp2_with fail
        go_round
        case rel => exact ⟨k + 1, by omega, by go_num, by rw [HE.out]⟩
        case measure => simp [intOf]; omega
    · obtain rfl : k = N := by omega
      go_wp2_with fail
      go_ret
      exact ⟨rfl, hb1⟩
end Go.Proofs.YtajnhkkiddeegaaGreat
namespace Go.Proofs.YtajnhkkiddeegaaGreat
open Go.RowKit Go.Sort
theorem SetP.lt {ls : Nat → Int} {l : Nat} {u : Int} (h : SetP ls l u) : ∀ {i j : Nat}, i < j → j < l → ls i < ls j := by
  intro i j hij hj
  induction j with
  | zero => omega
  | succ j ih =>
    have h1 := (h (j + 1) hj).2 (by omega)
    simp only [Nat.add_sub_cancel] at h1
    by_cases e : i = j
    · subst e; exact h1
    · exact Int.lt_trans (ih (by omega) (by omega)) h1
theorem flatE_append (xs ys : List (Int × Int)) : flatE (xs ++ ys) = flatE xs ++ flatE ys := by simp [flatE]
theorem OwnE.empty (base : Nat) (w : World) (g : Nat) (hb : base ≤ g) (h : w.heap[g]? = some (.cells #[] 78 (0, 0))) : OwnE base w g 0 0 [] :=
  ⟨rfl, rfl, .inr ⟨g, 0, #[], rfl, hb, h, Nat.le_refl _, by unfold maxLen; omega, rfl, rfl⟩⟩
/-- One edge more behind edges of the call's own, at the operation. -/
theorem wp_appE {o : Oper} {a : Act} {K : Act → World → Prop} {Q : Exit → Act → World → Prop} {s x : Operand}
    (ho : o.op = .call { callee := .builtin .append, args := #[s, x], argTypes := #[24, 24] })
    {base g m c : Nat} {es : List (Int × Int)} {w1 : World} {B : Nat} {T : TypeId} {fr : Nat × Nat} {p q : Int} (hs : a.eval s = .slice (some ⟨g, 0, none⟩) m c) (hx : a.eval x = .slice (some ⟨B, 0, none⟩) 1 1)
    (hB : w1.heap[B]? = some (.cells #[.int .i64 p, .int .i64 q] T fr))
    (hown : OwnE base w1 g m c es) (hbase : base ≤ w1.heap.size) (hm : m ≤ 1048576)
    (h : ∀ g' c' w', OwnE base w' g' (m + 1) c' (es ++ [(p, q)]) → w1.grownBy w' (some g) → LiesAt (some ⟨g, 0, none⟩) (some ⟨g', 0, none⟩) w1 → K (a.put o.dst (.slice (some ⟨g', 0, none⟩) (m + 1) c')) w') :
    o.wp Tryz.prog a w1 K Q := by
  obtain ⟨i0, hi, hz0, hz1, hz2⟩ := info_parts infE
  refine wp_append_lies w1 s x 24 ho base 78 i0 (.agg #[.int .i64 0, .int .i64 0]) 2 16 Tryz.underlying24 hi hz0 hz1 hz2 rfl (by decide) (.slice (some ⟨g, 0, none⟩) m c) m (flatE es) hs hown.2
    ⟨B, 0, none⟩ 1 1 [.int .i64 p, .int .i64 q] hx rfl (World.news_of_block (cs := #[.int .i64 p, .int .i64 q]) hB) (fun u hu => by simp at hu; rcases hu with rfl | rfl <;> rfl) (by decide) (by unfold maxLen; omega) (by omega) hbase _ rfl ?_
  intro g' cap w2 hown' hgrow hat _
  refine h g' cap w2 ⟨by simp [hown.1], by rw [flatE_append]; exact hown'⟩ hgrow ?_
  rcases hat with e | e
  · simp only [Value.ownBlock, Option.some.injEq] at e
    exact .inl (by rw [e])
  · exact .inr ⟨g', rfl, by omega⟩
theorem wp_appE1 {ops : Array Oper} {rest : List Oper} {o : Oper} {a : Act} {Q : Exit → Act → World → Prop} {s x : Operand} (hgd : o.guard = none)
    (ho : o.op = .call { callee := .builtin .append, args := #[s, x], argTypes := #[24, 24] })
    {base g m c : Nat} {es : List (Int × Int)} {wr : World} {T : TypeId} {p q : Int} (hs : a.eval s = .slice (some ⟨g, 0, none⟩) m c) {H : Nat} (hx : a.eval x = .slice (some ⟨H, 0, none⟩) 1 1) (hH : wr.heap.size = H)
    (hown : OwnE base wr g m c es) (hbase : base ≤ wr.heap.size) (hm : m ≤ 1048576)
    (h : ∀ g' c' w', OwnE base w' g' (m + 1) c' (es ++ [(p, q)]) → wr.grownBy w' (some g) → LiesAt (some ⟨g, 0, none⟩) (some ⟨g', 0, none⟩) wr → wpList Tryz.prog ops Q rest (a.put o.dst (.slice (some ⟨g', 0, none⟩) (m + 1) c')) w') :
    wpList Tryz.prog ops Q (o :: rest) a (wr.alloc (.cells #[.int .i64 p, .int .i64 q] T)) := by
  subst hH
  exact wpList_plain hgd fun _ hK => wp_appE ho hs hx (heap_alloc_new wr _) (hown.below ((Below.refl _ _).alloc (Nat.le_refl _) _)) (by simp; omega) hm
    fun A' c' w' h1 h2 h3 => hK _ _ (h A' c' w' h1 (grownTrans (below_grownBy ((Below.refl _ _).alloc (Nat.le_refl _) _) _) h2) (h3.low (by simp)))
end Go.Proofs.YtajnhkkiddeegaaGreat
namespace Go.Proofs.YtajnhkkiddeegaaGreat
open Go.RowKit Go.Sort
theorem sk_none : skI (-1) = noSk := by funext e; simp [skI, noSk]
theorem skS_none : skS 0 = noSk := by funext e; simp [skS, noSk, hasB]
theorem skS_one (i : Nat) : skS (2 ^ i) = skI i := by
  funext e
  rw [Bool.eq_iff_iff]
  simp [skS, skI, hasB, Nat.testBit_two_pow]
  omega
end Go.Proofs.YtajnhkkiddeegaaGreat
namespace Go.Proofs.YtajnhkkiddeegaaGreat
open Go.RowKit Go.Sort
noncomputable def cnB' (n : Int) (es : List (Int × Int)) : Bool := decide (ldCnt es noSk n.toNat = 1)
theorem l01Connected_any (n : Int) (b o m c : Nat) (es : List (Int × Int)) (w : World) (h : Eds w b o m es) (hm : m ≤ 1048576) (hn : WfP n es) :
    Calls Tryz.prog 96 #[.agg #[.int .i64 n, .slice (some ⟨b, o, none⟩) m c]] w (Ret (.bool (cnB' n es)) w) := by
  have hn2 := hn.1
  have hn20 := hn.2.1
  obtain ⟨N, rfl⟩ : ∃ N : Nat, n = N := ⟨n.toNat, by omega⟩
  go_enter Tryz.func96, Tryz.ntmps96
  go_wp2_with (go_at_call 135; refine (parts_any N b o m c es _ (h.alloc _) hm hn.inR (by omega) (by omega)).mono ?_; rintro e w1 ⟨rfl, hb1⟩)
  go_ret
  exact ⟨ret_bool (by rw [Bool.eq_iff_iff]; simp [cnB']; omega), (by go_grown : Below _ _ (w.alloc _)).thenB (by simp) hb1⟩
theorem isConnected_any (n : Int) (b o m c : Nat) (es : List (Int × Int)) (w : World) (h : Eds w b o m es) (hm : m ≤ 1048576) (hn : WfP n es) :
    Calls Tryz.prog 84 #[.agg #[.int .i64 n, .slice (some ⟨b, o, none⟩) m c]] w (Ret (.bool (cnB' n es)) w) := by
  have hn2 := hn.1
  have hn20 := hn.2.1
  obtain ⟨N, rfl⟩ : ∃ N : Nat, n = N := ⟨n.toNat, by omega⟩
  have HS0 := Lib.hid (fun W hE => skS_none ▸ sides_any N b o m c 0 es W hE hm hn (by omega))
  rw [Int.toNat_natCast] at HS0
  have hlc := ldCnt_le es noSk N
  clear hn
  go_enter Tryz.func84, Tryz.ntmps84
  go_wp2_with (go_at_call 83; refine (HS0.out _ (h.alloc _)).mono ?_; rintro e w1 ⟨A, c1, rfl, O, hb1⟩; rw [sdTo_len] at O ⊢)
  go_ret
  exact ⟨ret_bool (by rw [Bool.eq_iff_iff]; simp [cnB']; omega), (by go_grown : Below _ _ (w.alloc _)).thenB (by simp) hb1⟩
end Go.Proofs.YtajnhkkiddeegaaGreat
namespace Go.Proofs.YtajnhkkiddeegaaGreat
open Go.RowKit Go.Sort
theorem ra_set {rows : List (List Int)} {j : Nat} {ys : List Int} (hj : j < rows.length) (i : Nat) : ra (rows.set j ys) i = if i = j then ys else ra rows i := by
  by_cases h : i = j
  · subst h; simp [ra, hj]
  · rw [if_neg h]; simp [ra, List.getElem?_set_ne (fun e => h e.symm)]
theorem Box2.upto {w w' : World} {b B : Nat} {v0 v1 : Value} (h : Box2 w b v0 v1) (hB : b < B) (hb : Below B w w') : Box2 w' b v0 v1 :=
  ⟨Nat.lt_of_lt_of_le h.lt hb.size, (hb.cell (p := ⟨b, 0, none⟩) hB).trans h.c0, (hb.cell (p := ⟨b, 1, none⟩) hB).trans h.c1⟩
theorem OwnLL.upto {base top B : Nat} {w w' : World} {A : Option Addr} {m c : Nat} {rows : List (List Int)} (h : OwnLL base top w A m c rows) (hB : top ≤ B) (hb : Below B w w') : OwnLL base top w' A m c rows := by
  obtain ⟨hl, ht, hA, As, cs, ho, hro, hp⟩ := h
  have cell : ∀ g, g < top → w'.heap[g]? = w.heap[g]? := fun g hg => hb.block g (by omega)
  refine ⟨hl, Nat.le_trans ht hb.size, hA, As, cs, ?_, fun j hj => ⟨?_, (hro j hj).2⟩, hp⟩
  · refine ⟨ho.1, ho.2.imp id fun ⟨g, cap, cur, e, hbg, hh, r⟩ => ⟨g, cap, cur, e, hbg, ?_, r⟩⟩
    rw [cell g (hA g (by injection e with e1; rw [e1]; rfl))]; exact hh
  · obtain ⟨h1, h2, h3⟩ := (hro j hj).1
    refine ⟨h1, h2, h3.imp id fun ⟨g, cap, cur, e, hbg, hh, r⟩ => ⟨g, cap, cur, e, hbg, ?_, r⟩⟩
    rw [cell g ((hro j hj).2.1 g (by injection e with e1; rw [e1]; rfl))]; exact hh
/-- What is read in a list of lists. -/
def SrcLL (w : World) (A : Option Addr) (rows : List (List Int)) : Prop := ∀ j, j < rows.length → ∃ g o Aj cj, A = some ⟨g, o, none⟩ ∧ g < w.heap.size ∧ w.cell? ⟨g, o + j, none⟩ = some (.slice Aj (ra rows j).length cj) ∧ SrcI w Aj (ra rows j).length (ia (ra rows j))
theorem OwnLL.src {base top : Nat} {w : World} {A : Option Addr} {m c : Nat} {rows : List (List Int)} (h : OwnLL base top w A m c rows) : SrcLL w A rows := fun j hj => by
  obtain ⟨g, Aj, cj, e, _, hg, hc, ho⟩ := h.at (j := j) (by have := h.1; omega)
  exact ⟨g, 0, Aj, cj, e, hg, by rw [Nat.zero_add]; exact hc, ho.src⟩
theorem SrcLL.below {w w' : World} {A : Option Addr} {rows : List (List Int)} (h : SrcLL w A rows) (hb : Below w.heap.size w w') : SrcLL w' A rows := fun j hj => by
  obtain ⟨g, o, Aj, cj, e, hg, hc, hs⟩ := h j hj
  exact ⟨g, o, Aj, cj, e, Nat.lt_of_lt_of_le hg hb.size, (hb.cell (p := ⟨g, o + j, none⟩) hg).trans hc, hs.below hb⟩
def tot (rows : List (List Int)) : Nat → Nat
  | 0 => 0
  | j + 1 => tot rows j + (ra rows j).length
/-- The rows hold numbers that follow each other. -/
def MarkP (rows rs : List (List Int)) (q : Int) (i : Nat) : Prop := rs.length = rows.length ∧ (∀ j, (ra rs j).length = (ra rows j).length) ∧ ∀ j, j < i → ∀ u, u < (ra rows j).length → ia (ra rs j) u = q + tot rows j + u
theorem MarkP.start (rows : List (List Int)) (q : Int) : MarkP rows rows q 0 := ⟨rfl, fun _ => rfl, fun j hj => absurd hj (by omega)⟩
theorem MarkP.next {rows rs : List (List Int)} {q : Int} {i : Nat} {ys : List Int} (h : MarkP rows rs q i) (hi : i < rows.length) (hy : ys.length = (ra rs i).length) (hm : ∀ u, u < (ra rs i).length → ia ys u = q + tot rows i + u) : MarkP rows (rs.set i ys) q (i + 1) := by
  have hi' : i < rs.length := by rw [h.1]; exact hi
  refine ⟨by simp [h.1], fun j => ?_, fun j hj u hu => ?_⟩
  · rw [ra_set hi']; split
    · rw [hy, h.2.1]; subst j; rfl
    · exact h.2.1 j
  · rw [ra_set hi']; split
    · subst j; exact hm u (by rw [h.2.1]; exact hu)
    · exact h.2.2 j (by omega) u hu
/-- The call returns a new list of lists and a code. -/
def RetLLC (rows : List (List Int)) (k : Int) (w : World) (e : Ending) (w' : World) : Prop := ∃ A c, e = .returned (.tuple #[.slice A rows.length c, .int .i64 k]) ∧ OwnLL w.heap.size w'.heap.size w' A rows.length c rows ∧ Below w.heap.size w w'
theorem retLLC_nil {rows : List (List Int)} {k : Int} {w w' : World} (h : rows = []) (hb : Below w.heap.size w w') : RetLLC rows k w (.returned (.tuple #[.slice none 0 0, .int .i64 k])) w' := by
  subst h
  exact ⟨none, 0, rfl, OwnLL.nil _ _, hb⟩
theorem retLLC_of {rows ys : List (List Int)} {k : Int} {w w1 w' : World} {A : Option Addr} {c : Nat} (h : rows = ys) (hb : Below w.heap.size w w1) (ho : OwnLL w1.heap.size w'.heap.size w' A rows.length c rows) (hk : Below w1.heap.size w1 w') : RetLLC ys k w (.returned (.tuple #[.slice A rows.length c, .int .i64 k])) w' := by
  subst h
  exact ⟨A, c, rfl, ho.mono hb.size, hb.andB hk⟩
end Go.Proofs.YtajnhkkiddeegaaGreat
