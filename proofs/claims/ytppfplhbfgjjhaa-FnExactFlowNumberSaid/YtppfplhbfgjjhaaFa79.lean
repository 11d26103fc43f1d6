import Derived.Test.YtppfplhbfgjjhaaFa56
namespace Go.Proofs.Ytppfplhbfgjjhaa
open Go.RowKit Go.Sort
set_option maxRecDepth 100000 in
set_option maxHeartbeats 4000000 in
theorem l05Search0_any (N b o m c gn gl gz md : Nat) (ct : Bool) (es : List (Int × Int)) (hm : m ≤ 30) (hwf : WfP N es) (hem : es.length = m) (hd1 : 2 ≤ md) (hd2 : md ≤ 6)
    (n1 : b ≠ gn) (n2 : b ≠ gl) (n3 : gz ≠ gn) (n4 : gz ≠ gl) (n5 : gn ≠ gl) :
    ∀ (dp e : Nat) (net F : Nat → Int) (w : World), m - e < dp → e ≤ m → Eds w b o m es → w.rowIs gn 2 N (fun v => .int .i64 (net v)) → w.rowIs gl 2 m (fun v => .int .i64 (F v)) → Ints w gz 0 N (lasF es m) → (∀ v, v < N → -(10 * (e : Int)) ≤ net v ∧ net v ≤ 10 * e) →
      Calls Try.prog 121 #[.agg #[.int .i64 N, .slice (some ⟨b, o, none⟩) m c], .int .i64 0, .int .i64 md, .slice (some ⟨gl, 0, none⟩) m m, .slice (some ⟨gn, 0, none⟩) N N, .slice (some ⟨gz, 0, none⟩) N N, .int .i64 e, .bool ct] w
        (fun ee w' => ee = .returned (.int .i64 (qF ct (cntF 0 md es (m - e) e net))) ∧ w'.rowIs gn 2 N (fun v => .int .i64 (net v)) ∧ (∃ F' : Nat → Int, w'.rowIs gl 2 m (fun v => .int .i64 (F' v))) ∧ Kept (fun k => k = gn ∨ k = gl) w w') := by
  have HWF := Lib.hid hwf
  have HEM := Lib.hid hem
  have hN20 : N ≤ 20 := by have := hwf.2.1; omega
  clear hwf hem
  intro dp
  induction dp with
  | zero => intro e net F w h; omega
  | succ dp ih =>
    intro e net F w hdp he h RN RL IZ HB
    have IH := Lib.hid ih
    have HBD := Lib.hid HB
    clear ih HB
    have hbx := Box2.made w (.int .i64 N) (.slice (some ⟨b, o, none⟩) m c) 30
    have hbb := (by go_grown : Below w.heap.size w (w.alloc (.cells #[.int .i64 N, .slice (some ⟨b, o, none⟩) m c] 30)))
    obtain ⟨w1, hw1⟩ : ∃ w1, w1 = w.alloc (Obj.cells #[Value.int IntKind.i64 N, Value.slice (some ⟨b, o, none⟩) m c] 30) := ⟨_, rfl⟩
    rw [← hw1] at hbx hbb
    have HW1 := Lib.hid hw1
    clear hw1
    have hk0 : Kept (fun k => k = gn ∨ k = gl) w w1 := Kept.of hbb
    have zn := RN.lt
    have zl := RL.lt
    have zz := IZ.blk
    have zb := h.blk
    have E1 := h.below hbb
    have RN1 : w1.rowIs gn 2 N (fun v => .int .i64 (net v)) := (Kept.of (S := fun _ => False) hbb).row RN id
    have RL1 : w1.rowIs gl 2 m (fun v => .int .i64 (F v)) := (Kept.of (S := fun _ => False) hbb).row RL id
    have IZ1 := IZ.below hbb
    obtain ⟨s1, p1, q1⟩ := hbx
    have u1 : ¬ (w.heap.size = gn ∨ w.heap.size = gl) := by omega
    clear hbb RN RL IZ h
    by_cases hlt : e < m
    rotate_left
    · obtain rfl : e = m := by omega
      have hq : ((e : Int) == e) = true := by simp
      have HR : Hid (qF ct (cntF 0 md es (e - e) e net) = 1) := by show _ = _; rw [Nat.sub_self]; exact qF_one ct
      rw [HR.out]
      go_enter Try.func121, Try.ntmps121
      go_wp2_with fail
      rw [← HW1.out]
      go_ret
      exact ⟨rfl, RN1, ⟨F, RL1⟩, hk0⟩
    have hq : ((e : Int) == m) = false := by simp; omega
    have hw4 := HWF.out.2.2.2.2 e (by rw [HEM.out]; exact hlt)
    obtain ⟨a, ha⟩ : ∃ x : Nat, ea es e = (x : Int) := ⟨(ea es e).toNat, by omega⟩
    obtain ⟨d, hd⟩ : ∃ y : Nat, eb es e = (y : Int) := ⟨(eb es e).toNat, by omega⟩
    have haN : a < N := by omega
    have hdN : d < N := by omega
    have had : a ≠ d := by omega
    obtain ⟨f, hf⟩ : ∃ f : Nat → Nat, f = fun x => if okF 0 md es e (stpF 0 es e net x) then cntF 0 md es (m - (e + 1)) (e + 1) (stpF 0 es e net x) else 0 := ⟨_, rfl⟩
    have HST : Hid (cntF 0 md es (m - e) e net = csP f md) := by show _ = _; rw [show m - e = (m - (e + 1)) + 1 by omega, hf]; rfl
    have HF : Hid (∀ x, f x = if okF 0 md es e (stpF 0 es e net x) then cntF 0 md es (m - (e + 1)) (e + 1) (stpF 0 es e net x) else 0) := fun x => by rw [hf]
    rw [HST.out]
    have e1 := E1.ca e hlt
    have e2 := E1.cb e hlt
    rw [ha] at e1
    rw [hd] at e2
    have zb1 := E1.blk
    have hwm : IntKind.i64.wrap ((md : Int) - 1) = (md : Int) - 1 := IntWalk.i64_in _ (by omega)
    have HSTP : Hid (∀ x : Nat, stpF 0 es e net x = put2 net a d (net a - x) (net d + x)) := fun x => by
      show stpF 0 es e net x = _
      unfold stpF
      rw [ha, hd]
      rfl
    have HOKF : Hid (∀ nt : Nat → Int, okF 0 md es e nt = ((decide (lasF es m a ≠ e) || zrF 0 md (nt a)) && (decide (lasF es m d ≠ e) || zrF 0 md (nt d)))) := fun nt => by
      show okF 0 md es e nt = _
      unfold okF
      rw [ha, hd, HEM.out]
      rfl
    have HA := Lib.hid ha
    have HD := Lib.hid hd
    clear ha hd hf hw4
    go_enter Try.func121, Try.ntmps121
    go_wp2_with fail
    rw [← HW1.out]
    have q1r := cell_regrown q1
    have e1r := cell_regrown e1
    have e2r := cell_regrown e2
    (refine wp_region_quiet_below (by kernel_rfl) (by kernel_rfl) ?_
     repeat (any_goals (go_big_quiet_step (first | fail)))
     all_goals (refine wpQuiet_nil ?_; intro wq3 hq3; replace hq3 := below_of_rg hq3))
    clear q1r e1r e2r
    have hk3 := hk0.thenB hq3
    have E3 := E1.below hq3
    have RN3 : wq3.rowIs gn 2 N (fun v => .int .i64 (net v)) := (Kept.of (S := fun _ => False) hq3).row RN1 id
    have RL3 : wq3.rowIs gl 2 m (fun v => .int .i64 (F v)) := (Kept.of (S := fun _ => False) hq3).row RL1 id
    have IZ3 := IZ1.below hq3
    have s3 := Nat.lt_of_lt_of_le s1 hq3.size
    have p3 := (hq3.cell (p := ⟨w.heap.size, 0, none⟩) s1).trans p1
    have q3 := (hq3.cell (p := ⟨w.heap.size, 1, none⟩) s1).trans q1
    clear hq3 e1 e2 zb1 E1 RN1 RL1 IZ1 s1 p1 q1 hk0
    go_wp2_with fail
    go_loopw [21, 22] (fun sv xv wv => ∃ (x : Nat) (F2 : Nat → Int), 1 ≤ x ∧ x ≤ md ∧ xv = .int .i64 x ∧ sv = .int .i64 (qF ct (csP f x)) ∧ (ct = false → csP f x = 0) ∧ wv.rowIs gn 2 N (fun v => .int .i64 (net v)) ∧ wv.rowIs gl 2 m (fun v => .int .i64 (F2 v)) ∧ Kept (fun k => k = gn ∨ k = gl) wq3 wv) (fun _ x _ => md - (intOf x).toNat)
    case atStart => exact ⟨1, F, by omega, by omega, rfl, by rw [show csP f 1 = 0 from rfl, qF_zero], fun _ => rfl, RN3, RL3, Kept.refl _ _⟩
    case round =>
      obtain ⟨x, F2, hx1, hxm, rfl, rfl, hc0, RN4, RL4, hk4⟩ := hrel
      have E4 := hk4.eds E3 (by omega)
      have IZ4 := hk4.ints IZ3 (by omega)
      have p4 := (hk4.cell s3 u1 0).trans p3
      have q4 := (hk4.cell s3 u1 1).trans q3
      have s4 := hk4.lt s3
      have hkk := hk4
      obtain ⟨C, hC⟩ : ∃ C, C = csP f x := ⟨_, rfl⟩
      rw [← hC] at hc0 ⊢
      have HC := Lib.hid hC
      have HC0 := Lib.hid hc0
      clear hC hc0 hk4 E3 IZ3 s3 p3 q3 RN3 RL3
      obtain ⟨S, hS⟩ : ∃ S, S = qF ct C := ⟨_, rfl⟩
      rw [← hS]
      have HS := Lib.hid hS
      clear hS
      by_cases hxl : x < md
      rotate_left
      · obtain rfl : x = md := by omega
        have HR : Hid (qF ct (csP f x) = S) := by show _ = _; rw [HS.out, HC.out]
        have hxf : ¬ ((x : Int) ≤ (x : Int) - 1) := by omega
        go_wp2_with fail
        go_ret
        exact ⟨by rw [HR.out]; rfl, RN4, ⟨F2, RL4⟩, hk3.trans hkk⟩
      have hx0 : ((x : Int) == 0) = false := by simp; omega
      have hxle : (x : Int) ≤ (md : Int) - 1 := by omega
      have c1 := RN4.cell haN
      have c2 := RN4.cell hdN
      have c1r := cell_regrown c1
      have c2r := cell_regrown c2
      go_wp2_with fail
      (refine wp_region_quiet_below (by kernel_rfl) (by kernel_rfl) ?_
       repeat (any_goals (go_big_quiet_step (first | fail)))
       all_goals (refine wpQuiet_nil ?_; intro wq5 hq5; replace hq5 := below_of_rg hq5))
      have RN5 : wq5.rowIs gn 2 N (fun v => .int .i64 (net v)) := (Kept.of (S := fun _ => False) hq5).row RN4 id
      have RL5 : wq5.rowIs gl 2 m (fun v => .int .i64 (F2 v)) := (Kept.of (S := fun _ => False) hq5).row RL4 id
      have E5 := E4.below hq5
      have IZ5 := IZ4.below hq5
      have p5 := (hq5.cell (p := ⟨w.heap.size, 0, none⟩) s4).trans p4
      have q5 := (hq5.cell (p := ⟨w.heap.size, 1, none⟩) s4).trans q4
      have s5 := Nat.lt_of_lt_of_le s4 hq5.size
      have hk5 := hkk.thenB hq5
      clear c1 c2 c1r c2r hq5 hkk E4 IZ4 p4 q4 s4 RN4 RL4
      have b1 := HBD.out a haN
      have b2 := HBD.out d hdN
      have wr1 : IntKind.i64.wrap (net a - (x : Int)) = net a - x := IntWalk.i64_in _ (by omega)
      have wr2 : IntKind.i64.wrap (net d + (x : Int)) = net d + x := IntWalk.i64_in _ (by omega)
      obtain ⟨fz1, ⟨z1, k1⟩, fz2, ⟨z2, k2⟩, RP⟩ := rowPut (net a - x) (net d + x) RN5 haN hdN
      obtain ⟨nt, hnt⟩ : ∃ nt, nt = stpF 0 es e net x := ⟨_, rfl⟩
      have hnt2 := hnt
      rw [HSTP.out x] at hnt2
      rw [← hnt2] at RP
      have hb1 : Below wq5.heap.size wq5 wq5 := Below.refl _ _
      have KA : Kept (fun k => k = gn) wq5 ((wq5.setCell ⟨gn, a, none⟩ (.int .i64 (net a - x))).setCell ⟨gn, d, none⟩ (.int .i64 (net d + x))) := Kept.setCell (S := fun k => k = gn) (Kept.setCell (S := fun k => k = gn) (Kept.refl _ _) (a := ⟨gn, a, none⟩) rfl _) (a := ⟨gn, d, none⟩) rfl _
      have EA := KA.eds E5 n1
      have RLA := KA.row RL5 (Ne.symm n5)
      have IA := KA.ints IZ5 n3
      have pA := (KA.cell s5 (fun hh => u1 (.inl hh)) 0).trans p5
      have qA := (KA.cell s5 (fun hh => u1 (.inl hh)) 1).trans q5
      have sA := KA.lt s5
      have hkA := hk5.trans (KA.wide (fun k hk => Or.inl hk))
      have la1 := IA.c a haN
      have la2 := IA.c d hdN
      rw [Nat.zero_add] at la1 la2
      have na := RP.cell haN
      have nd := RP.cell hdN
      have HBN : Hid (∀ v, v < N → -(10 * ((e + 1 : Nat) : Int)) ≤ nt v ∧ nt v ≤ 10 * ((e + 1 : Nat) : Int)) := fun v hv => by
        show -(10 * ((e + 1 : Nat) : Int)) ≤ nt v ∧ nt v ≤ 10 * ((e + 1 : Nat) : Int)
        rw [hnt2]
        have b3 := HBD.out v hv
        simp only [put2]
        split
        · omega
        · split <;> omega
      have HOK : Hid (okF 0 md es e nt = ((decide (lasF es m a ≠ e) || zrF 0 md (nt a)) && (decide (lasF es m d ≠ e) || zrF 0 md (nt d)))) := HOKF.out nt
      have HFX : Hid (f x = if okF 0 md es e nt then cntF 0 md es (m - (e + 1)) (e + 1) nt else 0) := by show _ = _; rw [HF.out x, hnt]
      have HBK : Hid (put2 nt a d (net a) (net d) = net) := by show _ = _; rw [hnt2, put2_back]
      have HCS : Hid (csP f (x + 1) = C + f x) := by show _ = _; rw [HC.out]; show csP f x + (if x = 0 then 0 else f x) = _; rw [if_neg (by omega)]
      obtain ⟨na', hna'⟩ : ∃ z, z = nt a := ⟨_, rfl⟩
      obtain ⟨nd', hnd'⟩ : ∃ z, z = nt d := ⟨_, rfl⟩
      obtain ⟨l1, hl1⟩ : ∃ z, z = lasF es m a := ⟨_, rfl⟩
      obtain ⟨l2, hl2⟩ : ∃ z, z = lasF es m d := ⟨_, rfl⟩
      rw [← hna', ← hnd', ← hl1, ← hl2] at HOK
      rw [← hna'] at na
      rw [← hnd'] at nd
      rw [← hl1] at la1
      rw [← hl2] at la2
      obtain ⟨r1, hr1⟩ : ∃ r, r = zrF 0 md na' := ⟨_, rfl⟩
      obtain ⟨r2, hr2⟩ : ∃ r, r = zrF 0 md nd' := ⟨_, rfl⟩
      have HZ1 : Hid (∀ W, Calls Try.prog 159 #[.int .i64 0, .int .i64 md, .int .i64 na'] W (Is (.bool r1) W)) := fun W => by rw [hr1]; exact l05Zero_any _ _ _ W (by omega) (by omega)
      have HZ2 : Hid (∀ W, Calls Try.prog 159 #[.int .i64 0, .int .i64 md, .int .i64 nd'] W (Is (.bool r2) W)) := fun W => by rw [hr2]; exact l05Zero_any _ _ _ W (by omega) (by omega)
      rw [← hr1, ← hr2] at HOK
      have HNT := Lib.hid hnt
      have HP := Lib.hid RP
      clear hr1 hr2 hl1 hl2 hna' hnd' hnt hnt2 RP b1 b2 hk5 hb1
      have fl := RLA.frozen e
      have kl := RLA.cell hlt
      have RLB0 := RLA.set e (.int .i64 (x : Int))
      have KB : Kept (fun k => k = gl) ((wq5.setCell ⟨gn, a, none⟩ (.int .i64 (net a - x))).setCell ⟨gn, d, none⟩ (.int .i64 (net d + x))) (((wq5.setCell ⟨gn, a, none⟩ (.int .i64 (net a - x))).setCell ⟨gn, d, none⟩ (.int .i64 (net d + x))).setCell ⟨gl, e, none⟩ (.int .i64 (x : Int))) := Kept.setCell (S := fun k => k = gl) (Kept.refl _ _) (a := ⟨gl, e, none⟩) rfl _
      have EB := KB.eds EA n2
      have IB := KB.ints IA n4
      have pB := (KB.cell sA (fun hh => u1 (.inr hh)) 0).trans pA
      have qB := (KB.cell sA (fun hh => u1 (.inr hh)) 1).trans qA
      have sB := KB.lt sA
      have RNB := KB.row HP.out n5
      have RLB : (((wq5.setCell ⟨gn, a, none⟩ (.int .i64 (net a - x))).setCell ⟨gn, d, none⟩ (.int .i64 (net d + x))).setCell ⟨gl, e, none⟩ (.int .i64 (x : Int))).rowIs gl 2 m (fun j => .int .i64 (upF F2 e x j)) := RLB0.congr (fun j _ => by simp only [upF]; split <;> rfl)
      have hkB := hkA.trans (KB.wide (fun k hk => Or.inr hk))
      have hwe : IntKind.i64.wrap ((e : Int) + 1) = ((e + 1 : Nat) : Int) := by rw [IntWalk.i64_in _ (by omega)]; simp
      obtain ⟨R, hR⟩ : ∃ R, R = cntF 0 md es (m - (e + 1)) (e + 1) nt := ⟨_, rfl⟩
      have HREC := IH.out (e + 1) nt _ _ (by omega) (by omega) EB RNB RLB IB HBN.out
      rw [← hR] at HREC HFX
      have HRECH := Lib.hid HREC
      obtain ⟨fz3, ⟨z3, k3⟩, fz4, ⟨z4, k4⟩, RPZ⟩ := rowPut (net a) (net d) HP.out haN hdN
      rw [HBK.out] at RPZ
      have KZ : Kept (fun k => k = gn) ((wq5.setCell ⟨gn, a, none⟩ (.int .i64 (net a - x))).setCell ⟨gn, d, none⟩ (.int .i64 (net d + x))) ((((wq5.setCell ⟨gn, a, none⟩ (.int .i64 (net a - x))).setCell ⟨gn, d, none⟩ (.int .i64 (net d + x))).setCell ⟨gn, a, none⟩ (.int .i64 (net a))).setCell ⟨gn, d, none⟩ (.int .i64 (net d))) := Kept.setCell (S := fun k => k = gn) (Kept.setCell (S := fun k => k = gn) (Kept.refl _ _) (a := ⟨gn, a, none⟩) rfl _) (a := ⟨gn, d, none⟩) rfl _
      have RLZ := Lib.hid (KZ.row RLA (Ne.symm n5))
      have RNZ := Lib.hid RPZ
      have hkZ := Lib.hid (hkA.trans (KZ.wide (fun k hk => Or.inl hk)))
      have HMO : Hid (csP f (x + 1) ≤ csP f md) := csP_mono f hxl
      have HKB := Lib.hid hkB
      clear RLB0 RNB RLB EB IB HREC hR RPZ KZ KB KA EA IA RLA E5 IZ5 RN5 RL5 p5 q5 s5 hkB hkA hxm
      by_cases g1 : l1 = (e : Int)
      · have hq1 : (l1 != (e : Int)) = false := by simp [g1]
        cases r1 with
        | false =>
          have HN : Hid (qF ct (csP f (x + 1)) = S ∧ (ct = false → csP f (x + 1) = 0)) := by
            show _ ∧ _
            rw [HCS.out, HFX.out, HOK.out, show decide (l1 ≠ (e : Int)) = false from by simp [g1], HS.out]
            simp
            exact HC0.out
          clear HRECH
          go_wp2_with fail
          refine (HZ1.out _).mono ?_
          rintro ee w6 ⟨rfl, rfl⟩
          by_cases hgt : 0 < S
          · cases ct with
            | false => exact absurd hgt (by rw [HS.out, HC0.out rfl, qF_zero]; omega)
            | true =>
              go_wp2_with fail
              go_roundw
              case rel => exact ⟨x + 1, F2, by omega, by omega, by go_num, by rw [HN.out.1], HN.out.2, RNZ.out, RLZ.out, hkZ.out⟩
              case measure => simp [intOf]; omega
          · go_wp2_with fail
            go_roundw
            case rel => exact ⟨x + 1, F2, by omega, by omega, by go_num, by rw [HN.out.1], HN.out.2, RNZ.out, RLZ.out, hkZ.out⟩
            case measure => simp [intOf]; omega
        | true =>
          go_wp2_with fail
          refine (HZ1.out _).mono ?_
          rintro ee w6 ⟨rfl, rfl⟩
          by_cases g2 : l2 = (e : Int)
          · have hq2 : (l2 != (e : Int)) = false := by simp [g2]
            cases r2 with
            | false =>
              have HN : Hid (qF ct (csP f (x + 1)) = S ∧ (ct = false → csP f (x + 1) = 0)) := by
                show _ ∧ _
                rw [HCS.out, HFX.out, HOK.out, show decide (l2 ≠ (e : Int)) = false from by simp [g2], HS.out]
                simp
                exact HC0.out
              clear HRECH
              go_wp2_with fail
              refine (HZ2.out _).mono ?_
              rintro ee w6 ⟨rfl, rfl⟩
              by_cases hgt : 0 < S
              · cases ct with
                | false => exact absurd hgt (by rw [HS.out, HC0.out rfl, qF_zero]; omega)
                | true =>
                  go_wp2_with fail
                  go_roundw
                  case rel => exact ⟨x + 1, F2, by omega, by omega, by go_num, by rw [HN.out.1], HN.out.2, RNZ.out, RLZ.out, hkZ.out⟩
                  case measure => simp [intOf]; omega
              · go_wp2_with fail
                go_roundw
                case rel => exact ⟨x + 1, F2, by omega, by omega, by go_num, by rw [HN.out.1], HN.out.2, RNZ.out, RLZ.out, hkZ.out⟩
                case measure => simp [intOf]; omega
            | true =>
              skip
              go_wp2_with fail
              refine (HZ2.out _).mono ?_
              rintro ee w6 ⟨rfl, rfl⟩
              go_wp2_with fail
              have HN : Hid (csP f (x + 1) = C + R) := by
                show _ = _
                rw [HCS.out, HFX.out, HOK.out, Bool.or_true, Bool.or_true]
                simp
              obtain ⟨S2, hS2⟩ : ∃ z, z = qF ct (C + R) := ⟨_, rfl⟩
              have HS2 := Lib.hid hS2
              have hws : IntKind.i64.wrap (S + qF ct R) = S2 := by rw [hS2, HS.out]; exact qF_add HC0.out
              obtain ⟨Q, hQ⟩ : ∃ z, z = qF ct R := ⟨_, rfl⟩
              rw [← hQ] at hws HRECH
              clear hS2 hQ
              refine HRECH.out.mono ?_
              rintro ee w7 ⟨rfl, RN7, ⟨F7, RL7⟩, hk7⟩
              obtain ⟨fz5, ⟨z5, k5⟩, fz6, ⟨z6, k6⟩, RP7⟩ := rowPut (net a) (net d) RN7 haN hdN
              rw [HBK.out] at RP7
              have K7 : Kept (fun k => k = gn) w7 ((w7.setCell ⟨gn, a, none⟩ (.int .i64 (net a))).setCell ⟨gn, d, none⟩ (.int .i64 (net d))) := Kept.setCell (S := fun k => k = gn) (Kept.setCell (S := fun k => k = gn) (Kept.refl _ _) (a := ⟨gn, a, none⟩) rfl _) (a := ⟨gn, d, none⟩) rfl _
              have RL8 := Lib.hid (K7.row RL7 (Ne.symm n5))
              have RN8 := Lib.hid RP7
              have hk8 := Lib.hid ((HKB.out.trans hk7).trans (K7.wide (fun k hk => Or.inl hk)))
              clear RN7 RL7 hk7 K7 RP7
              by_cases hgt : 0 < S2
              · cases ct with
                | false =>
                  have HFIN : Hid (qF false (csP f md) = S2) := by
                    show _ = _
                    have h1 := HMO.out
                    rw [HN.out] at h1
                    have h2 : 0 < C + R := by
                      rcases Nat.eq_zero_or_pos (C + R) with h0 | h0
                      · rw [HS2.out, h0, qF_zero] at hgt; omega
                      · exact h0
                    rw [HS2.out]
                    simp only [qF]
                    simp
                    omega
                  go_wp2_with fail
                  go_ret
                  exact ⟨by rw [HFIN.out]; rfl, RN8.out, ⟨F7, RL8.out⟩, hk3.trans hk8.out⟩
                | true =>
                  go_wp2_with fail
                  go_roundw
                  case rel => exact ⟨x + 1, F7, by omega, by omega, by go_num, by rw [HN.out, HS2.out], (fun h => by cases h), RN8.out, RL8.out, hk8.out⟩
                  case measure => simp [intOf]; omega
              · have HZS : Hid (ct = false → csP f (x + 1) = 0) := fun hc => by
                  rw [HN.out]
                  rcases Nat.eq_zero_or_pos (C + R) with h0 | h0
                  · exact h0
                  · exact absurd (by rw [HS2.out, hc]; simp only [qF]; simp; omega) hgt
                go_wp2_with fail
                go_roundw
                case rel => exact ⟨x + 1, F7, by omega, by omega, by go_num, by rw [HN.out, HS2.out], HZS.out, RN8.out, RL8.out, hk8.out⟩
                case measure => simp [intOf]; omega
          · have hq2 : (l2 != (e : Int)) = true := by simpa using g2
            go_wp2_with fail
            have HN : Hid (csP f (x + 1) = C + R) := by
              show _ = _
              rw [HCS.out, HFX.out, HOK.out, Bool.or_true, show decide (l2 ≠ (e : Int)) = true from by simpa using g2, Bool.true_or]
              simp
            obtain ⟨S2, hS2⟩ : ∃ z, z = qF ct (C + R) := ⟨_, rfl⟩
            have HS2 := Lib.hid hS2
            have hws : IntKind.i64.wrap (S + qF ct R) = S2 := by rw [hS2, HS.out]; exact qF_add HC0.out
            obtain ⟨Q, hQ⟩ : ∃ z, z = qF ct R := ⟨_, rfl⟩
            rw [← hQ] at hws HRECH
            clear hS2 hQ
            refine HRECH.out.mono ?_
            rintro ee w7 ⟨rfl, RN7, ⟨F7, RL7⟩, hk7⟩
            obtain ⟨fz5, ⟨z5, k5⟩, fz6, ⟨z6, k6⟩, RP7⟩ := rowPut (net a) (net d) RN7 haN hdN
            rw [HBK.out] at RP7
            have K7 : Kept (fun k => k = gn) w7 ((w7.setCell ⟨gn, a, none⟩ (.int .i64 (net a))).setCell ⟨gn, d, none⟩ (.int .i64 (net d))) := Kept.setCell (S := fun k => k = gn) (Kept.setCell (S := fun k => k = gn) (Kept.refl _ _) (a := ⟨gn, a, none⟩) rfl _) (a := ⟨gn, d, none⟩) rfl _
            have RL8 := Lib.hid (K7.row RL7 (Ne.symm n5))
            have RN8 := Lib.hid RP7
            have hk8 := Lib.hid ((HKB.out.trans hk7).trans (K7.wide (fun k hk => Or.inl hk)))
            clear RN7 RL7 hk7 K7 RP7
            by_cases hgt : 0 < S2
            · cases ct with
              | false =>
                have HFIN : Hid (qF false (csP f md) = S2) := by
                  show _ = _
                  have h1 := HMO.out
                  rw [HN.out] at h1
                  have h2 : 0 < C + R := by
                    rcases Nat.eq_zero_or_pos (C + R) with h0 | h0
                    · rw [HS2.out, h0, qF_zero] at hgt; omega
                    · exact h0
                  rw [HS2.out]
                  simp only [qF]
                  simp
                  omega
                go_wp2_with fail
                go_ret
                exact ⟨by rw [HFIN.out]; rfl, RN8.out, ⟨F7, RL8.out⟩, hk3.trans hk8.out⟩
              | true =>
                go_wp2_with fail
                go_roundw
                case rel => exact ⟨x + 1, F7, by omega, by omega, by go_num, by rw [HN.out, HS2.out], (fun h => by cases h), RN8.out, RL8.out, hk8.out⟩
                case measure => simp [intOf]; omega
            · have HZS : Hid (ct = false → csP f (x + 1) = 0) := fun hc => by
                rw [HN.out]
                rcases Nat.eq_zero_or_pos (C + R) with h0 | h0
                · exact h0
                · exact absurd (by rw [HS2.out, hc]; simp only [qF]; simp; omega) hgt
              go_wp2_with fail
              go_roundw
              case rel => exact ⟨x + 1, F7, by omega, by omega, by go_num, by rw [HN.out, HS2.out], HZS.out, RN8.out, RL8.out, hk8.out⟩
              case measure => simp [intOf]; omega
      · have hq1 : (l1 != (e : Int)) = true := by simpa using g1
        by_cases g2 : l2 = (e : Int)
        · have hq2 : (l2 != (e : Int)) = false := by simp [g2]
          cases r2 with
          | false =>
            have HN : Hid (qF ct (csP f (x + 1)) = S ∧ (ct = false → csP f (x + 1) = 0)) := by
              show _ ∧ _
              rw [HCS.out, HFX.out, HOK.out, show decide (l2 ≠ (e : Int)) = false from by simp [g2], HS.out]
              simp
              exact HC0.out
            clear HRECH
            go_wp2_with fail
            refine (HZ2.out _).mono ?_
            rintro ee w6 ⟨rfl, rfl⟩
            by_cases hgt : 0 < S
            · cases ct with
              | false => exact absurd hgt (by rw [HS.out, HC0.out rfl, qF_zero]; omega)
              | true =>
                go_wp2_with fail
                go_roundw
                case rel => exact ⟨x + 1, F2, by omega, by omega, by go_num, by rw [HN.out.1], HN.out.2, RNZ.out, RLZ.out, hkZ.out⟩
                case measure => simp [intOf]; omega
            · go_wp2_with fail
              go_roundw
              case rel => exact ⟨x + 1, F2, by omega, by omega, by go_num, by rw [HN.out.1], HN.out.2, RNZ.out, RLZ.out, hkZ.out⟩
              case measure => simp [intOf]; omega
          | true =>
            skip
            go_wp2_with fail
            refine (HZ2.out _).mono ?_
            rintro ee w6 ⟨rfl, rfl⟩
            go_wp2_with fail
            have HN : Hid (csP f (x + 1) = C + R) := by
              show _ = _
              rw [HCS.out, HFX.out, HOK.out, show decide (l1 ≠ (e : Int)) = true from by simpa using g1, Bool.true_or, Bool.or_true]
              simp
            obtain ⟨S2, hS2⟩ : ∃ z, z = qF ct (C + R) := ⟨_, rfl⟩
            have HS2 := Lib.hid hS2
            have hws : IntKind.i64.wrap (S + qF ct R) = S2 := by rw [hS2, HS.out]; exact qF_add HC0.out
            obtain ⟨Q, hQ⟩ : ∃ z, z = qF ct R := ⟨_, rfl⟩
            rw [← hQ] at hws HRECH
            clear hS2 hQ
            refine HRECH.out.mono ?_
            rintro ee w7 ⟨rfl, RN7, ⟨F7, RL7⟩, hk7⟩
            obtain ⟨fz5, ⟨z5, k5⟩, fz6, ⟨z6, k6⟩, RP7⟩ := rowPut (net a) (net d) RN7 haN hdN
            rw [HBK.out] at RP7
            have K7 : Kept (fun k => k = gn) w7 ((w7.setCell ⟨gn, a, none⟩ (.int .i64 (net a))).setCell ⟨gn, d, none⟩ (.int .i64 (net d))) := Kept.setCell (S := fun k => k = gn) (Kept.setCell (S := fun k => k = gn) (Kept.refl _ _) (a := ⟨gn, a, none⟩) rfl _) (a := ⟨gn, d, none⟩) rfl _
            have RL8 := Lib.hid (K7.row RL7 (Ne.symm n5))
            have RN8 := Lib.hid RP7
            have hk8 := Lib.hid ((HKB.out.trans hk7).trans (K7.wide (fun k hk => Or.inl hk)))
            clear RN7 RL7 hk7 K7 RP7
            by_cases hgt : 0 < S2
            · cases ct with
              | false =>
                have HFIN : Hid (qF false (csP f md) = S2) := by
                  show _ = _
                  have h1 := HMO.out
                  rw [HN.out] at h1
                  have h2 : 0 < C + R := by
                    rcases Nat.eq_zero_or_pos (C + R) with h0 | h0
                    · rw [HS2.out, h0, qF_zero] at hgt; omega
                    · exact h0
                  rw [HS2.out]
                  simp only [qF]
                  simp
                  omega
                go_wp2_with fail
                go_ret
                exact ⟨by rw [HFIN.out]; rfl, RN8.out, ⟨F7, RL8.out⟩, hk3.trans hk8.out⟩
              | true =>
                go_wp2_with fail
                go_roundw
                case rel => exact ⟨x + 1, F7, by omega, by omega, by go_num, by rw [HN.out, HS2.out], (fun h => by cases h), RN8.out, RL8.out, hk8.out⟩
                case measure => simp [intOf]; omega
            · have HZS : Hid (ct = false → csP f (x + 1) = 0) := fun hc => by
                rw [HN.out]
                rcases Nat.eq_zero_or_pos (C + R) with h0 | h0
                · exact h0
                · exact absurd (by rw [HS2.out, hc]; simp only [qF]; simp; omega) hgt
              go_wp2_with fail
              go_roundw
              case rel => exact ⟨x + 1, F7, by omega, by omega, by go_num, by rw [HN.out, HS2.out], HZS.out, RN8.out, RL8.out, hk8.out⟩
              case measure => simp [intOf]; omega
        · have hq2 : (l2 != (e : Int)) = true := by simpa using g2
          go_wp2_with fail
          have HN : Hid (csP f (x + 1) = C + R) := by
            show _ = _
            rw [HCS.out, HFX.out, HOK.out, show decide (l1 ≠ (e : Int)) = true from by simpa using g1, Bool.true_or, show decide (l2 ≠ (e : Int)) = true from by simpa using g2, Bool.true_or]
            simp
          obtain ⟨S2, hS2⟩ : ∃ z, z = qF ct (C + R) := ⟨_, rfl⟩
          have HS2 := Lib.hid hS2
          have hws : IntKind.i64.wrap (S + qF ct R) = S2 := by rw [hS2, HS.out]; exact qF_add HC0.out
          obtain ⟨Q, hQ⟩ : ∃ z, z = qF ct R := ⟨_, rfl⟩
          rw [← hQ] at hws HRECH
          clear hS2 hQ
          refine HRECH.out.mono ?_
          rintro ee w7 ⟨rfl, RN7, ⟨F7, RL7⟩, hk7⟩
          obtain ⟨fz5, ⟨z5, k5⟩, fz6, ⟨z6, k6⟩, RP7⟩ := rowPut (net a) (net d) RN7 haN hdN
          rw [HBK.out] at RP7
          have K7 : Kept (fun k => k = gn) w7 ((w7.setCell ⟨gn, a, none⟩ (.int .i64 (net a))).setCell ⟨gn, d, none⟩ (.int .i64 (net d))) := Kept.setCell (S := fun k => k = gn) (Kept.setCell (S := fun k => k = gn) (Kept.refl _ _) (a := ⟨gn, a, none⟩) rfl _) (a := ⟨gn, d, none⟩) rfl _
          have RL8 := Lib.hid (K7.row RL7 (Ne.symm n5))
          have RN8 := Lib.hid RP7
          have hk8 := Lib.hid ((HKB.out.trans hk7).trans (K7.wide (fun k hk => Or.inl hk)))
          clear RN7 RL7 hk7 K7 RP7
          by_cases hgt : 0 < S2
          · cases ct with
            | false =>
              have HFIN : Hid (qF false (csP f md) = S2) := by
                show _ = _
                have h1 := HMO.out
                rw [HN.out] at h1
                have h2 : 0 < C + R := by
                  rcases Nat.eq_zero_or_pos (C + R) with h0 | h0
                  · rw [HS2.out, h0, qF_zero] at hgt; omega
                  · exact h0
                rw [HS2.out]
                simp only [qF]
                simp
                omega
              go_wp2_with fail
              go_ret
              exact ⟨by rw [HFIN.out]; rfl, RN8.out, ⟨F7, RL8.out⟩, hk3.trans hk8.out⟩
            | true =>
              go_wp2_with fail
              go_roundw
              case rel => exact ⟨x + 1, F7, by omega, by omega, by go_num, by rw [HN.out, HS2.out], (fun h => by cases h), RN8.out, RL8.out, hk8.out⟩
              case measure => simp [intOf]; omega
          · have HZS : Hid (ct = false → csP f (x + 1) = 0) := fun hc => by
              rw [HN.out]
              rcases Nat.eq_zero_or_pos (C + R) with h0 | h0
              · exact h0
              · exact absurd (by rw [HS2.out, hc]; simp only [qF]; simp; omega) hgt
            go_wp2_with fail
            go_roundw
            case rel => exact ⟨x + 1, F7, by omega, by omega, by go_num, by rw [HN.out, HS2.out], HZS.out, RN8.out, RL8.out, hk8.out⟩
            case measure => simp [intOf]; omega
end Go.Proofs.Ytppfplhbfgjjhaa
namespace Go.Proofs.Ytppfplhbfgjjhaa
open Go.RowKit Go.Sort
set_option maxRecDepth 100000 in
set_option maxHeartbeats 1000000 in
theorem l05Count0_any (N b o m c md : Nat) (es : List (Int × Int)) (w : World) (h : Eds w b o m es) (hm : m ≤ 30) (hG : IsG N es) (hd1 : 2 ≤ md) (hd2 : md ≤ 6) :
    Calls Try.prog 68 #[.agg #[.int .i64 N, .slice (some ⟨b, o, none⟩) m c], .int .i64 0, .int .i64 md] w (Ret (.int .i64 (W64 (cntF 0 md es m 0 (fun _ => 0)))) w) := by
  have HG := Lib.hid hG
  have HWF := Lib.hid hG.wf
  have hel := h.len
  have hmN : 2 * m = 3 * N := by have h1 := hG.wf.2.2.1; have h2 := hG.wf.2.2.2.1; omega
  have hm0 : 0 < m := by have := hG.wf.1; omega
  have hN2 := hG.wf.1
  have hN20 := hG.wf.2.1
  have hmk1 := run_make_row' (P := Try.prog) 36 2 (.int .i64 0) 8 Try.underlying36 inf2 rfl .i64 .i64 N (by omega) (by omega)
  have hmk2 := run_make_row' (P := Try.prog) 36 2 (.int .i64 0) 8 Try.underlying36 inf2 rfl .i64 .i64 m (by omega) (by omega)
  have hbx := Box2.made w (.int .i64 N) (.slice (some ⟨b, o, none⟩) m c) 30
  have hbb := (by go_grown : Below w.heap.size w (w.alloc (.cells #[.int .i64 N, .slice (some ⟨b, o, none⟩) m c] 30)))
  obtain ⟨w1, hw1⟩ : ∃ w1, w1 = w.alloc (Obj.cells #[Value.int IntKind.i64 N, Value.slice (some ⟨b, o, none⟩) m c] 30) := ⟨_, rfl⟩
  rw [← hw1] at hbx hbb
  have HW1 := Lib.hid hw1
  have E1 := h.below hbb
  obtain ⟨s1, p1, q1⟩ := hbx
  clear hw1 hG
  go_enter Try.func68, Try.ntmps68
  go_wp2_with fail
  rw [← HW1.out]
  refine wp_region_then 12 (fun i9 v W => match i9 with
    | 0 => v = .agg #[.int .i64 N, .slice (some ⟨b, o, none⟩) m c]
    | 1 => v = .int .i64 0
    | 2 => v = .int .i64 md
    | 3 => v = .pointer (some ⟨w.heap.size, 1, none⟩)
    | 4 => v = .slice (some ⟨b, o, none⟩) m c
    | 5 => v = .int .i64 m
    | 6 => NewI w1.heap.size (m) (fun _ => 0) v W
    | 7 => v = .pointer (some ⟨w.heap.size, 0, none⟩)
    | 8 => v = .int .i64 N
    | 9 => NewI w1.heap.size (N) (fun _ => 0) v W
    | 10 => v = .agg #[.int .i64 N, .slice (some ⟨b, o, none⟩) m c]
    | _ => NewI w1.heap.size (N) (lasF es m) v W)
    (fun i => match i with
    | _ => none)
    (fun k W W' => Below W.heap.size W W')  (fun W => Below w1.heap.size w1 W) (by kernel_rfl) (by kernel_rfl) ?_ ?_ ?_ ?_ ?_
  · exact (Below.refl _ _).drew
  · intro i k v W W' hne hd hC hf hE
    match i, hf with
    | 0, hf => exact hf
    | 1, hf => exact hf
    | 2, hf => exact hf
    | 3, hf => exact hf
    | 4, hf => exact hf
    | 5, hf => exact hf
    | 6, hf => exact NewI.below hf hE
    | 7, hf => exact hf
    | 8, hf => exact hf
    | 9, hf => exact NewI.below hf hE
    | 10, hf => exact hf
    | _ + 11, hf => exact NewI.below hf hE
  · intro k W W' hC hE
    exact Below.andB hC hE
  · simp only [List.take_succ_cons, List.take_zero]
    refine ⟨?_, ?_, ?_, ?_, ?_, ?_, ?_, ?_, ?_, ?_, ?_, ?_, trivial⟩
    · intro a W hC hs hd
      have hW : Below w1.heap.size w1 W := hC
      have e3 : a.tmps[3]?.getD undef = .pointer (some ⟨w.heap.size, 0, none⟩) := hs 3 (by kernel_rfl)
      refine growsG_none (E := fun W W' => Below W.heap.size W W') rfl ?_
      have k0 := (hW.cell (p := ⟨w.heap.size, 0, none⟩) (s1)).trans (p1)
      have k1 := (hW.cell (p := ⟨w.heap.size, 1, none⟩) (s1)).trans (q1)
      clear hs hd
      unfold GrowsE
      go_simp
      exact Below.refl _ _
    · intro a W hC hs hd
      have hW : Below w1.heap.size w1 W := hC
      have e1 : a.tmps[1]?.getD undef = .int .i64 0 := hs 1 (by kernel_rfl)
      refine growsG_none (E := fun W W' => Below W.heap.size W W') rfl ?_
      clear hs hd
      unfold GrowsE
      go_simp
      exact Below.refl _ _
    · intro a W hC hs hd
      have hW : Below w1.heap.size w1 W := hC
      have e2 : a.tmps[2]?.getD undef = .int .i64 md := hs 2 (by kernel_rfl)
      refine growsG_none (E := fun W W' => Below W.heap.size W W') rfl ?_
      clear hs hd
      unfold GrowsE
      go_simp
      exact Below.refl _ _
    · intro a W hC hs hd
      have hW : Below w1.heap.size w1 W := hC
      have e3 : a.tmps[3]?.getD undef = .pointer (some ⟨w.heap.size, 0, none⟩) := hs 3 (by kernel_rfl)
      refine growsG_none (E := fun W W' => Below W.heap.size W W') rfl ?_
      have k0 := (hW.cell (p := ⟨w.heap.size, 0, none⟩) (s1)).trans (p1)
      have k1 := (hW.cell (p := ⟨w.heap.size, 1, none⟩) (s1)).trans (q1)
      clear hs hd
      unfold GrowsE
      go_simp
      exact Below.refl _ _
    · intro a W hC hs hd
      have hW : Below w1.heap.size w1 W := hC
      have e10 : (a.tmps[10]?.getD undef) = .pointer (some ⟨w.heap.size, 1, none⟩) := hd 3 10 (by kernel_rfl) (by kernel_rfl) (by kernel_rfl)
      refine growsG_none (E := fun W W' => Below W.heap.size W W') rfl ?_
      have k0 := (hW.cell (p := ⟨w.heap.size, 0, none⟩) (s1)).trans (p1)
      have k1 := (hW.cell (p := ⟨w.heap.size, 1, none⟩) (s1)).trans (q1)
      clear hs hd
      unfold GrowsE
      go_simp
      exact Below.refl _ _
    · intro a W hC hs hd
      have hW : Below w1.heap.size w1 W := hC
      have e11 : (a.tmps[11]?.getD undef) = .slice (some ⟨b, o, none⟩) m c := hd 4 11 (by kernel_rfl) (by kernel_rfl) (by kernel_rfl)
      refine growsG_none (E := fun W W' => Below W.heap.size W W') rfl ?_
      clear hs hd
      unfold GrowsE
      go_simp
      exact Below.refl _ _
    · intro a W hC hs hd
      have hW : Below w1.heap.size w1 W := hC
      have e12 : (a.tmps[12]?.getD undef) = .int .i64 m := hd 5 12 (by kernel_rfl) (by kernel_rfl) (by kernel_rfl)
      refine growsG_none (E := fun W W' => Below W.heap.size W W') rfl ?_
      clear hs hd
      unfold GrowsE
      go_simp
      exact ⟨(Below.refl _ _).alloc (Nat.le_refl _) _, _, rfl, hW.size, World.rowIs_made _ _ _ _⟩
    · intro a W hC hs hd
      have hW : Below w1.heap.size w1 W := hC
      have e3 : a.tmps[3]?.getD undef = .pointer (some ⟨w.heap.size, 0, none⟩) := hs 3 (by kernel_rfl)
      refine growsG_none (E := fun W W' => Below W.heap.size W W') rfl ?_
      have k0 := (hW.cell (p := ⟨w.heap.size, 0, none⟩) (s1)).trans (p1)
      have k1 := (hW.cell (p := ⟨w.heap.size, 1, none⟩) (s1)).trans (q1)
      clear hs hd
      unfold GrowsE
      go_simp
      exact Below.refl _ _
    · intro a W hC hs hd
      have hW : Below w1.heap.size w1 W := hC
      have e14 : (a.tmps[14]?.getD undef) = .pointer (some ⟨w.heap.size, 0, none⟩) := hd 7 14 (by kernel_rfl) (by kernel_rfl) (by kernel_rfl)
      refine growsG_none (E := fun W W' => Below W.heap.size W W') rfl ?_
      have k0 := (hW.cell (p := ⟨w.heap.size, 0, none⟩) (s1)).trans (p1)
      have k1 := (hW.cell (p := ⟨w.heap.size, 1, none⟩) (s1)).trans (q1)
      clear hs hd
      unfold GrowsE
      go_simp
      exact Below.refl _ _
    · intro a W hC hs hd
      have hW : Below w1.heap.size w1 W := hC
      have e15 : (a.tmps[15]?.getD undef) = .int .i64 N := hd 8 15 (by kernel_rfl) (by kernel_rfl) (by kernel_rfl)
      refine growsG_none (E := fun W W' => Below W.heap.size W W') rfl ?_
      clear hs hd
      unfold GrowsE
      go_simp
      exact ⟨(Below.refl _ _).alloc (Nat.le_refl _) _, _, rfl, hW.size, World.rowIs_made _ _ _ _⟩
    · intro a W hC hs hd
      have hW : Below w1.heap.size w1 W := hC
      have e3 : a.tmps[3]?.getD undef = .pointer (some ⟨w.heap.size, 0, none⟩) := hs 3 (by kernel_rfl)
      refine growsG_none (E := fun W W' => Below W.heap.size W W') rfl ?_
      have k0 := (hW.cell (p := ⟨w.heap.size, 0, none⟩) (s1)).trans (p1)
      have k1 := (hW.cell (p := ⟨w.heap.size, 1, none⟩) (s1)).trans (q1)
      clear hs hd
      unfold GrowsE
      go_simp
      exact Below.refl _ _
    · intro a W hC hs hd
      have hW : Below w1.heap.size w1 W := hC
      have e17 : (a.tmps[17]?.getD undef) = .agg #[.int .i64 N, .slice (some ⟨b, o, none⟩) m c] := hd 10 17 (by kernel_rfl) (by kernel_rfl) (by kernel_rfl)
      refine growsG_none (E := fun W W' => Below W.heap.size W W') rfl ?_
      clear hs hd
      unfold GrowsE
      go_simp
      refine ⟨Below.refl _ _, (l05Last_any N b o m c es W (E1.below hW) (by omega) HWF.out).mono ?_⟩
      rintro e w6 ⟨g6, rfl, hg6, R6, hb6⟩
      exact ⟨_, rfl, hb6, g6, rfl, Nat.le_trans (hW.size) hg6, R6⟩
  intro vs W hW hf
  have f7 : (vs 7) = .agg #[.int .i64 N, .slice (some ⟨b, o, none⟩) m c] := hf 0 7 (by decide) (by kernel_rfl) (fun _ hk => by cases hk)
  have f8 : (vs 8) = .int .i64 0 := hf 1 8 (by decide) (by kernel_rfl) (fun _ hk => by cases hk)
  have f9 : (vs 9) = .int .i64 md := hf 2 9 (by decide) (by kernel_rfl) (fun _ hk => by cases hk)
  have f10 : (vs 10) = .pointer (some ⟨w.heap.size, 1, none⟩) := hf 3 10 (by decide) (by kernel_rfl) (fun _ hk => by cases hk)
  have f11 : (vs 11) = .slice (some ⟨b, o, none⟩) m c := hf 4 11 (by decide) (by kernel_rfl) (fun _ hk => by cases hk)
  have f12 : (vs 12) = .int .i64 m := hf 5 12 (by decide) (by kernel_rfl) (fun _ hk => by cases hk)
  have f13 : NewI w1.heap.size (m) (fun _ => 0) (vs 13) W := hf 6 13 (by decide) (by kernel_rfl) (fun _ hk => by cases hk)
  obtain ⟨g13, f13, hg13, R13⟩ := f13
  have f14 : (vs 14) = .pointer (some ⟨w.heap.size, 0, none⟩) := hf 7 14 (by decide) (by kernel_rfl) (fun _ hk => by cases hk)
  have f15 : (vs 15) = .int .i64 N := hf 8 15 (by decide) (by kernel_rfl) (fun _ hk => by cases hk)
  have f16 : NewI w1.heap.size (N) (fun _ => 0) (vs 16) W := hf 9 16 (by decide) (by kernel_rfl) (fun _ hk => by cases hk)
  obtain ⟨g16, f16, hg16, R16⟩ := f16
  have f17 : (vs 17) = .agg #[.int .i64 N, .slice (some ⟨b, o, none⟩) m c] := hf 10 17 (by decide) (by kernel_rfl) (fun _ hk => by cases hk)
  have f18 : NewI w1.heap.size (N) (lasF es m) (vs 18) W := hf 11 18 (by decide) (by kernel_rfl) (fun _ hk => by cases hk)
  obtain ⟨g18, f18, hg18, R18⟩ := f18
  simp only [dsts, List.take_succ_cons, List.take_zero, List.drop_succ_cons, List.drop_zero, List.filterMap_cons, List.filterMap_nil, List.foldl_cons, List.foldl_nil, Act.put, List.setIfInBounds_toArray, List.set_cons_succ, List.set_cons_zero, f7, f8, f9, f10, f11, f12, f13, f14, f15, f16, f17, f18]
  clear hf
  have hW : Below w1.heap.size w1 W := hW
  have hsz := hbb.size
  have EW := E1.below hW
  have n1 : b ≠ g16 := by have := E1.blk; omega
  have n2 : b ≠ g13 := by have := E1.blk; omega
  have n4 : g18 ≠ g13 := fun hh => by
    subst hh
    have h1 := R18.cell (show 0 < N by omega)
    obtain ⟨cs, e1, e2, _⟩ := R18
    obtain ⟨cs', e3, e4, _⟩ := R13
    rw [e1] at e3
    injection e3 with e3; injection e3 with e3 _ _
    rw [← e3, e2] at e4
    omega
  have n5 : g16 ≠ g13 := fun hh => by
    subst hh
    obtain ⟨cs, e1, e2, _⟩ := R16
    obtain ⟨cs', e3, e4, _⟩ := R13
    rw [e1] at e3
    injection e3 with e3; injection e3 with e3 _ _
    rw [← e3, e2] at e4
    omega
  have n3 : g18 ≠ g16 := fun hh => by
    subst hh
    obtain ⟨x, hx⟩ : ∃ x : Nat, eb es (m - 1) = (x : Int) := ⟨(eb es (m - 1)).toNat, by have := HWF.out.2.2.2.2 (m - 1) (by omega); omega⟩
    have hxN : x < N := by have := HWF.out.2.2.2.2 (m - 1) (by omega); omega
    have h1 := R18.cell hxN
    rw [R16.cell hxN] at h1
    injection h1 with h1; injection h1 with _ h1
    rw [show m = (m - 1) + 1 by omega] at h1
    simp only [lasF] at h1
    rw [if_pos hx.symm] at h1
    omega
  have hkW : Below w.heap.size w W := hbb.andB hW
  have h0 := l05Search0_any N b o m c g16 g13 g18 md true es hm HWF.out hel hd1 hd2 n1 n2 n3 n4 n5 (m + 1) 0 (fun _ => 0) (fun _ => 0) W (by omega) (by omega) EW R16 R13 (Ints.of_row R18) (fun v hv => by simp)
  rw [Nat.sub_zero] at h0
  have HS := Lib.hid h0
  clear h0 R16 R13 R18 EW
  go_wp2_with fail
  refine HS.out.mono ?_
  rintro ee w2 ⟨rfl, _, _, hk⟩
  have hkb : Below w.heap.size W w2 := hk.below (by have := hW.size; omega) (fun k hk => by rcases hk with rfl | rfl <;> omega)
  go_wp2_with fail
  go_ret
  exact ⟨rfl, hkW.trans hkb⟩
end Go.Proofs.Ytppfplhbfgjjhaa
