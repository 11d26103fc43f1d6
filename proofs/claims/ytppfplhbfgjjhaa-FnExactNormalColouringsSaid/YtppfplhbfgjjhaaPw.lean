import Derived.Test.YtppfplhbfgjjhaaM11
namespace Go.Proofs.Ytppfplhbfgjjhaa
open Go.RowKit Go.Sort
/-! ### paint, where what is found turns other blocks each time -/
theorem runF_go {σ α : Type} {fnd : σ → α → Bool × σ} {Go : σ → Prop} (h : ∀ s f, Go s → (fnd s f).1 = false → Go (fnd s f).2) : ∀ {xs : List α} {s s' : σ}, Go s → runF fnd s xs = (false, s') → Go s' := by
  intro xs
  induction xs with
  | nil => intro s s' hs he; simp only [runF, Prod.mk.injEq, true_and] at he; subst he; exact hs
  | cons x xs ih =>
    intro s s' hs he
    simp only [runF] at he
    cases hq : (fnd s x).1 with
    | true => rw [hq, if_pos rfl] at he; simp at he
    | false => rw [hq, if_neg (by decide)] at he; exact ih (h s x hs hq) he
set_option maxRecDepth 100000 in
set_option maxHeartbeats 4000000 in
theorem paintW_any {σ : Type} (St : σ → World → Prop) (S : σ → World → Nat → Prop) (fnd : σ → (Nat → Int) → Bool × σ) (Go : σ → Prop) (fid : FuncId) (caps : Array Value)
    {bp bc bu N m : Nat} {A : Option Addr} {cA : Nat} {L : List Nat} {b o c cc cu : Nat} {es : List (Int × Int)} (hn : WfP N es) (hm : m ≤ 1048576) (hLl : L.length ≤ 1048576)
    (he : Enters fid)
    (hSt : ∀ s w w', St s w → Kept (fun k => k = bc ∨ k = bu) w w' → St s w')
    (hSlt : ∀ s w, St s w → ∀ k, S s w k → k < w.heap.size)
    (hSk : ∀ s w w', St s w → Kept (fun k => k = bc ∨ k = bu) w w' → ∀ k, S s w' k → S s w k)
    (hGo : ∀ s f, Go s → (fnd s f).1 = false → Go (fnd s f).2)
    (hfound : ∀ s f U w, Go s → PS w (S s w) bp bc bu N m A cA L b o c cc cu es (.func (.func fid) #[] caps) → PW w (S s w) bc bu N m f U w → St s w →
      Calls Try.prog fid (#[.slice (some ⟨bc, 0, none⟩) m cc] ++ caps) w (fun e w' => e = .returned (.bool (fnd s f).1) ∧ PW w (S s w) bc bu N m f U w' ∧ St (fnd s f).2 w' ∧ ∀ k, S (fnd s f).2 w' k → S s w k ∨ w.heap.size ≤ k)) :
    ∀ (j k : Nat) (s : σ) (f : Nat → Int) (U : Nat → Nat) (w : World), L.length - k < j → k ≤ L.length → Go s → PS w (S s w) bp bc bu N m A cA L b o c cc cu es (.func (.func fid) #[] caps) → PW w (S s w) bc bu N m f U w → St s w → (∀ v, U v < 8) → (∀ g, blkOf A = some g → g < w.heap.size) →
      Calls Try.prog 119 #[.pointer (some ⟨bp, 0, none⟩), .int .i64 k] w (fun e w' => e = .returned (.bool (runF fnd s (colF es (L.drop k) f U)).1) ∧ PW w (S s w) bc bu N m f U w' ∧ St (runF fnd s (colF es (L.drop k) f U)).2 w' ∧ ∀ k', S (runF fnd s (colF es (L.drop k) f U)).2 w' k' → S s w k' ∨ w.heap.size ≤ k') := by
  have KC := cell_rg
  have HF := Lib.hid hfound
  have he1 := he
  unfold Enters at he1
  have HN := Lib.hid hn
  have HST := Lib.hid hSt
  have HSL := Lib.hid hSlt
  have HSK := Lib.hid hSk
  have HGO := Lib.hid hGo
  clear hfound he hn hSt hSlt hSk hGo
  intro j
  induction j with
  | zero => intro k s f U w h; omega
  | succ j ih =>
    intro k s f U w hj hk hgo ps pw st h8 hA
    have IH := Lib.hid ih
    have hl := Lib.hid ps.E.len
    have HA := Lib.hid hA
    clear ih hA
    go_enter Try.func119, Try.ntmps119
    go_wp2_with fail
    go_loopw [1] (fun kv wv => ∃ k' : Nat, k ≤ k' ∧ k' ≤ L.length ∧ kv = .int .i64 k' ∧ Hid (colF es (L.drop k) f U = colF es (L.drop k') f U) ∧ Below w.heap.size w wv) (fun k _ => L.length + 1 - (intOf k).toNat)
    case atStart => exact ⟨k, Nat.le_refl _, hk, rfl, rfl, Below.refl _ _⟩
    case round =>
      obtain ⟨k', hkk, hkl, rfl, HC, hbr⟩ := hrel
      have P := pw.below hbr
      have p2 := P.cell ps.pl ps.np 2 ps.p2
      have p3 := P.cell ps.pl ps.np 3 ps.p3
      have p4 := P.cell ps.pl ps.np 4 ps.p4
      have p5 := P.cell ps.pl ps.np 5 ps.p5
      have zp := P.k.lt ps.pl
      have zc := P.rc.lt
      by_cases hlt : k' < L.length
      · obtain ⟨g, og, rfl, I⟩ := (P.k.srcI ps.I ps.nA) (by omega)
        have i1 := I.c k' hlt
        have zg := I.blk
        obtain ⟨d, hd⟩ : ∃ d, d = L.getD k' 0 := ⟨_, rfl⟩
        have hdm : d < m := by rw [hd]; exact ps.hL _ (gd_mem hlt)
        have HDR : Hid (L.drop k' = d :: L.drop (k' + 1)) := by show _ = _; rw [hd]; exact gd_at hlt
        rw [← hd] at i1
        clear hd
        have r1 := P.rc.cell hdm
        by_cases hfd : f d = -1
        · have hfd' : (f d != -1) = false := by simp [hfd]
          have HC2 : Hid (colF es (L.drop k) f U = colT es (colF es (L.drop (k' + 1))) d f U 3) := by
            show _ = _; rw [HC.out, HDR.out, colF, if_neg (by omega)]
          have HFD := Lib.hid hfd
          clear hfd
          go_wp2_with fail
          (refine wp_region_quiet_below (by kernel_rfl) (by kernel_rfl) ?_
           repeat (any_goals (go_big_quiet_step (first | fail)))
           all_goals (refine wpQuiet_nil ?_; intro wq1 hq1; replace hq1 := below_of_rg hq1))
          have P := P.below hq1
          have hbq := hbr.andB hq1
          have hbE : ¬ Mut (S s w) bc bu g := ps.nA g rfl
          have I := P.k.srcI ps.I ps.nA
          clear p3 p4 p5 zp zc i1 zg r1
          have p1 := P.cell ps.pl ps.np 1 ps.p1
          have p2 := P.cell ps.pl ps.np 2 ps.p2
          have i1 : wq1.cell? ⟨g, og + k', none⟩ = some (.int .i64 d) := by
            obtain ⟨g', og', e, I'⟩ := I (by omega)
            cases e
            have := I'.c k' hlt
            rw [this]
            have := HDR.out
            rw [gd_at hlt] at this
            have := (List.cons.inj this).1
            rw [this]
          have E := P.k.eds ps.E ps.nb
          have hde : d < es.length := by rw [hl.out]; exact hdm
          have hw := HN.out.2.2.2.2 d hde
          have d1 := E.ca d hdm
          have d2 := E.cb d hdm
          have ea1 : ea es d = ((va es d : Nat) : Int) := by unfold va; omega
          have eb1 : eb es d = ((vb es d : Nat) : Int) := by unfold vb; omega
          rw [ea1] at d1
          rw [eb1] at d2
          have hvaN : va es d < N := by unfold va; omega
          have hvbN : vb es d < N := by unfold vb; omega
          obtain ⟨xa, hxa⟩ : ∃ xa, xa = va es d := ⟨_, rfl⟩
          obtain ⟨xb, hxb⟩ : ∃ xb, xb = vb es d := ⟨_, rfl⟩
          rw [← hxa] at d1 hvaN
          rw [← hxb] at d2 hvbN
          have HXA := Lib.hid hxa
          have HXB := Lib.hid hxb
          have hkn : ((k' : Int) == L.length) = false := by simp; omega
          clear ea1 eb1 hxa hxb I E hw
          go_wp2_with fail
          obtain ⟨w1, hw1⟩ : ∃ w1, w1 = wq1.alloc (.cells #[.int .i64 xa, .int .i64 xb] 98) := ⟨_, rfl⟩
          have hba : Below wq1.heap.size wq1 w1 := by rw [hw1]; exact (Below.refl _ _).alloc (Nat.le_refl _) _
          have ce0 : w1.cell? ⟨wq1.heap.size, 0, none⟩ = some (.int .i64 xa) := by rw [hw1]; simp
          have ce1 : w1.cell? ⟨wq1.heap.size, 1, none⟩ = some (.int .i64 xb) := by rw [hw1]; simp
          have ze : wq1.heap.size < w1.heap.size := by rw [hw1]; simp
          rw [← hw1]
          clear hw1 p1 p2 i1 d1 d2
          have P1 : PW w (S s w) bc bu N m f U w1 := P.below hba
          have hbw := hbq.andB hba
          have st1 : St s w1 := HST.out s w w1 st (Kept.of hbw)
          have hsk1 := HSK.out s w w1 st (Kept.of hbw)
          have ps1 := Lib.hid (ps.kept (T := S s w1) (Kept.of hbw) (fun i hi => .inl (hsk1 i hi)) HA.out)
          have nse : ¬ S s w1 wq1.heap.size := fun h => by have := HSL.out s w st _ (hsk1 _ h); have := hbq.size; omega
          have hA1 : Hid (∀ g', blkOf (some (⟨g, og, none⟩ : Addr)) = some g' → g' < w1.heap.size) := fun g' hg => Nat.lt_of_lt_of_le (HA.out g' hg) hbw.size
          have nme : Hid (¬ Mut (S s w1) bc bu wq1.heap.size) := by
            rintro (e | e | e)
            · have := P.rc.lt; omega
            · have := P.ru.lt; omega
            · exact nse e
          have PK := P1.k
          have P2 : PW w1 (S s w1) bc bu N m f U w1 := P1.self
          have hskw := Lib.hid hsk1
          clear P P1 hbE hbq hq1 hba
          go_loopw [65] (fun xv wv => ∃ (x : Nat) (t : σ), x ≤ 3 ∧ xv = .int .i64 x ∧ Hid (runF fnd s (colT es (colF es (L.drop (k' + 1))) d f U x) = (false, t)) ∧ PW w1 (S s w1) bc bu N m f U wv ∧ St t wv ∧ Hid (∀ k'', S t wv k'' → S s w1 k'' ∨ w1.heap.size ≤ k'')) (fun x _ => 3 - (intOf x).toNat)
          case atStart => exact ⟨0, s, by omega, rfl, rfl, P2, st1, fun k'' h => .inl h⟩
          case round =>
            clear P2
            obtain ⟨w5, rfl⟩ : ∃ w5, w5 = wr := ⟨wr, rfl⟩
            obtain ⟨x, t, hx, rfl, HR, P, stt, HT⟩ := hrel
            by_cases hx3 : x < 3
            · have psx := Lib.hid (ps1.out.kept P.k HT.out hA1.out)
              have Px : PW w5 (S t w5) bc bu N m f U w5 := P.self
              have p4 := P.cell ps1.out.pl ps1.out.np 4 ps1.out.p4
              have zp := P.k.lt ps1.out.pl
              have zu := P.ru.lt
              have ra := P.ru.cell hvaN
              have rb := P.ru.cell hvbN
              have e0 := (P.k.cell ze nme.out 0).trans ce0
              have e1 := (P.k.cell ze nme.out 1).trans ce1
              have zee := P.k.lt ze
              have h8a := h8 xa
              have h8b := h8 xb
              have hor := u64_or_nat (U xa) (U xb) (by omega) (by omega)
              have h8o : U xa ||| U xb < 8 := Nat.or_lt_two_pow (n := 3) h8a h8b
              have hha := has_any (U xa ||| U xb) (x : Int) (hs := by omega) (h0 := by omega) (h1 := by omega)
              have hbx : hasB (U xa ||| U xb) (x : Int) = (U xa ||| U xb).testBit x := by unfold hasB; rw [Int.toNat_natCast]
              have HSTEP := Lib.hid (runT_step fnd es (colF es (L.drop (k' + 1))) d f U s t x HR.out)
              cases hb : (U xa ||| U xb).testBit x with
              | true =>
                rw [hbx, hb] at hha
                have HHA := Lib.hid hha
                have HR2 : Hid (runF fnd s (colT es (colF es (L.drop (k' + 1))) d f U (x + 1)) = (false, t)) := HSTEP.out.1 (by rw [← HXA.out, ← HXB.out]; exact hb)
                clear hha hb hbx h8o
                go_wp2_with fail
                (refine wp_region_quiet_below (by kernel_rfl) (by kernel_rfl) ?_
                 repeat (any_goals (go_big_quiet_step (first | (go_at_call 80; exact Is.rg (HHA.out _)))))
                 all_goals (refine wpQuiet_nil ?_; intro wq2 hq2; replace hq2 := below_of_rg hq2))
                have P3 := P.below hq2
                have st3 := HST.out t _ _ stt (Kept.of hq2)
                have HT3 : Hid (∀ k'', S t wq2 k'' → S s w1 k'' ∨ w1.heap.size ≤ k'') := fun i hi => HT.out i (HSK.out t _ _ stt (Kept.of hq2) i hi)
                clear P Px psx stt p4 ra rb e0 e1
                go_wp2_with fail
                go_roundw
                case rel => exact ⟨x + 1, t, by omega, by go_num, HR2, P3, st3, HT3⟩
                case measure => simp [intOf]; omega
              | false =>
                rw [hbx, hb] at hha
                have HHA := Lib.hid hha
                have HR2 : Hid (runF fnd s (colT es (colF es (L.drop (k' + 1))) d f U (x + 1)) = runF fnd t (colF es (L.drop (k' + 1)) (upF f d x) (givU es U d x))) := HSTEP.out.2 (by rw [← HXA.out, ← HXB.out]; exact hb)
                have HBA : Hid ((U (va es d)).testBit x = false ∧ (U (vb es d)).testBit x = false) := by
                  rw [Nat.testBit_or, Bool.or_eq_false_iff] at hb
                  rw [← HXA.out, ← HXB.out]; exact hb
                have h8g : Hid (∀ v, givU es U d x v < 8) := fun v => by
                  simp only [givU]; split
                  · exact or8 (h8 v) hx3
                  · exact h8 v
                clear hha hb hbx h8o
                go_wp2_with fail
                (refine wp_region_quiet_below (by kernel_rfl) (by kernel_rfl) ?_
                 repeat (any_goals (go_big_quiet_step (first | (go_at_call 80; exact Is.rg (HHA.out _)))))
                 all_goals (refine wpQuiet_nil ?_; intro wq2 hq2; replace hq2 := below_of_rg hq2))
                have PX := Px.below hq2
                have PY : PW wq2 (fun _ => False) bc bu N m f U wq2 := PX.self
                have st3 := HST.out t _ _ stt (Kept.of hq2)
                have hAx : Hid (∀ g', blkOf (some (⟨g, og, none⟩ : Addr)) = some g' → g' < w5.heap.size) := fun g' hg => P.k.lt (hA1.out g' hg)
                have hk3 := HSK.out t _ _ stt (Kept.of hq2)
                have psy := Lib.hid (psx.out.kept (T := S t wq2) (Kept.of hq2) (fun i hi => .inl (hk3 i hi)) hAx.out)
                have kq := Lib.hid (P.k.thenB hq2)
                have hAy : Hid (∀ g', blkOf (some (⟨g, og, none⟩ : Addr)) = some g' → g' < wq2.heap.size) := fun g' hg => Nat.lt_of_lt_of_le (hAx.out g' hg) hq2.size
                clear P Px psx stt p4 ra rb e0 e1 PX
                go_wp2_with fail
                refine (give_any psy.out.none HN.out f U d x _ PY hdm hx3 h8).mono ?_
                rintro e w6 ⟨rfl, P6⟩
                have k6 := P6.two
                have st6 := HST.out t _ _ st3 k6
                have hk6 := HSK.out t _ _ st3 k6
                have ps6 := Lib.hid (psy.out.kept (T := S t w6) k6.ofTwo (fun i hi => .inl (hk6 i hi)) hAy.out)
                have hA6 : Hid (∀ g', blkOf (some (⟨g, og, none⟩ : Addr)) = some g' → g' < w6.heap.size) := fun g' hg => k6.lt (hAy.out g' hg)
                have P6' : PW w6 (S t w6) bc bu N m (upF f d x) (givU es U d x) w6 := P6.self
                have hwk : IntKind.i64.wrap ((k' : Int) + 1) = ((k' + 1 : Nat) : Int) := by rw [IntWalk.i64_in _ (by omega)]; omega
                clear PY st3 P6
                go_wp2_with fail
                refine (IH.out (k' + 1) t (upF f d x) (givU es U d x) w6 (by omega) (by omega) (runF_go HGO.out hgo HR.out) ps6.out P6' st6 h8g.out hA6.out).mono ?_
                rintro e w7 ⟨rfl, P7, st7, hT7⟩
                have HT7 := Lib.hid hT7
                obtain ⟨r, hr⟩ : ∃ r, r = runF fnd t (colF es (L.drop (k' + 1)) (upF f d x) (givU es U d x)) := ⟨_, rfl⟩
                rw [← hr] at HR2 st7 HT7 ⊢
                have ps7 := Lib.hid (ps6.out.kept (T := S r.2 w7) P7.k HT7.out hA6.out)
                have P7' : PW w7 (fun _ => False) bc bu N m (upF f d x) (givU es U d x) w7 := P7.self
                have k7 := P7.k
                clear hr hT7 P7 P6' st6
                go_wp2_with fail
                refine (take_any ps7.out.none HN.out f U d x _ P7' hdm hx3 h8 HFD.out HBA.out.1 HBA.out.2).mono ?_
                rintro e w8 ⟨rfl, P8⟩
                have k8 := P8.two
                have st8 := HST.out r.2 _ _ st7 k8
                have HTs : Hid (∀ i, S t w6 i → S s w1 i ∨ w1.heap.size ≤ i) := fun i hi => HT.out i (hk3 i (hk6 i hi))
                have P9 : PW w1 (S s w1) bc bu N m f U w8 := ⟨((kq.out.trans k6.ofTwo).trans' k7 (mut_or HTs.out)).trans k8.ofTwo, P8.rc, P8.ru⟩
                have HT8 : Hid (∀ k'', S r.2 w8 k'' → S s w1 k'' ∨ w1.heap.size ≤ k'') := fun i hi => by
                  rcases HT7.out i (HSK.out r.2 _ _ st7 k8 i hi) with h | h
                  · exact HTs.out i h
                  · have := kq.out.size; have := k6.size; right; omega
                clear P8 P7' st7 k6 k7 k8
                obtain ⟨rb, rs⟩ := r
                cases rb with
                | true =>
                  have HE : Hid (runF fnd s (colF es (L.drop k) f U) = (true, rs)) := by
                    show _ = _; rw [HC2.out]; exact runT_true fnd es _ d f U s rs (x + 1) HR2.out 3 (by omega)
                  go_wp2_with fail
                  go_ret
                  rw [HE.out]
                  refine ⟨rfl, P9.root PK (fun i hi => .inl (hskw.out i hi)), st8, fun i hi => ?_⟩
                  rcases HT8.out i hi with h | h
                  · exact .inl (hskw.out i h)
                  · have := hbw.size; right; omega
                | false =>
                  go_wp2_with fail
                  go_roundw
                  case rel => exact ⟨x + 1, rs, by omega, by go_num, HR2, P9, st8, HT8⟩
                  case measure => simp [intOf]; omega
            · obtain rfl : x = 3 := by omega
              have HE : Hid (runF fnd s (colF es (L.drop k) f U) = (false, t)) := by
                show _ = _; rw [HC2.out]; exact HR.out
              have hx33 : ((3 : Nat) : Int) = 3 := rfl
              go_wp2_with fail
              go_ret
              rw [HE.out]
              refine ⟨rfl, P.root PK (fun i hi => .inl (hskw.out i hi)), stt, fun i hi => ?_⟩
              rcases HT.out i hi with h | h
              · exact .inl (hskw.out i h)
              · have := hbw.size; right; omega
        · have hfd' : (f d != -1) = true := by simp [hfd]
          have HC2 : Hid (colF es (L.drop k) f U = colF es (L.drop (k' + 1)) f U) := by
            show _ = _; rw [HC.out, HDR.out, colF, if_pos hfd]
          go_wp2_with fail
          (refine wp_region_quiet_below (by kernel_rfl) (by kernel_rfl) ?_
           repeat (any_goals (go_big_quiet_step (first | fail)))
           all_goals (refine wpQuiet_nil ?_; intro wq1 hq1; replace hq1 := below_of_rg hq1))
          have hbq := hbr.andB hq1
          clear P p2 p3 p4 p5 zp zc r1 i1 I zg hfd
          go_wp2_with fail
          go_roundw
          case rel => exact ⟨k' + 1, by omega, by omega, by go_num, HC2, hbq⟩
          case measure => simp [intOf]; omega
      · obtain rfl : k' = L.length := by omega
        have HE : Hid (colF es (L.drop k) f U = [f]) := by
          show _ = _; rw [HC.out, List.drop_length]; rfl
        have st1 : St s wr := HST.out s w wr st (Kept.of hbr)
        have hkn : ((L.length : Int) == L.length) = true := by simp
        have zA := P.ru.lt
        go_wp2_with fail
        (refine wp_region_quiet_below (by kernel_rfl) (by kernel_rfl) ?_
         repeat (any_goals (go_big_quiet_step (first | fail)))
         all_goals (refine wpQuiet_nil ?_; intro wq1 hq1; replace hq1 := below_of_rg hq1))
        have P := P.below hq1
        have p2 := P.cell ps.pl ps.np 2 ps.p2
        have p3 := P.cell ps.pl ps.np 3 ps.p3
        have p5 := P.cell ps.pl ps.np 5 ps.p5
        go_wp2_with fail
        go_still_tail 8, (by kernel_rfl)
        change wpList _ _ _ _ _ wq1.drew
        go_wp2_with fail
        have kd : Kept (fun k => k = bc ∨ k = bu) w wq1.drew := ((Kept.of hbr).thenB hq1).drew
        have hkd := HSK.out s w _ st kd
        have psd := ps.kept (T := S s wq1.drew) kd.ofTwo (fun i hi => .inl (hkd i hi)) HA.out
        have Pd : PW wq1.drew (S s wq1.drew) bc bu N m f U wq1.drew := P.drew.self
        refine (HF.out s f U _ hgo psd Pd (HST.out s w _ st kd)).mono ?_
        rintro e w9 ⟨rfl, P9, st9, hT9⟩
        go_wp2_with fail
        go_ret
        rw [HE.out]
        have hR : runF fnd s [f] = ((fnd s f).1, (fnd s f).2) := by
          simp only [runF]; cases hq : (fnd s f).1 <;> simp
        rw [hR]
        refine ⟨rfl, P9.root kd.ofTwo (fun i hi => .inl (hkd i hi)), st9, fun i hi => ?_⟩
        rcases hT9 i hi with h | h
        · exact .inl (hkd i h)
        · have := kd.size; right; omega
end Go.Proofs.Ytppfplhbfgjjhaa
