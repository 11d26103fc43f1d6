import Derived.ArgAppend
import Derived.Deep.AppendLies
import Derived.Test.YtajnhkkiddeegaaGreatZc10
set_option linter.unusedVariables false
set_option linter.unusedSimpArgs false
namespace Go.Proofs.YtajnhkkiddeegaaGreat
open Go.RowKit Go.Sort
theorem Kept.trans' {S T : Nat → Prop} {a b c : World} (h : Kept S a b) (k : Kept T b c) (hT : ∀ i, T i → S i ∨ a.heap.size ≤ i) : Kept S a c :=
  ⟨k.os.trans h.os, k.tape.trans h.tape, k.output.trans h.output, Nat.le_trans h.size k.size, fun i hi hs => (k.block i (Nat.lt_of_lt_of_le hi h.size) (fun x => by rcases hT i x with y | y; exact hs y; omega)).trans (h.block i hi hs)⟩
theorem mut_or {S T : Nat → Prop} {bc bu n : Nat} (h : ∀ i, T i → S i ∨ n ≤ i) : ∀ i, Mut T bc bu i → Mut S bc bu i ∨ n ≤ i := fun i hi => by
  rcases hi with e | e | e
  · exact .inl (.inl e)
  · exact .inl (.inr (.inl e))
  · rcases h i e with x | x
    · exact .inl (.inr (.inr x))
    · exact .inr x
theorem Kept.srcI {S : Nat → Prop} {w w' : World} (h : Kept S w w') {A : Option Addr} {m : Nat} {f : Nat → Int} (I : SrcI w A m f) (hs : ∀ g, blkOf A = some g → ¬ S g) : SrcI w' A m f := fun hm => by
  obtain ⟨b, o, e, I1⟩ := I hm
  exact ⟨b, o, e, h.ints I1 (hs b (by rw [e]; rfl))⟩
theorem PS.kept {w w' : World} {S T : Nat → Prop} {bp bc bu N m : Nat} {A : Option Addr} {cA : Nat} {L : List Nat} {b o c cc cu : Nat} {es : List (Int × Int)} {fv : Value} (ps : PS w S bp bc bu N m A cA L b o c cc cu es fv) (k : Kept (Mut S bc bu) w w') (hT : ∀ i, T i → S i ∨ w.heap.size ≤ i) (hA : ∀ g, blkOf A = some g → g < w.heap.size) : PS w' T bp bc bu N m A cA L b o c cc cu es fv where
  p0 := (k.cell ps.pl ps.np 0).trans ps.p0
  p1 := (k.cell ps.pl ps.np 1).trans ps.p1
  p2 := (k.cell ps.pl ps.np 2).trans ps.p2
  p3 := (k.cell ps.pl ps.np 3).trans ps.p3
  p4 := (k.cell ps.pl ps.np 4).trans ps.p4
  p5 := (k.cell ps.pl ps.np 5).trans ps.p5
  pl := k.lt ps.pl
  E := k.eds ps.E ps.nb
  I := k.srcI ps.I ps.nA
  hL := ps.hL
  np := fun h => by rcases mut_or hT _ h with x | x; exact ps.np x; have := ps.pl; omega
  nb := fun h => by rcases mut_or hT _ h with x | x; exact ps.nb x; have := ps.E.blk; omega
  nA := fun g hg h => by rcases mut_or hT _ h with x | x; exact ps.nA g hg x; have := hA g hg; omega
  ne := ps.ne
theorem PW.root {w w1 w2 : World} {S T : Nat → Prop} {bc bu N m : Nat} {f : Nat → Int} {U : Nat → Nat} (h : PW w1 T bc bu N m f U w2) (k : Kept (Mut S bc bu) w w1) (hT : ∀ i, T i → S i ∨ w.heap.size ≤ i) : PW w S bc bu N m f U w2 :=
  ⟨k.trans' h.k (mut_or hT), h.rc, h.ru⟩
theorem PW.self {w w1 : World} {S T : Nat → Prop} {bc bu N m : Nat} {f : Nat → Int} {U : Nat → Nat} (h : PW w S bc bu N m f U w1) : PW w1 T bc bu N m f U w1 := ⟨Kept.refl _ _, h.rc, h.ru⟩
theorem PS.none {w : World} {S : Nat → Prop} {bp bc bu N m : Nat} {A : Option Addr} {cA : Nat} {L : List Nat} {b o c cc cu : Nat} {es : List (Int × Int)} {fv : Value} (ps : PS w S bp bc bu N m A cA L b o c cc cu es fv) : PS w (fun _ => False) bp bc bu N m A cA L b o c cc cu es fv :=
  ⟨ps.p0, ps.p1, ps.p2, ps.p3, ps.p4, ps.p5, ps.pl, ps.E, ps.I, ps.hL, fun h => ps.np (h.imp id (Or.imp id False.elim)), fun h => ps.nb (h.imp id (Or.imp id False.elim)), fun g hg h => ps.nA g hg (h.imp id (Or.imp id False.elim)), ps.ne⟩
theorem PW.two {w w1 : World} {bc bu N m : Nat} {f : Nat → Int} {U : Nat → Nat} (h : PW w (fun _ => False) bc bu N m f U w1) : Kept (fun k => k = bc ∨ k = bu) w w1 := h.k.wide fun _ hk => hk.imp id (Or.resolve_right · id)
theorem Kept.ofTwo {w w1 : World} {S : Nat → Prop} {bc bu : Nat} (h : Kept (fun k => k = bc ∨ k = bu) w w1) : Kept (Mut S bc bu) w w1 := h.wide fun _ hk => hk.imp id .inl
theorem gd_at {L : List Nat} {k : Nat} (h : k < L.length) : L.drop k = L.getD k 0 :: L.drop (k + 1) := by
  rw [List.drop_eq_getElem_cons h]; simp [h]
theorem gd_mem {L : List Nat} {k : Nat} (h : k < L.length) : L.getD k 0 ∈ L := by simp [h]
theorem runT_true {σ : Type} (fnd : σ → (Nat → Int) → Bool × σ) (es : List (Int × Int)) (rec : (Nat → Int) → (Nat → Nat) → List (Nat → Int)) (e : Nat) (f : Nat → Int) (U : Nat → Nat) (s s' : σ) (x : Nat) (h : runF fnd s (colT es rec e f U x) = (true, s')) :
    ∀ y, x ≤ y → runF fnd s (colT es rec e f U y) = (true, s') := by
  intro y
  induction y with
  | zero => intro hy; obtain rfl : x = 0 := by omega
            exact h
  | succ y ih =>
    intro hy
    by_cases e : x = y + 1
    · subst e; exact h
    · rw [colT, runF_app, ih (by omega)]; rfl
theorem runT_step {σ : Type} (fnd : σ → (Nat → Int) → Bool × σ) (es : List (Int × Int)) (rec : (Nat → Int) → (Nat → Nat) → List (Nat → Int)) (e : Nat) (f : Nat → Int) (U : Nat → Nat) (s s' : σ) (x : Nat) (h : runF fnd s (colT es rec e f U x) = (false, s')) :
    ((U (va es e) ||| U (vb es e)).testBit x = true → runF fnd s (colT es rec e f U (x + 1)) = (false, s')) ∧ ((U (va es e) ||| U (vb es e)).testBit x = false → runF fnd s (colT es rec e f U (x + 1)) = runF fnd s' (rec (upF f e x) (givU es U e x))) := by
  constructor
  · intro hb; rw [colT, runF_app, h, hb]; rfl
  · intro hb; rw [colT, runF_app, h, hb]; rfl
set_option maxRecDepth 100000 in
set_option maxHeartbeats 4000000 in
theorem paint_any {σ : Type} (St : σ → World → Prop) (S : σ → Nat → Prop) (fnd : σ → (Nat → Int) → Bool × σ) (fid : FuncId) (caps : Array Value)
    {bp bc bu N m : Nat} {A : Option Addr} {cA : Nat} {L : List Nat} {b o c cc cu : Nat} {es : List (Int × Int)} (hn : WfP N es) (hm : m ≤ 1048576) (hLl : L.length ≤ 1048576)
    (he : Enters fid)
    (hSt : ∀ s w w', St s w → Kept (fun k => k = bc ∨ k = bu) w w' → St s w')
    (hSlt : ∀ s w, St s w → ∀ k, S s k → k < w.heap.size)
    (hfound : ∀ s f U w, PS w (S s) bp bc bu N m A cA L b o c cc cu es (.func (.func fid) #[] caps) → PW w (S s) bc bu N m f U w → St s w →
      Calls Tryz.prog fid (#[.slice (some ⟨bc, 0, none⟩) m cc] ++ caps) w (fun e w' => e = .returned (.bool (fnd s f).1) ∧ PW w (S s) bc bu N m f U w' ∧ St (fnd s f).2 w' ∧ ∀ k, S (fnd s f).2 k → S s k ∨ w.heap.size ≤ k)) :
    ∀ (j k : Nat) (s : σ) (f : Nat → Int) (U : Nat → Nat) (w : World), L.length - k < j → k ≤ L.length → PS w (S s) bp bc bu N m A cA L b o c cc cu es (.func (.func fid) #[] caps) → PW w (S s) bc bu N m f U w → St s w → (∀ v, U v < 8) → (∀ g, blkOf A = some g → g < w.heap.size) →
      Calls Tryz.prog 106 #[.pointer (some ⟨bp, 0, none⟩), .int .i64 k] w (fun e w' => e = .returned (.bool (runF fnd s (colF es (L.drop k) f U)).1) ∧ PW w (S s) bc bu N m f U w' ∧ St (runF fnd s (colF es (L.drop k) f U)).2 w' ∧ ∀ k', S (runF fnd s (colF es (L.drop k) f U)).2 k' → S s k' ∨ w.heap.size ≤ k') := by
  have KC := cell_rg
  have HF := Lib.hid hfound
  have he1 := he
  unfold Enters at he1
  have HN := Lib.hid hn
  have HST := Lib.hid hSt
  have HSL := Lib.hid hSlt
  clear hfound he hn hSt hSlt
  intro j
  induction j with
  | zero => intro k s f U w h; omega
  | succ j ih =>
    intro k s f U w hj hk ps pw st h8 hA
    have IH := Lib.hid ih
    have hl := Lib.hid ps.E.len
    have HA := Lib.hid hA
    clear ih hA
    go_enter Tryz.func106, Tryz.ntmps106
    go_wp2_with fail
    go_loopw [1] (fun kv wv => ∃ k' : Nat, k ≤ k' ∧ k' ≤ L.length ∧ kv = .int .i64 k' ∧ Hid (colF es (L.drop k) f U = colF es (L.drop k') f U) ∧ Below w.heap.size w wv) (fun k _ => L.length + 1 - (intOf k).toNat)
    case atStart => exact ⟨k, Nat.le_refl _, hk, rfl, rfl, Below.refl _ _⟩
    case round =>
      obtain ⟨k', hkk, hkl, rfl, HC, hbr⟩ := hrel
      have P := pw.below hbr
      have p2 := P.cell ps.pl ps.np 2 ps.p2
      have p3 := P.cell ps.pl ps.np 3 ps.p3
      have p4 := P.cell ps.pl ps.np 4 ps.p4
      have p5 := P.cell ps.pl ps.np 5 ps.p5
      have zp := P.k.lt ps.pl
      have zc := P.rc.lt
      by_cases hlt : k' < L.length
      · obtain ⟨g, og, rfl, I⟩ := (P.k.srcI ps.I ps.nA) (by omega)
        have i1 := I.c k' hlt
        have zg := I.blk
        obtain ⟨d, hd⟩ : ∃ d, d = L.getD k' 0 := ⟨_, rfl⟩
        have hdm : d < m := by rw [hd]; exact ps.hL _ (gd_mem hlt)
        have HDR : Hid (L.drop k' = d :: L.drop (k' + 1)) := by show _ = _; rw [hd]; exact gd_at hlt
        rw [← hd] at i1
        clear hd
        have r1 := P.rc.cell hdm
        by_cases hfd : f d = -1
        · have hfd' : (f d != -1) = false := by simp [hfd]
          have HC2 : Hid (colF es (L.drop k) f U = colT es (colF es (L.drop (k' + 1))) d f U 3) := by
            show _ = _; rw [HC.out, HDR.out, colF, if_neg (by omega)]
          have HFD := Lib.hid hfd
          clear hfd
          go_wp2_with fail
          (refine wp_region_quiet_below (by kernel_rfl) (by kernel_rfl) ?_
           repeat (any_goals (go_big_quiet_step (first | fail)))
           all_goals (refine wpQuiet_nil ?_; intro wq1 hq1; replace hq1 := below_of_rg hq1))
          have P := P.below hq1
          have hbq := hbr.andB hq1
          have hbE : ¬ Mut (S s) bc bu g := ps.nA g rfl
          have I := P.k.srcI ps.I ps.nA
          clear p3 p4 p5 zp zc i1 zg r1
          have p1 := P.cell ps.pl ps.np 1 ps.p1
          have p2 := P.cell ps.pl ps.np 2 ps.p2
          have i1 : wq1.cell? ⟨g, og + k', none⟩ = some (.int .i64 d) := by
            obtain ⟨g', og', e, I'⟩ := I (by omega)
            cases e
            have := I'.c k' hlt
            rw [this]
            have := HDR.out
            rw [gd_at hlt] at this
            have := (List.cons.inj this).1
            rw [this]
          have E := P.k.eds ps.E ps.nb
          have hde : d < es.length := by rw [hl.out]; exact hdm
          have hw := HN.out.2.2.2.2 d hde
          have d1 := E.ca d hdm
          have d2 := E.cb d hdm
          have ea1 : ea es d = ((va es d : Nat) : Int) := by unfold va; omega
          have eb1 : eb es d = ((vb es d : Nat) : Int) := by unfold vb; omega
          rw [ea1] at d1
          rw [eb1] at d2
          have hvaN : va es d < N := by unfold va; omega
          have hvbN : vb es d < N := by unfold vb; omega
          obtain ⟨xa, hxa⟩ : ∃ xa, xa = va es d := ⟨_, rfl⟩
          obtain ⟨xb, hxb⟩ : ∃ xb, xb = vb es d := ⟨_, rfl⟩
          rw [← hxa] at d1 hvaN
          rw [← hxb] at d2 hvbN
          have HXA := Lib.hid hxa
          have HXB := Lib.hid hxb
          have hkn : ((k' : Int) == L.length) = false := by simp; omega
          clear ea1 eb1 hxa hxb I E hw
          go_wp2_with fail
          obtain ⟨w1, hw1⟩ : ∃ w1, w1 = wq1.alloc (.cells #[.int .i64 xa, .int .i64 xb] 78) := ⟨_, rfl⟩
          have hba : Below wq1.heap.size wq1 w1 := by rw [hw1]; exact (Below.refl _ _).alloc (Nat.le_refl _) _
          have ce0 : w1.cell? ⟨wq1.heap.size, 0, none⟩ = some (.int .i64 xa) := by rw [hw1]; simp
          have ce1 : w1.cell? ⟨wq1.heap.size, 1, none⟩ = some (.int .i64 xb) := by rw [hw1]; simp
          have ze : wq1.heap.size < w1.heap.size := by rw [hw1]; simp
          rw [← hw1]
          clear hw1 p1 p2 i1 d1 d2
          have P1 : PW w (S s) bc bu N m f U w1 := P.below hba
          have hbw := hbq.andB hba
          have st1 : St s w1 := HST.out s w w1 st (Kept.of hbw)
          have ps1 := Lib.hid (ps.kept (T := S s) (Kept.of hbw) (fun i hi => .inl hi) HA.out)
          have nse : ¬ S s wq1.heap.size := fun h => by have := HSL.out s w st _ h; have := hbq.size; omega
          have hA1 : Hid (∀ g', blkOf (some (⟨g, og, none⟩ : Addr)) = some g' → g' < w1.heap.size) := fun g' hg => Nat.lt_of_lt_of_le (HA.out g' hg) hbw.size
          have nme : Hid (¬ Mut (S s) bc bu wq1.heap.size) := by
            rintro (e | e | e)
            · have := P.rc.lt; omega
            · have := P.ru.lt; omega
            · exact nse e
          have PK := P1.k
          have P2 : PW w1 (S s) bc bu N m f U w1 := P1.self
          clear P P1 hbE hbq hq1 hba
          go_loopw [65] (fun xv wv => ∃ (x : Nat) (t : σ), x ≤ 3 ∧ xv = .int .i64 x ∧ Hid (runF fnd s (colT es (colF es (L.drop (k' + 1))) d f U x) = (false, t)) ∧ PW w1 (S s) bc bu N m f U wv ∧ St t wv ∧ Hid (∀ k'', S t k'' → S s k'' ∨ w1.heap.size ≤ k'')) (fun x _ => 3 - (intOf x).toNat)
          case atStart => exact ⟨0, s, by omega, rfl, rfl, P2, st1, fun k'' h => .inl h⟩
          case round =>
            clear P2
            obtain ⟨w5, rfl⟩ : ∃ w5, w5 = wr := ⟨wr, rfl⟩
            obtain ⟨x, t, hx, rfl, HR, P, stt, HT⟩ := hrel
            by_cases hx3 : x < 3
            · have psx := Lib.hid (ps1.out.kept P.k HT.out hA1.out)
              have Px : PW w5 (S t) bc bu N m f U w5 := P.self
              have p4 := P.cell ps1.out.pl ps1.out.np 4 ps1.out.p4
              have zp := P.k.lt ps1.out.pl
              have zu := P.ru.lt
              have ra := P.ru.cell hvaN
              have rb := P.ru.cell hvbN
              have e0 := (P.k.cell ze nme.out 0).trans ce0
              have e1 := (P.k.cell ze nme.out 1).trans ce1
              have zee := P.k.lt ze
              have h8a := h8 xa
              have h8b := h8 xb
              have hor := u64_or_nat (U xa) (U xb) (by omega) (by omega)
              have h8o : U xa ||| U xb < 8 := Nat.or_lt_two_pow (n := 3) h8a h8b
              have hha := has_any (U xa ||| U xb) (x : Int) (hs := by omega) (h0 := by omega) (h1 := by omega)
              have hbx : hasB (U xa ||| U xb) (x : Int) = (U xa ||| U xb).testBit x := by unfold hasB; rw [Int.toNat_natCast]
              have HSTEP := Lib.hid (runT_step fnd es (colF es (L.drop (k' + 1))) d f U s t x HR.out)
              cases hb : (U xa ||| U xb).testBit x with
              | true =>
                rw [hbx, hb] at hha
                have HHA := Lib.hid hha
                have HR2 : Hid (runF fnd s (colT es (colF es (L.drop (k' + 1))) d f U (x + 1)) = (false, t)) := HSTEP.out.1 (by rw [← HXA.out, ← HXB.out]; exact hb)
                clear hha hb hbx h8o
                go_wp2_with fail
                (refine wp_region_quiet_below (by kernel_rfl) (by kernel_rfl) ?_
                 repeat (any_goals (go_big_quiet_step (first | (go_at_call 105; exact Is.rg (HHA.out _)))))
                 all_goals (refine wpQuiet_nil ?_; intro wq2 hq2; replace hq2 := below_of_rg hq2))
                have P3 := P.below hq2
                have st3 := HST.out t _ _ stt (Kept.of hq2)
                clear P Px psx stt p4 ra rb e0 e1
                go_wp2_with fail
                go_roundw
                case rel => exact ⟨x + 1, t, by omega, by go_num, HR2, P3, st3, HT⟩
                case measure => simp [intOf]; omega
              | false =>
                rw [hbx, hb] at hha
                have HHA := Lib.hid hha
                have HR2 : Hid (runF fnd s (colT es (colF es (L.drop (k' + 1))) d f U (x + 1)) = runF fnd t (colF es (L.drop (k' + 1)) (upF f d x) (givU es U d x))) := HSTEP.out.2 (by rw [← HXA.out, ← HXB.out]; exact hb)
                have HBA : Hid ((U (va es d)).testBit x = false ∧ (U (vb es d)).testBit x = false) := by
                  rw [Nat.testBit_or, Bool.or_eq_false_iff] at hb
                  rw [← HXA.out, ← HXB.out]; exact hb
                have h8g : Hid (∀ v, givU es U d x v < 8) := fun v => by
                  simp only [givU]; split
                  · exact or8 (h8 v) hx3
                  · exact h8 v
                clear hha hb hbx h8o
                go_wp2_with fail
                (refine wp_region_quiet_below (by kernel_rfl) (by kernel_rfl) ?_
                 repeat (any_goals (go_big_quiet_step (first | (go_at_call 105; exact Is.rg (HHA.out _)))))
                 all_goals (refine wpQuiet_nil ?_; intro wq2 hq2; replace hq2 := below_of_rg hq2))
                have PX := Px.below hq2
                have PY : PW wq2 (fun _ => False) bc bu N m f U wq2 := PX.self
                have st3 := HST.out t _ _ stt (Kept.of hq2)
                have hAx : Hid (∀ g', blkOf (some (⟨g, og, none⟩ : Addr)) = some g' → g' < w5.heap.size) := fun g' hg => P.k.lt (hA1.out g' hg)
                have psy := Lib.hid (psx.out.kept (T := S t) (Kept.of hq2) (fun i hi => .inl hi) hAx.out)
                have kq := Lib.hid (P.k.thenB hq2)
                have hAy : Hid (∀ g', blkOf (some (⟨g, og, none⟩ : Addr)) = some g' → g' < wq2.heap.size) := fun g' hg => Nat.lt_of_lt_of_le (hAx.out g' hg) hq2.size
                clear P Px psx stt p4 ra rb e0 e1 PX
                go_wp2_with fail
                refine (give_any psy.out.none HN.out f U d x _ PY hdm hx3 h8).mono ?_
                rintro e w6 ⟨rfl, P6⟩
                have k6 := P6.two
                have st6 := HST.out t _ _ st3 k6
                have ps6 := Lib.hid (psy.out.kept (T := S t) k6.ofTwo (fun i hi => .inl hi) hAy.out)
                have hA6 : Hid (∀ g', blkOf (some (⟨g, og, none⟩ : Addr)) = some g' → g' < w6.heap.size) := fun g' hg => k6.lt (hAy.out g' hg)
                have P6' : PW w6 (S t) bc bu N m (upF f d x) (givU es U d x) w6 := P6.self
                have hwk : IntKind.i64.wrap ((k' : Int) + 1) = ((k' + 1 : Nat) : Int) := by rw [IntWalk.i64_in _ (by omega)]; omega
                clear PY st3 P6
                go_wp2_with fail
                refine (IH.out (k' + 1) t (upF f d x) (givU es U d x) w6 (by omega) (by omega) ps6.out P6' st6 h8g.out hA6.out).mono ?_
                rintro e w7 ⟨rfl, P7, st7, hT7⟩
                have HT7 := Lib.hid hT7
                obtain ⟨r, hr⟩ : ∃ r, r = runF fnd t (colF es (L.drop (k' + 1)) (upF f d x) (givU es U d x)) := ⟨_, rfl⟩
                rw [← hr] at HR2 st7 HT7 ⊢
                have ps7 := Lib.hid (ps6.out.kept (T := S r.2) P7.k HT7.out hA6.out)
                have P7' : PW w7 (fun _ => False) bc bu N m (upF f d x) (givU es U d x) w7 := P7.self
                have k7 := P7.k
                clear hr hT7 P7 P6' st6
                go_wp2_with fail
                refine (take_any ps7.out.none HN.out f U d x _ P7' hdm hx3 h8 HFD.out HBA.out.1 HBA.out.2).mono ?_
                rintro e w8 ⟨rfl, P8⟩
                have k8 := P8.two
                have st8 := HST.out r.2 _ _ st7 k8
                have HTs : Hid (∀ i, S t i → S s i ∨ w1.heap.size ≤ i) := HT
                have P9 : PW w1 (S s) bc bu N m f U w8 := ⟨((kq.out.trans k6.ofTwo).trans' k7 (mut_or HTs.out)).trans k8.ofTwo, P8.rc, P8.ru⟩
                have HT8 : Hid (∀ k'', S r.2 k'' → S s k'' ∨ w1.heap.size ≤ k'') := fun i hi => by
                  rcases HT7.out i hi with h | h
                  · exact HTs.out i h
                  · have := kq.out.size; have := k6.size; right; omega
                clear P8 P7' st7 k6 k7 k8
                obtain ⟨rb, rs⟩ := r
                cases rb with
                | true =>
                  have HE : Hid (runF fnd s (colF es (L.drop k) f U) = (true, rs)) := by
                    show _ = _; rw [HC2.out]; exact runT_true fnd es _ d f U s rs (x + 1) HR2.out 3 (by omega)
                  go_wp2_with fail
                  go_ret
                  rw [HE.out]
                  refine ⟨rfl, P9.root PK (fun i hi => .inl hi), st8, fun i hi => ?_⟩
                  rcases HT8.out i hi with h | h
                  · exact .inl h
                  · have := hbw.size; right; omega
                | false =>
                  go_wp2_with fail
                  go_roundw
                  case rel => exact ⟨x + 1, rs, by omega, by go_num, HR2, P9, st8, HT8⟩
                  case measure => simp [intOf]; omega
            · obtain rfl : x = 3 := by omega
              have HE : Hid (runF fnd s (colF es (L.drop k) f U) = (false, t)) := by
                show _ = _; rw [HC2.out]; exact HR.out
              have hx33 : ((3 : Nat) : Int) = 3 := rfl
              go_wp2_with fail
              go_ret
              rw [HE.out]
              refine ⟨rfl, P.root PK (fun i hi => .inl hi), stt, fun i hi => ?_⟩
              rcases HT.out i hi with h | h
              · exact .inl h
              · have := hbw.size; right; omega
        · have hfd' : (f d != -1) = true := by simp [hfd]
          have HC2 : Hid (colF es (L.drop k) f U = colF es (L.drop (k' + 1)) f U) := by
            show _ = _; rw [HC.out, HDR.out, colF, if_pos hfd]
          go_wp2_with fail
          (refine wp_region_quiet_below (by kernel_rfl) (by kernel_rfl) ?_
           repeat (any_goals (go_big_quiet_step (first | fail)))
           all_goals (refine wpQuiet_nil ?_; intro wq1 hq1; replace hq1 := below_of_rg hq1))
          have hbq := hbr.andB hq1
          clear P p2 p3 p4 p5 zp zc r1 i1 I zg hfd
          go_wp2_with fail
          go_roundw
          case rel => exact ⟨k' + 1, by omega, by omega, by go_num, HC2, hbq⟩
          case measure => simp [intOf]; omega
      · obtain rfl : k' = L.length := by omega
        have HE : Hid (colF es (L.drop k) f U = [f]) := by
          show _ = _; rw [HC.out, List.drop_length]; rfl
        have st1 : St s wr := HST.out s w wr st (Kept.of hbr)
        have ps1 := Lib.hid (ps.kept (T := S s) (Kept.of hbr) (fun i hi => .inl hi) HA.out)
        have P1 : PW wr (S s) bc bu N m f U wr := P.self
        have hkn : ((L.length : Int) == L.length) = true := by simp
        have zA := P.ru.lt
        go_wp2_with fail
        (refine wp_region_quiet_below (by kernel_rfl) (by kernel_rfl) ?_
         repeat (any_goals (go_big_quiet_step (first | fail)))
         all_goals (refine wpQuiet_nil ?_; intro wq1 hq1; replace hq1 := below_of_rg hq1))
        have P := P.below hq1
        have p2 := P.cell ps.pl ps.np 2 ps.p2
        have p3 := P.cell ps.pl ps.np 3 ps.p3
        have p5 := P.cell ps.pl ps.np 5 ps.p5
        go_wp2_with fail
        go_still_tail 8, (by kernel_rfl)
        change wpList _ _ _ _ _ wq1.drew
        go_wp2_with fail
        have kd : Kept (fun k => k = bc ∨ k = bu) w wq1.drew := ((Kept.of hbr).thenB hq1).drew
        have psd := ps.kept (T := S s) kd.ofTwo (fun i hi => .inl hi) HA.out
        have Pd : PW wq1.drew (S s) bc bu N m f U wq1.drew := P.drew.self
        refine (HF.out s f U _ psd Pd (HST.out s w _ st kd)).mono ?_
        rintro e w9 ⟨rfl, P9, st9, hT9⟩
        go_wp2_with fail
        go_ret
        rw [HE.out]
        have hR : runF fnd s [f] = ((fnd s f).1, (fnd s f).2) := by
          simp only [runF]; cases hq : (fnd s f).1 <;> simp
        rw [hR]
        refine ⟨rfl, P9.root kd.ofTwo (fun i hi => .inl hi), st9, fun i hi => ?_⟩
        rcases hT9 i hi with h | h
        · exact .inl h
        · have := kd.size; right; omega
end Go.Proofs.YtajnhkkiddeegaaGreat
namespace Go.Proofs.YtajnhkkiddeegaaGreat
open Go.RowKit Go.Sort
def OwnQ (base : Nat) (w : World) (A : Option Addr) (m c : Nat) (xs : List Int) : Prop :=
  xs.length = m ∧ m ≤ c ∧ c ≤ maxLen ∧ ∃ g o cur, A = some ⟨g, o, none⟩ ∧ base ≤ g ∧ w.heap[g]? = some (.cells cur 2 (0, 0)) ∧ (c = 0 ∨ cur.size = o + c) ∧ ∀ j, j < m → cur[o + j]? = some (.int .i64 (ia xs j))
theorem OwnQ.len {base : Nat} {w : World} {A : Option Addr} {m c : Nat} {xs : List Int} (h : OwnQ base w A m c xs) : xs.length = m := h.1
theorem OwnQ.le {base : Nat} {w : World} {A : Option Addr} {m c : Nat} {xs : List Int} (h : OwnQ base w A m c xs) : m ≤ c ∧ c ≤ maxLen := ⟨h.2.1, h.2.2.1⟩
theorem OwnQ.src {base : Nat} {w : World} {A : Option Addr} {m c : Nat} {xs : List Int} (h : OwnQ base w A m c xs) : ∃ g o, A = some ⟨g, o, none⟩ ∧ base ≤ g ∧ g < w.heap.size ∧ Ints w g o m (ia xs) := by
  obtain ⟨_, _, _, g, o, cur, rfl, hb, hg, _, hc⟩ := h
  have hlt : g < w.heap.size := (Array.getElem?_eq_some_iff.1 hg).1
  exact ⟨g, o, rfl, hb, hlt, hlt, fun j hj => by rw [cell_of_row w g (o + j) cur 2 (0, 0) hg]; exact hc j hj⟩
theorem OwnQ.kept {base : Nat} {w w' : World} {A : Option Addr} {m c : Nat} {xs : List Int} {row : Option Nat} (h : OwnQ base w A m c xs) (hg : w.grownBy w' row) (hne : ∀ g, blkOf A = some g → some g ≠ row) : OwnQ base w' A m c xs := by
  obtain ⟨h1, h2, h3, g, o, cur, rfl, hb, hh, r⟩ := h
  exact ⟨h1, h2, h3, g, o, cur, rfl, hb, (hg.block g (Array.getElem?_eq_some_iff.1 hh).1 (hne g rfl)).trans hh, r⟩
theorem OwnQ.below {base : Nat} {w w' : World} {A : Option Addr} {m c : Nat} {xs : List Int} (h : OwnQ base w A m c xs) (hb : Below w.heap.size w w') : OwnQ base w' A m c xs :=
  h.kept (row := none) (below_grownBy hb none) (fun _ _ e => by cases e)
theorem OwnQ.blk {base : Nat} {w : World} {A : Option Addr} {m c : Nat} {xs : List Int} (h : OwnQ base w A m c xs) : ∀ g, blkOf A = some g → base ≤ g ∧ g < w.heap.size := by
  obtain ⟨g, o, rfl, hb, hg, _⟩ := h.src
  intro g' e
  simp [blkOf] at e; omega
/-- A list of one number, just laid. -/
theorem OwnQ.made (base : Nat) (w : World) (x : Int) (hb : base ≤ w.heap.size) : OwnQ base (w.alloc (.cells #[.int .i64 x] 2)) (some ⟨w.heap.size, 0, none⟩) 1 1 [x] := by
  refine ⟨rfl, Nat.le_refl _, by unfold maxLen; omega, w.heap.size, 0, #[.int .i64 x], rfl, hb, heap_alloc_new w _, .inr rfl, fun j hj => ?_⟩
  obtain rfl : j = 0 := by omega
  rfl
/-- Cut at its head. -/
theorem OwnQ.tail {base : Nat} {w : World} {g o m c : Nat} {xs : List Int} (h : OwnQ base w (some ⟨g, o, none⟩) (m + 1) c xs) : OwnQ base w (some ⟨g, if c = 1 then o else o + 1, none⟩) m (c - 1) (xs.drop 1) := by
  obtain ⟨h1, h2, h3, g', o', cur, e, hb, hh, hs, hc⟩ := h
  simp only [Option.some.injEq, Addr.mk.injEq, and_true] at e
  obtain ⟨rfl, rfl⟩ := e
  refine ⟨by simp; omega, by omega, by omega, g, _, cur, rfl, hb, hh, ?_, fun j hj => ?_⟩
  · by_cases e : c = 1
    · exact .inl (by omega)
    · rw [if_neg e]; right; omega
  · have := hc (j + 1) (by omega)
    rw [if_neg (by omega), show o + 1 + j = o + (j + 1) by omega, this]
    simp [ia]
theorem OwnQ.ofRow {base : Nat} {w : World} {v : Value} {m : Nat} {xs : List Int} (h : w.ownsRow base 2 1 v m (nums xs)) (hm : 0 < m) : ∃ g c, v = .slice (some ⟨g, 0, none⟩) m c ∧ OwnQ base w (some ⟨g, 0, none⟩) m c xs := by
  have hl : xs.length = m := by have := h.1; simp [nums] at this; omega
  rcases h.2 with ⟨_, h0⟩ | ⟨g, cap, cur, hv, hb, hh, hnc, hcm, hs, ht⟩
  · omega
  · refine ⟨g, cap, hv, hl, hnc, hcm, g, 0, cur, rfl, hb, hh, .inr (by omega), fun j hj => ?_⟩
    have hn := nums_at xs j (by omega)
    rw [← ht, List.getElem?_take_of_lt (by omega)] at hn
    rw [Nat.zero_add]
    simpa using hn
/-- The old block, or a new one. -/
def LiesAt (A A' : Option Addr) (w : World) : Prop := blkOf A' = blkOf A ∨ ∃ g, blkOf A' = some g ∧ w.heap.size ≤ g
theorem LiesAt.ne {A A' : Option Addr} {w : World} (h : LiesAt A A' w) {x : Nat} (hx : x < w.heap.size) (hn : some x ≠ blkOf A) : some x ≠ blkOf A' := by
  rcases h with h | ⟨g, h, hg⟩
  · rw [h]; exact hn
  · rw [h]; intro e; simp at e; omega
theorem LiesAt.apart {A A' AX : Option Addr} {w : World} (h : LiesAt A A' w) (hx : ∀ g, blkOf AX = some g → g < w.heap.size) (hn : blkOf AX = none ∨ blkOf AX ≠ blkOf A) : blkOf AX = none ∨ blkOf AX ≠ blkOf A' := by
  rcases h with h | ⟨g, h, hg⟩
  · rw [h]; exact hn
  · cases e : blkOf AX with
    | none => exact .inl rfl
    | some y => right; rw [h]; intro e2; have := hx y e; simp at e2; omega
theorem LiesAt.low {A A' : Option Addr} {w w1 : World} (h : LiesAt A A' w1) (hs : w.heap.size ≤ w1.heap.size) : LiesAt A A' w := h.imp id fun ⟨g, e, hg⟩ => ⟨g, e, by omega⟩
/-- One number more, at the operation. -/
theorem wp_appQ {o : Oper} {a : Act} {K : Act → World → Prop} {Q : Exit → Act → World → Prop} {s x : Operand}
    (ho : o.op = .call { callee := .builtin .append, args := #[s, x], argTypes := #[34, 34] })
    {base : Nat} {A : Option Addr} {m c : Nat} {xs : List Int} {w1 : World} {B : Nat} {T : TypeId} {fr : Nat × Nat} {k : Int} (hs : a.eval s = .slice A m c) (hx : a.eval x = .slice (some ⟨B, 0, none⟩) 1 1)
    (hB : w1.heap[B]? = some (.cells #[.int .i64 k] T fr))
    (hown : OwnQ base w1 A m c xs) (_hbase : base ≤ w1.heap.size) (hm : m ≤ 1048576)
    (h : ∀ A' c' w', OwnQ base w' A' (m + 1) c' (xs ++ [k]) → w1.grownBy w' (blkOf A) → LiesAt A A' w1 → K (a.put o.dst (.slice A' (m + 1) c')) w') :
    o.wp Tryz.prog a w1 K Q := by
  obtain ⟨i0, hi, hz0, hz1, hz2⟩ := info_parts inf2
  have hnews : ∀ j u, [Value.int .i64 k][j]? = some u → w1.cell? ((⟨B, 0, none⟩ : Addr).add j) = some u := fun j u hj => by
    match j, hj with
    | 0, hj =>
      simp only [List.getElem?_cons_zero, Option.some.injEq] at hj
      subst hj
      rw [Addr.add_lit, cell_of_row w1 B _ _ _ _ hB]; rfl
  have key : ∃ A' c' w', (Builtin.append_ #[34, 34] o.type #[.slice A m c, .slice (some ⟨B, 0, none⟩) 1 1]).run Tryz.prog w1 = .ok (.slice A' (m + 1) c') w' ∧ OwnQ base w' A' (m + 1) c' (xs ++ [k]) ∧ w1.grownBy w' (blkOf A) ∧ LiesAt A A' w1 := by
    obtain ⟨h1, h2, h3, g, off, cur, rfl, hb, hh, hsz, hc⟩ := hown
    have hg : g < w1.heap.size := (Array.getElem?_eq_some_iff.1 hh).1
    by_cases hr : m + 1 ≤ c
    · have hsz' : cur.size = off + c := by omega
      have hr' := run_append_room_cells (P := Tryz.prog) w1 34 o.type 2 i0 Tryz.underlying34 hi g off m c ⟨B, 0, none⟩ 1 1 [.int .i64 k] (by rw [hz1]; rfl) hnews (fun u hu => by simp at hu; subst hu; rfl) hr
        (fun j hj => by
          obtain rfl : j = 0 := by simpa using hj
          rw [cell_of_row w1 g _ cur 2 (0, 0) hh, hz1]
          have : off + m < cur.size := by omega
          simp [this])
        (fun j hj => frozen_of_row w1 g _ cur 2 hh)
      rw [hz1] at hr'
      refine ⟨_, _, _, hr', ?_, ?_, .inl rfl⟩
      · simp only [World.setCells, Nat.mul_one]
        refine ⟨by simp [h1], by omega, h3, g, off, _, rfl, hb, heap_setCell_same w1 g (off + m) cur 2 (.int .i64 k) hh, .inr (by simp; omega), fun j hj => ?_⟩
        by_cases e : j = m
        · subst e
          have : off + j < cur.size := by omega
          simp [this, ia, h1]
        · rw [Array.getElem?_setIfInBounds_ne (by omega), hc j (by omega)]
          simp [ia, List.getElem?_append_left (show j < xs.length by omega)]
      · simp only [World.setCells, Nat.mul_one]
        exact ⟨rfl, rfl, rfl, by simp, fun k' _ hk => Below.heap_setCell _ _ _ _ (fun e => hk (by simp [blkOf, e]))⟩
    · obtain ⟨v', w', hrun, ho', hgr⟩ := run_append_arg_grows (P := Tryz.prog) w1 34 o.type 2 i0 (.int .i64 0) 1 8 Tryz.underlying34 hi hz0 hz1 hz2 rfl (by decide) ⟨g, off, none⟩ m c (nums xs) (by simp [nums, h1])
        (fun j u hj => by
          have hjm : j < m := by have := (List.getElem?_eq_some_iff.1 hj).1; simp [nums] at this; omega
          rw [nums_at xs j (by omega)] at hj
          rw [Addr.add_lit, cell_of_row w1 g _ cur 2 (0, 0) hh, hc j hjm]; exact hj)
        ⟨B, 0, none⟩ 1 1 [.int .i64 k] rfl hnews (by omega) (by unfold maxLen; omega) (by omega)
      obtain ⟨g', c', rfl, hq⟩ := OwnQ.ofRow (xs := xs ++ [k]) (by rw [nums_append]; exact ho') (by omega)
      obtain ⟨q1, q2, q3, g2, o2, cur2, e2, hb2, r⟩ := hq
      exact ⟨_, _, w', hrun, ⟨q1, q2, q3, g2, o2, cur2, e2, by omega, r⟩, ⟨hgr.os, hgr.tape, hgr.output, hgr.size, fun i hi _ => hgr.block i hi (by simp)⟩, .inr ⟨g', rfl, by simp only [Option.some.injEq, Addr.mk.injEq, and_true] at e2; obtain ⟨rfl, _⟩ := e2; exact hb2⟩⟩
  obtain ⟨A', c', w', hr, h2, h3, h4⟩ := key
  unfold Oper.wp execOp
  simp only [ho, resolve, invoke, builtin, Sem.run_bind, Sem.run_pure, Result.andThen_ok, List.map_toArray, List.map_cons, List.map_nil, hs, hx, hr]
  exact h A' c' w' h2 h3 h4
/-- .. behind the one-element list. -/
theorem wp_appQ1 {ops : Array Oper} {rest : List Oper} {o : Oper} {a : Act} {Q : Exit → Act → World → Prop} {s x : Operand} (hgd : o.guard = none)
    (ho : o.op = .call { callee := .builtin .append, args := #[s, x], argTypes := #[34, 34] })
    {base : Nat} {A : Option Addr} {m c : Nat} {xs : List Int} {wr : World} {T : TypeId} {k : Int} (hs : a.eval s = .slice A m c) {H : Nat} (hx : a.eval x = .slice (some ⟨H, 0, none⟩) 1 1) (hH : wr.heap.size = H)
    (hown : OwnQ base wr A m c xs) (hbase : base ≤ wr.heap.size) (hm : m ≤ 1048576)
    (h : ∀ A' c' w', OwnQ base w' A' (m + 1) c' (xs ++ [k]) → wr.grownBy w' (blkOf A) → LiesAt A A' wr → wpList Tryz.prog ops Q rest (a.put o.dst (.slice A' (m + 1) c')) w') :
    wpList Tryz.prog ops Q (o :: rest) a (wr.alloc (.cells #[.int .i64 k] T)) := by
  subst hH
  exact wpList_plain hgd fun _ hK => wp_appQ ho hs hx (heap_alloc_new wr _) (hown.below ((Below.refl _ _).alloc (Nat.le_refl _) _)) (by simp; omega) hm
    fun A' c' w' h1 h2 h3 => hK _ _ (h A' c' w' h1 (grownTrans (below_grownBy ((Below.refl _ _).alloc (Nat.le_refl _) _) _) h2) (h3.low (by simp)))
/-- An own list, one number more, at the operation. -/
theorem wp_appL {o : Oper} {a : Act} {K : Act → World → Prop} {Q : Exit → Act → World → Prop} {s x : Operand}
    (ho : o.op = .call { callee := .builtin .append, args := #[s, x], argTypes := #[34, 34] })
    {base : Nat} {A : Option Addr} {m c : Nat} {xs : List Int} {w1 : World} {B : Nat} {T : TypeId} {fr : Nat × Nat} {k : Int} (hs : a.eval s = .slice A m c) (hx : a.eval x = .slice (some ⟨B, 0, none⟩) 1 1)
    (hB : w1.heap[B]? = some (.cells #[.int .i64 k] T fr))
    (hown : OwnL base w1 A m c xs) (hbase : base ≤ w1.heap.size) (hm : m ≤ 1048576)
    (h : ∀ A' c' w', OwnL base w' A' (m + 1) c' (xs ++ [k]) → w1.grownBy w' (blkOf A) → LiesAt A A' w1 → K (a.put o.dst (.slice A' (m + 1) c')) w') :
    o.wp Tryz.prog a w1 K Q := by
  obtain ⟨i0, hi, hz0, hz1, hz2⟩ := info_parts inf2
  refine wp_append_lies w1 s x 34 ho base 2 i0 (.int .i64 0) 1 8 Tryz.underlying34 hi hz0 hz1 hz2 rfl (by decide) (.slice A m c) m (nums xs) hs hown.2
    ⟨B, 0, none⟩ 1 1 [.int .i64 k] hx rfl (fun j u hj => by
      match j, hj with
      | 0, hj =>
        simp only [List.getElem?_cons_zero, Option.some.injEq] at hj
        subst hj
        rw [Addr.add_lit, cell_of_row w1 B _ _ _ _ hB]; rfl) (fun u hu => by simp at hu; subst hu; rfl) (by decide) (by unfold maxLen; omega) (by omega) hbase _ rfl ?_
  intro g cap w2 hown' hgrow hat _
  have e : (Value.slice A m c).ownBlock = blkOf A := by cases A <;> rfl
  rw [e] at hgrow hat
  exact h _ cap w2 ⟨by simp [hown.1], by rw [nums_append]; exact hown'⟩ hgrow (hat.imp (fun h => h.symm) fun h => ⟨g, rfl, by omega⟩)
/-- .. behind the one-element list. -/
theorem wp_appL1 {ops : Array Oper} {rest : List Oper} {o : Oper} {a : Act} {Q : Exit → Act → World → Prop} {s x : Operand} (hgd : o.guard = none)
    (ho : o.op = .call { callee := .builtin .append, args := #[s, x], argTypes := #[34, 34] })
    {base : Nat} {A : Option Addr} {m c : Nat} {xs : List Int} {wr : World} {T : TypeId} {k : Int} (hs : a.eval s = .slice A m c) {H : Nat} (hx : a.eval x = .slice (some ⟨H, 0, none⟩) 1 1) (hH : wr.heap.size = H)
    (hown : OwnL base wr A m c xs) (hbase : base ≤ wr.heap.size) (hm : m ≤ 1048576)
    (h : ∀ A' c' w', OwnL base w' A' (m + 1) c' (xs ++ [k]) → wr.grownBy w' (blkOf A) → LiesAt A A' wr → wpList Tryz.prog ops Q rest (a.put o.dst (.slice A' (m + 1) c')) w') :
    wpList Tryz.prog ops Q (o :: rest) a (wr.alloc (.cells #[.int .i64 k] T)) := by
  subst hH
  exact wpList_plain hgd fun _ hK => wp_appL ho hs hx (heap_alloc_new wr _) (hown.below ((Below.refl _ _).alloc (Nat.le_refl _) _)) (by simp; omega) hm
    fun A' c' w' h1 h2 h3 => hK _ _ (h A' c' w' h1 (grownTrans (below_grownBy ((Below.refl _ _).alloc (Nat.le_refl _) _) _) h2) (h3.low (by simp)))
/-- .. at a step of a region that draws its order. -/
theorem step_appL {ops : Array Oper} {o : Oper} {a : Act} {K : Act → World → Prop} {Q : Exit → Act → World → Prop} {E : Prop} (hgd : o.guard = none) {s x : Operand}
    (ho : o.op = .call { callee := .builtin .append, args := #[s, x], argTypes := #[34, 34] })
    {base : Nat} {A : Option Addr} {m c : Nat} {xs : List Int} {w1 : World} {B : Nat} {T : TypeId} {fr : Nat × Nat} {k : Int} (hs : a.eval s = .slice A m c) (hx : a.eval x = .slice (some ⟨B, 0, none⟩) 1 1)
    (hB : w1.heap[B]? = some (.cells #[.int .i64 k] T fr))
    (hown : OwnL base w1 A m c xs) (hbase : base ≤ w1.heap.size) (hm : m ≤ 1048576)
    (h : ∀ A' c' w', OwnL base w' A' (m + 1) c' (xs ++ [k]) → w1.grownBy w' (blkOf A) → LiesAt A A' w1 → K (a.put o.dst (.slice A' (m + 1) c')) w') :
    if Region.wanted o (yielded ops a.tmps) = true then Oper.wp Tryz.prog o a w1 K Q else E := by
  have hw : Region.wanted o (yielded ops a.tmps) = true := by simp [Region.wanted, hgd]
  rw [if_pos hw]
  exact wp_appL ho hs hx hB hown hbase hm h
end Go.Proofs.YtajnhkkiddeegaaGreat
namespace Go.Proofs.YtajnhkkiddeegaaGreat
open Go.RowKit Go.Sort
theorem runF_go {σ α : Type} {fnd : σ → α → Bool × σ} {Go : σ → Prop} (h : ∀ s f, Go s → (fnd s f).1 = false → Go (fnd s f).2) : ∀ {xs : List α} {s s' : σ}, Go s → runF fnd s xs = (false, s') → Go s' := by
  intro xs
  induction xs with
  | nil => intro s s' hs he; simp only [runF, Prod.mk.injEq, true_and] at he; subst he; exact hs
  | cons x xs ih =>
    intro s s' hs he
    simp only [runF] at he
    cases hq : (fnd s x).1 with
    | true => rw [hq, if_pos rfl] at he; simp at he
    | false => rw [hq, if_neg (by decide)] at he; exact ih (h s x hs hq) he
set_option maxRecDepth 100000 in
set_option maxHeartbeats 4000000 in
theorem paintW_any {σ : Type} (St : σ → World → Prop) (S : σ → World → Nat → Prop) (fnd : σ → (Nat → Int) → Bool × σ) (Go : σ → Prop) (fid : FuncId) (caps : Array Value)
    {bp bc bu N m : Nat} {A : Option Addr} {cA : Nat} {L : List Nat} {b o c cc cu : Nat} {es : List (Int × Int)} (hn : WfP N es) (hm : m ≤ 1048576) (hLl : L.length ≤ 1048576)
    (he : Enters fid)
    (hSt : ∀ s w w', St s w → Kept (fun k => k = bc ∨ k = bu) w w' → St s w')
    (hSlt : ∀ s w, St s w → ∀ k, S s w k → k < w.heap.size)
    (hSk : ∀ s w w', St s w → Kept (fun k => k = bc ∨ k = bu) w w' → ∀ k, S s w' k → S s w k)
    (hGo : ∀ s f, Go s → (fnd s f).1 = false → Go (fnd s f).2)
    (hfound : ∀ s f U w, Go s → PS w (S s w) bp bc bu N m A cA L b o c cc cu es (.func (.func fid) #[] caps) → PW w (S s w) bc bu N m f U w → St s w →
      Calls Tryz.prog fid (#[.slice (some ⟨bc, 0, none⟩) m cc] ++ caps) w (fun e w' => e = .returned (.bool (fnd s f).1) ∧ PW w (S s w) bc bu N m f U w' ∧ St (fnd s f).2 w' ∧ ∀ k, S (fnd s f).2 w' k → S s w k ∨ w.heap.size ≤ k)) :
    ∀ (j k : Nat) (s : σ) (f : Nat → Int) (U : Nat → Nat) (w : World), L.length - k < j → k ≤ L.length → Go s → PS w (S s w) bp bc bu N m A cA L b o c cc cu es (.func (.func fid) #[] caps) → PW w (S s w) bc bu N m f U w → St s w → (∀ v, U v < 8) → (∀ g, blkOf A = some g → g < w.heap.size) →
      Calls Tryz.prog 106 #[.pointer (some ⟨bp, 0, none⟩), .int .i64 k] w (fun e w' => e = .returned (.bool (runF fnd s (colF es (L.drop k) f U)).1) ∧ PW w (S s w) bc bu N m f U w' ∧ St (runF fnd s (colF es (L.drop k) f U)).2 w' ∧ ∀ k', S (runF fnd s (colF es (L.drop k) f U)).2 w' k' → S s w k' ∨ w.heap.size ≤ k') := by
  have KC := cell_rg
  have HF := Lib.hid hfound
  have he1 := he
  unfold Enters at he1
  have HN := Lib.hid hn
  have HST := Lib.hid hSt
  have HSL := Lib.hid hSlt
  have HSK := Lib.hid hSk
  have HGO := Lib.hid hGo
  clear hfound he hn hSt hSlt hSk hGo
  intro j
  induction j with
  | zero => intro k s f U w h; omega
  | succ j ih =>
    intro k s f U w hj hk hgo ps pw st h8 hA
    have IH := Lib.hid ih
    have hl := Lib.hid ps.E.len
    have HA := Lib.hid hA
    clear ih hA
    go_enter Tryz.func106, Tryz.ntmps106
    go_wp2_with fail
    go_loopw [1] (fun kv wv => ∃ k' : Nat, k ≤ k' ∧ k' ≤ L.length ∧ kv = .int .i64 k' ∧ Hid (colF es (L.drop k) f U = colF es (L.drop k') f U) ∧ Below w.heap.size w wv) (fun k _ => L.length + 1 - (intOf k).toNat)
    case atStart => exact ⟨k, Nat.le_refl _, hk, rfl, rfl, Below.refl _ _⟩
    case round =>
      obtain ⟨k', hkk, hkl, rfl, HC, hbr⟩ := hrel
      have P := pw.below hbr
      have p2 := P.cell ps.pl ps.np 2 ps.p2
      have p3 := P.cell ps.pl ps.np 3 ps.p3
      have p4 := P.cell ps.pl ps.np 4 ps.p4
      have p5 := P.cell ps.pl ps.np 5 ps.p5
      have zp := P.k.lt ps.pl
      have zc := P.rc.lt
      by_cases hlt : k' < L.length
      · obtain ⟨g, og, rfl, I⟩ := (P.k.srcI ps.I ps.nA) (by omega)
        have i1 := I.c k' hlt
        have zg := I.blk
        obtain ⟨d, hd⟩ : ∃ d, d = L.getD k' 0 := ⟨_, rfl⟩
        have hdm : d < m := by rw [hd]; exact ps.hL _ (gd_mem hlt)
        have HDR : Hid (L.drop k' = d :: L.drop (k' + 1)) := by show _ = _; rw [hd]; exact gd_at hlt
        rw [← hd] at i1
        clear hd
        have r1 := P.rc.cell hdm
        by_cases hfd : f d = -1
        · have hfd' : (f d != -1) = false := by simp [hfd]
          have HC2 : Hid (colF es (L.drop k) f U = colT es (colF es (L.drop (k' + 1))) d f U 3) := by
            show _ = _; rw [HC.out, HDR.out, colF, if_neg (by omega)]
          have HFD := Lib.hid hfd
          clear hfd
          go_wp2_with fail
          (refine wp_region_quiet_below (by kernel_rfl) (by kernel_rfl) ?_
           repeat (any_goals (go_big_quiet_step (first | fail)))
           all_goals (refine wpQuiet_nil ?_; intro wq1 hq1; replace hq1 := below_of_rg hq1))
          have P := P.below hq1
          have hbq := hbr.andB hq1
          have hbE : ¬ Mut (S s w) bc bu g := ps.nA g rfl
          have I := P.k.srcI ps.I ps.nA
          clear p3 p4 p5 zp zc i1 zg r1
          have p1 := P.cell ps.pl ps.np 1 ps.p1
          have p2 := P.cell ps.pl ps.np 2 ps.p2
          have i1 : wq1.cell? ⟨g, og + k', none⟩ = some (.int .i64 d) := by
            obtain ⟨g', og', e, I'⟩ := I (by omega)
            cases e
            have := I'.c k' hlt
            rw [this]
            have := HDR.out
            rw [gd_at hlt] at this
            have := (List.cons.inj this).1
            rw [this]
          have E := P.k.eds ps.E ps.nb
          have hde : d < es.length := by rw [hl.out]; exact hdm
          have hw := HN.out.2.2.2.2 d hde
          have d1 := E.ca d hdm
          have d2 := E.cb d hdm
          have ea1 : ea es d = ((va es d : Nat) : Int) := by unfold va; omega
          have eb1 : eb es d = ((vb es d : Nat) : Int) := by unfold vb; omega
          rw [ea1] at d1
          rw [eb1] at d2
          have hvaN : va es d < N := by unfold va; omega
          have hvbN : vb es d < N := by unfold vb; omega
          obtain ⟨xa, hxa⟩ : ∃ xa, xa = va es d := ⟨_, rfl⟩
          obtain ⟨xb, hxb⟩ : ∃ xb, xb = vb es d := ⟨_, rfl⟩
          rw [← hxa] at d1 hvaN
          rw [← hxb] at d2 hvbN
          have HXA := Lib.hid hxa
          have HXB := Lib.hid hxb
          have hkn : ((k' : Int) == L.length) = false := by simp; omega
          clear ea1 eb1 hxa hxb I E hw
          go_wp2_with fail
          obtain ⟨w1, hw1⟩ : ∃ w1, w1 = wq1.alloc (.cells #[.int .i64 xa, .int .i64 xb] 78) := ⟨_, rfl⟩
          have hba : Below wq1.heap.size wq1 w1 := by rw [hw1]; exact (Below.refl _ _).alloc (Nat.le_refl _) _
          have ce0 : w1.cell? ⟨wq1.heap.size, 0, none⟩ = some (.int .i64 xa) := by rw [hw1]; simp
          have ce1 : w1.cell? ⟨wq1.heap.size, 1, none⟩ = some (.int .i64 xb) := by rw [hw1]; simp
          have ze : wq1.heap.size < w1.heap.size := by rw [hw1]; simp
          rw [← hw1]
          clear hw1 p1 p2 i1 d1 d2
          have P1 : PW w (S s w) bc bu N m f U w1 := P.below hba
          have hbw := hbq.andB hba
          have st1 : St s w1 := HST.out s w w1 st (Kept.of hbw)
          have hsk1 := HSK.out s w w1 st (Kept.of hbw)
          have ps1 := Lib.hid (ps.kept (T := S s w1) (Kept.of hbw) (fun i hi => .inl (hsk1 i hi)) HA.out)
          have nse : ¬ S s w1 wq1.heap.size := fun h => by have := HSL.out s w st _ (hsk1 _ h); have := hbq.size; omega
          have hA1 : Hid (∀ g', blkOf (some (⟨g, og, none⟩ : Addr)) = some g' → g' < w1.heap.size) := fun g' hg => Nat.lt_of_lt_of_le (HA.out g' hg) hbw.size
          have nme : Hid (¬ Mut (S s w1) bc bu wq1.heap.size) := by
            rintro (e | e | e)
            · have := P.rc.lt; omega
            · have := P.ru.lt; omega
            · exact nse e
          have PK := P1.k
          have P2 : PW w1 (S s w1) bc bu N m f U w1 := P1.self
          have hskw := Lib.hid hsk1
          clear P P1 hbE hbq hq1 hba
          go_loopw [65] (fun xv wv => ∃ (x : Nat) (t : σ), x ≤ 3 ∧ xv = .int .i64 x ∧ Hid (runF fnd s (colT es (colF es (L.drop (k' + 1))) d f U x) = (false, t)) ∧ PW w1 (S s w1) bc bu N m f U wv ∧ St t wv ∧ Hid (∀ k'', S t wv k'' → S s w1 k'' ∨ w1.heap.size ≤ k'')) (fun x _ => 3 - (intOf x).toNat)
          case atStart => exact ⟨0, s, by omega, rfl, rfl, P2, st1, fun k'' h => .inl h⟩
          case round =>
            clear P2
            obtain ⟨w5, rfl⟩ : ∃ w5, w5 = wr := ⟨wr, rfl⟩
            obtain ⟨x, t, hx, rfl, HR, P, stt, HT⟩ := hrel
            by_cases hx3 : x < 3
            · have psx := Lib.hid (ps1.out.kept P.k HT.out hA1.out)
              have Px : PW w5 (S t w5) bc bu N m f U w5 := P.self
              have p4 := P.cell ps1.out.pl ps1.out.np 4 ps1.out.p4
              have zp := P.k.lt ps1.out.pl
              have zu := P.ru.lt
              have ra := P.ru.cell hvaN
              have rb := P.ru.cell hvbN
              have e0 := (P.k.cell ze nme.out 0).trans ce0
              have e1 := (P.k.cell ze nme.out 1).trans ce1
              have zee := P.k.lt ze
              have h8a := h8 xa
              have h8b := h8 xb
              have hor := u64_or_nat (U xa) (U xb) (by omega) (by omega)
              have h8o : U xa ||| U xb < 8 := Nat.or_lt_two_pow (n := 3) h8a h8b
              have hha := has_any (U xa ||| U xb) (x : Int) (hs := by omega) (h0 := by omega) (h1 := by omega)
              have hbx : hasB (U xa ||| U xb) (x : Int) = (U xa ||| U xb).testBit x := by unfold hasB; rw [Int.toNat_natCast]
              have HSTEP := Lib.hid (runT_step fnd es (colF es (L.drop (k' + 1))) d f U s t x HR.out)
              cases hb : (U xa ||| U xb).testBit x with
              | true =>
                rw [hbx, hb] at hha
                have HHA := Lib.hid hha
                have HR2 : Hid (runF fnd s (colT es (colF es (L.drop (k' + 1))) d f U (x + 1)) = (false, t)) := HSTEP.out.1 (by rw [← HXA.out, ← HXB.out]; exact hb)
                clear hha hb hbx h8o
                go_wp2_with fail
                (refine wp_region_quiet_below (by kernel_rfl) (by kernel_rfl) ?_
                 repeat (any_goals (go_big_quiet_step (first | (go_at_call 105; exact Is.rg (HHA.out _)))))
                 all_goals (refine wpQuiet_nil ?_; intro wq2 hq2; replace hq2 := below_of_rg hq2))
                have P3 := P.below hq2
                have st3 := HST.out t _ _ stt (Kept.of hq2)
                have HT3 : Hid (∀ k'', S t wq2 k'' → S s w1 k'' ∨ w1.heap.size ≤ k'') := fun i hi => HT.out i (HSK.out t _ _ stt (Kept.of hq2) i hi)
                clear P Px psx stt p4 ra rb e0 e1
                go_wp2_with fail
                go_roundw
                case rel => exact ⟨x + 1, t, by omega, by go_num, HR2, P3, st3, HT3⟩
                case measure => simp [intOf]; omega
              | false =>
                rw [hbx, hb] at hha
                have HHA := Lib.hid hha
                have HR2 : Hid (runF fnd s (colT es (colF es (L.drop (k' + 1))) d f U (x + 1)) = runF fnd t (colF es (L.drop (k' + 1)) (upF f d x) (givU es U d x))) := HSTEP.out.2 (by rw [← HXA.out, ← HXB.out]; exact hb)
                have HBA : Hid ((U (va es d)).testBit x = false ∧ (U (vb es d)).testBit x = false) := by
                  rw [Nat.testBit_or, Bool.or_eq_false_iff] at hb
                  rw [← HXA.out, ← HXB.out]; exact hb
                have h8g : Hid (∀ v, givU es U d x v < 8) := fun v => by
                  simp only [givU]; split
                  · exact or8 (h8 v) hx3
                  · exact h8 v
                clear hha hb hbx h8o
                go_wp2_with fail
                (refine wp_region_quiet_below (by kernel_rfl) (by kernel_rfl) ?_
                 repeat (any_goals (go_big_quiet_step (first | (go_at_call 105; exact Is.rg (HHA.out _)))))
                 all_goals (refine wpQuiet_nil ?_; intro wq2 hq2; replace hq2 := below_of_rg hq2))
                have PX := Px.below hq2
                have PY : PW wq2 (fun _ => False) bc bu N m f U wq2 := PX.self
                have st3 := HST.out t _ _ stt (Kept.of hq2)
                have hAx : Hid (∀ g', blkOf (some (⟨g, og, none⟩ : Addr)) = some g' → g' < w5.heap.size) := fun g' hg => P.k.lt (hA1.out g' hg)
                have hk3 := HSK.out t _ _ stt (Kept.of hq2)
                have psy := Lib.hid (psx.out.kept (T := S t wq2) (Kept.of hq2) (fun i hi => .inl (hk3 i hi)) hAx.out)
                have kq := Lib.hid (P.k.thenB hq2)
                have hAy : Hid (∀ g', blkOf (some (⟨g, og, none⟩ : Addr)) = some g' → g' < wq2.heap.size) := fun g' hg => Nat.lt_of_lt_of_le (hAx.out g' hg) hq2.size
                clear P Px psx stt p4 ra rb e0 e1 PX
                go_wp2_with fail
                refine (give_any psy.out.none HN.out f U d x _ PY hdm hx3 h8).mono ?_
                rintro e w6 ⟨rfl, P6⟩
                have k6 := P6.two
                have st6 := HST.out t _ _ st3 k6
                have hk6 := HSK.out t _ _ st3 k6
                have ps6 := Lib.hid (psy.out.kept (T := S t w6) k6.ofTwo (fun i hi => .inl (hk6 i hi)) hAy.out)
                have hA6 : Hid (∀ g', blkOf (some (⟨g, og, none⟩ : Addr)) = some g' → g' < w6.heap.size) := fun g' hg => k6.lt (hAy.out g' hg)
                have P6' : PW w6 (S t w6) bc bu N m (upF f d x) (givU es U d x) w6 := P6.self
                have hwk : IntKind.i64.wrap ((k' : Int) + 1) = ((k' + 1 : Nat) : Int) := by rw [IntWalk.i64_in _ (by omega)]; omega
                clear PY st3 P6
                go_wp2_with fail
                refine (IH.out (k' + 1) t (upF f d x) (givU es U d x) w6 (by omega) (by omega) (runF_go HGO.out hgo HR.out) ps6.out P6' st6 h8g.out hA6.out).mono ?_
                rintro e w7 ⟨rfl, P7, st7, hT7⟩
                have HT7 := Lib.hid hT7
                obtain ⟨r, hr⟩ : ∃ r, r = runF fnd t (colF es (L.drop (k' + 1)) (upF f d x) (givU es U d x)) := ⟨_, rfl⟩
                rw [← hr] at HR2 st7 HT7 ⊢
                have ps7 := Lib.hid (ps6.out.kept (T := S r.2 w7) P7.k HT7.out hA6.out)
                have P7' : PW w7 (fun _ => False) bc bu N m (upF f d x) (givU es U d x) w7 := P7.self
                have k7 := P7.k
                clear hr hT7 P7 P6' st6
                go_wp2_with fail
                refine (take_any ps7.out.none HN.out f U d x _ P7' hdm hx3 h8 HFD.out HBA.out.1 HBA.out.2).mono ?_
                rintro e w8 ⟨rfl, P8⟩
                have k8 := P8.two
                have st8 := HST.out r.2 _ _ st7 k8
                have HTs : Hid (∀ i, S t w6 i → S s w1 i ∨ w1.heap.size ≤ i) := fun i hi => HT.out i (hk3 i (hk6 i hi))
                have P9 : PW w1 (S s w1) bc bu N m f U w8 := ⟨((kq.out.trans k6.ofTwo).trans' k7 (mut_or HTs.out)).trans k8.ofTwo, P8.rc, P8.ru⟩
                have HT8 : Hid (∀ k'', S r.2 w8 k'' → S s w1 k'' ∨ w1.heap.size ≤ k'') := fun i hi => by
                  rcases HT7.out i (HSK.out r.2 _ _ st7 k8 i hi) with h | h
                  · exact HTs.out i h
                  · have := kq.out.size; have := k6.size; right; omega
                clear P8 P7' st7 k6 k7 k8
                obtain ⟨rb, rs⟩ := r
                cases rb with
                | true =>
                  have HE : Hid (runF fnd s (colF es (L.drop k) f U) = (true, rs)) := by
                    show _ = _; rw [HC2.out]; exact runT_true fnd es _ d f U s rs (x + 1) HR2.out 3 (by omega)
                  go_wp2_with fail
                  go_ret
                  rw [HE.out]
                  refine ⟨rfl, P9.root PK (fun i hi => .inl (hskw.out i hi)), st8, fun i hi => ?_⟩
                  rcases HT8.out i hi with h | h
                  · exact .inl (hskw.out i h)
                  · have := hbw.size; right; omega
                | false =>
                  go_wp2_with fail
                  go_roundw
                  case rel => exact ⟨x + 1, rs, by omega, by go_num, HR2, P9, st8, HT8⟩
                  case measure => simp [intOf]; omega
            · obtain rfl : x = 3 := by omega
              have HE : Hid (runF fnd s (colF es (L.drop k) f U) = (false, t)) := by
                show _ = _; rw [HC2.out]; exact HR.out
              have hx33 : ((3 : Nat) : Int) = 3 := rfl
              go_wp2_with fail
              go_ret
              rw [HE.out]
              refine ⟨rfl, P.root PK (fun i hi => .inl (hskw.out i hi)), stt, fun i hi => ?_⟩
              rcases HT.out i hi with h | h
              · exact .inl (hskw.out i h)
              · have := hbw.size; right; omega
        · have hfd' : (f d != -1) = true := by simp [hfd]
          have HC2 : Hid (colF es (L.drop k) f U = colF es (L.drop (k' + 1)) f U) := by
            show _ = _; rw [HC.out, HDR.out, colF, if_pos hfd]
          go_wp2_with fail
          (refine wp_region_quiet_below (by kernel_rfl) (by kernel_rfl) ?_
           repeat (any_goals (go_big_quiet_step (first | fail)))
           all_goals (refine wpQuiet_nil ?_; intro wq1 hq1; replace hq1 := below_of_rg hq1))
          have hbq := hbr.andB hq1
          clear P p2 p3 p4 p5 zp zc r1 i1 I zg hfd
          go_wp2_with fail
          go_roundw
          case rel => exact ⟨k' + 1, by omega, by omega, by go_num, HC2, hbq⟩
          case measure => simp [intOf]; omega
      · obtain rfl : k' = L.length := by omega
        have HE : Hid (colF es (L.drop k) f U = [f]) := by
          show _ = _; rw [HC.out, List.drop_length]; rfl
        have st1 : St s wr := HST.out s w wr st (Kept.of hbr)
        have hkn : ((L.length : Int) == L.length) = true := by simp
        have zA := P.ru.lt
        go_wp2_with fail
        (refine wp_region_quiet_below (by kernel_rfl) (by kernel_rfl) ?_
         repeat (any_goals (go_big_quiet_step (first | fail)))
         all_goals (refine wpQuiet_nil ?_; intro wq1 hq1; replace hq1 := below_of_rg hq1))
        have P := P.below hq1
        have p2 := P.cell ps.pl ps.np 2 ps.p2
        have p3 := P.cell ps.pl ps.np 3 ps.p3
        have p5 := P.cell ps.pl ps.np 5 ps.p5
        go_wp2_with fail
        go_still_tail 8, (by kernel_rfl)
        change wpList _ _ _ _ _ wq1.drew
        go_wp2_with fail
        have kd : Kept (fun k => k = bc ∨ k = bu) w wq1.drew := ((Kept.of hbr).thenB hq1).drew
        have hkd := HSK.out s w _ st kd
        have psd := ps.kept (T := S s wq1.drew) kd.ofTwo (fun i hi => .inl (hkd i hi)) HA.out
        have Pd : PW wq1.drew (S s wq1.drew) bc bu N m f U wq1.drew := P.drew.self
        refine (HF.out s f U _ hgo psd Pd (HST.out s w _ st kd)).mono ?_
        rintro e w9 ⟨rfl, P9, st9, hT9⟩
        go_wp2_with fail
        go_ret
        rw [HE.out]
        have hR : runF fnd s [f] = ((fnd s f).1, (fnd s f).2) := by
          simp only [runF]; cases hq : (fnd s f).1 <;> simp
        rw [hR]
        refine ⟨rfl, P9.root kd.ofTwo (fun i hi => .inl (hkd i hi)), st9, fun i hi => ?_⟩
        rcases hT9 i hi with h | h
        · exact .inl (hkd i h)
        · have := kd.size; right; omega
end Go.Proofs.YtajnhkkiddeegaaGreat
