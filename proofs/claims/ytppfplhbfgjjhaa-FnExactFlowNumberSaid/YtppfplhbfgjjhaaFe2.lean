import Derived.Test.YtppfplhbfgjjhaaFc
import Derived.Test.YtppfplhbfgjjhaaM11
import Derived.Test.YtppfplhbfgjjhaaFn4
namespace Go.Proofs.Ytppfplhbfgjjhaa
open Go.RowKit Go.Sort
/-! ### The search for flows of a part: modulo -/
set_option maxRecDepth 100000 in
set_option maxHeartbeats 4000000 in
theorem flows10_any {w0 : World} {T : Nat → Prop} {bE bD bL bG bS bM bR bF bq gl gs gm b o m c N : Nat} {A : Option Addr} {cA : Nat} {L : List Nat} {dn : FuncId} {dc : Array Value} {V : Option Addr} {nv cV cM md : Nat} {es : List (Int × Int)} {P : Nat → World → Prop} (r : Bool)
    (fs : FS w0 T bE bD bL bG bS bM bR bF gl gs gm b o m c N A cA L (.func (.func dn) #[] dc) (.func (.func 127) #[] #[.pointer (some ⟨bq, 0, none⟩)]) (.func (.func 128) #[] #[]) V nv cV cM es)
    (hdo : DoF r P w0 T gl gs gm m Try.prog dn dc) (hen : Enters dn) (hm : m ≤ 30) (hwf : WfP N es) (hLl : L.length ≤ 30) (h2 : 2 ≤ md) (h6 : md ≤ 6) (hnv : nv + 1 = md) (hcq : w0.cell? ⟨bq, 0, none⟩ = some (.int .i64 md)) (hql : bq < w0.heap.size) (hqn : ¬ MuF T gl gs gm bq) :
    ∀ (q k s : Nat) (F nt mo : Nat → Int) (w : World), L.length - k < q → k ≤ L.length → FW w0 T gl gs gm N m P F nt mo s w → (∀ v, v < N → 0 ≤ nt v ∧ nt v < md) → (∀ v, v < N → -(k : Int) ≤ mo v ∧ mo v ≤ 3) →
      Calls Try.prog 160 #[.int .i64 k, .pointer (some ⟨bE, 0, none⟩), .pointer (some ⟨bD, 0, none⟩), .pointer (some ⟨bL, 0, none⟩), .pointer (some ⟨bG, 0, none⟩), .pointer (some ⟨bS, 0, none⟩), .pointer (some ⟨bM, 0, none⟩), .pointer (some ⟨bR, 0, none⟩), .pointer (some ⟨bF, 0, none⟩)] w
        (fun ee w' => ee = .returned (.bool (r && decide (0 < cntI 0 md es (L.drop k) nt mo))) ∧ ∃ (F' : Nat → Int) (s' : Nat), (r = false → s' = s + cntI 0 md es (L.drop k) nt mo) ∧ FW w0 T gl gs gm N m P F' nt mo s' w') := by
  have HWF := Lib.hid hwf
  have HDO := Lib.hid hdo
  have hl := Lib.hid fs.E.len
  have he1 := hen
  unfold Enters at he1
  have he2 := enFl
  unfold Enters at he2
  have he3 := enM1
  unfold Enters at he3
  have he4 := enM2
  unfold Enters at he4
  clear hwf hdo hen
  intro q
  induction q with
  | zero => intro k s F nt mo w h; omega
  | succ q ih =>
    intro k s F nt mo w hq hk P1 hnt hmo
    have IH := Lib.hid ih
    have HBN := Lib.hid hnt
    have HBM := Lib.hid hmo
    clear ih hnt hmo
    have cE := P1.cell fs.lt.1 fs.n.1 0 fs.cE
    have cD := P1.cell fs.lt.2.1 fs.n.2.1 0 fs.cD
    have cL := P1.cell fs.lt.2.2.1 fs.n.2.2.1 0 fs.cL
    by_cases hlt : k < L.length
    rotate_left
    · have hke : k = L.length := by omega
      have hqe : ((k : Int) == L.length) = true := by simp; omega
      have HC : Hid (cntI 0 md es (L.drop k) nt mo = 1) := by show _ = _; rw [hke, List.drop_length]; rfl
      have HD := Lib.hid (HDO.out s F w P1.p P1.k P1.rl)
      rw [HC.out]
      clear hke
      go_enter Try.func160, Try.ntmps160
      go_wp2_with fail
      refine HD.out.mono ?_
      rintro ee w2 ⟨rfl, hp, hkt⟩
      have P2 := P1.did fs.nT hp hkt
      clear hp hkt cE cD cL
      go_wp2_with fail
      go_ret
      exact ⟨by simp, F, s + 1, fun _ => rfl, P2⟩
    have hqe : ((k : Int) == L.length) = false := by simp; omega
    obtain ⟨g, og, rfl, IA⟩ := (P1.k.srcI fs.I fs.nA) (by omega)
    have i1 := IA.c k hlt
    have zg := IA.blk
    obtain ⟨e, hd⟩ : ∃ e, e = L.getD k 0 := ⟨_, rfl⟩
    have hem : e < m := by rw [hd]; exact fs.hL _ (gd_mem hlt)
    have HDR : Hid (L.drop k = e :: L.drop (k + 1)) := by show _ = _; rw [hd]; exact gd_at hlt
    rw [← hd] at i1
    clear hd
    have hw4 := HWF.out.2.2.2.2 e (by rw [hl.out]; exact hem)
    obtain ⟨aa, ha⟩ : ∃ x : Nat, ea es e = (x : Int) := ⟨(ea es e).toNat, by omega⟩
    obtain ⟨dd, hd⟩ : ∃ y : Nat, eb es e = (y : Int) := ⟨(eb es e).toNat, by omega⟩
    have haN : aa < N := by omega
    have hdN : dd < N := by omega
    have had : aa ≠ dd := by omega
    obtain ⟨f, hf⟩ : ∃ f : Nat → Nat, f = fun x => if canE (stpI 0 md es e nt x (ea es e).toNat) (moU es e mo (ea es e).toNat) && canE (stpI 0 md es e nt x (eb es e).toNat) (moU es e mo (eb es e).toNat) then cntI 0 md es (L.drop (k + 1)) (stpI 0 md es e nt x) (moU es e mo) else 0 := ⟨_, rfl⟩
    have HST : Hid (cntI 0 md es (L.drop k) nt mo = csP f md) := by show _ = _; rw [HDR.out, hf]; rfl
    have hnab := HBN.out aa haN
    have hndb := HBN.out dd hdN
    have hmab := HBM.out aa haN
    have hmdb := HBM.out dd hdN
    obtain ⟨na, hna⟩ : ∃ z, z = nt aa := ⟨_, rfl⟩
    obtain ⟨nd, hnd⟩ : ∃ z, z = nt dd := ⟨_, rfl⟩
    obtain ⟨m0, hm0⟩ : ∃ z, z = mo aa := ⟨_, rfl⟩
    obtain ⟨m1, hm1⟩ : ∃ z, z = mo dd := ⟨_, rfl⟩
    obtain ⟨mo', hmo'⟩ : ∃ z, z = moU es e mo := ⟨_, rfl⟩
    have HMO : Hid (mo' = put2 mo aa dd (m0 - 1) (m1 - 1)) := by show _ = _; rw [hmo']; unfold moU; rw [ha, hd, hm0, hm1]; rfl
    have HSTP : Hid (∀ x : Nat, stpI 0 md es e nt x = put2 nt aa dd ((na + md - x).tmod md) ((nd + x).tmod md)) := fun x => by
      show stpI 0 md es e nt x = _
      unfold stpI
      rw [ha, hd, hna, hnd]
      rfl
    have HF : Hid (∀ x, f x = if canE (stpI 0 md es e nt x aa) (mo' aa) && canE (stpI 0 md es e nt x dd) (mo' dd) then cntI 0 md es (L.drop (k + 1)) (stpI 0 md es e nt x) mo' else 0) := fun x => by rw [hf, hmo', ha, hd]; rfl
    rw [← hna] at hnab
    rw [← hnd] at hndb
    rw [← hm0] at hmab
    rw [← hm1] at hmdb
    have E1 := P1.k.eds fs.E fs.nb
    have e1 := E1.ca e hem
    have e2 := E1.cb e hem
    rw [ha] at e1
    rw [hd] at e2
    have zb1 := E1.blk
    have g1 := P1.cell fs.lt.2.2.2.1 fs.n.2.2.2.1 1 fs.g1
    have zG := P1.k.lt fs.lt.2.2.2.1
    have cS := P1.cell fs.lt.2.2.2.2.1 fs.n.2.2.2.2.1 0 fs.cS
    have zS := P1.k.lt fs.lt.2.2.2.2.1
    have s1 := P1.rs.cell haN
    have s2 := P1.rs.cell hdN
    rw [← hna] at s1
    rw [← hnd] at s2
    have zs := P1.rs.lt
    have HNA := Lib.hid hna
    have HND := Lib.hid hnd
    have HM0 := Lib.hid hm0
    have HM1 := Lib.hid hm1
    have HNE : Hid (dd ≠ aa) := fun h => had h.symm
    clear hna hnd hm0 hm1 ha hd hf hmo' cD cL hw4
    go_enter Try.func160, Try.ntmps160
    go_wp2_with fail
    have g1r := cell_regrown g1
    have e1r := cell_regrown e1
    have e2r := cell_regrown e2
    (refine wp_region_quiet_below (by kernel_rfl) (by kernel_rfl) ?_
     repeat (any_goals (go_big_quiet_step (first | fail)))
     all_goals (refine wpQuiet_nil ?_; intro wq2 hq2; replace hq2 := below_of_rg hq2))
    have P2 := P1.below hq2
    have cS2 := (hq2.cell (p := ⟨bS, 0, none⟩) zS).trans cS
    have s12 := (hq2.cell (p := ⟨gs, aa, none⟩) zs).trans s1
    have s22 := (hq2.cell (p := ⟨gs, dd, none⟩) zs).trans s2
    clear g1r e1r e2r hq2 e1 e2 zb1 g1 zG E1 cE i1 zg IA cS s1 s2 P1 zS zs
    go_wp2_with fail
    have cSr := cell_regrown cS2
    have s1r := cell_regrown s12
    have s2r := cell_regrown s22
    (refine wp_region_quiet_below (by kernel_rfl) (by kernel_rfl) ?_
     repeat (any_goals (go_big_quiet_step (first | fail)))
     all_goals (refine wpQuiet_nil ?_; intro wq3 hq3; replace hq3 := below_of_rg hq3))
    have P3 := P2.below hq3
    clear cSr s1r s2r hq3 cS2 s12 s22 P2
    have cM1 := P3.cell fs.lt.2.2.2.2.2.1 fs.n.2.2.2.2.2.1 0 fs.cMo
    have k1 := P3.rm.cell haN
    have fm1 := P3.rm.frozen aa
    rw [← HM0.out] at k1
    have P4 := P3.setM fs.ne aa (m0 - 1)
    have cM2 := P4.cell fs.lt.2.2.2.2.2.1 fs.n.2.2.2.2.2.1 0 fs.cMo
    have k2 := P4.rm.cell hdN
    have fm2 := P4.rm.frozen dd
    rw [upF_other HNE.out, ← HM1.out] at k2
    have P5 := (P4.setM fs.ne dd (m1 - 1)).congr (mo' := mo') rfl (by rw [HMO.out]; exact put2_up had _ _)
    have wm1 : IntKind.i64.wrap (m0 - 1) = m0 - 1 := IntWalk.i64_in _ (by omega)
    have wm2 : IntKind.i64.wrap (m1 - 1) = m1 - 1 := IntWalk.i64_in _ (by omega)
    have r5 := P5.cell fs.lt.2.2.2.2.2.2.1 fs.n.2.2.2.2.2.2.1 0 fs.r0
    obtain ⟨w5, hw5⟩ : ∃ w5, w5 = (wq3.setCell ⟨gm, aa, none⟩ (.int .i64 (m0 - 1))).setCell ⟨gm, dd, none⟩ (.int .i64 (m1 - 1)) := ⟨_, rfl⟩
    have HW5 := Lib.hid hw5
    have P5 := Lib.hid P5
    go_wp2_with fail
    rw [← HW5.out]
    rw [← hw5] at P5 r5
    have P5 := P5.out
    clear hw5 HW5 P3 P4 cM1 k1 fm1 cM2 k2 fm2 wm1 wm2
    obtain ⟨gv, ov, rfl, IV⟩ := (P5.k.srcI fs.IV fs.nV) (by omega)
    have HBN' : Hid (∀ x : Nat, 1 ≤ x → x < md → ∀ v, v < N → 0 ≤ put2 nt aa dd ((na + md - x).tmod md) ((nd + x).tmod md) v ∧ put2 nt aa dd ((na + md - x).tmod md) ((nd + x).tmod md) v < md) := fun x hx1 hx2 v hv => by
      have b3 := HBN.out v hv
      simp only [put2]
      have h1 := Int.tmod_eq_emod_of_nonneg (a := na + md - x) (b := md) (by omega)
      have h2 := Int.tmod_eq_emod_of_nonneg (a := nd + x) (b := md) (by omega)
      rw [h1, h2]
      have q1 := Int.emod_nonneg (na + md - x) (show (md : Int) ≠ 0 by omega)
      have q2 := Int.emod_lt_of_pos (na + md - x) (show (0 : Int) < md by omega)
      have q3 := Int.emod_nonneg (nd + x) (show (md : Int) ≠ 0 by omega)
      have q4 := Int.emod_lt_of_pos (nd + x) (show (0 : Int) < md by omega)
      split
      · exact ⟨q3, q4⟩
      · split
        · exact ⟨q1, q2⟩
        · exact b3
    have HBMo : Hid (∀ v, v < N → -((k + 1 : Nat) : Int) ≤ mo' v ∧ mo' v ≤ 3) := fun v hv => by
      show -((k + 1 : Nat) : Int) ≤ mo' v ∧ mo' v ≤ 3
      rw [HMO.out]
      have b3 := HBM.out v hv
      simp only [put2]
      split
      · omega
      · split <;> omega
    go_loopw [16, 65] (fun ev iv wv => ∃ (i : Nat) (F2 nt2 : Nat → Int) (s2 : Nat), i ≤ nv ∧ iv = .int .i64 i ∧ ev = .bool false ∧ Hid (put2 nt2 aa dd na nd = nt) ∧ Hid ((r = false → s2 = s + csP f (i + 1)) ∧ (r = true → csP f (i + 1) = 0)) ∧ FW w0 T gl gs gm N m P F2 nt2 mo' s2 wv) (fun _ i _ => nv - (intOf i).toNat)
    case atStart => exact ⟨0, F, nt, s, by omega, rfl, rfl, (by show _ = _; rw [HNA.out, HND.out, put2_self]), ⟨fun _ => rfl, fun _ => rfl⟩, P5⟩
    case round =>
      clear P5
      obtain ⟨i, F2, nt2, s2, hi, rfl, rfl, HB2, HSC, P6⟩ := hrel
      obtain ⟨w6, rfl⟩ : ∃ w6, w6 = wr := ⟨wr, rfl⟩
      have HMA : Hid (mo' aa = m0 - 1) := by show _ = _; rw [HMO.out]; simp [put2, had]
      have HMD : Hid (mo' dd = m1 - 1) := by show _ = _; rw [HMO.out]; simp [put2]
      obtain ⟨ma, hma⟩ : ∃ z, z = m0 - 1 := ⟨_, rfl⟩
      obtain ⟨mb, hmb⟩ : ∃ z, z = m1 - 1 := ⟨_, rfl⟩
      have hmaB : -100 ≤ ma ∧ ma ≤ 3 ∧ -100 ≤ mb ∧ mb ≤ 3 := by omega
      rw [← hma] at HMA
      rw [← hmb] at HMD
      have HMB : Hid (upF (upF mo' aa (ma + 1)) dd (mb + 1) = mo) := by
        show _ = _
        rw [put2_up had, HMO.out, put2_put2, hma, hmb, HM0.out, HM1.out, show mo aa - 1 + 1 = mo aa by omega, show mo dd - 1 + 1 = mo dd by omega, put2_self]
      clear hma hmb
      by_cases hiv : i < nv
      rotate_left
      · have hie : i = nv := by omega
        have hi1 : ¬ ((i : Int) < nv) := by omega
        obtain ⟨w9, rfl⟩ : ∃ w9, w9 = w6 := ⟨w6, rfl⟩
        obtain ⟨F9, hF9⟩ : ∃ z, z = F2 := ⟨_, rfl⟩
        obtain ⟨nt9, hnt9⟩ : ∃ z, z = nt2 := ⟨_, rfl⟩
        obtain ⟨s9, hs9⟩ : ∃ z, z = s2 := ⟨_, rfl⟩
        have P9 := P6
        have HB9 := HB2
        rw [← hF9, ← hnt9, ← hs9] at P9
        rw [← hnt9] at HB9
        have HEN : Hid ((r && decide (0 < cntI 0 md es (L.drop k) nt mo)) = false ∧ (r = false → s9 = s + cntI 0 md es (L.drop k) nt mo)) := by
          show _ ∧ _
          rw [hs9, HST.out, show md = i + 1 by omega]
          refine ⟨?_, HSC.out.1⟩
          cases hr : r with
          | false => rfl
          | true => rw [HSC.out.2 hr]; rfl
        clear hie P6 hF9 hnt9 hs9
        go_wp2_with fail
        refine wp_region_thenS 8 (fun i9 v W => match i9 with
          | 0 => v = .slice (some ⟨gs, 0, none⟩) N N
          | 1 => v = .int .i64 (aa : Int)
          | 2 => v = .slice (some ⟨gs, 0, none⟩) N N
          | 3 => v = .int .i64 (dd : Int)
          | 4 => v = .int .i64 na
          | 5 => v = .int .i64 nd
          | 6 => v = .pointer (some ⟨gs, aa, none⟩)
          | 7 => FW w0 T gl gs gm N m P F9 (upF nt9 aa na) mo' s9 W
          | _ => True)
          (fun _ => none) (fun i => match i with | 7 => some 6 | _ => none)
          (fun k W W' => if k = 7 then (fun W W2 => W2 = W.setCell ⟨gs, aa, none⟩ (.int .i64 na)) W W' else Below W.heap.size W W') (fun W => FWC w0 T gl gs gm N m P F9 nt9 mo' s9 aa na W) (by kernel_rfl) (by kernel_rfl) (by kernel_rfl) ?_ ?_ ?_ ?_ ?_
        · exact .inl P9.drew
        · intro i k v W W' hne hd hC hf hE
          by_cases hk : k = 7
          · subst hk
            match i, hne, hf with
            | 0, hne, hf => exact hf
            | 1, hne, hf => exact hf
            | 2, hne, hf => exact hf
            | 3, hne, hf => exact hf
            | 4, hne, hf => exact hf
            | 5, hne, hf => exact hf
            | 6, hne, hf => exact hf
            | 7, hne, hf => exact absurd rfl hne
            | _ + 8, hne, hf => trivial
          · simp only [if_neg hk] at hE
            match i, hf with
            | 0, hf => exact hf
            | 1, hf => exact hf
            | 2, hf => exact hf
            | 3, hf => exact hf
            | 4, hf => exact hf
            | 5, hf => exact hf
            | 6, hf => exact hf
            | 7, hf => exact FW.below hf hE
            | _ + 8, hf => trivial
        · intro k W W' hC hE
          by_cases hk : k = 7
          · subst hk
            replace hE : (fun W W2 => W2 = W.setCell ⟨gs, aa, none⟩ (.int .i64 na)) W W' := hE
            exact by rw [hE]; exact .inr (FWC.set hC fs.ne)
          · simp only [if_neg hk] at hE
            exact FWC.below hC hE
        · simp only [List.take_succ_cons, List.take_zero]
          refine ⟨?_, ?_, ?_, ?_, ?_, ?_, ?_, ?_, trivial⟩
          · intro a W hC hs hd
            have hC : FWC w0 T gl gs gm N m P F9 nt9 mo' s9 aa na W := hC
            have e5 : a.tmps[5]?.getD undef = .pointer (some ⟨bS, 0, none⟩) := hs 5 (by kernel_rfl)
            refine growsG_none (E := fun W W' => Below W.heap.size W W') rfl ?_
            have k0 := hC.cell fs.lt.2.2.2.2.1 fs.n.2.2.2.2.1 0 fs.cS
            clear hs hd
            unfold GrowsE
            go_simp
            exact Below.refl _ _
          · intro a W hC hs hd
            have hC : FWC w0 T gl gs gm N m P F9 nt9 mo' s9 aa na W := hC
            have e12 : a.tmps[12]?.getD undef = .int .i64 (aa : Int) := hs 12 (by kernel_rfl)
            refine growsG_none (E := fun W W' => Below W.heap.size W W') rfl ?_
            clear hs hd
            unfold GrowsE
            go_simp
            exact Below.refl _ _
          · intro a W hC hs hd
            have hC : FWC w0 T gl gs gm N m P F9 nt9 mo' s9 aa na W := hC
            have e5 : a.tmps[5]?.getD undef = .pointer (some ⟨bS, 0, none⟩) := hs 5 (by kernel_rfl)
            refine growsG_none (E := fun W W' => Below W.heap.size W W') rfl ?_
            have k0 := hC.cell fs.lt.2.2.2.2.1 fs.n.2.2.2.2.1 0 fs.cS
            clear hs hd
            unfold GrowsE
            go_simp
            exact Below.refl _ _
          · intro a W hC hs hd
            have hC : FWC w0 T gl gs gm N m P F9 nt9 mo' s9 aa na W := hC
            have e13 : a.tmps[13]?.getD undef = .int .i64 (dd : Int) := hs 13 (by kernel_rfl)
            refine growsG_none (E := fun W W' => Below W.heap.size W W') rfl ?_
            clear hs hd
            unfold GrowsE
            go_simp
            exact Below.refl _ _
          · intro a W hC hs hd
            have hC : FWC w0 T gl gs gm N m P F9 nt9 mo' s9 aa na W := hC
            have e14 : a.tmps[14]?.getD undef = .int .i64 na := hs 14 (by kernel_rfl)
            refine growsG_none (E := fun W W' => Below W.heap.size W W') rfl ?_
            clear hs hd
            unfold GrowsE
            go_simp
            exact Below.refl _ _
          · intro a W hC hs hd
            have hC : FWC w0 T gl gs gm N m P F9 nt9 mo' s9 aa na W := hC
            have e15 : a.tmps[15]?.getD undef = .int .i64 nd := hs 15 (by kernel_rfl)
            refine growsG_none (E := fun W W' => Below W.heap.size W W') rfl ?_
            clear hs hd
            unfold GrowsE
            go_simp
            exact Below.refl _ _
          · intro a W hC hs hd
            have hC : FWC w0 T gl gs gm N m P F9 nt9 mo' s9 aa na W := hC
            have e120 : (a.tmps[120]?.getD undef) = .slice (some ⟨gs, 0, none⟩) N N := hd 0 120 (by kernel_rfl) (by kernel_rfl) (by kernel_rfl)
            have e121 : (a.tmps[121]?.getD undef) = .int .i64 (aa : Int) := hd 1 121 (by kernel_rfl) (by kernel_rfl) (by kernel_rfl)
            refine growsG_none (E := fun W W' => Below W.heap.size W W') rfl ?_
            have k0 := hC.cell fs.lt.2.2.2.2.1 fs.n.2.2.2.2.1 0 fs.cS
            clear hs hd
            unfold GrowsE
            go_simp
            exact Below.refl _ _
          · intro a W hC hs hd
            have hC : FWC w0 T gl gs gm N m P F9 nt9 mo' s9 aa na W := hC
            have e126 : (a.tmps[126]?.getD undef) = .pointer (some ⟨gs, aa, none⟩) := hd 6 126 (by kernel_rfl) (by kernel_rfl) (by kernel_rfl)
            have e124 : (a.tmps[124]?.getD undef) = .int .i64 na := hd 4 124 (by kernel_rfl) (by kernel_rfl) (by kernel_rfl)
            refine growsG_none rfl ?_
            obtain ⟨fx, RX⟩ := hC.row
            have fz := RX.frozen aa
            have kz := RX.cell haN
            clear hs hd
            unfold GrowsE
            go_simp
            exact hC.set fs.ne
        intro vs W hC hf hg
        have f120 : (vs 120) = .slice (some ⟨gs, 0, none⟩) N N := hf 0 120 (by decide) (by kernel_rfl) (fun _ hk => by cases hk)
        have f121 : (vs 121) = .int .i64 (aa : Int) := hf 1 121 (by decide) (by kernel_rfl) (fun _ hk => by cases hk)
        have f122 : (vs 122) = .slice (some ⟨gs, 0, none⟩) N N := hf 2 122 (by decide) (by kernel_rfl) (fun _ hk => by cases hk)
        have f123 : (vs 123) = .int .i64 (dd : Int) := hf 3 123 (by decide) (by kernel_rfl) (fun _ hk => by cases hk)
        have f124 : (vs 124) = .int .i64 na := hf 4 124 (by decide) (by kernel_rfl) (fun _ hk => by cases hk)
        have f125 : (vs 125) = .int .i64 nd := hf 5 125 (by decide) (by kernel_rfl) (fun _ hk => by cases hk)
        have f126 : (vs 126) = .pointer (some ⟨gs, aa, none⟩) := hf 6 126 (by decide) (by kernel_rfl) (fun _ hk => by cases hk)
        have hst : FW w0 T gl gs gm N m P F9 (upF nt9 aa na) mo' s9 W := hg 7 _ (by decide) rfl rfl (fun _ hk => by cases hk)
        simp only [dsts, List.take_succ_cons, List.take_zero, List.drop_succ_cons, List.drop_zero, List.filterMap_cons, List.filterMap_nil, List.foldl_cons, List.foldl_nil, Act.put, List.setIfInBounds_toArray, List.set_cons_succ, List.set_cons_zero, f120, f121, f122, f123, f124, f125, f126]
        clear hf hg
        have hs9 := hst
        obtain ⟨fz2, k2⟩ := And.intro (hs9.rs.frozen dd) (hs9.rs.cell hdN)
        have Q1 := (hs9.setS1 fs.ne dd nd).congr (nt' := nt) (by rw [put2_up had]; exact HB9.out) rfl
        have cM1 := Q1.cell fs.lt.2.2.2.2.2.1 fs.n.2.2.2.2.2.1 0 fs.cMo
        have m1 := Q1.rm.cell haN
        have fm1 := Q1.rm.frozen aa
        rw [HMA.out] at m1
        have Q2 := Q1.setM fs.ne aa (ma + 1)
        have cM2 := Q2.cell fs.lt.2.2.2.2.2.1 fs.n.2.2.2.2.2.1 0 fs.cMo
        have m2 := Q2.rm.cell hdN
        have fm2 := Q2.rm.frozen dd
        rw [upF_other HNE.out, HMD.out] at m2
        have Q3 := Lib.hid ((Q2.setM fs.ne dd (mb + 1)).congr rfl HMB.out)
        have wm1 : IntKind.i64.wrap (ma + 1) = ma + 1 := IntWalk.i64_in _ (by omega)
        have wm2 : IntKind.i64.wrap (mb + 1) = mb + 1 := IntWalk.i64_in _ (by omega)
        clear hst hs9 hC Q1 Q2
        go_wp2_with fail
        go_ret
        exact ⟨by rw [HEN.out.1]; rfl, _, s9, HEN.out.2, Q3.out⟩
      have hi1 : (i : Int) < nv := by omega
      obtain ⟨x, hx⟩ : ∃ x, x = i + 1 := ⟨_, rfl⟩
      have hx1 : 1 ≤ x := by omega
      have hx2 : x < md := by omega
      have IV6 := P6.k.srcI fs.IV fs.nV
      have v1 : w6.cell? ⟨gv, ov + i, none⟩ = some (.int .i64 x) := by
        obtain ⟨g', o', e', I'⟩ := IV6 (by omega)
        cases e'
        rw [hx]
        exact I'.c i hiv
      have zv := World.block_lt_of_cell? w6 _ v1
      obtain ⟨ua, hua⟩ : ∃ z, z = (na + md - x).tmod md := ⟨_, rfl⟩
      obtain ⟨ud, hud⟩ : ∃ z, z = (nd + x).tmod md := ⟨_, rfl⟩
      obtain ⟨nt', hnt'⟩ : ∃ z, z = stpI 0 md es e nt x := ⟨_, rfl⟩
      have HNT : Hid (nt' = put2 nt aa dd ua ud) := by show _ = _; rw [hnt', HSTP.out x, hua, hud]
      have HC1 : Hid (∀ W, FWC w0 T gl gs gm N m P F2 nt2 mo' s2 aa ua W → Calls Try.prog 127 #[.int .i64 na, .int .i64 x, .bool false, .pointer (some ⟨bq, 0, none⟩)] W (Ret (.int .i64 ua) W)) := fun W hW => by
        rw [hua]
        exact (modular1_any na x md false bq W (hW.cell hql hqn 0 hcq) (by omega) (by omega) (by omega) (by omega) (by omega) (by omega)).mono (fun e w' h => ⟨h.1, by rw [← h.2]; exact Below.refl _ _⟩)
      have HC2 : Hid (∀ W, FWC w0 T gl gs gm N m P F2 nt2 mo' s2 aa ua W → Calls Try.prog 127 #[.int .i64 nd, .int .i64 x, .bool true, .pointer (some ⟨bq, 0, none⟩)] W (Ret (.int .i64 ud) W)) := fun W hW => by
        rw [hud]
        exact (modular1_any nd x md true bq W (hW.cell hql hqn 0 hcq) (by omega) (by omega) (by omega) (by omega) (by omega) (by omega)).mono (fun e w' h => ⟨h.1, by rw [← h.2]; exact Below.refl _ _⟩)
      have hub : 0 ≤ ua ∧ ua < md ∧ 0 ≤ ud ∧ ud < md := by
        have h1 := Int.tmod_eq_emod_of_nonneg (a := na + md - x) (b := md) (by omega)
        have h2 := Int.tmod_eq_emod_of_nonneg (a := nd + x) (b := md) (by omega)
        rw [hua, hud, h1, h2]
        exact ⟨Int.emod_nonneg _ (by omega), Int.emod_lt_of_pos _ (by omega), Int.emod_nonneg _ (by omega), Int.emod_lt_of_pos _ (by omega)⟩
      have HBNN : Hid (∀ v, v < N → 0 ≤ nt' v ∧ nt' v < md) := by
        have := HBN'.out x hx1 hx2
        rw [← hua, ← hud, ← HNT.out] at this
        exact this
      have HCS : Hid (csP f (i + 1 + 1) = csP f (i + 1) + f x) := by show _ = _; rw [hx]; show csP f (i + 1) + (if i + 1 = 0 then 0 else f (i + 1)) = _; rw [if_neg (by omega)]
      obtain ⟨c1v, hc1v⟩ : ∃ z, z = canE ua ma := ⟨_, rfl⟩
      obtain ⟨c2v, hc2v⟩ : ∃ z, z = canE ud mb := ⟨_, rfl⟩
      have HFX : Hid (f x = if c1v && c2v then cntI 0 md es (L.drop (k + 1)) nt' mo' else 0) := by
        show _ = _
        rw [HF.out x, ← hnt', HMA.out, HMD.out, hc1v, hc2v]
        have h1 : nt' aa = ua := by rw [HNT.out]; simp [put2, had]
        have h2 : nt' dd = ud := by rw [HNT.out]; simp [put2]
        rw [h1, h2]
      have HE1 : Hid (∀ W, Calls Try.prog 128 #[.int .i64 ua, .int .i64 ma] W (Ret (.bool c1v) W)) := fun W => by
        rw [hc1v]; exact (modular2_any ua ma W).mono (fun e w' h => ⟨h.1, by rw [← h.2]; exact Below.refl _ _⟩)
      have HE2 : Hid (∀ W, Calls Try.prog 128 #[.int .i64 ud, .int .i64 mb] W (Ret (.bool c2v) W)) := fun W => by
        rw [hc2v]; exact (modular2_any ud mb W).mono (fun e w' h => ⟨h.1, by rw [← h.2]; exact Below.refl _ _⟩)
      have HUA := Lib.hid hua
      have HUD := Lib.hid hud
      have HX := Lib.hid hx
      clear hua hud hx hnt' hc1v hc2v IV6
      go_wp2_with fail
      refine wp_region_thenS 16 (fun i9 v W => match i9 with
        | 0 => v = .slice (some ⟨gs, 0, none⟩) N N
        | 1 => v = .int .i64 (aa : Int)
        | 2 => v = .slice (some ⟨gs, 0, none⟩) N N
        | 3 => v = .int .i64 (dd : Int)
        | 4 => v = .pointer (some ⟨bR, 1, none⟩)
        | 5 => v = .func (.func 127) #[] #[.pointer (some ⟨bq, 0, none⟩)]
        | 6 => v = .int .i64 na
        | 7 => v = .int .i64 (x : Int)
        | 8 => v = .int .i64 ua
        | 9 => v = .pointer (some ⟨bR, 1, none⟩)
        | 10 => v = .func (.func 127) #[] #[.pointer (some ⟨bq, 0, none⟩)]
        | 11 => v = .int .i64 nd
        | 12 => v = .int .i64 (x : Int)
        | 13 => v = .int .i64 ud
        | 14 => v = .pointer (some ⟨gs, aa, none⟩)
        | 15 => FW w0 T gl gs gm N m P F2 (upF nt2 aa ua) mo' s2 W
        | _ => True)
        (fun _ => none) (fun i => match i with | 15 => some 14 | _ => none)
        (fun k W W' => if k = 15 then (fun W W2 => W2 = W.setCell ⟨gs, aa, none⟩ (.int .i64 ua)) W W' else Below W.heap.size W W') (fun W => FWC w0 T gl gs gm N m P F2 nt2 mo' s2 aa ua W) (by kernel_rfl) (by kernel_rfl) (by kernel_rfl) ?_ ?_ ?_ ?_ ?_
      · exact .inl P6.drew
      · intro i k v W W' hne hd hC hf hE
        by_cases hk : k = 15
        · subst hk
          match i, hne, hf with
          | 0, hne, hf => exact hf
          | 1, hne, hf => exact hf
          | 2, hne, hf => exact hf
          | 3, hne, hf => exact hf
          | 4, hne, hf => exact hf
          | 5, hne, hf => exact hf
          | 6, hne, hf => exact hf
          | 7, hne, hf => exact hf
          | 8, hne, hf => exact hf
          | 9, hne, hf => exact hf
          | 10, hne, hf => exact hf
          | 11, hne, hf => exact hf
          | 12, hne, hf => exact hf
          | 13, hne, hf => exact hf
          | 14, hne, hf => exact hf
          | 15, hne, hf => exact absurd rfl hne
          | _ + 16, hne, hf => trivial
        · simp only [if_neg hk] at hE
          match i, hf with
          | 0, hf => exact hf
          | 1, hf => exact hf
          | 2, hf => exact hf
          | 3, hf => exact hf
          | 4, hf => exact hf
          | 5, hf => exact hf
          | 6, hf => exact hf
          | 7, hf => exact hf
          | 8, hf => exact hf
          | 9, hf => exact hf
          | 10, hf => exact hf
          | 11, hf => exact hf
          | 12, hf => exact hf
          | 13, hf => exact hf
          | 14, hf => exact hf
          | 15, hf => exact FW.below hf hE
          | _ + 16, hf => trivial
      · intro k W W' hC hE
        by_cases hk : k = 15
        · subst hk
          replace hE : (fun W W2 => W2 = W.setCell ⟨gs, aa, none⟩ (.int .i64 ua)) W W' := hE
          exact by rw [hE]; exact .inr (FWC.set hC fs.ne)
        · simp only [if_neg hk] at hE
          exact FWC.below hC hE
      · simp only [List.take_succ_cons, List.take_zero]
        refine ⟨?_, ?_, ?_, ?_, ?_, ?_, ?_, ?_, ?_, ?_, ?_, ?_, ?_, ?_, ?_, ?_, trivial⟩
        · intro a W hC hs hd
          have hC : FWC w0 T gl gs gm N m P F2 nt2 mo' s2 aa ua W := hC
          have e5 : a.tmps[5]?.getD undef = .pointer (some ⟨bS, 0, none⟩) := hs 5 (by kernel_rfl)
          refine growsG_none (E := fun W W' => Below W.heap.size W W') rfl ?_
          have k0 := hC.cell fs.lt.2.2.2.2.1 fs.n.2.2.2.2.1 0 fs.cS
          have k1 := hC.cell fs.lt.2.2.2.2.2.2.1 fs.n.2.2.2.2.2.2.1 1 fs.r1
          clear hs hd
          unfold GrowsE
          go_simp
          exact Below.refl _ _
        · intro a W hC hs hd
          have hC : FWC w0 T gl gs gm N m P F2 nt2 mo' s2 aa ua W := hC
          have e12 : a.tmps[12]?.getD undef = .int .i64 (aa : Int) := hs 12 (by kernel_rfl)
          refine growsG_none (E := fun W W' => Below W.heap.size W W') rfl ?_
          clear hs hd
          unfold GrowsE
          go_simp
          exact Below.refl _ _
        · intro a W hC hs hd
          have hC : FWC w0 T gl gs gm N m P F2 nt2 mo' s2 aa ua W := hC
          have e5 : a.tmps[5]?.getD undef = .pointer (some ⟨bS, 0, none⟩) := hs 5 (by kernel_rfl)
          refine growsG_none (E := fun W W' => Below W.heap.size W W') rfl ?_
          have k0 := hC.cell fs.lt.2.2.2.2.1 fs.n.2.2.2.2.1 0 fs.cS
          have k1 := hC.cell fs.lt.2.2.2.2.2.2.1 fs.n.2.2.2.2.2.2.1 1 fs.r1
          clear hs hd
          unfold GrowsE
          go_simp
          exact Below.refl _ _
        · intro a W hC hs hd
          have hC : FWC w0 T gl gs gm N m P F2 nt2 mo' s2 aa ua W := hC
          have e13 : a.tmps[13]?.getD undef = .int .i64 (dd : Int) := hs 13 (by kernel_rfl)
          refine growsG_none (E := fun W W' => Below W.heap.size W W') rfl ?_
          clear hs hd
          unfold GrowsE
          go_simp
          exact Below.refl _ _
        · intro a W hC hs hd
          have hC : FWC w0 T gl gs gm N m P F2 nt2 mo' s2 aa ua W := hC
          have e7 : a.tmps[7]?.getD undef = .pointer (some ⟨bR, 0, none⟩) := hs 7 (by kernel_rfl)
          refine growsG_none (E := fun W W' => Below W.heap.size W W') rfl ?_
          have k0 := hC.cell fs.lt.2.2.2.2.1 fs.n.2.2.2.2.1 0 fs.cS
          have k1 := hC.cell fs.lt.2.2.2.2.2.2.1 fs.n.2.2.2.2.2.2.1 1 fs.r1
          clear hs hd
          unfold GrowsE
          go_simp
          exact Below.refl _ _
        · intro a W hC hs hd
          have hC : FWC w0 T gl gs gm N m P F2 nt2 mo' s2 aa ua W := hC
          have e73 : (a.tmps[73]?.getD undef) = .pointer (some ⟨bR, 1, none⟩) := hd 4 73 (by kernel_rfl) (by kernel_rfl) (by kernel_rfl)
          refine growsG_none (E := fun W W' => Below W.heap.size W W') rfl ?_
          have k0 := hC.cell fs.lt.2.2.2.2.1 fs.n.2.2.2.2.1 0 fs.cS
          have k1 := hC.cell fs.lt.2.2.2.2.2.2.1 fs.n.2.2.2.2.2.2.1 1 fs.r1
          clear hs hd
          unfold GrowsE
          go_simp
          exact Below.refl _ _
        · intro a W hC hs hd
          have hC : FWC w0 T gl gs gm N m P F2 nt2 mo' s2 aa ua W := hC
          have e14 : a.tmps[14]?.getD undef = .int .i64 na := hs 14 (by kernel_rfl)
          refine growsG_none (E := fun W W' => Below W.heap.size W W') rfl ?_
          clear hs hd
          unfold GrowsE
          go_simp
          exact Below.refl _ _
        · intro a W hC hs hd
          have hC : FWC w0 T gl gs gm N m P F2 nt2 mo' s2 aa ua W := hC
          have e18 : a.tmps[18]?.getD undef = .int .i64 (x : Int) := hs 18 (by kernel_rfl)
          refine growsG_none (E := fun W W' => Below W.heap.size W W') rfl ?_
          clear hs hd
          unfold GrowsE
          go_simp
          exact Below.refl _ _
        · intro a W hC hs hd
          have hC : FWC w0 T gl gs gm N m P F2 nt2 mo' s2 aa ua W := hC
          have e74 : (a.tmps[74]?.getD undef) = .func (.func 127) #[] #[.pointer (some ⟨bq, 0, none⟩)] := hd 5 74 (by kernel_rfl) (by kernel_rfl) (by kernel_rfl)
          have e75 : (a.tmps[75]?.getD undef) = .int .i64 na := hd 6 75 (by kernel_rfl) (by kernel_rfl) (by kernel_rfl)
          have e76 : (a.tmps[76]?.getD undef) = .int .i64 (x : Int) := hd 7 76 (by kernel_rfl) (by kernel_rfl) (by kernel_rfl)
          refine growsG_none (E := fun W W' => Below W.heap.size W W') rfl ?_
          clear hs hd
          unfold GrowsE
          go_simp
          refine ⟨Below.refl _ _, (HC1.out W hC).mono ?_⟩
          rintro e w6 ⟨rfl, hb6⟩
          exact ⟨_, rfl, hb6, rfl⟩
        · intro a W hC hs hd
          have hC : FWC w0 T gl gs gm N m P F2 nt2 mo' s2 aa ua W := hC
          have e7 : a.tmps[7]?.getD undef = .pointer (some ⟨bR, 0, none⟩) := hs 7 (by kernel_rfl)
          refine growsG_none (E := fun W W' => Below W.heap.size W W') rfl ?_
          have k0 := hC.cell fs.lt.2.2.2.2.1 fs.n.2.2.2.2.1 0 fs.cS
          have k1 := hC.cell fs.lt.2.2.2.2.2.2.1 fs.n.2.2.2.2.2.2.1 1 fs.r1
          clear hs hd
          unfold GrowsE
          go_simp
          exact Below.refl _ _
        · intro a W hC hs hd
          have hC : FWC w0 T gl gs gm N m P F2 nt2 mo' s2 aa ua W := hC
          have e78 : (a.tmps[78]?.getD undef) = .pointer (some ⟨bR, 1, none⟩) := hd 9 78 (by kernel_rfl) (by kernel_rfl) (by kernel_rfl)
          refine growsG_none (E := fun W W' => Below W.heap.size W W') rfl ?_
          have k0 := hC.cell fs.lt.2.2.2.2.1 fs.n.2.2.2.2.1 0 fs.cS
          have k1 := hC.cell fs.lt.2.2.2.2.2.2.1 fs.n.2.2.2.2.2.2.1 1 fs.r1
          clear hs hd
          unfold GrowsE
          go_simp
          exact Below.refl _ _
        · intro a W hC hs hd
          have hC : FWC w0 T gl gs gm N m P F2 nt2 mo' s2 aa ua W := hC
          have e15 : a.tmps[15]?.getD undef = .int .i64 nd := hs 15 (by kernel_rfl)
          refine growsG_none (E := fun W W' => Below W.heap.size W W') rfl ?_
          clear hs hd
          unfold GrowsE
          go_simp
          exact Below.refl _ _
        · intro a W hC hs hd
          have hC : FWC w0 T gl gs gm N m P F2 nt2 mo' s2 aa ua W := hC
          have e18 : a.tmps[18]?.getD undef = .int .i64 (x : Int) := hs 18 (by kernel_rfl)
          refine growsG_none (E := fun W W' => Below W.heap.size W W') rfl ?_
          clear hs hd
          unfold GrowsE
          go_simp
          exact Below.refl _ _
        · intro a W hC hs hd
          have hC : FWC w0 T gl gs gm N m P F2 nt2 mo' s2 aa ua W := hC
          have e79 : (a.tmps[79]?.getD undef) = .func (.func 127) #[] #[.pointer (some ⟨bq, 0, none⟩)] := hd 10 79 (by kernel_rfl) (by kernel_rfl) (by kernel_rfl)
          have e80 : (a.tmps[80]?.getD undef) = .int .i64 nd := hd 11 80 (by kernel_rfl) (by kernel_rfl) (by kernel_rfl)
          have e81 : (a.tmps[81]?.getD undef) = .int .i64 (x : Int) := hd 12 81 (by kernel_rfl) (by kernel_rfl) (by kernel_rfl)
          refine growsG_none (E := fun W W' => Below W.heap.size W W') rfl ?_
          clear hs hd
          unfold GrowsE
          go_simp
          refine ⟨Below.refl _ _, (HC2.out W hC).mono ?_⟩
          rintro e w6 ⟨rfl, hb6⟩
          exact ⟨_, rfl, hb6, rfl⟩
        · intro a W hC hs hd
          have hC : FWC w0 T gl gs gm N m P F2 nt2 mo' s2 aa ua W := hC
          have e69 : (a.tmps[69]?.getD undef) = .slice (some ⟨gs, 0, none⟩) N N := hd 0 69 (by kernel_rfl) (by kernel_rfl) (by kernel_rfl)
          have e70 : (a.tmps[70]?.getD undef) = .int .i64 (aa : Int) := hd 1 70 (by kernel_rfl) (by kernel_rfl) (by kernel_rfl)
          refine growsG_none (E := fun W W' => Below W.heap.size W W') rfl ?_
          have k0 := hC.cell fs.lt.2.2.2.2.1 fs.n.2.2.2.2.1 0 fs.cS
          have k1 := hC.cell fs.lt.2.2.2.2.2.2.1 fs.n.2.2.2.2.2.2.1 1 fs.r1
          clear hs hd
          unfold GrowsE
          go_simp
          exact Below.refl _ _
        · intro a W hC hs hd
          have hC : FWC w0 T gl gs gm N m P F2 nt2 mo' s2 aa ua W := hC
          have e83 : (a.tmps[83]?.getD undef) = .pointer (some ⟨gs, aa, none⟩) := hd 14 83 (by kernel_rfl) (by kernel_rfl) (by kernel_rfl)
          have e77 : (a.tmps[77]?.getD undef) = .int .i64 ua := hd 8 77 (by kernel_rfl) (by kernel_rfl) (by kernel_rfl)
          refine growsG_none rfl ?_
          obtain ⟨fx, RX⟩ := hC.row
          have fz := RX.frozen aa
          have kz := RX.cell haN
          clear hs hd
          unfold GrowsE
          go_simp
          exact hC.set fs.ne
      intro vs W hC hf hg
      have f69 : (vs 69) = .slice (some ⟨gs, 0, none⟩) N N := hf 0 69 (by decide) (by kernel_rfl) (fun _ hk => by cases hk)
      have f70 : (vs 70) = .int .i64 (aa : Int) := hf 1 70 (by decide) (by kernel_rfl) (fun _ hk => by cases hk)
      have f71 : (vs 71) = .slice (some ⟨gs, 0, none⟩) N N := hf 2 71 (by decide) (by kernel_rfl) (fun _ hk => by cases hk)
      have f72 : (vs 72) = .int .i64 (dd : Int) := hf 3 72 (by decide) (by kernel_rfl) (fun _ hk => by cases hk)
      have f73 : (vs 73) = .pointer (some ⟨bR, 1, none⟩) := hf 4 73 (by decide) (by kernel_rfl) (fun _ hk => by cases hk)
      have f74 : (vs 74) = .func (.func 127) #[] #[.pointer (some ⟨bq, 0, none⟩)] := hf 5 74 (by decide) (by kernel_rfl) (fun _ hk => by cases hk)
      have f75 : (vs 75) = .int .i64 na := hf 6 75 (by decide) (by kernel_rfl) (fun _ hk => by cases hk)
      have f76 : (vs 76) = .int .i64 (x : Int) := hf 7 76 (by decide) (by kernel_rfl) (fun _ hk => by cases hk)
      have f77 : (vs 77) = .int .i64 ua := hf 8 77 (by decide) (by kernel_rfl) (fun _ hk => by cases hk)
      have f78 : (vs 78) = .pointer (some ⟨bR, 1, none⟩) := hf 9 78 (by decide) (by kernel_rfl) (fun _ hk => by cases hk)
      have f79 : (vs 79) = .func (.func 127) #[] #[.pointer (some ⟨bq, 0, none⟩)] := hf 10 79 (by decide) (by kernel_rfl) (fun _ hk => by cases hk)
      have f80 : (vs 80) = .int .i64 nd := hf 11 80 (by decide) (by kernel_rfl) (fun _ hk => by cases hk)
      have f81 : (vs 81) = .int .i64 (x : Int) := hf 12 81 (by decide) (by kernel_rfl) (fun _ hk => by cases hk)
      have f82 : (vs 82) = .int .i64 ud := hf 13 82 (by decide) (by kernel_rfl) (fun _ hk => by cases hk)
      have f83 : (vs 83) = .pointer (some ⟨gs, aa, none⟩) := hf 14 83 (by decide) (by kernel_rfl) (fun _ hk => by cases hk)
      have hst : FW w0 T gl gs gm N m P F2 (upF nt2 aa ua) mo' s2 W := hg 15 _ (by decide) rfl rfl (fun _ hk => by cases hk)
      simp only [dsts, List.take_succ_cons, List.take_zero, List.drop_succ_cons, List.drop_zero, List.filterMap_cons, List.filterMap_nil, List.foldl_cons, List.foldl_nil, Act.put, List.setIfInBounds_toArray, List.set_cons_succ, List.set_cons_zero, f69, f70, f71, f72, f73, f74, f75, f76, f77, f78, f79, f80, f81, f82, f83]
      clear hf hg
      have hs12 := hst
      obtain ⟨fz2, k2⟩ := And.intro (hs12.rs.frozen dd) (hs12.rs.cell hdN)
      have P8 := (hs12.setS1 fs.ne dd ud).congr (nt' := nt') (by rw [put2_up had, HNT.out, ← HB2.out, put2_put2]) rfl
      have cL := P8.cell fs.lt.2.2.1 fs.n.2.2.1 0 fs.cL
      have fl := P8.rl.frozen e
      have kl := P8.rl.cell hem
      have P8 := P8.setL fs.ne e x
      obtain ⟨w8, hw8⟩ : ∃ w8, w8 = (W.setCell ⟨gs, dd, none⟩ (.int .i64 ud)).setCell ⟨gl, e, none⟩ (.int .i64 (x : Int)) := ⟨_, rfl⟩
      have HW8 := Lib.hid hw8
      have P8 := Lib.hid P8
      clear hst hs12 hC P6
      go_wp2_with fail
      rw [← HW8.out]
      rw [← hw8] at P8
      have P8 := P8.out
      clear hw8 HW8 fz2 k2 cL fl kl v1 zv HC1 HC2
      have HBK : Hid (put2 nt' aa dd na nd = nt) := by show _ = _; rw [HNT.out, put2_put2, HNA.out, HND.out, put2_self]
      have c2 := P8.cell fs.lt.2.2.2.2.2.2.1 fs.n.2.2.2.2.2.2.1 2 fs.r2
      have zR := P8.k.lt fs.lt.2.2.2.2.2.2.1
      have cS := P8.cell fs.lt.2.2.2.2.1 fs.n.2.2.2.2.1 0 fs.cS
      have zS := P8.k.lt fs.lt.2.2.2.2.1
      have cM0 := P8.cell fs.lt.2.2.2.2.2.1 fs.n.2.2.2.2.2.1 0 fs.cMo
      have zM := P8.k.lt fs.lt.2.2.2.2.2.1
      have cF := P8.cell fs.lt.2.2.2.2.2.2.2 fs.n.2.2.2.2.2.2.2 0 fs.cF
      have zF := P8.k.lt fs.lt.2.2.2.2.2.2.2
      have sa := P8.rs.cell haN
      have sd := P8.rs.cell hdN
      have zs := P8.rs.lt
      have mca := P8.rm.cell haN
      have mcd := P8.rm.cell hdN
      have zm := P8.rm.lt
      rw [show nt' aa = ua by rw [HNT.out]; simp [put2, had]] at sa
      rw [show nt' dd = ud by rw [HNT.out]; simp [put2]] at sd
      rw [HMA.out] at mca
      rw [HMD.out] at mcd
      have wk : IntKind.i64.wrap ((k : Int) + 1) = ((k + 1 : Nat) : Int) := by rw [IntWalk.i64_in _ (by omega)]; simp
      have HBN := HBNN
      have HBM := HBMo
      clear HBNN HBMo HBN'
      cases hb1 : c1v with
      | false =>
        rw [hb1] at HE1 HFX
        clear hb1
        go_wp2_with fail
        refine wp_region_then 29 (fun i9 v W => match i9 with
          | 0 => v = .pointer (some ⟨bR, 2, none⟩)
          | 1 => v = .func (.func 128) #[] #[]
          | 2 => v = .slice (some ⟨gs, 0, none⟩) N N
          | 3 => v = .int .i64 (aa : Int)
          | 4 => v = .pointer (some ⟨gs, aa, none⟩)
          | 5 => v = .int .i64 ua
          | 6 => v = .slice (some ⟨gm, 0, none⟩) N cM
          | 7 => v = .int .i64 (aa : Int)
          | 8 => v = .pointer (some ⟨gm, aa, none⟩)
          | 9 => v = .int .i64 ma
          | 10 => v = .bool false
          | 11 => v = .bool false
          | 12 => v = undef
          | 13 => v = undef
          | 14 => v = undef
          | 15 => v = undef
          | 16 => v = undef
          | 17 => v = undef
          | 18 => v = undef
          | 19 => v = undef
          | 20 => v = undef
          | 21 => v = undef
          | 22 => v = undef
          | 23 => v = .bool false
          | 24 => v = .bool false
          | 25 => v = undef
          | 26 => v = undef
          | 27 => v = undef
          | _ => v = undef)
          (fun i => match i with
          | _ => none)
          (fun k W W' => Below W.heap.size W W')  (fun W => Below w8.heap.size w8 W) (by kernel_rfl) (by kernel_rfl) ?_ ?_ ?_ ?_ ?_
        · exact (Below.refl _ _).drew
        · intro i k v W W' hne hd hC hf hE
          match i, hf with
          | 0, hf => exact hf
          | 1, hf => exact hf
          | 2, hf => exact hf
          | 3, hf => exact hf
          | 4, hf => exact hf
          | 5, hf => exact hf
          | 6, hf => exact hf
          | 7, hf => exact hf
          | 8, hf => exact hf
          | 9, hf => exact hf
          | 10, hf => exact hf
          | 11, hf => exact hf
          | 12, hf => exact hf
          | 13, hf => exact hf
          | 14, hf => exact hf
          | 15, hf => exact hf
          | 16, hf => exact hf
          | 17, hf => exact hf
          | 18, hf => exact hf
          | 19, hf => exact hf
          | 20, hf => exact hf
          | 21, hf => exact hf
          | 22, hf => exact hf
          | 23, hf => exact hf
          | 24, hf => exact hf
          | 25, hf => exact hf
          | 26, hf => exact hf
          | 27, hf => exact hf
          | _ + 28, hf => exact hf
        · intro k W W' hC hE
          exact Below.andB hC hE
        · simp only [List.take_succ_cons, List.take_zero]
          refine ⟨?_, ?_, ?_, ?_, ?_, ?_, ?_, ?_, ?_, ?_, ?_, ?_, ?_, ?_, ?_, ?_, ?_, ?_, ?_, ?_, ?_, ?_, ?_, ?_, ?_, ?_, ?_, ?_, ?_, trivial⟩
          · intro a W hC hs hd
            have hW : Below w8.heap.size w8 W := hC
            have e7 : a.tmps[7]?.getD undef = .pointer (some ⟨bR, 0, none⟩) := hs 7 (by kernel_rfl)
            refine growsG_none (E := fun W W' => Below W.heap.size W W') rfl ?_
            have k0 := (hW.cell (p := ⟨bR, 2, none⟩) (zR)).trans (c2)
            have k1 := (hW.cell (p := ⟨bS, 0, none⟩) (zS)).trans (cS)
            have k2 := (hW.cell (p := ⟨bM, 0, none⟩) (zM)).trans (cM0)
            have k3 := (hW.cell (p := ⟨bF, 0, none⟩) (zF)).trans (cF)
            have k4 := (hW.cell (p := ⟨gs, aa, none⟩) (zs)).trans (sa)
            have k5 := (hW.cell (p := ⟨gs, dd, none⟩) (zs)).trans (sd)
            have k6 := (hW.cell (p := ⟨gm, aa, none⟩) (zm)).trans (mca)
            have k7 := (hW.cell (p := ⟨gm, dd, none⟩) (zm)).trans (mcd)
            clear hs hd
            unfold GrowsE
            go_simp
            exact Below.refl _ _
          · intro a W hC hs hd
            have hW : Below w8.heap.size w8 W := hC
            have e89 : (a.tmps[89]?.getD undef) = .pointer (some ⟨bR, 2, none⟩) := hd 0 89 (by kernel_rfl) (by kernel_rfl) (by kernel_rfl)
            refine growsG_none (E := fun W W' => Below W.heap.size W W') rfl ?_
            have k0 := (hW.cell (p := ⟨bR, 2, none⟩) (zR)).trans (c2)
            have k1 := (hW.cell (p := ⟨bS, 0, none⟩) (zS)).trans (cS)
            have k2 := (hW.cell (p := ⟨bM, 0, none⟩) (zM)).trans (cM0)
            have k3 := (hW.cell (p := ⟨bF, 0, none⟩) (zF)).trans (cF)
            have k4 := (hW.cell (p := ⟨gs, aa, none⟩) (zs)).trans (sa)
            have k5 := (hW.cell (p := ⟨gs, dd, none⟩) (zs)).trans (sd)
            have k6 := (hW.cell (p := ⟨gm, aa, none⟩) (zm)).trans (mca)
            have k7 := (hW.cell (p := ⟨gm, dd, none⟩) (zm)).trans (mcd)
            clear hs hd
            unfold GrowsE
            go_simp
            exact Below.refl _ _
          · intro a W hC hs hd
            have hW : Below w8.heap.size w8 W := hC
            have e5 : a.tmps[5]?.getD undef = .pointer (some ⟨bS, 0, none⟩) := hs 5 (by kernel_rfl)
            refine growsG_none (E := fun W W' => Below W.heap.size W W') rfl ?_
            have k0 := (hW.cell (p := ⟨bR, 2, none⟩) (zR)).trans (c2)
            have k1 := (hW.cell (p := ⟨bS, 0, none⟩) (zS)).trans (cS)
            have k2 := (hW.cell (p := ⟨bM, 0, none⟩) (zM)).trans (cM0)
            have k3 := (hW.cell (p := ⟨bF, 0, none⟩) (zF)).trans (cF)
            have k4 := (hW.cell (p := ⟨gs, aa, none⟩) (zs)).trans (sa)
            have k5 := (hW.cell (p := ⟨gs, dd, none⟩) (zs)).trans (sd)
            have k6 := (hW.cell (p := ⟨gm, aa, none⟩) (zm)).trans (mca)
            have k7 := (hW.cell (p := ⟨gm, dd, none⟩) (zm)).trans (mcd)
            clear hs hd
            unfold GrowsE
            go_simp
            exact Below.refl _ _
          · intro a W hC hs hd
            have hW : Below w8.heap.size w8 W := hC
            have e12 : a.tmps[12]?.getD undef = .int .i64 (aa : Int) := hs 12 (by kernel_rfl)
            refine growsG_none (E := fun W W' => Below W.heap.size W W') rfl ?_
            clear hs hd
            unfold GrowsE
            go_simp
            exact Below.refl _ _
          · intro a W hC hs hd
            have hW : Below w8.heap.size w8 W := hC
            have e91 : (a.tmps[91]?.getD undef) = .slice (some ⟨gs, 0, none⟩) N N := hd 2 91 (by kernel_rfl) (by kernel_rfl) (by kernel_rfl)
            have e92 : (a.tmps[92]?.getD undef) = .int .i64 (aa : Int) := hd 3 92 (by kernel_rfl) (by kernel_rfl) (by kernel_rfl)
            refine growsG_none (E := fun W W' => Below W.heap.size W W') rfl ?_
            have k0 := (hW.cell (p := ⟨bR, 2, none⟩) (zR)).trans (c2)
            have k1 := (hW.cell (p := ⟨bS, 0, none⟩) (zS)).trans (cS)
            have k2 := (hW.cell (p := ⟨bM, 0, none⟩) (zM)).trans (cM0)
            have k3 := (hW.cell (p := ⟨bF, 0, none⟩) (zF)).trans (cF)
            have k4 := (hW.cell (p := ⟨gs, aa, none⟩) (zs)).trans (sa)
            have k5 := (hW.cell (p := ⟨gs, dd, none⟩) (zs)).trans (sd)
            have k6 := (hW.cell (p := ⟨gm, aa, none⟩) (zm)).trans (mca)
            have k7 := (hW.cell (p := ⟨gm, dd, none⟩) (zm)).trans (mcd)
            clear hs hd
            unfold GrowsE
            go_simp
            exact Below.refl _ _
          · intro a W hC hs hd
            have hW : Below w8.heap.size w8 W := hC
            have e93 : (a.tmps[93]?.getD undef) = .pointer (some ⟨gs, aa, none⟩) := hd 4 93 (by kernel_rfl) (by kernel_rfl) (by kernel_rfl)
            refine growsG_none (E := fun W W' => Below W.heap.size W W') rfl ?_
            have k0 := (hW.cell (p := ⟨bR, 2, none⟩) (zR)).trans (c2)
            have k1 := (hW.cell (p := ⟨bS, 0, none⟩) (zS)).trans (cS)
            have k2 := (hW.cell (p := ⟨bM, 0, none⟩) (zM)).trans (cM0)
            have k3 := (hW.cell (p := ⟨bF, 0, none⟩) (zF)).trans (cF)
            have k4 := (hW.cell (p := ⟨gs, aa, none⟩) (zs)).trans (sa)
            have k5 := (hW.cell (p := ⟨gs, dd, none⟩) (zs)).trans (sd)
            have k6 := (hW.cell (p := ⟨gm, aa, none⟩) (zm)).trans (mca)
            have k7 := (hW.cell (p := ⟨gm, dd, none⟩) (zm)).trans (mcd)
            clear hs hd
            unfold GrowsE
            go_simp
            exact Below.refl _ _
          · intro a W hC hs hd
            have hW : Below w8.heap.size w8 W := hC
            have e6 : a.tmps[6]?.getD undef = .pointer (some ⟨bM, 0, none⟩) := hs 6 (by kernel_rfl)
            refine growsG_none (E := fun W W' => Below W.heap.size W W') rfl ?_
            have k0 := (hW.cell (p := ⟨bR, 2, none⟩) (zR)).trans (c2)
            have k1 := (hW.cell (p := ⟨bS, 0, none⟩) (zS)).trans (cS)
            have k2 := (hW.cell (p := ⟨bM, 0, none⟩) (zM)).trans (cM0)
            have k3 := (hW.cell (p := ⟨bF, 0, none⟩) (zF)).trans (cF)
            have k4 := (hW.cell (p := ⟨gs, aa, none⟩) (zs)).trans (sa)
            have k5 := (hW.cell (p := ⟨gs, dd, none⟩) (zs)).trans (sd)
            have k6 := (hW.cell (p := ⟨gm, aa, none⟩) (zm)).trans (mca)
            have k7 := (hW.cell (p := ⟨gm, dd, none⟩) (zm)).trans (mcd)
            clear hs hd
            unfold GrowsE
            go_simp
            exact Below.refl _ _
          · intro a W hC hs hd
            have hW : Below w8.heap.size w8 W := hC
            have e12 : a.tmps[12]?.getD undef = .int .i64 (aa : Int) := hs 12 (by kernel_rfl)
            refine growsG_none (E := fun W W' => Below W.heap.size W W') rfl ?_
            clear hs hd
            unfold GrowsE
            go_simp
            exact Below.refl _ _
          · intro a W hC hs hd
            have hW : Below w8.heap.size w8 W := hC
            have e95 : (a.tmps[95]?.getD undef) = .slice (some ⟨gm, 0, none⟩) N cM := hd 6 95 (by kernel_rfl) (by kernel_rfl) (by kernel_rfl)
            have e96 : (a.tmps[96]?.getD undef) = .int .i64 (aa : Int) := hd 7 96 (by kernel_rfl) (by kernel_rfl) (by kernel_rfl)
            refine growsG_none (E := fun W W' => Below W.heap.size W W') rfl ?_
            have k0 := (hW.cell (p := ⟨bR, 2, none⟩) (zR)).trans (c2)
            have k1 := (hW.cell (p := ⟨bS, 0, none⟩) (zS)).trans (cS)
            have k2 := (hW.cell (p := ⟨bM, 0, none⟩) (zM)).trans (cM0)
            have k3 := (hW.cell (p := ⟨bF, 0, none⟩) (zF)).trans (cF)
            have k4 := (hW.cell (p := ⟨gs, aa, none⟩) (zs)).trans (sa)
            have k5 := (hW.cell (p := ⟨gs, dd, none⟩) (zs)).trans (sd)
            have k6 := (hW.cell (p := ⟨gm, aa, none⟩) (zm)).trans (mca)
            have k7 := (hW.cell (p := ⟨gm, dd, none⟩) (zm)).trans (mcd)
            clear hs hd
            unfold GrowsE
            go_simp
            exact Below.refl _ _
          · intro a W hC hs hd
            have hW : Below w8.heap.size w8 W := hC
            have e97 : (a.tmps[97]?.getD undef) = .pointer (some ⟨gm, aa, none⟩) := hd 8 97 (by kernel_rfl) (by kernel_rfl) (by kernel_rfl)
            refine growsG_none (E := fun W W' => Below W.heap.size W W') rfl ?_
            have k0 := (hW.cell (p := ⟨bR, 2, none⟩) (zR)).trans (c2)
            have k1 := (hW.cell (p := ⟨bS, 0, none⟩) (zS)).trans (cS)
            have k2 := (hW.cell (p := ⟨bM, 0, none⟩) (zM)).trans (cM0)
            have k3 := (hW.cell (p := ⟨bF, 0, none⟩) (zF)).trans (cF)
            have k4 := (hW.cell (p := ⟨gs, aa, none⟩) (zs)).trans (sa)
            have k5 := (hW.cell (p := ⟨gs, dd, none⟩) (zs)).trans (sd)
            have k6 := (hW.cell (p := ⟨gm, aa, none⟩) (zm)).trans (mca)
            have k7 := (hW.cell (p := ⟨gm, dd, none⟩) (zm)).trans (mcd)
            clear hs hd
            unfold GrowsE
            go_simp
            exact Below.refl _ _
          · intro a W hC hs hd
            have hW : Below w8.heap.size w8 W := hC
            have e90 : (a.tmps[90]?.getD undef) = .func (.func 128) #[] #[] := hd 1 90 (by kernel_rfl) (by kernel_rfl) (by kernel_rfl)
            have e94 : (a.tmps[94]?.getD undef) = .int .i64 ua := hd 5 94 (by kernel_rfl) (by kernel_rfl) (by kernel_rfl)
            have e98 : (a.tmps[98]?.getD undef) = .int .i64 ma := hd 9 98 (by kernel_rfl) (by kernel_rfl) (by kernel_rfl)
            refine growsG_none (E := fun W W' => Below W.heap.size W W') rfl ?_
            clear hs hd
            unfold GrowsE
            go_simp
            refine ⟨Below.refl _ _, (HE1.out W).mono ?_⟩
            rintro e w6 ⟨rfl, hb6⟩
            exact ⟨_, rfl, hb6, rfl⟩
          · intro a W hC hs hd
            have hW : Below w8.heap.size w8 W := hC
            have e99 : (a.tmps[99]?.getD undef) = .bool false := hd 10 99 (by kernel_rfl) (by kernel_rfl) (by kernel_rfl)
            refine growsG_none (E := fun W W' => Below W.heap.size W W') rfl ?_
            clear hs hd
            unfold GrowsE
            go_simp
            exact Below.refl _ _
          · intro a W hC hs hd
            have hW : Below w8.heap.size w8 W := hC
            have y100 : (a.tmps[100]?.getD undef) = .bool false := hd 11 100 (by kernel_rfl) (by kernel_rfl) (by kernel_rfl)
            exact growsG_no (E := fun W W' => Below W.heap.size W W') (b := false) rfl (by kernel_rfl) y100 (by decide) (Below.refl _ _) rfl
          · intro a W hC hs hd
            have hW : Below w8.heap.size w8 W := hC
            have y100 : (a.tmps[100]?.getD undef) = .bool false := hd 11 100 (by kernel_rfl) (by kernel_rfl) (by kernel_rfl)
            exact growsG_no (E := fun W W' => Below W.heap.size W W') (b := false) rfl (by kernel_rfl) y100 (by decide) (Below.refl _ _) rfl
          · intro a W hC hs hd
            have hW : Below w8.heap.size w8 W := hC
            have y100 : (a.tmps[100]?.getD undef) = .bool false := hd 11 100 (by kernel_rfl) (by kernel_rfl) (by kernel_rfl)
            exact growsG_no (E := fun W W' => Below W.heap.size W W') (b := false) rfl (by kernel_rfl) y100 (by decide) (Below.refl _ _) rfl
          · intro a W hC hs hd
            have hW : Below w8.heap.size w8 W := hC
            have y100 : (a.tmps[100]?.getD undef) = .bool false := hd 11 100 (by kernel_rfl) (by kernel_rfl) (by kernel_rfl)
            exact growsG_no (E := fun W W' => Below W.heap.size W W') (b := false) rfl (by kernel_rfl) y100 (by decide) (Below.refl _ _) rfl
          · intro a W hC hs hd
            have hW : Below w8.heap.size w8 W := hC
            have y100 : (a.tmps[100]?.getD undef) = .bool false := hd 11 100 (by kernel_rfl) (by kernel_rfl) (by kernel_rfl)
            exact growsG_no (E := fun W W' => Below W.heap.size W W') (b := false) rfl (by kernel_rfl) y100 (by decide) (Below.refl _ _) rfl
          · intro a W hC hs hd
            have hW : Below w8.heap.size w8 W := hC
            have y100 : (a.tmps[100]?.getD undef) = .bool false := hd 11 100 (by kernel_rfl) (by kernel_rfl) (by kernel_rfl)
            exact growsG_no (E := fun W W' => Below W.heap.size W W') (b := false) rfl (by kernel_rfl) y100 (by decide) (Below.refl _ _) rfl
          · intro a W hC hs hd
            have hW : Below w8.heap.size w8 W := hC
            have y100 : (a.tmps[100]?.getD undef) = .bool false := hd 11 100 (by kernel_rfl) (by kernel_rfl) (by kernel_rfl)
            exact growsG_no (E := fun W W' => Below W.heap.size W W') (b := false) rfl (by kernel_rfl) y100 (by decide) (Below.refl _ _) rfl
          · intro a W hC hs hd
            have hW : Below w8.heap.size w8 W := hC
            have y100 : (a.tmps[100]?.getD undef) = .bool false := hd 11 100 (by kernel_rfl) (by kernel_rfl) (by kernel_rfl)
            exact growsG_no (E := fun W W' => Below W.heap.size W W') (b := false) rfl (by kernel_rfl) y100 (by decide) (Below.refl _ _) rfl
          · intro a W hC hs hd
            have hW : Below w8.heap.size w8 W := hC
            have y100 : (a.tmps[100]?.getD undef) = .bool false := hd 11 100 (by kernel_rfl) (by kernel_rfl) (by kernel_rfl)
            exact growsG_no (E := fun W W' => Below W.heap.size W W') (b := false) rfl (by kernel_rfl) y100 (by decide) (Below.refl _ _) rfl
          · intro a W hC hs hd
            have hW : Below w8.heap.size w8 W := hC
            have y100 : (a.tmps[100]?.getD undef) = .bool false := hd 11 100 (by kernel_rfl) (by kernel_rfl) (by kernel_rfl)
            exact growsG_no (E := fun W W' => Below W.heap.size W W') (b := false) rfl (by kernel_rfl) y100 (by decide) (Below.refl _ _) rfl
          · intro a W hC hs hd
            have hW : Below w8.heap.size w8 W := hC
            have y100 : (a.tmps[100]?.getD undef) = .bool false := hd 11 100 (by kernel_rfl) (by kernel_rfl) (by kernel_rfl)
            exact growsG_no (E := fun W W' => Below W.heap.size W W') (b := false) rfl (by kernel_rfl) y100 (by decide) (Below.refl _ _) rfl
          · intro a W hC hs hd
            have hW : Below w8.heap.size w8 W := hC
            have e100 : (a.tmps[100]?.getD undef) = .bool false := hd 11 100 (by kernel_rfl) (by kernel_rfl) (by kernel_rfl)
            have e111 : (a.tmps[111]?.getD undef) = undef := hd 22 111 (by kernel_rfl) (by kernel_rfl) (by kernel_rfl)
            refine growsG_none (E := fun W W' => Below W.heap.size W W') rfl ?_
            clear hs hd
            unfold GrowsE
            go_simp
            exact Below.refl _ _
          · intro a W hC hs hd
            have hW : Below w8.heap.size w8 W := hC
            have e112 : (a.tmps[112]?.getD undef) = .bool false := hd 23 112 (by kernel_rfl) (by kernel_rfl) (by kernel_rfl)
            refine growsG_none (E := fun W W' => Below W.heap.size W W') rfl ?_
            clear hs hd
            unfold GrowsE
            go_simp
            exact Below.refl _ _
          · intro a W hC hs hd
            have hW : Below w8.heap.size w8 W := hC
            have y113 : (a.tmps[113]?.getD undef) = .bool false := hd 24 113 (by kernel_rfl) (by kernel_rfl) (by kernel_rfl)
            exact growsG_no (E := fun W W' => Below W.heap.size W W') (b := false) rfl (by kernel_rfl) y113 (by decide) (Below.refl _ _) rfl
          · intro a W hC hs hd
            have hW : Below w8.heap.size w8 W := hC
            have y113 : (a.tmps[113]?.getD undef) = .bool false := hd 24 113 (by kernel_rfl) (by kernel_rfl) (by kernel_rfl)
            exact growsG_no (E := fun W W' => Below W.heap.size W W') (b := false) rfl (by kernel_rfl) y113 (by decide) (Below.refl _ _) rfl
          · intro a W hC hs hd
            have hW : Below w8.heap.size w8 W := hC
            have y113 : (a.tmps[113]?.getD undef) = .bool false := hd 24 113 (by kernel_rfl) (by kernel_rfl) (by kernel_rfl)
            exact growsG_no (E := fun W W' => Below W.heap.size W W') (b := false) rfl (by kernel_rfl) y113 (by decide) (Below.refl _ _) rfl
          · intro a W hC hs hd
            have hW : Below w8.heap.size w8 W := hC
            have y113 : (a.tmps[113]?.getD undef) = .bool false := hd 24 113 (by kernel_rfl) (by kernel_rfl) (by kernel_rfl)
            exact growsG_no (E := fun W W' => Below W.heap.size W W') (b := false) rfl (by kernel_rfl) y113 (by decide) (Below.refl _ _) rfl
        intro vs W hW hf
        have f89 : (vs 89) = .pointer (some ⟨bR, 2, none⟩) := hf 0 89 (by decide) (by kernel_rfl) (fun _ hk => by cases hk)
        have f90 : (vs 90) = .func (.func 128) #[] #[] := hf 1 90 (by decide) (by kernel_rfl) (fun _ hk => by cases hk)
        have f91 : (vs 91) = .slice (some ⟨gs, 0, none⟩) N N := hf 2 91 (by decide) (by kernel_rfl) (fun _ hk => by cases hk)
        have f92 : (vs 92) = .int .i64 (aa : Int) := hf 3 92 (by decide) (by kernel_rfl) (fun _ hk => by cases hk)
        have f93 : (vs 93) = .pointer (some ⟨gs, aa, none⟩) := hf 4 93 (by decide) (by kernel_rfl) (fun _ hk => by cases hk)
        have f94 : (vs 94) = .int .i64 ua := hf 5 94 (by decide) (by kernel_rfl) (fun _ hk => by cases hk)
        have f95 : (vs 95) = .slice (some ⟨gm, 0, none⟩) N cM := hf 6 95 (by decide) (by kernel_rfl) (fun _ hk => by cases hk)
        have f96 : (vs 96) = .int .i64 (aa : Int) := hf 7 96 (by decide) (by kernel_rfl) (fun _ hk => by cases hk)
        have f97 : (vs 97) = .pointer (some ⟨gm, aa, none⟩) := hf 8 97 (by decide) (by kernel_rfl) (fun _ hk => by cases hk)
        have f98 : (vs 98) = .int .i64 ma := hf 9 98 (by decide) (by kernel_rfl) (fun _ hk => by cases hk)
        have f99 : (vs 99) = .bool false := hf 10 99 (by decide) (by kernel_rfl) (fun _ hk => by cases hk)
        have f100 : (vs 100) = .bool false := hf 11 100 (by decide) (by kernel_rfl) (fun _ hk => by cases hk)
        have f101 : (vs 101) = undef := hf 12 101 (by decide) (by kernel_rfl) (fun _ hk => by cases hk)
        have f102 : (vs 102) = undef := hf 13 102 (by decide) (by kernel_rfl) (fun _ hk => by cases hk)
        have f103 : (vs 103) = undef := hf 14 103 (by decide) (by kernel_rfl) (fun _ hk => by cases hk)
        have f104 : (vs 104) = undef := hf 15 104 (by decide) (by kernel_rfl) (fun _ hk => by cases hk)
        have f105 : (vs 105) = undef := hf 16 105 (by decide) (by kernel_rfl) (fun _ hk => by cases hk)
        have f106 : (vs 106) = undef := hf 17 106 (by decide) (by kernel_rfl) (fun _ hk => by cases hk)
        have f107 : (vs 107) = undef := hf 18 107 (by decide) (by kernel_rfl) (fun _ hk => by cases hk)
        have f108 : (vs 108) = undef := hf 19 108 (by decide) (by kernel_rfl) (fun _ hk => by cases hk)
        have f109 : (vs 109) = undef := hf 20 109 (by decide) (by kernel_rfl) (fun _ hk => by cases hk)
        have f110 : (vs 110) = undef := hf 21 110 (by decide) (by kernel_rfl) (fun _ hk => by cases hk)
        have f111 : (vs 111) = undef := hf 22 111 (by decide) (by kernel_rfl) (fun _ hk => by cases hk)
        have f112 : (vs 112) = .bool false := hf 23 112 (by decide) (by kernel_rfl) (fun _ hk => by cases hk)
        have f113 : (vs 113) = .bool false := hf 24 113 (by decide) (by kernel_rfl) (fun _ hk => by cases hk)
        have f114 : (vs 114) = undef := hf 25 114 (by decide) (by kernel_rfl) (fun _ hk => by cases hk)
        have f115 : (vs 115) = undef := hf 26 115 (by decide) (by kernel_rfl) (fun _ hk => by cases hk)
        have f116 : (vs 116) = undef := hf 27 116 (by decide) (by kernel_rfl) (fun _ hk => by cases hk)
        have f117 : (vs 117) = undef := hf 28 117 (by decide) (by kernel_rfl) (fun _ hk => by cases hk)
        simp only [dsts, List.take_succ_cons, List.take_zero, List.drop_succ_cons, List.drop_zero, List.filterMap_cons, List.filterMap_nil, List.foldl_cons, List.foldl_nil, Act.put, List.setIfInBounds_toArray, List.set_cons_succ, List.set_cons_zero, f89, f90, f91, f92, f93, f94, f95, f96, f97, f98, f99, f100, f101, f102, f103, f104, f105, f106, f107, f108, f109, f110, f111, f112, f113, f114, f115, f116, f117]
        clear hf
        have hW : Below w8.heap.size w8 W := hW
        have P9 := P8.below hW
        have HN : Hid (csP f (i + 1 + 1) = csP f (i + 1)) := by
          show _ = _
          rw [HCS.out, HFX.out, Bool.false_and]
          rfl
        have HB9 := HBK
        clear P8
        go_wp2_with fail
        go_roundw
        case rel => exact ⟨i + 1, _, _, s2, by omega, by go_num, rfl, HB9, ⟨fun h => by rw [HN.out]; exact HSC.out.1 h, fun h => by rw [HN.out]; exact HSC.out.2 h⟩, P9⟩
        case measure => simp [intOf]; omega
      | true =>
        rw [hb1] at HE1 HFX
        clear hb1
        cases hb2 : c2v with
        | false =>
          rw [hb2] at HE2 HFX
          clear hb2
          go_wp2_with fail
          refine wp_region_then 29 (fun i9 v W => match i9 with
            | 0 => v = .pointer (some ⟨bR, 2, none⟩)
            | 1 => v = .func (.func 128) #[] #[]
            | 2 => v = .slice (some ⟨gs, 0, none⟩) N N
            | 3 => v = .int .i64 (aa : Int)
            | 4 => v = .pointer (some ⟨gs, aa, none⟩)
            | 5 => v = .int .i64 ua
            | 6 => v = .slice (some ⟨gm, 0, none⟩) N cM
            | 7 => v = .int .i64 (aa : Int)
            | 8 => v = .pointer (some ⟨gm, aa, none⟩)
            | 9 => v = .int .i64 ma
            | 10 => v = .bool true
            | 11 => v = .bool true
            | 12 => v = .pointer (some ⟨bR, 2, none⟩)
            | 13 => v = .func (.func 128) #[] #[]
            | 14 => v = .slice (some ⟨gs, 0, none⟩) N N
            | 15 => v = .int .i64 (dd : Int)
            | 16 => v = .pointer (some ⟨gs, dd, none⟩)
            | 17 => v = .int .i64 ud
            | 18 => v = .slice (some ⟨gm, 0, none⟩) N cM
            | 19 => v = .int .i64 (dd : Int)
            | 20 => v = .pointer (some ⟨gm, dd, none⟩)
            | 21 => v = .int .i64 mb
            | 22 => v = .bool false
            | 23 => v = .bool false
            | 24 => v = .bool false
            | 25 => v = undef
            | 26 => v = undef
            | 27 => v = undef
            | _ => v = undef)
            (fun i => match i with
            | _ => none)
            (fun k W W' => Below W.heap.size W W')  (fun W => Below w8.heap.size w8 W) (by kernel_rfl) (by kernel_rfl) ?_ ?_ ?_ ?_ ?_
          · exact (Below.refl _ _).drew
          · intro i k v W W' hne hd hC hf hE
            match i, hf with
            | 0, hf => exact hf
            | 1, hf => exact hf
            | 2, hf => exact hf
            | 3, hf => exact hf
            | 4, hf => exact hf
            | 5, hf => exact hf
            | 6, hf => exact hf
            | 7, hf => exact hf
            | 8, hf => exact hf
            | 9, hf => exact hf
            | 10, hf => exact hf
            | 11, hf => exact hf
            | 12, hf => exact hf
            | 13, hf => exact hf
            | 14, hf => exact hf
            | 15, hf => exact hf
            | 16, hf => exact hf
            | 17, hf => exact hf
            | 18, hf => exact hf
            | 19, hf => exact hf
            | 20, hf => exact hf
            | 21, hf => exact hf
            | 22, hf => exact hf
            | 23, hf => exact hf
            | 24, hf => exact hf
            | 25, hf => exact hf
            | 26, hf => exact hf
            | 27, hf => exact hf
            | _ + 28, hf => exact hf
          · intro k W W' hC hE
            exact Below.andB hC hE
          · simp only [List.take_succ_cons, List.take_zero]
            refine ⟨?_, ?_, ?_, ?_, ?_, ?_, ?_, ?_, ?_, ?_, ?_, ?_, ?_, ?_, ?_, ?_, ?_, ?_, ?_, ?_, ?_, ?_, ?_, ?_, ?_, ?_, ?_, ?_, ?_, trivial⟩
            · intro a W hC hs hd
              have hW : Below w8.heap.size w8 W := hC
              have e7 : a.tmps[7]?.getD undef = .pointer (some ⟨bR, 0, none⟩) := hs 7 (by kernel_rfl)
              refine growsG_none (E := fun W W' => Below W.heap.size W W') rfl ?_
              have k0 := (hW.cell (p := ⟨bR, 2, none⟩) (zR)).trans (c2)
              have k1 := (hW.cell (p := ⟨bS, 0, none⟩) (zS)).trans (cS)
              have k2 := (hW.cell (p := ⟨bM, 0, none⟩) (zM)).trans (cM0)
              have k3 := (hW.cell (p := ⟨bF, 0, none⟩) (zF)).trans (cF)
              have k4 := (hW.cell (p := ⟨gs, aa, none⟩) (zs)).trans (sa)
              have k5 := (hW.cell (p := ⟨gs, dd, none⟩) (zs)).trans (sd)
              have k6 := (hW.cell (p := ⟨gm, aa, none⟩) (zm)).trans (mca)
              have k7 := (hW.cell (p := ⟨gm, dd, none⟩) (zm)).trans (mcd)
              clear hs hd
              unfold GrowsE
              go_simp
              exact Below.refl _ _
            · intro a W hC hs hd
              have hW : Below w8.heap.size w8 W := hC
              have e89 : (a.tmps[89]?.getD undef) = .pointer (some ⟨bR, 2, none⟩) := hd 0 89 (by kernel_rfl) (by kernel_rfl) (by kernel_rfl)
              refine growsG_none (E := fun W W' => Below W.heap.size W W') rfl ?_
              have k0 := (hW.cell (p := ⟨bR, 2, none⟩) (zR)).trans (c2)
              have k1 := (hW.cell (p := ⟨bS, 0, none⟩) (zS)).trans (cS)
              have k2 := (hW.cell (p := ⟨bM, 0, none⟩) (zM)).trans (cM0)
              have k3 := (hW.cell (p := ⟨bF, 0, none⟩) (zF)).trans (cF)
              have k4 := (hW.cell (p := ⟨gs, aa, none⟩) (zs)).trans (sa)
              have k5 := (hW.cell (p := ⟨gs, dd, none⟩) (zs)).trans (sd)
              have k6 := (hW.cell (p := ⟨gm, aa, none⟩) (zm)).trans (mca)
              have k7 := (hW.cell (p := ⟨gm, dd, none⟩) (zm)).trans (mcd)
              clear hs hd
              unfold GrowsE
              go_simp
              exact Below.refl _ _
            · intro a W hC hs hd
              have hW : Below w8.heap.size w8 W := hC
              have e5 : a.tmps[5]?.getD undef = .pointer (some ⟨bS, 0, none⟩) := hs 5 (by kernel_rfl)
              refine growsG_none (E := fun W W' => Below W.heap.size W W') rfl ?_
              have k0 := (hW.cell (p := ⟨bR, 2, none⟩) (zR)).trans (c2)
              have k1 := (hW.cell (p := ⟨bS, 0, none⟩) (zS)).trans (cS)
              have k2 := (hW.cell (p := ⟨bM, 0, none⟩) (zM)).trans (cM0)
              have k3 := (hW.cell (p := ⟨bF, 0, none⟩) (zF)).trans (cF)
              have k4 := (hW.cell (p := ⟨gs, aa, none⟩) (zs)).trans (sa)
              have k5 := (hW.cell (p := ⟨gs, dd, none⟩) (zs)).trans (sd)
              have k6 := (hW.cell (p := ⟨gm, aa, none⟩) (zm)).trans (mca)
              have k7 := (hW.cell (p := ⟨gm, dd, none⟩) (zm)).trans (mcd)
              clear hs hd
              unfold GrowsE
              go_simp
              exact Below.refl _ _
            · intro a W hC hs hd
              have hW : Below w8.heap.size w8 W := hC
              have e12 : a.tmps[12]?.getD undef = .int .i64 (aa : Int) := hs 12 (by kernel_rfl)
              refine growsG_none (E := fun W W' => Below W.heap.size W W') rfl ?_
              clear hs hd
              unfold GrowsE
              go_simp
              exact Below.refl _ _
            · intro a W hC hs hd
              have hW : Below w8.heap.size w8 W := hC
              have e91 : (a.tmps[91]?.getD undef) = .slice (some ⟨gs, 0, none⟩) N N := hd 2 91 (by kernel_rfl) (by kernel_rfl) (by kernel_rfl)
              have e92 : (a.tmps[92]?.getD undef) = .int .i64 (aa : Int) := hd 3 92 (by kernel_rfl) (by kernel_rfl) (by kernel_rfl)
              refine growsG_none (E := fun W W' => Below W.heap.size W W') rfl ?_
              have k0 := (hW.cell (p := ⟨bR, 2, none⟩) (zR)).trans (c2)
              have k1 := (hW.cell (p := ⟨bS, 0, none⟩) (zS)).trans (cS)
              have k2 := (hW.cell (p := ⟨bM, 0, none⟩) (zM)).trans (cM0)
              have k3 := (hW.cell (p := ⟨bF, 0, none⟩) (zF)).trans (cF)
              have k4 := (hW.cell (p := ⟨gs, aa, none⟩) (zs)).trans (sa)
              have k5 := (hW.cell (p := ⟨gs, dd, none⟩) (zs)).trans (sd)
              have k6 := (hW.cell (p := ⟨gm, aa, none⟩) (zm)).trans (mca)
              have k7 := (hW.cell (p := ⟨gm, dd, none⟩) (zm)).trans (mcd)
              clear hs hd
              unfold GrowsE
              go_simp
              exact Below.refl _ _
            · intro a W hC hs hd
              have hW : Below w8.heap.size w8 W := hC
              have e93 : (a.tmps[93]?.getD undef) = .pointer (some ⟨gs, aa, none⟩) := hd 4 93 (by kernel_rfl) (by kernel_rfl) (by kernel_rfl)
              refine growsG_none (E := fun W W' => Below W.heap.size W W') rfl ?_
              have k0 := (hW.cell (p := ⟨bR, 2, none⟩) (zR)).trans (c2)
              have k1 := (hW.cell (p := ⟨bS, 0, none⟩) (zS)).trans (cS)
              have k2 := (hW.cell (p := ⟨bM, 0, none⟩) (zM)).trans (cM0)
              have k3 := (hW.cell (p := ⟨bF, 0, none⟩) (zF)).trans (cF)
              have k4 := (hW.cell (p := ⟨gs, aa, none⟩) (zs)).trans (sa)
              have k5 := (hW.cell (p := ⟨gs, dd, none⟩) (zs)).trans (sd)
              have k6 := (hW.cell (p := ⟨gm, aa, none⟩) (zm)).trans (mca)
              have k7 := (hW.cell (p := ⟨gm, dd, none⟩) (zm)).trans (mcd)
              clear hs hd
              unfold GrowsE
              go_simp
              exact Below.refl _ _
            · intro a W hC hs hd
              have hW : Below w8.heap.size w8 W := hC
              have e6 : a.tmps[6]?.getD undef = .pointer (some ⟨bM, 0, none⟩) := hs 6 (by kernel_rfl)
              refine growsG_none (E := fun W W' => Below W.heap.size W W') rfl ?_
              have k0 := (hW.cell (p := ⟨bR, 2, none⟩) (zR)).trans (c2)
              have k1 := (hW.cell (p := ⟨bS, 0, none⟩) (zS)).trans (cS)
              have k2 := (hW.cell (p := ⟨bM, 0, none⟩) (zM)).trans (cM0)
              have k3 := (hW.cell (p := ⟨bF, 0, none⟩) (zF)).trans (cF)
              have k4 := (hW.cell (p := ⟨gs, aa, none⟩) (zs)).trans (sa)
              have k5 := (hW.cell (p := ⟨gs, dd, none⟩) (zs)).trans (sd)
              have k6 := (hW.cell (p := ⟨gm, aa, none⟩) (zm)).trans (mca)
              have k7 := (hW.cell (p := ⟨gm, dd, none⟩) (zm)).trans (mcd)
              clear hs hd
              unfold GrowsE
              go_simp
              exact Below.refl _ _
            · intro a W hC hs hd
              have hW : Below w8.heap.size w8 W := hC
              have e12 : a.tmps[12]?.getD undef = .int .i64 (aa : Int) := hs 12 (by kernel_rfl)
              refine growsG_none (E := fun W W' => Below W.heap.size W W') rfl ?_
              clear hs hd
              unfold GrowsE
              go_simp
              exact Below.refl _ _
            · intro a W hC hs hd
              have hW : Below w8.heap.size w8 W := hC
              have e95 : (a.tmps[95]?.getD undef) = .slice (some ⟨gm, 0, none⟩) N cM := hd 6 95 (by kernel_rfl) (by kernel_rfl) (by kernel_rfl)
              have e96 : (a.tmps[96]?.getD undef) = .int .i64 (aa : Int) := hd 7 96 (by kernel_rfl) (by kernel_rfl) (by kernel_rfl)
              refine growsG_none (E := fun W W' => Below W.heap.size W W') rfl ?_
              have k0 := (hW.cell (p := ⟨bR, 2, none⟩) (zR)).trans (c2)
              have k1 := (hW.cell (p := ⟨bS, 0, none⟩) (zS)).trans (cS)
              have k2 := (hW.cell (p := ⟨bM, 0, none⟩) (zM)).trans (cM0)
              have k3 := (hW.cell (p := ⟨bF, 0, none⟩) (zF)).trans (cF)
              have k4 := (hW.cell (p := ⟨gs, aa, none⟩) (zs)).trans (sa)
              have k5 := (hW.cell (p := ⟨gs, dd, none⟩) (zs)).trans (sd)
              have k6 := (hW.cell (p := ⟨gm, aa, none⟩) (zm)).trans (mca)
              have k7 := (hW.cell (p := ⟨gm, dd, none⟩) (zm)).trans (mcd)
              clear hs hd
              unfold GrowsE
              go_simp
              exact Below.refl _ _
            · intro a W hC hs hd
              have hW : Below w8.heap.size w8 W := hC
              have e97 : (a.tmps[97]?.getD undef) = .pointer (some ⟨gm, aa, none⟩) := hd 8 97 (by kernel_rfl) (by kernel_rfl) (by kernel_rfl)
              refine growsG_none (E := fun W W' => Below W.heap.size W W') rfl ?_
              have k0 := (hW.cell (p := ⟨bR, 2, none⟩) (zR)).trans (c2)
              have k1 := (hW.cell (p := ⟨bS, 0, none⟩) (zS)).trans (cS)
              have k2 := (hW.cell (p := ⟨bM, 0, none⟩) (zM)).trans (cM0)
              have k3 := (hW.cell (p := ⟨bF, 0, none⟩) (zF)).trans (cF)
              have k4 := (hW.cell (p := ⟨gs, aa, none⟩) (zs)).trans (sa)
              have k5 := (hW.cell (p := ⟨gs, dd, none⟩) (zs)).trans (sd)
              have k6 := (hW.cell (p := ⟨gm, aa, none⟩) (zm)).trans (mca)
              have k7 := (hW.cell (p := ⟨gm, dd, none⟩) (zm)).trans (mcd)
              clear hs hd
              unfold GrowsE
              go_simp
              exact Below.refl _ _
            · intro a W hC hs hd
              have hW : Below w8.heap.size w8 W := hC
              have e90 : (a.tmps[90]?.getD undef) = .func (.func 128) #[] #[] := hd 1 90 (by kernel_rfl) (by kernel_rfl) (by kernel_rfl)
              have e94 : (a.tmps[94]?.getD undef) = .int .i64 ua := hd 5 94 (by kernel_rfl) (by kernel_rfl) (by kernel_rfl)
              have e98 : (a.tmps[98]?.getD undef) = .int .i64 ma := hd 9 98 (by kernel_rfl) (by kernel_rfl) (by kernel_rfl)
              refine growsG_none (E := fun W W' => Below W.heap.size W W') rfl ?_
              clear hs hd
              unfold GrowsE
              go_simp
              refine ⟨Below.refl _ _, (HE1.out W).mono ?_⟩
              rintro e w6 ⟨rfl, hb6⟩
              exact ⟨_, rfl, hb6, rfl⟩
            · intro a W hC hs hd
              have hW : Below w8.heap.size w8 W := hC
              have e99 : (a.tmps[99]?.getD undef) = .bool true := hd 10 99 (by kernel_rfl) (by kernel_rfl) (by kernel_rfl)
              refine growsG_none (E := fun W W' => Below W.heap.size W W') rfl ?_
              clear hs hd
              unfold GrowsE
              go_simp
              exact Below.refl _ _
            · intro a W hC hs hd
              have hW : Below w8.heap.size w8 W := hC
              have y100 : (a.tmps[100]?.getD undef) = .bool true := hd 11 100 (by kernel_rfl) (by kernel_rfl) (by kernel_rfl)
              have e7 : a.tmps[7]?.getD undef = .pointer (some ⟨bR, 0, none⟩) := hs 7 (by kernel_rfl)
              refine growsG_yes (E := fun W W' => Below W.heap.size W W') rfl (by kernel_rfl) y100 ?_
              have k0 := (hW.cell (p := ⟨bR, 2, none⟩) (zR)).trans (c2)
              have k1 := (hW.cell (p := ⟨bS, 0, none⟩) (zS)).trans (cS)
              have k2 := (hW.cell (p := ⟨bM, 0, none⟩) (zM)).trans (cM0)
              have k3 := (hW.cell (p := ⟨bF, 0, none⟩) (zF)).trans (cF)
              have k4 := (hW.cell (p := ⟨gs, aa, none⟩) (zs)).trans (sa)
              have k5 := (hW.cell (p := ⟨gs, dd, none⟩) (zs)).trans (sd)
              have k6 := (hW.cell (p := ⟨gm, aa, none⟩) (zm)).trans (mca)
              have k7 := (hW.cell (p := ⟨gm, dd, none⟩) (zm)).trans (mcd)
              clear hs hd
              unfold GrowsE
              go_simp
              exact Below.refl _ _
            · intro a W hC hs hd
              have hW : Below w8.heap.size w8 W := hC
              have y100 : (a.tmps[100]?.getD undef) = .bool true := hd 11 100 (by kernel_rfl) (by kernel_rfl) (by kernel_rfl)
              have e101 : (a.tmps[101]?.getD undef) = .pointer (some ⟨bR, 2, none⟩) := hd 12 101 (by kernel_rfl) (by kernel_rfl) (by kernel_rfl)
              refine growsG_yes (E := fun W W' => Below W.heap.size W W') rfl (by kernel_rfl) y100 ?_
              have k0 := (hW.cell (p := ⟨bR, 2, none⟩) (zR)).trans (c2)
              have k1 := (hW.cell (p := ⟨bS, 0, none⟩) (zS)).trans (cS)
              have k2 := (hW.cell (p := ⟨bM, 0, none⟩) (zM)).trans (cM0)
              have k3 := (hW.cell (p := ⟨bF, 0, none⟩) (zF)).trans (cF)
              have k4 := (hW.cell (p := ⟨gs, aa, none⟩) (zs)).trans (sa)
              have k5 := (hW.cell (p := ⟨gs, dd, none⟩) (zs)).trans (sd)
              have k6 := (hW.cell (p := ⟨gm, aa, none⟩) (zm)).trans (mca)
              have k7 := (hW.cell (p := ⟨gm, dd, none⟩) (zm)).trans (mcd)
              clear hs hd
              unfold GrowsE
              go_simp
              exact Below.refl _ _
            · intro a W hC hs hd
              have hW : Below w8.heap.size w8 W := hC
              have y100 : (a.tmps[100]?.getD undef) = .bool true := hd 11 100 (by kernel_rfl) (by kernel_rfl) (by kernel_rfl)
              have e5 : a.tmps[5]?.getD undef = .pointer (some ⟨bS, 0, none⟩) := hs 5 (by kernel_rfl)
              refine growsG_yes (E := fun W W' => Below W.heap.size W W') rfl (by kernel_rfl) y100 ?_
              have k0 := (hW.cell (p := ⟨bR, 2, none⟩) (zR)).trans (c2)
              have k1 := (hW.cell (p := ⟨bS, 0, none⟩) (zS)).trans (cS)
              have k2 := (hW.cell (p := ⟨bM, 0, none⟩) (zM)).trans (cM0)
              have k3 := (hW.cell (p := ⟨bF, 0, none⟩) (zF)).trans (cF)
              have k4 := (hW.cell (p := ⟨gs, aa, none⟩) (zs)).trans (sa)
              have k5 := (hW.cell (p := ⟨gs, dd, none⟩) (zs)).trans (sd)
              have k6 := (hW.cell (p := ⟨gm, aa, none⟩) (zm)).trans (mca)
              have k7 := (hW.cell (p := ⟨gm, dd, none⟩) (zm)).trans (mcd)
              clear hs hd
              unfold GrowsE
              go_simp
              exact Below.refl _ _
            · intro a W hC hs hd
              have hW : Below w8.heap.size w8 W := hC
              have y100 : (a.tmps[100]?.getD undef) = .bool true := hd 11 100 (by kernel_rfl) (by kernel_rfl) (by kernel_rfl)
              have e13 : a.tmps[13]?.getD undef = .int .i64 (dd : Int) := hs 13 (by kernel_rfl)
              refine growsG_yes (E := fun W W' => Below W.heap.size W W') rfl (by kernel_rfl) y100 ?_
              clear hs hd
              unfold GrowsE
              go_simp
              exact Below.refl _ _
            · intro a W hC hs hd
              have hW : Below w8.heap.size w8 W := hC
              have y100 : (a.tmps[100]?.getD undef) = .bool true := hd 11 100 (by kernel_rfl) (by kernel_rfl) (by kernel_rfl)
              have e103 : (a.tmps[103]?.getD undef) = .slice (some ⟨gs, 0, none⟩) N N := hd 14 103 (by kernel_rfl) (by kernel_rfl) (by kernel_rfl)
              have e104 : (a.tmps[104]?.getD undef) = .int .i64 (dd : Int) := hd 15 104 (by kernel_rfl) (by kernel_rfl) (by kernel_rfl)
              refine growsG_yes (E := fun W W' => Below W.heap.size W W') rfl (by kernel_rfl) y100 ?_
              have k0 := (hW.cell (p := ⟨bR, 2, none⟩) (zR)).trans (c2)
              have k1 := (hW.cell (p := ⟨bS, 0, none⟩) (zS)).trans (cS)
              have k2 := (hW.cell (p := ⟨bM, 0, none⟩) (zM)).trans (cM0)
              have k3 := (hW.cell (p := ⟨bF, 0, none⟩) (zF)).trans (cF)
              have k4 := (hW.cell (p := ⟨gs, aa, none⟩) (zs)).trans (sa)
              have k5 := (hW.cell (p := ⟨gs, dd, none⟩) (zs)).trans (sd)
              have k6 := (hW.cell (p := ⟨gm, aa, none⟩) (zm)).trans (mca)
              have k7 := (hW.cell (p := ⟨gm, dd, none⟩) (zm)).trans (mcd)
              clear hs hd
              unfold GrowsE
              go_simp
              exact Below.refl _ _
            · intro a W hC hs hd
              have hW : Below w8.heap.size w8 W := hC
              have y100 : (a.tmps[100]?.getD undef) = .bool true := hd 11 100 (by kernel_rfl) (by kernel_rfl) (by kernel_rfl)
              have e105 : (a.tmps[105]?.getD undef) = .pointer (some ⟨gs, dd, none⟩) := hd 16 105 (by kernel_rfl) (by kernel_rfl) (by kernel_rfl)
              refine growsG_yes (E := fun W W' => Below W.heap.size W W') rfl (by kernel_rfl) y100 ?_
              have k0 := (hW.cell (p := ⟨bR, 2, none⟩) (zR)).trans (c2)
              have k1 := (hW.cell (p := ⟨bS, 0, none⟩) (zS)).trans (cS)
              have k2 := (hW.cell (p := ⟨bM, 0, none⟩) (zM)).trans (cM0)
              have k3 := (hW.cell (p := ⟨bF, 0, none⟩) (zF)).trans (cF)
              have k4 := (hW.cell (p := ⟨gs, aa, none⟩) (zs)).trans (sa)
              have k5 := (hW.cell (p := ⟨gs, dd, none⟩) (zs)).trans (sd)
              have k6 := (hW.cell (p := ⟨gm, aa, none⟩) (zm)).trans (mca)
              have k7 := (hW.cell (p := ⟨gm, dd, none⟩) (zm)).trans (mcd)
              clear hs hd
              unfold GrowsE
              go_simp
              exact Below.refl _ _
            · intro a W hC hs hd
              have hW : Below w8.heap.size w8 W := hC
              have y100 : (a.tmps[100]?.getD undef) = .bool true := hd 11 100 (by kernel_rfl) (by kernel_rfl) (by kernel_rfl)
              have e6 : a.tmps[6]?.getD undef = .pointer (some ⟨bM, 0, none⟩) := hs 6 (by kernel_rfl)
              refine growsG_yes (E := fun W W' => Below W.heap.size W W') rfl (by kernel_rfl) y100 ?_
              have k0 := (hW.cell (p := ⟨bR, 2, none⟩) (zR)).trans (c2)
              have k1 := (hW.cell (p := ⟨bS, 0, none⟩) (zS)).trans (cS)
              have k2 := (hW.cell (p := ⟨bM, 0, none⟩) (zM)).trans (cM0)
              have k3 := (hW.cell (p := ⟨bF, 0, none⟩) (zF)).trans (cF)
              have k4 := (hW.cell (p := ⟨gs, aa, none⟩) (zs)).trans (sa)
              have k5 := (hW.cell (p := ⟨gs, dd, none⟩) (zs)).trans (sd)
              have k6 := (hW.cell (p := ⟨gm, aa, none⟩) (zm)).trans (mca)
              have k7 := (hW.cell (p := ⟨gm, dd, none⟩) (zm)).trans (mcd)
              clear hs hd
              unfold GrowsE
              go_simp
              exact Below.refl _ _
            · intro a W hC hs hd
              have hW : Below w8.heap.size w8 W := hC
              have y100 : (a.tmps[100]?.getD undef) = .bool true := hd 11 100 (by kernel_rfl) (by kernel_rfl) (by kernel_rfl)
              have e13 : a.tmps[13]?.getD undef = .int .i64 (dd : Int) := hs 13 (by kernel_rfl)
              refine growsG_yes (E := fun W W' => Below W.heap.size W W') rfl (by kernel_rfl) y100 ?_
              clear hs hd
              unfold GrowsE
              go_simp
              exact Below.refl _ _
            · intro a W hC hs hd
              have hW : Below w8.heap.size w8 W := hC
              have y100 : (a.tmps[100]?.getD undef) = .bool true := hd 11 100 (by kernel_rfl) (by kernel_rfl) (by kernel_rfl)
              have e107 : (a.tmps[107]?.getD undef) = .slice (some ⟨gm, 0, none⟩) N cM := hd 18 107 (by kernel_rfl) (by kernel_rfl) (by kernel_rfl)
              have e108 : (a.tmps[108]?.getD undef) = .int .i64 (dd : Int) := hd 19 108 (by kernel_rfl) (by kernel_rfl) (by kernel_rfl)
              refine growsG_yes (E := fun W W' => Below W.heap.size W W') rfl (by kernel_rfl) y100 ?_
              have k0 := (hW.cell (p := ⟨bR, 2, none⟩) (zR)).trans (c2)
              have k1 := (hW.cell (p := ⟨bS, 0, none⟩) (zS)).trans (cS)
              have k2 := (hW.cell (p := ⟨bM, 0, none⟩) (zM)).trans (cM0)
              have k3 := (hW.cell (p := ⟨bF, 0, none⟩) (zF)).trans (cF)
              have k4 := (hW.cell (p := ⟨gs, aa, none⟩) (zs)).trans (sa)
              have k5 := (hW.cell (p := ⟨gs, dd, none⟩) (zs)).trans (sd)
              have k6 := (hW.cell (p := ⟨gm, aa, none⟩) (zm)).trans (mca)
              have k7 := (hW.cell (p := ⟨gm, dd, none⟩) (zm)).trans (mcd)
              clear hs hd
              unfold GrowsE
              go_simp
              exact Below.refl _ _
            · intro a W hC hs hd
              have hW : Below w8.heap.size w8 W := hC
              have y100 : (a.tmps[100]?.getD undef) = .bool true := hd 11 100 (by kernel_rfl) (by kernel_rfl) (by kernel_rfl)
              have e109 : (a.tmps[109]?.getD undef) = .pointer (some ⟨gm, dd, none⟩) := hd 20 109 (by kernel_rfl) (by kernel_rfl) (by kernel_rfl)
              refine growsG_yes (E := fun W W' => Below W.heap.size W W') rfl (by kernel_rfl) y100 ?_
              have k0 := (hW.cell (p := ⟨bR, 2, none⟩) (zR)).trans (c2)
              have k1 := (hW.cell (p := ⟨bS, 0, none⟩) (zS)).trans (cS)
              have k2 := (hW.cell (p := ⟨bM, 0, none⟩) (zM)).trans (cM0)
              have k3 := (hW.cell (p := ⟨bF, 0, none⟩) (zF)).trans (cF)
              have k4 := (hW.cell (p := ⟨gs, aa, none⟩) (zs)).trans (sa)
              have k5 := (hW.cell (p := ⟨gs, dd, none⟩) (zs)).trans (sd)
              have k6 := (hW.cell (p := ⟨gm, aa, none⟩) (zm)).trans (mca)
              have k7 := (hW.cell (p := ⟨gm, dd, none⟩) (zm)).trans (mcd)
              clear hs hd
              unfold GrowsE
              go_simp
              exact Below.refl _ _
            · intro a W hC hs hd
              have hW : Below w8.heap.size w8 W := hC
              have y100 : (a.tmps[100]?.getD undef) = .bool true := hd 11 100 (by kernel_rfl) (by kernel_rfl) (by kernel_rfl)
              have e102 : (a.tmps[102]?.getD undef) = .func (.func 128) #[] #[] := hd 13 102 (by kernel_rfl) (by kernel_rfl) (by kernel_rfl)
              have e106 : (a.tmps[106]?.getD undef) = .int .i64 ud := hd 17 106 (by kernel_rfl) (by kernel_rfl) (by kernel_rfl)
              have e110 : (a.tmps[110]?.getD undef) = .int .i64 mb := hd 21 110 (by kernel_rfl) (by kernel_rfl) (by kernel_rfl)
              refine growsG_yes (E := fun W W' => Below W.heap.size W W') rfl (by kernel_rfl) y100 ?_
              clear hs hd
              unfold GrowsE
              go_simp
              refine ⟨Below.refl _ _, (HE2.out W).mono ?_⟩
              rintro e w6 ⟨rfl, hb6⟩
              exact ⟨_, rfl, hb6, rfl⟩
            · intro a W hC hs hd
              have hW : Below w8.heap.size w8 W := hC
              have e100 : (a.tmps[100]?.getD undef) = .bool true := hd 11 100 (by kernel_rfl) (by kernel_rfl) (by kernel_rfl)
              have e111 : (a.tmps[111]?.getD undef) = .bool false := hd 22 111 (by kernel_rfl) (by kernel_rfl) (by kernel_rfl)
              refine growsG_none (E := fun W W' => Below W.heap.size W W') rfl ?_
              clear hs hd
              unfold GrowsE
              go_simp
              exact Below.refl _ _
            · intro a W hC hs hd
              have hW : Below w8.heap.size w8 W := hC
              have e112 : (a.tmps[112]?.getD undef) = .bool false := hd 23 112 (by kernel_rfl) (by kernel_rfl) (by kernel_rfl)
              refine growsG_none (E := fun W W' => Below W.heap.size W W') rfl ?_
              clear hs hd
              unfold GrowsE
              go_simp
              exact Below.refl _ _
            · intro a W hC hs hd
              have hW : Below w8.heap.size w8 W := hC
              have y113 : (a.tmps[113]?.getD undef) = .bool false := hd 24 113 (by kernel_rfl) (by kernel_rfl) (by kernel_rfl)
              exact growsG_no (E := fun W W' => Below W.heap.size W W') (b := false) rfl (by kernel_rfl) y113 (by decide) (Below.refl _ _) rfl
            · intro a W hC hs hd
              have hW : Below w8.heap.size w8 W := hC
              have y113 : (a.tmps[113]?.getD undef) = .bool false := hd 24 113 (by kernel_rfl) (by kernel_rfl) (by kernel_rfl)
              exact growsG_no (E := fun W W' => Below W.heap.size W W') (b := false) rfl (by kernel_rfl) y113 (by decide) (Below.refl _ _) rfl
            · intro a W hC hs hd
              have hW : Below w8.heap.size w8 W := hC
              have y113 : (a.tmps[113]?.getD undef) = .bool false := hd 24 113 (by kernel_rfl) (by kernel_rfl) (by kernel_rfl)
              exact growsG_no (E := fun W W' => Below W.heap.size W W') (b := false) rfl (by kernel_rfl) y113 (by decide) (Below.refl _ _) rfl
            · intro a W hC hs hd
              have hW : Below w8.heap.size w8 W := hC
              have y113 : (a.tmps[113]?.getD undef) = .bool false := hd 24 113 (by kernel_rfl) (by kernel_rfl) (by kernel_rfl)
              exact growsG_no (E := fun W W' => Below W.heap.size W W') (b := false) rfl (by kernel_rfl) y113 (by decide) (Below.refl _ _) rfl
          intro vs W hW hf
          have f89 : (vs 89) = .pointer (some ⟨bR, 2, none⟩) := hf 0 89 (by decide) (by kernel_rfl) (fun _ hk => by cases hk)
          have f90 : (vs 90) = .func (.func 128) #[] #[] := hf 1 90 (by decide) (by kernel_rfl) (fun _ hk => by cases hk)
          have f91 : (vs 91) = .slice (some ⟨gs, 0, none⟩) N N := hf 2 91 (by decide) (by kernel_rfl) (fun _ hk => by cases hk)
          have f92 : (vs 92) = .int .i64 (aa : Int) := hf 3 92 (by decide) (by kernel_rfl) (fun _ hk => by cases hk)
          have f93 : (vs 93) = .pointer (some ⟨gs, aa, none⟩) := hf 4 93 (by decide) (by kernel_rfl) (fun _ hk => by cases hk)
          have f94 : (vs 94) = .int .i64 ua := hf 5 94 (by decide) (by kernel_rfl) (fun _ hk => by cases hk)
          have f95 : (vs 95) = .slice (some ⟨gm, 0, none⟩) N cM := hf 6 95 (by decide) (by kernel_rfl) (fun _ hk => by cases hk)
          have f96 : (vs 96) = .int .i64 (aa : Int) := hf 7 96 (by decide) (by kernel_rfl) (fun _ hk => by cases hk)
          have f97 : (vs 97) = .pointer (some ⟨gm, aa, none⟩) := hf 8 97 (by decide) (by kernel_rfl) (fun _ hk => by cases hk)
          have f98 : (vs 98) = .int .i64 ma := hf 9 98 (by decide) (by kernel_rfl) (fun _ hk => by cases hk)
          have f99 : (vs 99) = .bool true := hf 10 99 (by decide) (by kernel_rfl) (fun _ hk => by cases hk)
          have f100 : (vs 100) = .bool true := hf 11 100 (by decide) (by kernel_rfl) (fun _ hk => by cases hk)
          have f101 : (vs 101) = .pointer (some ⟨bR, 2, none⟩) := hf 12 101 (by decide) (by kernel_rfl) (fun _ hk => by cases hk)
          have f102 : (vs 102) = .func (.func 128) #[] #[] := hf 13 102 (by decide) (by kernel_rfl) (fun _ hk => by cases hk)
          have f103 : (vs 103) = .slice (some ⟨gs, 0, none⟩) N N := hf 14 103 (by decide) (by kernel_rfl) (fun _ hk => by cases hk)
          have f104 : (vs 104) = .int .i64 (dd : Int) := hf 15 104 (by decide) (by kernel_rfl) (fun _ hk => by cases hk)
          have f105 : (vs 105) = .pointer (some ⟨gs, dd, none⟩) := hf 16 105 (by decide) (by kernel_rfl) (fun _ hk => by cases hk)
          have f106 : (vs 106) = .int .i64 ud := hf 17 106 (by decide) (by kernel_rfl) (fun _ hk => by cases hk)
          have f107 : (vs 107) = .slice (some ⟨gm, 0, none⟩) N cM := hf 18 107 (by decide) (by kernel_rfl) (fun _ hk => by cases hk)
          have f108 : (vs 108) = .int .i64 (dd : Int) := hf 19 108 (by decide) (by kernel_rfl) (fun _ hk => by cases hk)
          have f109 : (vs 109) = .pointer (some ⟨gm, dd, none⟩) := hf 20 109 (by decide) (by kernel_rfl) (fun _ hk => by cases hk)
          have f110 : (vs 110) = .int .i64 mb := hf 21 110 (by decide) (by kernel_rfl) (fun _ hk => by cases hk)
          have f111 : (vs 111) = .bool false := hf 22 111 (by decide) (by kernel_rfl) (fun _ hk => by cases hk)
          have f112 : (vs 112) = .bool false := hf 23 112 (by decide) (by kernel_rfl) (fun _ hk => by cases hk)
          have f113 : (vs 113) = .bool false := hf 24 113 (by decide) (by kernel_rfl) (fun _ hk => by cases hk)
          have f114 : (vs 114) = undef := hf 25 114 (by decide) (by kernel_rfl) (fun _ hk => by cases hk)
          have f115 : (vs 115) = undef := hf 26 115 (by decide) (by kernel_rfl) (fun _ hk => by cases hk)
          have f116 : (vs 116) = undef := hf 27 116 (by decide) (by kernel_rfl) (fun _ hk => by cases hk)
          have f117 : (vs 117) = undef := hf 28 117 (by decide) (by kernel_rfl) (fun _ hk => by cases hk)
          simp only [dsts, List.take_succ_cons, List.take_zero, List.drop_succ_cons, List.drop_zero, List.filterMap_cons, List.filterMap_nil, List.foldl_cons, List.foldl_nil, Act.put, List.setIfInBounds_toArray, List.set_cons_succ, List.set_cons_zero, f89, f90, f91, f92, f93, f94, f95, f96, f97, f98, f99, f100, f101, f102, f103, f104, f105, f106, f107, f108, f109, f110, f111, f112, f113, f114, f115, f116, f117]
          clear hf
          have hW : Below w8.heap.size w8 W := hW
          have P9 := P8.below hW
          have HN : Hid (csP f (i + 1 + 1) = csP f (i + 1)) := by
            show _ = _
            rw [HCS.out, HFX.out, Bool.and_false]
            rfl
          have HB9 := HBK
          clear P8
          go_wp2_with fail
          go_roundw
          case rel => exact ⟨i + 1, _, _, s2, by omega, by go_num, rfl, HB9, ⟨fun h => by rw [HN.out]; exact HSC.out.1 h, fun h => by rw [HN.out]; exact HSC.out.2 h⟩, P9⟩
          case measure => simp [intOf]; omega
        | true =>
          rw [hb2] at HE2 HFX
          clear hb2
          go_wp2_with fail
          refine wp_region_then 28 (fun i9 v W => match i9 with
            | 0 => v = .pointer (some ⟨bR, 2, none⟩)
            | 1 => v = .func (.func 128) #[] #[]
            | 2 => v = .slice (some ⟨gs, 0, none⟩) N N
            | 3 => v = .int .i64 (aa : Int)
            | 4 => v = .pointer (some ⟨gs, aa, none⟩)
            | 5 => v = .int .i64 ua
            | 6 => v = .slice (some ⟨gm, 0, none⟩) N cM
            | 7 => v = .int .i64 (aa : Int)
            | 8 => v = .pointer (some ⟨gm, aa, none⟩)
            | 9 => v = .int .i64 ma
            | 10 => v = .bool true
            | 11 => v = .bool true
            | 12 => v = .pointer (some ⟨bR, 2, none⟩)
            | 13 => v = .func (.func 128) #[] #[]
            | 14 => v = .slice (some ⟨gs, 0, none⟩) N N
            | 15 => v = .int .i64 (dd : Int)
            | 16 => v = .pointer (some ⟨gs, dd, none⟩)
            | 17 => v = .int .i64 ud
            | 18 => v = .slice (some ⟨gm, 0, none⟩) N cM
            | 19 => v = .int .i64 (dd : Int)
            | 20 => v = .pointer (some ⟨gm, dd, none⟩)
            | 21 => v = .int .i64 mb
            | 22 => v = .bool true
            | 23 => v = .bool true
            | 24 => v = .bool true
            | 25 => v = .func (.func 160) #[] #[.pointer (some ⟨bE, 0, none⟩), .pointer (some ⟨bD, 0, none⟩), .pointer (some ⟨bL, 0, none⟩), .pointer (some ⟨bG, 0, none⟩), .pointer (some ⟨bS, 0, none⟩), .pointer (some ⟨bM, 0, none⟩), .pointer (some ⟨bR, 0, none⟩), .pointer (some ⟨bF, 0, none⟩)]
            | 26 => v = .int .i64 k
            | _ => v = .int .i64 ((k + 1 : Nat) : Int))
            (fun i => match i with
            | _ => none)
            (fun k W W' => Below W.heap.size W W')  (fun W => Below w8.heap.size w8 W) (by kernel_rfl) (by kernel_rfl) ?_ ?_ ?_ ?_ ?_
          · exact (Below.refl _ _).drew
          · intro i k v W W' hne hd hC hf hE
            match i, hf with
            | 0, hf => exact hf
            | 1, hf => exact hf
            | 2, hf => exact hf
            | 3, hf => exact hf
            | 4, hf => exact hf
            | 5, hf => exact hf
            | 6, hf => exact hf
            | 7, hf => exact hf
            | 8, hf => exact hf
            | 9, hf => exact hf
            | 10, hf => exact hf
            | 11, hf => exact hf
            | 12, hf => exact hf
            | 13, hf => exact hf
            | 14, hf => exact hf
            | 15, hf => exact hf
            | 16, hf => exact hf
            | 17, hf => exact hf
            | 18, hf => exact hf
            | 19, hf => exact hf
            | 20, hf => exact hf
            | 21, hf => exact hf
            | 22, hf => exact hf
            | 23, hf => exact hf
            | 24, hf => exact hf
            | 25, hf => exact hf
            | 26, hf => exact hf
            | _ + 27, hf => exact hf
          · intro k W W' hC hE
            exact Below.andB hC hE
          · simp only [List.take_succ_cons, List.take_zero]
            refine ⟨?_, ?_, ?_, ?_, ?_, ?_, ?_, ?_, ?_, ?_, ?_, ?_, ?_, ?_, ?_, ?_, ?_, ?_, ?_, ?_, ?_, ?_, ?_, ?_, ?_, ?_, ?_, ?_, trivial⟩
            · intro a W hC hs hd
              have hW : Below w8.heap.size w8 W := hC
              have e7 : a.tmps[7]?.getD undef = .pointer (some ⟨bR, 0, none⟩) := hs 7 (by kernel_rfl)
              refine growsG_none (E := fun W W' => Below W.heap.size W W') rfl ?_
              have k0 := (hW.cell (p := ⟨bR, 2, none⟩) (zR)).trans (c2)
              have k1 := (hW.cell (p := ⟨bS, 0, none⟩) (zS)).trans (cS)
              have k2 := (hW.cell (p := ⟨bM, 0, none⟩) (zM)).trans (cM0)
              have k3 := (hW.cell (p := ⟨bF, 0, none⟩) (zF)).trans (cF)
              have k4 := (hW.cell (p := ⟨gs, aa, none⟩) (zs)).trans (sa)
              have k5 := (hW.cell (p := ⟨gs, dd, none⟩) (zs)).trans (sd)
              have k6 := (hW.cell (p := ⟨gm, aa, none⟩) (zm)).trans (mca)
              have k7 := (hW.cell (p := ⟨gm, dd, none⟩) (zm)).trans (mcd)
              clear hs hd
              unfold GrowsE
              go_simp
              exact Below.refl _ _
            · intro a W hC hs hd
              have hW : Below w8.heap.size w8 W := hC
              have e89 : (a.tmps[89]?.getD undef) = .pointer (some ⟨bR, 2, none⟩) := hd 0 89 (by kernel_rfl) (by kernel_rfl) (by kernel_rfl)
              refine growsG_none (E := fun W W' => Below W.heap.size W W') rfl ?_
              have k0 := (hW.cell (p := ⟨bR, 2, none⟩) (zR)).trans (c2)
              have k1 := (hW.cell (p := ⟨bS, 0, none⟩) (zS)).trans (cS)
              have k2 := (hW.cell (p := ⟨bM, 0, none⟩) (zM)).trans (cM0)
              have k3 := (hW.cell (p := ⟨bF, 0, none⟩) (zF)).trans (cF)
              have k4 := (hW.cell (p := ⟨gs, aa, none⟩) (zs)).trans (sa)
              have k5 := (hW.cell (p := ⟨gs, dd, none⟩) (zs)).trans (sd)
              have k6 := (hW.cell (p := ⟨gm, aa, none⟩) (zm)).trans (mca)
              have k7 := (hW.cell (p := ⟨gm, dd, none⟩) (zm)).trans (mcd)
              clear hs hd
              unfold GrowsE
              go_simp
              exact Below.refl _ _
            · intro a W hC hs hd
              have hW : Below w8.heap.size w8 W := hC
              have e5 : a.tmps[5]?.getD undef = .pointer (some ⟨bS, 0, none⟩) := hs 5 (by kernel_rfl)
              refine growsG_none (E := fun W W' => Below W.heap.size W W') rfl ?_
              have k0 := (hW.cell (p := ⟨bR, 2, none⟩) (zR)).trans (c2)
              have k1 := (hW.cell (p := ⟨bS, 0, none⟩) (zS)).trans (cS)
              have k2 := (hW.cell (p := ⟨bM, 0, none⟩) (zM)).trans (cM0)
              have k3 := (hW.cell (p := ⟨bF, 0, none⟩) (zF)).trans (cF)
              have k4 := (hW.cell (p := ⟨gs, aa, none⟩) (zs)).trans (sa)
              have k5 := (hW.cell (p := ⟨gs, dd, none⟩) (zs)).trans (sd)
              have k6 := (hW.cell (p := ⟨gm, aa, none⟩) (zm)).trans (mca)
              have k7 := (hW.cell (p := ⟨gm, dd, none⟩) (zm)).trans (mcd)
              clear hs hd
              unfold GrowsE
              go_simp
              exact Below.refl _ _
            · intro a W hC hs hd
              have hW : Below w8.heap.size w8 W := hC
              have e12 : a.tmps[12]?.getD undef = .int .i64 (aa : Int) := hs 12 (by kernel_rfl)
              refine growsG_none (E := fun W W' => Below W.heap.size W W') rfl ?_
              clear hs hd
              unfold GrowsE
              go_simp
              exact Below.refl _ _
            · intro a W hC hs hd
              have hW : Below w8.heap.size w8 W := hC
              have e91 : (a.tmps[91]?.getD undef) = .slice (some ⟨gs, 0, none⟩) N N := hd 2 91 (by kernel_rfl) (by kernel_rfl) (by kernel_rfl)
              have e92 : (a.tmps[92]?.getD undef) = .int .i64 (aa : Int) := hd 3 92 (by kernel_rfl) (by kernel_rfl) (by kernel_rfl)
              refine growsG_none (E := fun W W' => Below W.heap.size W W') rfl ?_
              have k0 := (hW.cell (p := ⟨bR, 2, none⟩) (zR)).trans (c2)
              have k1 := (hW.cell (p := ⟨bS, 0, none⟩) (zS)).trans (cS)
              have k2 := (hW.cell (p := ⟨bM, 0, none⟩) (zM)).trans (cM0)
              have k3 := (hW.cell (p := ⟨bF, 0, none⟩) (zF)).trans (cF)
              have k4 := (hW.cell (p := ⟨gs, aa, none⟩) (zs)).trans (sa)
              have k5 := (hW.cell (p := ⟨gs, dd, none⟩) (zs)).trans (sd)
              have k6 := (hW.cell (p := ⟨gm, aa, none⟩) (zm)).trans (mca)
              have k7 := (hW.cell (p := ⟨gm, dd, none⟩) (zm)).trans (mcd)
              clear hs hd
              unfold GrowsE
              go_simp
              exact Below.refl _ _
            · intro a W hC hs hd
              have hW : Below w8.heap.size w8 W := hC
              have e93 : (a.tmps[93]?.getD undef) = .pointer (some ⟨gs, aa, none⟩) := hd 4 93 (by kernel_rfl) (by kernel_rfl) (by kernel_rfl)
              refine growsG_none (E := fun W W' => Below W.heap.size W W') rfl ?_
              have k0 := (hW.cell (p := ⟨bR, 2, none⟩) (zR)).trans (c2)
              have k1 := (hW.cell (p := ⟨bS, 0, none⟩) (zS)).trans (cS)
              have k2 := (hW.cell (p := ⟨bM, 0, none⟩) (zM)).trans (cM0)
              have k3 := (hW.cell (p := ⟨bF, 0, none⟩) (zF)).trans (cF)
              have k4 := (hW.cell (p := ⟨gs, aa, none⟩) (zs)).trans (sa)
              have k5 := (hW.cell (p := ⟨gs, dd, none⟩) (zs)).trans (sd)
              have k6 := (hW.cell (p := ⟨gm, aa, none⟩) (zm)).trans (mca)
              have k7 := (hW.cell (p := ⟨gm, dd, none⟩) (zm)).trans (mcd)
              clear hs hd
              unfold GrowsE
              go_simp
              exact Below.refl _ _
            · intro a W hC hs hd
              have hW : Below w8.heap.size w8 W := hC
              have e6 : a.tmps[6]?.getD undef = .pointer (some ⟨bM, 0, none⟩) := hs 6 (by kernel_rfl)
              refine growsG_none (E := fun W W' => Below W.heap.size W W') rfl ?_
              have k0 := (hW.cell (p := ⟨bR, 2, none⟩) (zR)).trans (c2)
              have k1 := (hW.cell (p := ⟨bS, 0, none⟩) (zS)).trans (cS)
              have k2 := (hW.cell (p := ⟨bM, 0, none⟩) (zM)).trans (cM0)
              have k3 := (hW.cell (p := ⟨bF, 0, none⟩) (zF)).trans (cF)
              have k4 := (hW.cell (p := ⟨gs, aa, none⟩) (zs)).trans (sa)
              have k5 := (hW.cell (p := ⟨gs, dd, none⟩) (zs)).trans (sd)
              have k6 := (hW.cell (p := ⟨gm, aa, none⟩) (zm)).trans (mca)
              have k7 := (hW.cell (p := ⟨gm, dd, none⟩) (zm)).trans (mcd)
              clear hs hd
              unfold GrowsE
              go_simp
              exact Below.refl _ _
            · intro a W hC hs hd
              have hW : Below w8.heap.size w8 W := hC
              have e12 : a.tmps[12]?.getD undef = .int .i64 (aa : Int) := hs 12 (by kernel_rfl)
              refine growsG_none (E := fun W W' => Below W.heap.size W W') rfl ?_
              clear hs hd
              unfold GrowsE
              go_simp
              exact Below.refl _ _
            · intro a W hC hs hd
              have hW : Below w8.heap.size w8 W := hC
              have e95 : (a.tmps[95]?.getD undef) = .slice (some ⟨gm, 0, none⟩) N cM := hd 6 95 (by kernel_rfl) (by kernel_rfl) (by kernel_rfl)
              have e96 : (a.tmps[96]?.getD undef) = .int .i64 (aa : Int) := hd 7 96 (by kernel_rfl) (by kernel_rfl) (by kernel_rfl)
              refine growsG_none (E := fun W W' => Below W.heap.size W W') rfl ?_
              have k0 := (hW.cell (p := ⟨bR, 2, none⟩) (zR)).trans (c2)
              have k1 := (hW.cell (p := ⟨bS, 0, none⟩) (zS)).trans (cS)
              have k2 := (hW.cell (p := ⟨bM, 0, none⟩) (zM)).trans (cM0)
              have k3 := (hW.cell (p := ⟨bF, 0, none⟩) (zF)).trans (cF)
              have k4 := (hW.cell (p := ⟨gs, aa, none⟩) (zs)).trans (sa)
              have k5 := (hW.cell (p := ⟨gs, dd, none⟩) (zs)).trans (sd)
              have k6 := (hW.cell (p := ⟨gm, aa, none⟩) (zm)).trans (mca)
              have k7 := (hW.cell (p := ⟨gm, dd, none⟩) (zm)).trans (mcd)
              clear hs hd
              unfold GrowsE
              go_simp
              exact Below.refl _ _
            · intro a W hC hs hd
              have hW : Below w8.heap.size w8 W := hC
              have e97 : (a.tmps[97]?.getD undef) = .pointer (some ⟨gm, aa, none⟩) := hd 8 97 (by kernel_rfl) (by kernel_rfl) (by kernel_rfl)
              refine growsG_none (E := fun W W' => Below W.heap.size W W') rfl ?_
              have k0 := (hW.cell (p := ⟨bR, 2, none⟩) (zR)).trans (c2)
              have k1 := (hW.cell (p := ⟨bS, 0, none⟩) (zS)).trans (cS)
              have k2 := (hW.cell (p := ⟨bM, 0, none⟩) (zM)).trans (cM0)
              have k3 := (hW.cell (p := ⟨bF, 0, none⟩) (zF)).trans (cF)
              have k4 := (hW.cell (p := ⟨gs, aa, none⟩) (zs)).trans (sa)
              have k5 := (hW.cell (p := ⟨gs, dd, none⟩) (zs)).trans (sd)
              have k6 := (hW.cell (p := ⟨gm, aa, none⟩) (zm)).trans (mca)
              have k7 := (hW.cell (p := ⟨gm, dd, none⟩) (zm)).trans (mcd)
              clear hs hd
              unfold GrowsE
              go_simp
              exact Below.refl _ _
            · intro a W hC hs hd
              have hW : Below w8.heap.size w8 W := hC
              have e90 : (a.tmps[90]?.getD undef) = .func (.func 128) #[] #[] := hd 1 90 (by kernel_rfl) (by kernel_rfl) (by kernel_rfl)
              have e94 : (a.tmps[94]?.getD undef) = .int .i64 ua := hd 5 94 (by kernel_rfl) (by kernel_rfl) (by kernel_rfl)
              have e98 : (a.tmps[98]?.getD undef) = .int .i64 ma := hd 9 98 (by kernel_rfl) (by kernel_rfl) (by kernel_rfl)
              refine growsG_none (E := fun W W' => Below W.heap.size W W') rfl ?_
              clear hs hd
              unfold GrowsE
              go_simp
              refine ⟨Below.refl _ _, (HE1.out W).mono ?_⟩
              rintro e w6 ⟨rfl, hb6⟩
              exact ⟨_, rfl, hb6, rfl⟩
            · intro a W hC hs hd
              have hW : Below w8.heap.size w8 W := hC
              have e99 : (a.tmps[99]?.getD undef) = .bool true := hd 10 99 (by kernel_rfl) (by kernel_rfl) (by kernel_rfl)
              refine growsG_none (E := fun W W' => Below W.heap.size W W') rfl ?_
              clear hs hd
              unfold GrowsE
              go_simp
              exact Below.refl _ _
            · intro a W hC hs hd
              have hW : Below w8.heap.size w8 W := hC
              have y100 : (a.tmps[100]?.getD undef) = .bool true := hd 11 100 (by kernel_rfl) (by kernel_rfl) (by kernel_rfl)
              have e7 : a.tmps[7]?.getD undef = .pointer (some ⟨bR, 0, none⟩) := hs 7 (by kernel_rfl)
              refine growsG_yes (E := fun W W' => Below W.heap.size W W') rfl (by kernel_rfl) y100 ?_
              have k0 := (hW.cell (p := ⟨bR, 2, none⟩) (zR)).trans (c2)
              have k1 := (hW.cell (p := ⟨bS, 0, none⟩) (zS)).trans (cS)
              have k2 := (hW.cell (p := ⟨bM, 0, none⟩) (zM)).trans (cM0)
              have k3 := (hW.cell (p := ⟨bF, 0, none⟩) (zF)).trans (cF)
              have k4 := (hW.cell (p := ⟨gs, aa, none⟩) (zs)).trans (sa)
              have k5 := (hW.cell (p := ⟨gs, dd, none⟩) (zs)).trans (sd)
              have k6 := (hW.cell (p := ⟨gm, aa, none⟩) (zm)).trans (mca)
              have k7 := (hW.cell (p := ⟨gm, dd, none⟩) (zm)).trans (mcd)
              clear hs hd
              unfold GrowsE
              go_simp
              exact Below.refl _ _
            · intro a W hC hs hd
              have hW : Below w8.heap.size w8 W := hC
              have y100 : (a.tmps[100]?.getD undef) = .bool true := hd 11 100 (by kernel_rfl) (by kernel_rfl) (by kernel_rfl)
              have e101 : (a.tmps[101]?.getD undef) = .pointer (some ⟨bR, 2, none⟩) := hd 12 101 (by kernel_rfl) (by kernel_rfl) (by kernel_rfl)
              refine growsG_yes (E := fun W W' => Below W.heap.size W W') rfl (by kernel_rfl) y100 ?_
              have k0 := (hW.cell (p := ⟨bR, 2, none⟩) (zR)).trans (c2)
              have k1 := (hW.cell (p := ⟨bS, 0, none⟩) (zS)).trans (cS)
              have k2 := (hW.cell (p := ⟨bM, 0, none⟩) (zM)).trans (cM0)
              have k3 := (hW.cell (p := ⟨bF, 0, none⟩) (zF)).trans (cF)
              have k4 := (hW.cell (p := ⟨gs, aa, none⟩) (zs)).trans (sa)
              have k5 := (hW.cell (p := ⟨gs, dd, none⟩) (zs)).trans (sd)
              have k6 := (hW.cell (p := ⟨gm, aa, none⟩) (zm)).trans (mca)
              have k7 := (hW.cell (p := ⟨gm, dd, none⟩) (zm)).trans (mcd)
              clear hs hd
              unfold GrowsE
              go_simp
              exact Below.refl _ _
            · intro a W hC hs hd
              have hW : Below w8.heap.size w8 W := hC
              have y100 : (a.tmps[100]?.getD undef) = .bool true := hd 11 100 (by kernel_rfl) (by kernel_rfl) (by kernel_rfl)
              have e5 : a.tmps[5]?.getD undef = .pointer (some ⟨bS, 0, none⟩) := hs 5 (by kernel_rfl)
              refine growsG_yes (E := fun W W' => Below W.heap.size W W') rfl (by kernel_rfl) y100 ?_
              have k0 := (hW.cell (p := ⟨bR, 2, none⟩) (zR)).trans (c2)
              have k1 := (hW.cell (p := ⟨bS, 0, none⟩) (zS)).trans (cS)
              have k2 := (hW.cell (p := ⟨bM, 0, none⟩) (zM)).trans (cM0)
              have k3 := (hW.cell (p := ⟨bF, 0, none⟩) (zF)).trans (cF)
              have k4 := (hW.cell (p := ⟨gs, aa, none⟩) (zs)).trans (sa)
              have k5 := (hW.cell (p := ⟨gs, dd, none⟩) (zs)).trans (sd)
              have k6 := (hW.cell (p := ⟨gm, aa, none⟩) (zm)).trans (mca)
              have k7 := (hW.cell (p := ⟨gm, dd, none⟩) (zm)).trans (mcd)
              clear hs hd
              unfold GrowsE
              go_simp
              exact Below.refl _ _
            · intro a W hC hs hd
              have hW : Below w8.heap.size w8 W := hC
              have y100 : (a.tmps[100]?.getD undef) = .bool true := hd 11 100 (by kernel_rfl) (by kernel_rfl) (by kernel_rfl)
              have e13 : a.tmps[13]?.getD undef = .int .i64 (dd : Int) := hs 13 (by kernel_rfl)
              refine growsG_yes (E := fun W W' => Below W.heap.size W W') rfl (by kernel_rfl) y100 ?_
              clear hs hd
              unfold GrowsE
              go_simp
              exact Below.refl _ _
            · intro a W hC hs hd
              have hW : Below w8.heap.size w8 W := hC
              have y100 : (a.tmps[100]?.getD undef) = .bool true := hd 11 100 (by kernel_rfl) (by kernel_rfl) (by kernel_rfl)
              have e103 : (a.tmps[103]?.getD undef) = .slice (some ⟨gs, 0, none⟩) N N := hd 14 103 (by kernel_rfl) (by kernel_rfl) (by kernel_rfl)
              have e104 : (a.tmps[104]?.getD undef) = .int .i64 (dd : Int) := hd 15 104 (by kernel_rfl) (by kernel_rfl) (by kernel_rfl)
              refine growsG_yes (E := fun W W' => Below W.heap.size W W') rfl (by kernel_rfl) y100 ?_
              have k0 := (hW.cell (p := ⟨bR, 2, none⟩) (zR)).trans (c2)
              have k1 := (hW.cell (p := ⟨bS, 0, none⟩) (zS)).trans (cS)
              have k2 := (hW.cell (p := ⟨bM, 0, none⟩) (zM)).trans (cM0)
              have k3 := (hW.cell (p := ⟨bF, 0, none⟩) (zF)).trans (cF)
              have k4 := (hW.cell (p := ⟨gs, aa, none⟩) (zs)).trans (sa)
              have k5 := (hW.cell (p := ⟨gs, dd, none⟩) (zs)).trans (sd)
              have k6 := (hW.cell (p := ⟨gm, aa, none⟩) (zm)).trans (mca)
              have k7 := (hW.cell (p := ⟨gm, dd, none⟩) (zm)).trans (mcd)
              clear hs hd
              unfold GrowsE
              go_simp
              exact Below.refl _ _
            · intro a W hC hs hd
              have hW : Below w8.heap.size w8 W := hC
              have y100 : (a.tmps[100]?.getD undef) = .bool true := hd 11 100 (by kernel_rfl) (by kernel_rfl) (by kernel_rfl)
              have e105 : (a.tmps[105]?.getD undef) = .pointer (some ⟨gs, dd, none⟩) := hd 16 105 (by kernel_rfl) (by kernel_rfl) (by kernel_rfl)
              refine growsG_yes (E := fun W W' => Below W.heap.size W W') rfl (by kernel_rfl) y100 ?_
              have k0 := (hW.cell (p := ⟨bR, 2, none⟩) (zR)).trans (c2)
              have k1 := (hW.cell (p := ⟨bS, 0, none⟩) (zS)).trans (cS)
              have k2 := (hW.cell (p := ⟨bM, 0, none⟩) (zM)).trans (cM0)
              have k3 := (hW.cell (p := ⟨bF, 0, none⟩) (zF)).trans (cF)
              have k4 := (hW.cell (p := ⟨gs, aa, none⟩) (zs)).trans (sa)
              have k5 := (hW.cell (p := ⟨gs, dd, none⟩) (zs)).trans (sd)
              have k6 := (hW.cell (p := ⟨gm, aa, none⟩) (zm)).trans (mca)
              have k7 := (hW.cell (p := ⟨gm, dd, none⟩) (zm)).trans (mcd)
              clear hs hd
              unfold GrowsE
              go_simp
              exact Below.refl _ _
            · intro a W hC hs hd
              have hW : Below w8.heap.size w8 W := hC
              have y100 : (a.tmps[100]?.getD undef) = .bool true := hd 11 100 (by kernel_rfl) (by kernel_rfl) (by kernel_rfl)
              have e6 : a.tmps[6]?.getD undef = .pointer (some ⟨bM, 0, none⟩) := hs 6 (by kernel_rfl)
              refine growsG_yes (E := fun W W' => Below W.heap.size W W') rfl (by kernel_rfl) y100 ?_
              have k0 := (hW.cell (p := ⟨bR, 2, none⟩) (zR)).trans (c2)
              have k1 := (hW.cell (p := ⟨bS, 0, none⟩) (zS)).trans (cS)
              have k2 := (hW.cell (p := ⟨bM, 0, none⟩) (zM)).trans (cM0)
              have k3 := (hW.cell (p := ⟨bF, 0, none⟩) (zF)).trans (cF)
              have k4 := (hW.cell (p := ⟨gs, aa, none⟩) (zs)).trans (sa)
              have k5 := (hW.cell (p := ⟨gs, dd, none⟩) (zs)).trans (sd)
              have k6 := (hW.cell (p := ⟨gm, aa, none⟩) (zm)).trans (mca)
              have k7 := (hW.cell (p := ⟨gm, dd, none⟩) (zm)).trans (mcd)
              clear hs hd
              unfold GrowsE
              go_simp
              exact Below.refl _ _
            · intro a W hC hs hd
              have hW : Below w8.heap.size w8 W := hC
              have y100 : (a.tmps[100]?.getD undef) = .bool true := hd 11 100 (by kernel_rfl) (by kernel_rfl) (by kernel_rfl)
              have e13 : a.tmps[13]?.getD undef = .int .i64 (dd : Int) := hs 13 (by kernel_rfl)
              refine growsG_yes (E := fun W W' => Below W.heap.size W W') rfl (by kernel_rfl) y100 ?_
              clear hs hd
              unfold GrowsE
              go_simp
              exact Below.refl _ _
            · intro a W hC hs hd
              have hW : Below w8.heap.size w8 W := hC
              have y100 : (a.tmps[100]?.getD undef) = .bool true := hd 11 100 (by kernel_rfl) (by kernel_rfl) (by kernel_rfl)
              have e107 : (a.tmps[107]?.getD undef) = .slice (some ⟨gm, 0, none⟩) N cM := hd 18 107 (by kernel_rfl) (by kernel_rfl) (by kernel_rfl)
              have e108 : (a.tmps[108]?.getD undef) = .int .i64 (dd : Int) := hd 19 108 (by kernel_rfl) (by kernel_rfl) (by kernel_rfl)
              refine growsG_yes (E := fun W W' => Below W.heap.size W W') rfl (by kernel_rfl) y100 ?_
              have k0 := (hW.cell (p := ⟨bR, 2, none⟩) (zR)).trans (c2)
              have k1 := (hW.cell (p := ⟨bS, 0, none⟩) (zS)).trans (cS)
              have k2 := (hW.cell (p := ⟨bM, 0, none⟩) (zM)).trans (cM0)
              have k3 := (hW.cell (p := ⟨bF, 0, none⟩) (zF)).trans (cF)
              have k4 := (hW.cell (p := ⟨gs, aa, none⟩) (zs)).trans (sa)
              have k5 := (hW.cell (p := ⟨gs, dd, none⟩) (zs)).trans (sd)
              have k6 := (hW.cell (p := ⟨gm, aa, none⟩) (zm)).trans (mca)
              have k7 := (hW.cell (p := ⟨gm, dd, none⟩) (zm)).trans (mcd)
              clear hs hd
              unfold GrowsE
              go_simp
              exact Below.refl _ _
            · intro a W hC hs hd
              have hW : Below w8.heap.size w8 W := hC
              have y100 : (a.tmps[100]?.getD undef) = .bool true := hd 11 100 (by kernel_rfl) (by kernel_rfl) (by kernel_rfl)
              have e109 : (a.tmps[109]?.getD undef) = .pointer (some ⟨gm, dd, none⟩) := hd 20 109 (by kernel_rfl) (by kernel_rfl) (by kernel_rfl)
              refine growsG_yes (E := fun W W' => Below W.heap.size W W') rfl (by kernel_rfl) y100 ?_
              have k0 := (hW.cell (p := ⟨bR, 2, none⟩) (zR)).trans (c2)
              have k1 := (hW.cell (p := ⟨bS, 0, none⟩) (zS)).trans (cS)
              have k2 := (hW.cell (p := ⟨bM, 0, none⟩) (zM)).trans (cM0)
              have k3 := (hW.cell (p := ⟨bF, 0, none⟩) (zF)).trans (cF)
              have k4 := (hW.cell (p := ⟨gs, aa, none⟩) (zs)).trans (sa)
              have k5 := (hW.cell (p := ⟨gs, dd, none⟩) (zs)).trans (sd)
              have k6 := (hW.cell (p := ⟨gm, aa, none⟩) (zm)).trans (mca)
              have k7 := (hW.cell (p := ⟨gm, dd, none⟩) (zm)).trans (mcd)
              clear hs hd
              unfold GrowsE
              go_simp
              exact Below.refl _ _
            · intro a W hC hs hd
              have hW : Below w8.heap.size w8 W := hC
              have y100 : (a.tmps[100]?.getD undef) = .bool true := hd 11 100 (by kernel_rfl) (by kernel_rfl) (by kernel_rfl)
              have e102 : (a.tmps[102]?.getD undef) = .func (.func 128) #[] #[] := hd 13 102 (by kernel_rfl) (by kernel_rfl) (by kernel_rfl)
              have e106 : (a.tmps[106]?.getD undef) = .int .i64 ud := hd 17 106 (by kernel_rfl) (by kernel_rfl) (by kernel_rfl)
              have e110 : (a.tmps[110]?.getD undef) = .int .i64 mb := hd 21 110 (by kernel_rfl) (by kernel_rfl) (by kernel_rfl)
              refine growsG_yes (E := fun W W' => Below W.heap.size W W') rfl (by kernel_rfl) y100 ?_
              clear hs hd
              unfold GrowsE
              go_simp
              refine ⟨Below.refl _ _, (HE2.out W).mono ?_⟩
              rintro e w6 ⟨rfl, hb6⟩
              exact ⟨_, rfl, hb6, rfl⟩
            · intro a W hC hs hd
              have hW : Below w8.heap.size w8 W := hC
              have e100 : (a.tmps[100]?.getD undef) = .bool true := hd 11 100 (by kernel_rfl) (by kernel_rfl) (by kernel_rfl)
              have e111 : (a.tmps[111]?.getD undef) = .bool true := hd 22 111 (by kernel_rfl) (by kernel_rfl) (by kernel_rfl)
              refine growsG_none (E := fun W W' => Below W.heap.size W W') rfl ?_
              clear hs hd
              unfold GrowsE
              go_simp
              exact Below.refl _ _
            · intro a W hC hs hd
              have hW : Below w8.heap.size w8 W := hC
              have e112 : (a.tmps[112]?.getD undef) = .bool true := hd 23 112 (by kernel_rfl) (by kernel_rfl) (by kernel_rfl)
              refine growsG_none (E := fun W W' => Below W.heap.size W W') rfl ?_
              clear hs hd
              unfold GrowsE
              go_simp
              exact Below.refl _ _
            · intro a W hC hs hd
              have hW : Below w8.heap.size w8 W := hC
              have y113 : (a.tmps[113]?.getD undef) = .bool true := hd 24 113 (by kernel_rfl) (by kernel_rfl) (by kernel_rfl)
              have e8 : a.tmps[8]?.getD undef = .pointer (some ⟨bF, 0, none⟩) := hs 8 (by kernel_rfl)
              refine growsG_yes (E := fun W W' => Below W.heap.size W W') rfl (by kernel_rfl) y113 ?_
              have k0 := (hW.cell (p := ⟨bR, 2, none⟩) (zR)).trans (c2)
              have k1 := (hW.cell (p := ⟨bS, 0, none⟩) (zS)).trans (cS)
              have k2 := (hW.cell (p := ⟨bM, 0, none⟩) (zM)).trans (cM0)
              have k3 := (hW.cell (p := ⟨bF, 0, none⟩) (zF)).trans (cF)
              have k4 := (hW.cell (p := ⟨gs, aa, none⟩) (zs)).trans (sa)
              have k5 := (hW.cell (p := ⟨gs, dd, none⟩) (zs)).trans (sd)
              have k6 := (hW.cell (p := ⟨gm, aa, none⟩) (zm)).trans (mca)
              have k7 := (hW.cell (p := ⟨gm, dd, none⟩) (zm)).trans (mcd)
              clear hs hd
              unfold GrowsE
              go_simp
              exact Below.refl _ _
            · intro a W hC hs hd
              have hW : Below w8.heap.size w8 W := hC
              have y113 : (a.tmps[113]?.getD undef) = .bool true := hd 24 113 (by kernel_rfl) (by kernel_rfl) (by kernel_rfl)
              have e0 : a.tmps[0]?.getD undef = .int .i64 k := hs 0 (by kernel_rfl)
              refine growsG_yes (E := fun W W' => Below W.heap.size W W') rfl (by kernel_rfl) y113 ?_
              clear hs hd
              unfold GrowsE
              go_simp
              exact Below.refl _ _
            · intro a W hC hs hd
              have hW : Below w8.heap.size w8 W := hC
              have y113 : (a.tmps[113]?.getD undef) = .bool true := hd 24 113 (by kernel_rfl) (by kernel_rfl) (by kernel_rfl)
              have e115 : (a.tmps[115]?.getD undef) = .int .i64 k := hd 26 115 (by kernel_rfl) (by kernel_rfl) (by kernel_rfl)
              refine growsG_yes (E := fun W W' => Below W.heap.size W W') rfl (by kernel_rfl) y113 ?_
              clear hs hd
              unfold GrowsE
              go_simp
              exact Below.refl _ _
          intro vs W hW hf
          have f89 : (vs 89) = .pointer (some ⟨bR, 2, none⟩) := hf 0 89 (by decide) (by kernel_rfl) (fun _ hk => by cases hk)
          have f90 : (vs 90) = .func (.func 128) #[] #[] := hf 1 90 (by decide) (by kernel_rfl) (fun _ hk => by cases hk)
          have f91 : (vs 91) = .slice (some ⟨gs, 0, none⟩) N N := hf 2 91 (by decide) (by kernel_rfl) (fun _ hk => by cases hk)
          have f92 : (vs 92) = .int .i64 (aa : Int) := hf 3 92 (by decide) (by kernel_rfl) (fun _ hk => by cases hk)
          have f93 : (vs 93) = .pointer (some ⟨gs, aa, none⟩) := hf 4 93 (by decide) (by kernel_rfl) (fun _ hk => by cases hk)
          have f94 : (vs 94) = .int .i64 ua := hf 5 94 (by decide) (by kernel_rfl) (fun _ hk => by cases hk)
          have f95 : (vs 95) = .slice (some ⟨gm, 0, none⟩) N cM := hf 6 95 (by decide) (by kernel_rfl) (fun _ hk => by cases hk)
          have f96 : (vs 96) = .int .i64 (aa : Int) := hf 7 96 (by decide) (by kernel_rfl) (fun _ hk => by cases hk)
          have f97 : (vs 97) = .pointer (some ⟨gm, aa, none⟩) := hf 8 97 (by decide) (by kernel_rfl) (fun _ hk => by cases hk)
          have f98 : (vs 98) = .int .i64 ma := hf 9 98 (by decide) (by kernel_rfl) (fun _ hk => by cases hk)
          have f99 : (vs 99) = .bool true := hf 10 99 (by decide) (by kernel_rfl) (fun _ hk => by cases hk)
          have f100 : (vs 100) = .bool true := hf 11 100 (by decide) (by kernel_rfl) (fun _ hk => by cases hk)
          have f101 : (vs 101) = .pointer (some ⟨bR, 2, none⟩) := hf 12 101 (by decide) (by kernel_rfl) (fun _ hk => by cases hk)
          have f102 : (vs 102) = .func (.func 128) #[] #[] := hf 13 102 (by decide) (by kernel_rfl) (fun _ hk => by cases hk)
          have f103 : (vs 103) = .slice (some ⟨gs, 0, none⟩) N N := hf 14 103 (by decide) (by kernel_rfl) (fun _ hk => by cases hk)
          have f104 : (vs 104) = .int .i64 (dd : Int) := hf 15 104 (by decide) (by kernel_rfl) (fun _ hk => by cases hk)
          have f105 : (vs 105) = .pointer (some ⟨gs, dd, none⟩) := hf 16 105 (by decide) (by kernel_rfl) (fun _ hk => by cases hk)
          have f106 : (vs 106) = .int .i64 ud := hf 17 106 (by decide) (by kernel_rfl) (fun _ hk => by cases hk)
          have f107 : (vs 107) = .slice (some ⟨gm, 0, none⟩) N cM := hf 18 107 (by decide) (by kernel_rfl) (fun _ hk => by cases hk)
          have f108 : (vs 108) = .int .i64 (dd : Int) := hf 19 108 (by decide) (by kernel_rfl) (fun _ hk => by cases hk)
          have f109 : (vs 109) = .pointer (some ⟨gm, dd, none⟩) := hf 20 109 (by decide) (by kernel_rfl) (fun _ hk => by cases hk)
          have f110 : (vs 110) = .int .i64 mb := hf 21 110 (by decide) (by kernel_rfl) (fun _ hk => by cases hk)
          have f111 : (vs 111) = .bool true := hf 22 111 (by decide) (by kernel_rfl) (fun _ hk => by cases hk)
          have f112 : (vs 112) = .bool true := hf 23 112 (by decide) (by kernel_rfl) (fun _ hk => by cases hk)
          have f113 : (vs 113) = .bool true := hf 24 113 (by decide) (by kernel_rfl) (fun _ hk => by cases hk)
          have f114 : (vs 114) = .func (.func 160) #[] #[.pointer (some ⟨bE, 0, none⟩), .pointer (some ⟨bD, 0, none⟩), .pointer (some ⟨bL, 0, none⟩), .pointer (some ⟨bG, 0, none⟩), .pointer (some ⟨bS, 0, none⟩), .pointer (some ⟨bM, 0, none⟩), .pointer (some ⟨bR, 0, none⟩), .pointer (some ⟨bF, 0, none⟩)] := hf 25 114 (by decide) (by kernel_rfl) (fun _ hk => by cases hk)
          have f115 : (vs 115) = .int .i64 k := hf 26 115 (by decide) (by kernel_rfl) (fun _ hk => by cases hk)
          have f116 : (vs 116) = .int .i64 ((k + 1 : Nat) : Int) := hf 27 116 (by decide) (by kernel_rfl) (fun _ hk => by cases hk)
          simp only [dsts, List.take_succ_cons, List.take_zero, List.drop_succ_cons, List.drop_zero, List.filterMap_cons, List.filterMap_nil, List.foldl_cons, List.foldl_nil, Act.put, List.setIfInBounds_toArray, List.set_cons_succ, List.set_cons_zero, f89, f90, f91, f92, f93, f94, f95, f96, f97, f98, f99, f100, f101, f102, f103, f104, f105, f106, f107, f108, f109, f110, f111, f112, f113, f114, f115, f116]
          clear hf
          have hW : Below w8.heap.size w8 W := hW
          have P9 := P8.below hW
          obtain ⟨R, hR⟩ : ∃ R, R = cntI 0 md es (L.drop (k + 1)) nt' mo' := ⟨_, rfl⟩
          have HN : Hid (csP f (i + 1 + 1) = csP f (i + 1) + R) := by
            show _ = _
            rw [HCS.out, HFX.out, Bool.and_true, if_pos rfl, hR]
          have HREC := Lib.hid (IH.out (k + 1) s2 (upF F2 e x) nt' mo' W (by omega) (by omega) P9 HBN.out HBM.out)
          rw [← hR] at HREC
          have cF := P9.cell fs.lt.2.2.2.2.2.2.2 fs.n.2.2.2.2.2.2.2 0 fs.cF
          clear hR P8 P9
          go_wp2_with fail
          refine HREC.out.mono ?_
          rintro ee w9 ⟨rfl, F9, s9, HS9, P9⟩
          have HS9 := Lib.hid HS9
          have HB9 := HBK
          obtain ⟨nt9, hnt9⟩ : ∃ z, z = nt' := ⟨_, rfl⟩
          rw [← hnt9] at HB9 P9
          have HN9 := Lib.hid hnt9
          clear hnt9
          by_cases hgt : (r && decide (0 < R)) = true
          · rw [hgt]
            have HEN : Hid ((r && decide (0 < cntI 0 md es (L.drop k) nt mo)) = true ∧ (r = false → s9 = s + cntI 0 md es (L.drop k) nt mo)) := by
              show _ ∧ _
              have h1 : r = true := by cases r with | true => rfl | false => simp at hgt
              have h2 : 0 < R := by rw [h1] at hgt; simpa using hgt
              refine ⟨?_, fun h => by rw [h1] at h; cases h⟩
              rw [h1, HST.out]
              have h3 := csP_mono f (show i + 1 + 1 ≤ md by omega)
              rw [HN.out] at h3
              simp; omega
            clear HREC
            go_wp2_with fail
            refine wp_region_thenS 8 (fun i9 v W => match i9 with
              | 0 => v = .slice (some ⟨gs, 0, none⟩) N N
              | 1 => v = .int .i64 (aa : Int)
              | 2 => v = .slice (some ⟨gs, 0, none⟩) N N
              | 3 => v = .int .i64 (dd : Int)
              | 4 => v = .int .i64 na
              | 5 => v = .int .i64 nd
              | 6 => v = .pointer (some ⟨gs, aa, none⟩)
              | 7 => FW w0 T gl gs gm N m P F9 (upF nt9 aa na) mo' s9 W
              | _ => True)
              (fun _ => none) (fun i => match i with | 7 => some 6 | _ => none)
              (fun k W W' => if k = 7 then (fun W W2 => W2 = W.setCell ⟨gs, aa, none⟩ (.int .i64 na)) W W' else Below W.heap.size W W') (fun W => FWC w0 T gl gs gm N m P F9 nt9 mo' s9 aa na W) (by kernel_rfl) (by kernel_rfl) (by kernel_rfl) ?_ ?_ ?_ ?_ ?_
            · exact .inl P9.drew
            · intro i k v W W' hne hd hC hf hE
              by_cases hk : k = 7
              · subst hk
                match i, hne, hf with
                | 0, hne, hf => exact hf
                | 1, hne, hf => exact hf
                | 2, hne, hf => exact hf
                | 3, hne, hf => exact hf
                | 4, hne, hf => exact hf
                | 5, hne, hf => exact hf
                | 6, hne, hf => exact hf
                | 7, hne, hf => exact absurd rfl hne
                | _ + 8, hne, hf => trivial
              · simp only [if_neg hk] at hE
                match i, hf with
                | 0, hf => exact hf
                | 1, hf => exact hf
                | 2, hf => exact hf
                | 3, hf => exact hf
                | 4, hf => exact hf
                | 5, hf => exact hf
                | 6, hf => exact hf
                | 7, hf => exact FW.below hf hE
                | _ + 8, hf => trivial
            · intro k W W' hC hE
              by_cases hk : k = 7
              · subst hk
                replace hE : (fun W W2 => W2 = W.setCell ⟨gs, aa, none⟩ (.int .i64 na)) W W' := hE
                exact by rw [hE]; exact .inr (FWC.set hC fs.ne)
              · simp only [if_neg hk] at hE
                exact FWC.below hC hE
            · simp only [List.take_succ_cons, List.take_zero]
              refine ⟨?_, ?_, ?_, ?_, ?_, ?_, ?_, ?_, trivial⟩
              · intro a W hC hs hd
                have hC : FWC w0 T gl gs gm N m P F9 nt9 mo' s9 aa na W := hC
                have e5 : a.tmps[5]?.getD undef = .pointer (some ⟨bS, 0, none⟩) := hs 5 (by kernel_rfl)
                refine growsG_none (E := fun W W' => Below W.heap.size W W') rfl ?_
                have k0 := hC.cell fs.lt.2.2.2.2.1 fs.n.2.2.2.2.1 0 fs.cS
                clear hs hd
                unfold GrowsE
                go_simp
                exact Below.refl _ _
              · intro a W hC hs hd
                have hC : FWC w0 T gl gs gm N m P F9 nt9 mo' s9 aa na W := hC
                have e12 : a.tmps[12]?.getD undef = .int .i64 (aa : Int) := hs 12 (by kernel_rfl)
                refine growsG_none (E := fun W W' => Below W.heap.size W W') rfl ?_
                clear hs hd
                unfold GrowsE
                go_simp
                exact Below.refl _ _
              · intro a W hC hs hd
                have hC : FWC w0 T gl gs gm N m P F9 nt9 mo' s9 aa na W := hC
                have e5 : a.tmps[5]?.getD undef = .pointer (some ⟨bS, 0, none⟩) := hs 5 (by kernel_rfl)
                refine growsG_none (E := fun W W' => Below W.heap.size W W') rfl ?_
                have k0 := hC.cell fs.lt.2.2.2.2.1 fs.n.2.2.2.2.1 0 fs.cS
                clear hs hd
                unfold GrowsE
                go_simp
                exact Below.refl _ _
              · intro a W hC hs hd
                have hC : FWC w0 T gl gs gm N m P F9 nt9 mo' s9 aa na W := hC
                have e13 : a.tmps[13]?.getD undef = .int .i64 (dd : Int) := hs 13 (by kernel_rfl)
                refine growsG_none (E := fun W W' => Below W.heap.size W W') rfl ?_
                clear hs hd
                unfold GrowsE
                go_simp
                exact Below.refl _ _
              · intro a W hC hs hd
                have hC : FWC w0 T gl gs gm N m P F9 nt9 mo' s9 aa na W := hC
                have e14 : a.tmps[14]?.getD undef = .int .i64 na := hs 14 (by kernel_rfl)
                refine growsG_none (E := fun W W' => Below W.heap.size W W') rfl ?_
                clear hs hd
                unfold GrowsE
                go_simp
                exact Below.refl _ _
              · intro a W hC hs hd
                have hC : FWC w0 T gl gs gm N m P F9 nt9 mo' s9 aa na W := hC
                have e15 : a.tmps[15]?.getD undef = .int .i64 nd := hs 15 (by kernel_rfl)
                refine growsG_none (E := fun W W' => Below W.heap.size W W') rfl ?_
                clear hs hd
                unfold GrowsE
                go_simp
                exact Below.refl _ _
              · intro a W hC hs hd
                have hC : FWC w0 T gl gs gm N m P F9 nt9 mo' s9 aa na W := hC
                have e120 : (a.tmps[120]?.getD undef) = .slice (some ⟨gs, 0, none⟩) N N := hd 0 120 (by kernel_rfl) (by kernel_rfl) (by kernel_rfl)
                have e121 : (a.tmps[121]?.getD undef) = .int .i64 (aa : Int) := hd 1 121 (by kernel_rfl) (by kernel_rfl) (by kernel_rfl)
                refine growsG_none (E := fun W W' => Below W.heap.size W W') rfl ?_
                have k0 := hC.cell fs.lt.2.2.2.2.1 fs.n.2.2.2.2.1 0 fs.cS
                clear hs hd
                unfold GrowsE
                go_simp
                exact Below.refl _ _
              · intro a W hC hs hd
                have hC : FWC w0 T gl gs gm N m P F9 nt9 mo' s9 aa na W := hC
                have e126 : (a.tmps[126]?.getD undef) = .pointer (some ⟨gs, aa, none⟩) := hd 6 126 (by kernel_rfl) (by kernel_rfl) (by kernel_rfl)
                have e124 : (a.tmps[124]?.getD undef) = .int .i64 na := hd 4 124 (by kernel_rfl) (by kernel_rfl) (by kernel_rfl)
                refine growsG_none rfl ?_
                obtain ⟨fx, RX⟩ := hC.row
                have fz := RX.frozen aa
                have kz := RX.cell haN
                clear hs hd
                unfold GrowsE
                go_simp
                exact hC.set fs.ne
            intro vs W hC hf hg
            have f120 : (vs 120) = .slice (some ⟨gs, 0, none⟩) N N := hf 0 120 (by decide) (by kernel_rfl) (fun _ hk => by cases hk)
            have f121 : (vs 121) = .int .i64 (aa : Int) := hf 1 121 (by decide) (by kernel_rfl) (fun _ hk => by cases hk)
            have f122 : (vs 122) = .slice (some ⟨gs, 0, none⟩) N N := hf 2 122 (by decide) (by kernel_rfl) (fun _ hk => by cases hk)
            have f123 : (vs 123) = .int .i64 (dd : Int) := hf 3 123 (by decide) (by kernel_rfl) (fun _ hk => by cases hk)
            have f124 : (vs 124) = .int .i64 na := hf 4 124 (by decide) (by kernel_rfl) (fun _ hk => by cases hk)
            have f125 : (vs 125) = .int .i64 nd := hf 5 125 (by decide) (by kernel_rfl) (fun _ hk => by cases hk)
            have f126 : (vs 126) = .pointer (some ⟨gs, aa, none⟩) := hf 6 126 (by decide) (by kernel_rfl) (fun _ hk => by cases hk)
            have hst : FW w0 T gl gs gm N m P F9 (upF nt9 aa na) mo' s9 W := hg 7 _ (by decide) rfl rfl (fun _ hk => by cases hk)
            simp only [dsts, List.take_succ_cons, List.take_zero, List.drop_succ_cons, List.drop_zero, List.filterMap_cons, List.filterMap_nil, List.foldl_cons, List.foldl_nil, Act.put, List.setIfInBounds_toArray, List.set_cons_succ, List.set_cons_zero, f120, f121, f122, f123, f124, f125, f126]
            clear hf hg
            have hs9 := hst
            obtain ⟨fz2, k2⟩ := And.intro (hs9.rs.frozen dd) (hs9.rs.cell hdN)
            have Q1 := (hs9.setS1 fs.ne dd nd).congr (nt' := nt) (by rw [put2_up had]; exact HB9.out) rfl
            have cM1 := Q1.cell fs.lt.2.2.2.2.2.1 fs.n.2.2.2.2.2.1 0 fs.cMo
            have m1 := Q1.rm.cell haN
            have fm1 := Q1.rm.frozen aa
            rw [HMA.out] at m1
            have Q2 := Q1.setM fs.ne aa (ma + 1)
            have cM2 := Q2.cell fs.lt.2.2.2.2.2.1 fs.n.2.2.2.2.2.1 0 fs.cMo
            have m2 := Q2.rm.cell hdN
            have fm2 := Q2.rm.frozen dd
            rw [upF_other HNE.out, HMD.out] at m2
            have Q3 := Lib.hid ((Q2.setM fs.ne dd (mb + 1)).congr rfl HMB.out)
            have wm1 : IntKind.i64.wrap (ma + 1) = ma + 1 := IntWalk.i64_in _ (by omega)
            have wm2 : IntKind.i64.wrap (mb + 1) = mb + 1 := IntWalk.i64_in _ (by omega)
            clear hst hs9 hC Q1 Q2
            go_wp2_with fail
            go_ret
            exact ⟨by rw [HEN.out.1]; rfl, _, s9, HEN.out.2, Q3.out⟩
          · have hgt : (r && decide (0 < R)) = false := by simpa using hgt
            rw [hgt]
            go_wp2_with fail
            go_roundw
            case rel =>
              refine ⟨i + 1, _, _, s9, by omega, by go_num, rfl, HB9, ⟨fun h => ?_, fun h => ?_⟩, P9⟩
              · rw [HN.out, HS9.out h, HSC.out.1 h]; omega
              · have h2 := HSC.out.2 h
                rw [HN.out, h2]
                rw [h] at hgt
                simp at hgt
                omega
            case measure => simp [intOf]; omega
end Go.Proofs.Ytppfplhbfgjjhaa
