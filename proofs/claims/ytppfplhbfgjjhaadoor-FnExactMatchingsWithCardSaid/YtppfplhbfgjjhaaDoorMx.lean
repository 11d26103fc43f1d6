import Derived.Test.YtppfplhbfgjjhaaDoorMv
import Derived.Test.YtppfplhbfgjjhaaDoorMw
import Derived.Test.YtppfplhbfgjjhaaDoorM20
namespace Go.Proofs.YtppfplhbfgjjhaaDoor
open Go.RowKit Go.Sort Go.Shelf
def mtAll (es : List (Int × Int)) (n : Nat) : List (List Int) := mts es n 10 0
theorem mtAll_len (es : List (Int × Int)) (n : Nat) : (mtAll es n).length ≤ 59049 := mts_len es n 10 0
set_option maxRecDepth 100000 in
set_option maxHeartbeats 1000000 in
theorem l04All_any (N b o m c : Nat) (es : List (Int × Int)) (w : World) (h : Eds w b o m es) (hm : m ≤ 1048576) (hG : IsG N es) :
    Calls Tryd.prog 16 #[.agg #[.int .i64 N, .slice (some ⟨b, o, none⟩) m c]] w (RetLL (mtAll es N) w) := by
  have hn20 := hG.wf.2.1
  have HV : Hid (mtR [] [] (mts es N 10 0) = mtAll es N) := by show _ = _; simp [mtR, mtAll]
  have hbb := (by go_grown : Below w.heap.size w (w.alloc (.cells #[.int .i64 N, .slice (some ⟨b, o, none⟩) m c] 30)))
  obtain ⟨w1, hw1⟩ : ∃ w1, w1 = w.alloc (Obj.cells #[Value.int IntKind.i64 N, Value.slice (some ⟨b, o, none⟩) m c] 30) := ⟨_, rfl⟩
  have sw1 : w1.heap.size = w.heap.size + 1 := by rw [hw1]; simp [go_sem]
  obtain ⟨w2, hw2⟩ : ∃ w2, w2 = (w1.alloc (.cells #[] 2)).alloc (.cells #[] 55) := ⟨_, rfl⟩
  rw [← hw1] at hbb
  have hb2 : Below w1.heap.size w1 w2 := by rw [hw2]; exact ((Below.refl _ _).alloc (Nat.le_refl _) _).alloc (by simp [go_sem]) _
  have sa : (w1.alloc (.cells #[] 2)).heap.size = w.heap.size + 1 + 1 := by simp [go_sem, sw1]
  have O : OwnLL w1.heap.size w2.heap.size w2 (some ⟨w.heap.size + 1 + 1, 0, none⟩) 0 0 [] := by
    have := OwnLL.empty (base := w1.heap.size) (w1.alloc (.cells #[] 2)) (by rw [sa, sw1]; omega)
    rw [sa] at this
    rw [hw2]
    have hs2 : ((w1.alloc (.cells #[] 2)).alloc (.cells #[] 55)).heap.size = w.heap.size + 1 + 1 + 1 := by simp [go_sem, sw1]
    rw [hs2]; exact this
  have z2 : w2.heap.size = w.heap.size + 1 + 1 + 1 := by rw [hw2]; simp [go_sem, sw1]
  have hB := hbb.andB hb2
  have HL := Lib.hid (l04List_any N b o m c es w1.heap.size hm hG 11 10 0 [] (some ⟨w.heap.size + 1, 0, none⟩) 0 [] (some ⟨w.heap.size + 1 + 1, 0, none⟩) 0 w2 (by decide) (by rw [uns_0]; omega) (Nat.two_pow_pos _) (by simp) (by decide) (h.below hB) (fun h0 => absurd h0 (by simp)) ⟨_, O⟩ (by omega) (fun g hg => by
    simp only [blkOf, Option.map_some, Option.some.injEq] at hg
    have := h.blk
    exact ⟨by omega, fun hh => by simp only [blkOf, Option.map_some, Option.some.injEq] at hh; omega⟩) (fun g hg => by simp only [blkOf, Option.map_some, Option.some.injEq] at hg; omega))
  rw [HV.out] at HL
  clear O
  go_enter Tryd.func16, Tryd.ntmps16
  go_wp2_with fail
  rw [← hw1, ← hw2]
  refine HL.out.mono ?_
  rintro e w3 ⟨A2, c2, rfl, ⟨top, O3⟩, k3, n3⟩
  have ht := O3.2.1
  have hk : Below w.heap.size w w3 := hB.trans (k3.below (by omega) (fun k hk => by simp only [blkOf, Option.map_some, Option.some.injEq] at hk; omega))
  have HF : Hid (RetLL (mtAll es N) w (.returned (.slice A2 (mtAll es N).length c2)) w3) :=
    ⟨A2, c2, rfl, (O3.mono (by omega)).raise ht (Nat.le_refl _), hk⟩
  go_wp2_with fail
  go_ret
  exact HF.out
def hasR (e : Int) (r : List Int) : Bool := r.any (fun x => decide (x = e))
theorem hasR_no {e : Int} {r : List Int} (h : ∀ j, j < r.length → ia r j ≠ e) : hasR e r = false := by
  unfold hasR
  rw [List.any_eq_false]
  intro x hx
  obtain ⟨i, hi, rfl⟩ := memIa hx
  simpa using h i hi
theorem hasR_yes {e : Int} {r : List Int} {j : Nat} (hj : j < r.length) (h : ia r j = e) : hasR e r = true := by
  unfold hasR
  rw [List.any_eq_true]
  exact ⟨ia r j, iaMem hj, by simp [h]⟩
set_option maxHeartbeats 1000000 in
theorem l04Has_any (A : Option Addr) (l c : Nat) (ys : List Int) (e : Int) (w : World) (hsrc : SrcI w A l (ia ys)) (hyl : ys.length = l) (hl : l ≤ 1048576) :
    Calls Tryd.prog 25 #[.slice A l c, .int .i64 e] w (Ret (.bool (hasR e ys)) w) := by
  have HYL := Lib.hid hyl
  clear hyl
  go_enter Tryd.func25, Tryd.ntmps25
  go_wp2_with fail
  go_loopw [5] (fun iv wr => ∃ j : Nat, j ≤ l ∧ iv = .int .i64 j ∧ Hid (∀ i, i < j → ia ys i ≠ e) ∧ Below w.heap.size w wr) (fun i _ => l - (intOf i).toNat)
  case atStart => exact ⟨0, Nat.zero_le _, rfl, fun i hi => absurd hi (by omega), Below.refl _ _⟩
  case round =>
    obtain ⟨j, hj, rfl, HP, hbr⟩ := hrel
    by_cases hlt : j < l
    · obtain ⟨g, o, rfl, I⟩ := SrcI.below hsrc hbr (by omega)
      have i1 := I.c j hlt
      have zi := I.blk
      by_cases he : ia ys j = e
      · have HR : Hid (hasR e ys = true) := hasR_yes (by rw [HYL.out]; exact hlt) he
        rw [he] at i1
        have hq : (e == e) = true := by simp
        clear he
        go_wp2_with fail
        go_ret
        exact ⟨by rw [HR.out]; rfl, hbr⟩
      · have hq : (ia ys j == e) = false := by simpa using he
        have HE := Lib.hid he
        clear he
        go_wp2_with fail
        go_roundw
        case rel => exact ⟨j + 1, by omega, by go_num, fun i hi => (by
          by_cases h : i = j
          · subst h; exact HE.out
          · exact HP.out i (by omega)), hbr⟩
        case measure => simp [intOf]; omega
    · obtain rfl : j = l := by omega
      have HR : Hid (hasR e ys = false) := hasR_no (by rw [HYL.out]; exact HP.out)
      go_wp2_with fail
      go_ret
      exact ⟨by rw [HR.out]; rfl, hbr⟩
def cntH (e : Int) (rows : List (List Int)) (j : Nat) : Nat := ((rows.take j).filter (hasR e)).length
theorem cntH_step (e : Int) (rows : List (List Int)) {j : Nat} (h : j < rows.length) : cntH e rows (j + 1) = cntH e rows j + (if hasR e (ra rows j) then 1 else 0) := by
  unfold cntH
  rw [List.take_succ_eq_append_getElem h, List.filter_append, List.length_append]
  have : ra rows j = rows[j] := by simp [ra, h]
  rw [this]
  congr 1
  simp only [List.filter_cons, List.filter_nil]
  split <;> simp
theorem cntH_le (e : Int) (rows : List (List Int)) (j : Nat) : cntH e rows j ≤ j := Nat.le_trans (List.length_filter_le _ _) (by simp; omega)
set_option maxHeartbeats 1000000 in
theorem l04With_any (base top : Nat) (A : Option Addr) (l c : Nat) (rows : List (List Int)) (e : Int) (w : World) (O : OwnLL base top w A l c rows) (hl : l ≤ 1048576) (hr : ∀ j, (ra rows j).length ≤ 1048576) :
    Calls Tryd.prog 15 #[.slice A l c, .int .i64 e] w (Ret (.int .i64 ((cntH e rows l : Nat) : Int)) w) := by
  have HL := Lib.hid O.1
  have HRR := Lib.hid hr
  clear hr
  go_enter Tryd.func15, Tryd.ntmps15
  go_wp2_with fail
  go_loopw [5, 6] (fun cv iv wr => ∃ j : Nat, j ≤ l ∧ iv = .int .i64 j ∧ cv = .int .i64 ((cntH e rows j : Nat) : Int) ∧ Below w.heap.size w wr) (fun _ i _ => l - (intOf i).toNat)
  case atStart => exact ⟨0, Nat.zero_le _, rfl, rfl, Below.refl _ _⟩
  case round =>
    obtain ⟨j, hj, rfl, rfl, hbr⟩ := hrel
    have hcl := cntH_le e rows j
    by_cases hlt : j < l
    · have O2 := O.below hbr
      obtain ⟨g, Aj, cj, rfl, hg1, hg2, ca, ho⟩ := O2.at hlt
      have HS := Lib.hid (cntH_step e rows (j := j) (by rw [HL.out]; exact hlt))
      have HHA := Lib.hid (l04Has_any Aj (ra rows j).length cj (ra rows j) e wr ho.src rfl (HRR.out j))
      obtain ⟨C, hC⟩ : ∃ C, C = cntH e rows j := ⟨_, rfl⟩
      rw [← hC] at HS hcl ⊢
      have hw : IntKind.i64.wrap ((C : Int) + 1) = (C : Int) + 1 := IntWalk.i64_in _ (by omega)
      clear hC O2
      cases hh : hasR e (ra rows j) with
      | true =>
        rw [hh] at HHA
        have HE : Hid (cntH e rows (j + 1) = C + 1) := by show _ = _; rw [HS.out, hh]; simp
        clear hh
        go_wp2_with fail
        refine HHA.out.mono ?_
        rintro e1 w2 ⟨rfl, hb2⟩
        have hbr := hbr.andB hb2
        go_wp2_with fail
        go_roundw
        case rel => exact ⟨j + 1, by omega, by go_num, by rw [HE.out]; go_num, hbr⟩
        case measure => simp [intOf]; omega
      | false =>
        rw [hh] at HHA
        have HE : Hid (cntH e rows (j + 1) = C) := by show _ = _; rw [HS.out, hh]; simp
        clear hh
        go_wp2_with fail
        refine HHA.out.mono ?_
        rintro e1 w2 ⟨rfl, hb2⟩
        have hbr := hbr.andB hb2
        go_wp2_with fail
        go_roundw
        case rel => exact ⟨j + 1, by omega, by go_num, by rw [HE.out], hbr⟩
        case measure => simp [intOf]; omega
    · obtain rfl : j = l := by omega
      go_wp2_with fail
      go_ret
      exact ⟨rfl, hbr⟩
theorem TabAt.upto {w W : World} (hT : TabAt 0 Lib.deBruijn64tab w) (h0 : 0 < w.heap.size) (hB : Below w.heap.size w W) : TabAt 0 Lib.deBruijn64tab W := fun j hj => (hB.cell (p := ⟨0, j, none⟩) h0).trans (hT j hj)
noncomputable def cmV (n : Int) (es : List (Int × Int)) : Int := if B (IsG n es) then ((mtAll es n.toNat).length : Int) else 0
set_option maxHeartbeats 1000000 in
theorem spCountMatchings_any (n : Int) (b o m c : Nat) (es : List (Int × Int)) (w : World) (h : Eds w b o m es) (hm : m ≤ 1048576) :
    Calls Tryd.prog 10 #[.agg #[.int .i64 n, .slice (some ⟨b, o, none⟩) m c]] w (Ret (.tuple #[.int .i64 (cmV n es), .int .i64 (imC n es)]) w) := by
  have hbox := Box2.made w (.int .i64 n) (.slice (some ⟨b, o, none⟩) m c) 30
  have hbb := (by go_grown : Below w.heap.size w (w.alloc (.cells #[.int .i64 n, .slice (some ⟨b, o, none⟩) m c] 30)))
  have HSP := Lib.hid (l01Is_any n b o m c es _ (h.alloc (.cells #[.int .i64 n, .slice (some ⟨b, o, none⟩) m c] 30)) hm)
  by_cases hG : IsG n es
  · have HC : Hid (imC n es = 0) := by simp [Hid, imC, B_true hG]
    have HR : Hid (cmV n es = (mtAll es n.toNat).length) := by simp [Hid, cmV, B_true hG]
    have HG := Lib.hid hG
    rw [B_true hG] at HSP
    have hn2 := hG.wf.1
    clear hG
    obtain ⟨N, rfl⟩ : ∃ N : Nat, n = N := ⟨n.toNat, by omega⟩
    rw [Int.toNat_natCast] at HR
    have HAL := Lib.hid (fun W hE => l04All_any N b o m c es W hE hm HG.out)
    have hal := mtAll_len es N
    obtain ⟨X, hX⟩ : ∃ X, X = mtAll es N := ⟨_, rfl⟩
    rw [← hX] at HR HAL hal
    clear hX
    go_enter Tryd.func10, Tryd.ntmps10
    go_wp2_with fail
    refine HSP.out.mono ?_
    rintro e w1 ⟨rfl, hb1⟩
    have hB1 := hbb.thenB (by simp) hb1
    obtain ⟨s1, p1, q1⟩ := hbox.below hb1
    have E := h.below hB1
    clear hb1 hbb hbox
    go_wp2_with fail
    refine (HAL.out _ E).mono ?_
    rintro e w2 ⟨A2, c2, rfl, O2, hb2⟩
    have hB2 := hB1.andB hb2
    go_wp2_with fail
    go_ret2
    exact ⟨ret2 HR.out.symm HC.out.symm, hB2⟩
  · have HC : Hid (imC n es = 1) := by simp [Hid, imC, B_false hG]
    have HR : Hid (cmV n es = 0) := by simp [Hid, cmV, B_false hG]
    rw [B_false hG] at HSP
    clear hG hbox
    go_enter Tryd.func10, Tryd.ntmps10
    go_wp2_with fail
    refine HSP.out.mono ?_
    rintro e w1 ⟨rfl, hb1⟩
    have hB1 := hbb.thenB (by simp) hb1
    clear hb1 hbb
    go_wp2_with fail
    go_ret2
    exact ⟨ret2 HR.out.symm HC.out.symm, hB1⟩
set_option maxHeartbeats 1000000 in
theorem imCountMatchings_any (n : Int) (b o m c : Nat) (es : List (Int × Int)) (w : World) (h : Eds w b o m es) (hm : m ≤ 1048576) (hT : TabAt 0 Lib.deBruijn64tab w) (h0 : 0 < w.heap.size) :
    Calls Tryd.prog 11 #[.agg #[.int .i64 n, .slice (some ⟨b, o, none⟩) m c]] w (Ret (.tuple #[.int .i64 (cmV n es), .int .i64 (imC n es)]) w) := by
  have hbox := Box2.made w (.int .i64 n) (.slice (some ⟨b, o, none⟩) m c) 30
  have hbb := (by go_grown : Below w.heap.size w (w.alloc (.cells #[.int .i64 n, .slice (some ⟨b, o, none⟩) m c] 30)))
  have HGC := Lib.hid (graphCode_any n b o m c es true _ (h.alloc (.cells #[.int .i64 n, .slice (some ⟨b, o, none⟩) m c] 30)) hm)
  have HT := Lib.hid hT
  clear hT
  by_cases hG : IsG n es
  · have HC : Hid (imC n es = 0) := by simp [Hid, imC, B_true hG]
    have HR : Hid (cmV n es = (mtAll es n.toNat).length) := by simp [Hid, cmV, B_true hG]
    have HG := Lib.hid hG
    rw [show gcC n es true = 0 by simp [gcC, B_true hG]] at HGC
    have hn2 := hG.wf.1
    clear hG
    obtain ⟨N, rfl⟩ : ∃ N : Nat, n = N := ⟨n.toNat, by omega⟩
    rw [Int.toNat_natCast] at HR
    go_enter Tryd.func11, Tryd.ntmps11
    go_wp2_with fail
    refine HGC.out.mono ?_
    rintro e w1 ⟨rfl, hb1⟩
    have hB1 := hbb.thenB (by simp) hb1
    obtain ⟨s1, p1, q1⟩ := hbox.below hb1
    have HCW := Lib.hid (countWith_any (c := c) (wt := 0) w1 hm HG.out (by decide) (h.below hB1) (TabAt.upto HT.out h0 hB1) (Nat.lt_of_lt_of_le h0 hB1.size))
    rw [show cM 0 0 (mts es N 10 0) = (mtAll es N).length from cM_all _] at HCW
    obtain ⟨X, hX⟩ : ∃ X, X = mtAll es N := ⟨_, rfl⟩
    rw [← hX] at HR HCW
    rw [show ((0 : Nat) : Int) = 0 from rfl] at HCW
    clear hb1 hbb hbox hX
    go_wp2_with fail
    refine HCW.out.mono ?_
    rintro e w2 ⟨rfl, hb2⟩
    have hB2 := hB1.andB hb2
    go_wp2_with fail
    go_ret2
    exact ⟨ret2 HR.out.symm HC.out.symm, hB2⟩
  · have HC : Hid (imC n es = 1) := by simp [Hid, imC, B_false hG]
    have HR : Hid (cmV n es = 0) := by simp [Hid, cmV, B_false hG]
    rw [show gcC n es true = 1 by simp [gcC, B_false hG]] at HGC
    clear hG hbox
    go_enter Tryd.func11, Tryd.ntmps11
    go_wp2_with fail
    refine HGC.out.mono ?_
    rintro e w1 ⟨rfl, hb1⟩
    have hB1 := hbb.thenB (by simp) hb1
    clear hb1 hbb
    go_wp2_with fail
    go_ret2
    exact ⟨ret2 HR.out.symm HC.out.symm, hB1⟩
end Go.Proofs.YtppfplhbfgjjhaaDoor
