import Derived.Test.YtppfplhbfgjjhaaCe
namespace Go.Proofs.Ytppfplhbfgjjhaa
open Go.RowKit Go.Sort
/-! ### The reference's search for flows: the parts -/
noncomputable def zrF (kd md x : Int) : Bool := if kd = 0 then x.tmod md == 0 else x == 0
theorem l05Zero_any (kd md x : Int) (w : World) (h1 : 2 ≤ md) (h2 : md ≤ 6) : Calls Try.prog 159 #[.int .i64 kd, .int .i64 md, .int .i64 x] w (Is (.bool (zrF kd md x)) w) := by
  by_cases h0 : kd = 0
  · have HZ : Hid (zrF kd md x = (x.tmod md == 0)) := by show _ = _; rw [zrF, if_pos h0]
    rw [HZ.out]
    subst h0
    go_enter Try.func159, Try.ntmps159
    go_wp2_with fail
    go_ret
    exact ⟨rfl, rfl⟩
  · have HZ : Hid (zrF kd md x = (x == 0)) := by show _ = _; rw [zrF, if_neg h0]
    rw [HZ.out]
    have hq : (kd == 0) = false := by simpa using h0
    go_enter Try.func159, Try.ntmps159
    go_wp2_with fail
    go_ret
    exact ⟨rfl, rfl⟩
/-- The last of the first k edges at a vertex. -/
def lasF (es : List (Int × Int)) : Nat → Nat → Int
  | 0, _ => 0
  | k + 1, v => if (v : Int) = eb es k then k else if (v : Int) = ea es k then k else lasF es k v
set_option maxRecDepth 100000 in
set_option maxHeartbeats 1000000 in
theorem l05Last_any (N b o m c : Nat) (es : List (Int × Int)) (w : World) (h : Eds w b o m es) (hm : m ≤ 1048576) (hwf : WfP N es) :
    Calls Try.prog 122 #[.agg #[.int .i64 N, .slice (some ⟨b, o, none⟩) m c]] w (RetI N (lasF es m) w) := by
  have hN : N ≤ 20 := by have := hwf.2.1; omega
  have hmk := run_make_row' (P := Try.prog) 36 2 (.int .i64 0) 8 Try.underlying36 inf2 rfl .i64 .i64 N (by omega) (by omega)
  have hl := Lib.hid h.len
  have HWF : Hid (WfP N es) := hwf
  have hbx := Box2.made w (.int .i64 N) (.slice (some ⟨b, o, none⟩) m c) 30
  clear hwf
  go_enter Try.func122, Try.ntmps122
  go_wp2_with fail
  obtain ⟨w0, hw0⟩ : ∃ w0, w0 = w.alloc (.cells #[.int .i64 N, .slice (some ⟨b, o, none⟩) m c] 30) := ⟨_, rfl⟩
  have HW0 := Lib.hid hw0
  have hs0 : w0.heap.size = w.heap.size + 1 := by rw [hw0]; simp
  have hb0 : Below w.heap.size w w0 := by rw [hw0]; exact (by go_grown)
  rw [← hw0] at hbx
  clear hw0
  go_loopw [4] (fun i wr => ∃ k : Nat, k ≤ m ∧ i = .int .i64 k ∧ wr.rowIs (w.heap.size + 1) 2 N (fun v => .int .i64 (lasF es k v)) ∧ Below (w.heap.size + 1) w0 wr) (fun i _ => m - (intOf i).toNat)
  case atStart => exact ⟨0, Nat.zero_le _, rfl, by simpa using (World.rowIs_made (w.alloc (.cells #[.int .i64 N, .slice (some ⟨b, o, none⟩) m c] 30)) (.int .i64 0) N 2).congr (g := fun v => .int .i64 (lasF es 0 v)) (fun _ _ => rfl), by rw [HW0.out]; simpa using (Below.refl _ (w.alloc (.cells #[.int .i64 N, .slice (some ⟨b, o, none⟩) m c] 30))).alloc (Nat.le_refl _) _⟩
  case round =>
    obtain ⟨k, hk, rfl, hrow, hbw⟩ := hrel
    have hbB : Below w.heap.size w wr := hb0.andB (hbw.mono (by omega))
    have p0 := (hbw.cell (p := ⟨w.heap.size, 0, none⟩) (by simp)).trans hbx.2
    have q0 := (hbw.cell (p := ⟨w.heap.size, 1, none⟩) (by simp)).trans hbx.3
    by_cases hlt : k < m
    · have hw4 := HWF.out.2.2.2.2 k (by rw [hl.out]; exact hlt)
      obtain ⟨x, hx⟩ : ∃ x : Nat, ea es k = (x : Int) := ⟨(ea es k).toNat, by omega⟩
      obtain ⟨y, hy⟩ : ∃ y : Nat, eb es k = (y : Int) := ⟨(eb es k).toNat, by omega⟩
      have hxN : x < N := by omega
      have hyN : y < N := by omega
      have E := h.below hbB
      have e1 := E.ca k hlt
      have e2 := E.cb k hlt
      have HROW := Lib.hid hrow
      have hsz := hrow.lt
      have b1 := h.blk
      have f1 := hrow.frozen x
      obtain ⟨z1, c1⟩ : ∃ z, wr.cell? ⟨w.heap.size + 1, x, none⟩ = some z := ⟨_, hrow.cell hxN⟩
      have hrow9 := hrow.set x (.int .i64 (k : Int))
      have HROW9 := Lib.hid hrow9
      have f2 := hrow9.frozen y
      obtain ⟨z2, c2⟩ : ∃ z, (wr.setCell ⟨w.heap.size + 1, x, none⟩ (.int .i64 (k : Int))).cell? ⟨w.heap.size + 1, y, none⟩ = some z := ⟨_, hrow9.cell hyN⟩
      have sw := World.cell?_setCell_other wr ⟨w.heap.size + 1, x, none⟩
      have q9 : (wr.setCell ⟨w.heap.size + 1, x, none⟩ (.int .i64 (k : Int))).cell? ⟨w.heap.size, 1, none⟩ = some (.slice (some ⟨b, o, none⟩) m c) := by
        rw [sw _ _ (fun hh => by have := congrArg Addr.block hh; simp at this)]; exact q0
      have e9 : (wr.setCell ⟨w.heap.size + 1, x, none⟩ (.int .i64 (k : Int))).cell? ⟨b, o + k * 2 + 1, none⟩ = some (.int .i64 (eb es k)) := by
        rw [sw _ _ (fun hh => by have := congrArg Addr.block hh; simp at this; omega)]; exact e2
      rw [hx] at e1
      rw [hy] at e9
      have hrow10 := HROW9.out.set y (.int .i64 (k : Int))
      have HR : Hid (((wr.setCell ⟨w.heap.size + 1, x, none⟩ (.int .i64 (k : Int))).setCell ⟨w.heap.size + 1, y, none⟩ (.int .i64 (k : Int))).rowIs (w.heap.size + 1) 2 N (fun v => .int .i64 (lasF es (k + 1) v))) := by
        refine hrow10.congr (fun v hv => ?_)
        simp only [lasF, hx, hy]
        by_cases h1 : v = y
        · subst h1; rw [if_pos rfl, if_pos rfl]
        · rw [if_neg h1, if_neg (show ¬ (v : Int) = (y : Int) by omega)]
          by_cases h2 : v = x
          · subst h2; rw [if_pos rfl, if_pos rfl]
          · rw [if_neg h2, if_neg (show ¬ (v : Int) = (x : Int) by omega)]
      have hbS : Below (w.heap.size + 1) w0 ((wr.setCell ⟨w.heap.size + 1, x, none⟩ (.int .i64 (k : Int))).setCell ⟨w.heap.size + 1, y, none⟩ (.int .i64 (k : Int))) := (hbw.setCell (by simp) _).setCell (by simp) _
      clear hw4 hl E HWF hrow hrow9 hrow10 HROW HROW9 sw e2
      go_wp2_with fail
      go_roundw
      case rel => exact ⟨k + 1, by omega, by go_num, HR.out, hbS⟩
      case measure => simp [intOf]; omega
    · obtain rfl : k = m := by omega
      go_wp2_with fail
      go_ret
      exact ⟨w.heap.size + 1, rfl, by omega, hrow, hbB⟩
end Go.Proofs.Ytppfplhbfgjjhaa
namespace Go.Proofs.Ytppfplhbfgjjhaa
open Go.RowKit Go.Sort
/-! ### The reference's search for flows: values of a sum -/
def put2 (net : Nat → Int) (a b : Nat) (u v : Int) : Nat → Int := fun j => if j = b then v else if j = a then u else net j
theorem put2_back {net : Nat → Int} {a b : Nat} (u v : Int) : put2 (put2 net a b u v) a b (net a) (net b) = net := by
  funext j
  simp only [put2]
  split
  · next h => rw [h]
  · split
    · next h => rw [h]
    · rfl
theorem rowPut {W : World} {g N : Nat} {net : Nat → Int} {a b : Nat} (u v : Int) (h : W.rowIs g 2 N (fun j => .int .i64 (net j))) (ha : a < N) (hb : b < N) :
    W.frozen? ⟨g, a, none⟩ = false ∧ (∃ z, W.cell? ⟨g, a, none⟩ = some z) ∧ (W.setCell ⟨g, a, none⟩ (.int .i64 u)).frozen? ⟨g, b, none⟩ = false ∧ (∃ z, (W.setCell ⟨g, a, none⟩ (.int .i64 u)).cell? ⟨g, b, none⟩ = some z) ∧
      ((W.setCell ⟨g, a, none⟩ (.int .i64 u)).setCell ⟨g, b, none⟩ (.int .i64 v)).rowIs g 2 N (fun j => .int .i64 (put2 net a b u v j)) := by
  have h9 := h.set a (.int .i64 u)
  refine ⟨h.frozen a, ⟨_, h.cell ha⟩, h9.frozen b, ⟨_, h9.cell hb⟩, (h9.set b (.int .i64 v)).congr (fun j _ => ?_)⟩
  simp only [put2]
  split
  · rfl
  · split <;> rfl
/-- The values at the vertices when an edge has the value x. -/
noncomputable def stpF (kd : Int) (es : List (Int × Int)) (e : Nat) (net : Nat → Int) (x : Nat) : Nat → Int :=
  put2 net (ea es e).toNat (eb es e).toNat (if kd = 1 then bits .xor .i64 (net (ea es e).toNat) x else net (ea es e).toNat - x) (if kd = 1 then bits .xor .i64 (net (eb es e).toNat) x else net (eb es e).toNat + x)
noncomputable def okF (kd md : Int) (es : List (Int × Int)) (e : Nat) (net : Nat → Int) : Bool :=
  (decide (lasF es es.length (ea es e).toNat ≠ e) || zrF kd md (net (ea es e).toNat)) && (decide (lasF es es.length (eb es e).toNat ≠ e) || zrF kd md (net (eb es e).toNat))
def csP (f : Nat → Nat) : Nat → Nat
  | 0 => 0
  | k + 1 => csP f k + (if k = 0 then 0 else f k)
noncomputable def cntF (kd : Int) (md : Nat) (es : List (Int × Int)) : Nat → Nat → (Nat → Int) → Nat
  | 0, _, _ => 1
  | d + 1, e, net => csP (fun x => if okF kd md es e (stpF kd es e net x) then cntF kd md es d (e + 1) (stpF kd es e net x) else 0) md
noncomputable def qF (ct : Bool) (n : Nat) : Int := if ct then W64 n else ((min n 1 : Nat) : Int)
theorem csP_mono (f : Nat → Nat) : ∀ {a b : Nat}, a ≤ b → csP f a ≤ csP f b := by
  intro a b h
  induction b with
  | zero => rw [Nat.le_zero.1 h]; exact Nat.le_refl _
  | succ b ih =>
    rcases Nat.lt_or_ge a (b + 1) with h1 | h1
    · exact Nat.le_trans (ih (by omega)) (Nat.le_add_right _ _)
    · rw [Nat.le_antisymm h h1]; exact Nat.le_refl _
theorem W64_add (a b : Nat) : IntKind.i64.wrap (W64 a + W64 b) = W64 (a + b) := by
  simp only [W64, wrap_i64']
  omega
theorem qF_add {ct : Bool} {a b : Nat} (h : ct = false → a = 0) : IntKind.i64.wrap (qF ct a + qF ct b) = qF ct (a + b) := by
  cases ct with
  | true => exact W64_add a b
  | false =>
    rw [h rfl]
    simp only [qF, Nat.zero_add]
    rw [IntWalk.i64_in _ (by simp; omega)]
    simp
theorem qF_one (ct : Bool) : qF ct 1 = 1 := by cases ct with
  | true => exact (W64_small (n := 1) (by decide))
  | false => rfl
theorem qF_zero (ct : Bool) : qF ct 0 = 0 := by cases ct with
  | true => exact (W64_small (n := 0) (by decide))
  | false => rfl
end Go.Proofs.Ytppfplhbfgjjhaa
