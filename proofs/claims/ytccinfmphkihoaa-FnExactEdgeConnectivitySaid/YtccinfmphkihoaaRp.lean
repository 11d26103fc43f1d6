import Derived.Test.YtccinfmphkihoaaFb
import Derived.Test.YtccinfmphkihoaaGi
import Derived.Laws.CopyOwn
namespace Go.Proofs.Ytccinfmphkihoaa
open Go.RowKit Go.Sort
/-! ### slices.Repeat of one number -/
theorem mul64_any (N : Nat) (h : N ≤ 1000) (w : World) : Calls Try.prog 146 #[.int .u64 1, .int .u64 N] w (Is (.tuple #[.int .u64 0, .int .u64 N]) w) := by
  have a1 : bits .and .u64 (N : Int) 4294967295 = N := by
    rw [show (4294967295 : Int) = ((4294967295 : Nat) : Int) from rfl, u64_and_nat _ _ (by omega) (by omega), show (4294967295 : Nat) = 2 ^ 32 - 1 from by decide, Nat.and_two_pow_sub_one_eq_mod, Nat.mod_eq_of_lt (by omega)]
  have a0 : bits .and .u64 1 4294967295 = 1 := by kernel_rfl
  have a3 : bits .and .u64 0 4294967295 = 0 := by kernel_rfl
  have a2 : (N : Int) / 4294967296 = 0 := by omega
  go_enter Try.func146, Try.ntmps146
  go_wp2
  go_ret2
  exact ⟨by simp, rfl⟩
theorem mul_any (N : Nat) (h : N ≤ 1000) (w : World) : Calls Try.prog 138 #[.int .u64 1, .int .u64 N] w (Is (.tuple #[.int .u64 0, .int .u64 N]) w) := by
  go_enter Try.func138, Try.ntmps138
  go_wp2_with (go_at_call 146; refine (mul64_any _ h _).mono ?_; rintro e w' ⟨rfl, rfl⟩)
  go_ret2
  exact ⟨rfl, rfl⟩
def rpL (k : Int) (N r : Nat) : List Value := List.replicate r (.int .i64 k) ++ List.replicate (N - r) (.int .i64 0)
theorem rpL_len (k : Int) {N r : Nat} (h : r ≤ N) : (rpL k N r).length = N := by simp [rpL]; omega
theorem rpL_splice (k : Int) {N r d : Nat} (_h : r + d ≤ N) : splice (rpL k N r) r (List.replicate d (.int .i64 k)) = rpL k N (r + d) := by
  have e1 : (rpL k N r).take r = List.replicate r (.int .i64 k) := by simp [rpL]
  have e2 : (rpL k N r).drop (r + d) = List.replicate (N - (r + d)) (.int .i64 0) := by
    rw [rpL, List.drop_append]
    simp; omega
  unfold splice
  rw [List.length_replicate, e1, e2, ← List.append_assoc, List.replicate_append_replicate]
  rfl
theorem rpL_made (k : Int) (N : Nat) : madeCells #[.int .i64 0] N = (rpL k N 0).toArray := by
  apply Array.ext
  · simp [madeCells, rpL]
  · intro j h1 h2
    simp [madeCells, rpL, Nat.mod_one]
theorem rpL_at (k : Int) {N r j : Nat} (h : j < r) : (rpL k N r)[j]? = some (.int .i64 k) := by
  rw [rpL, List.getElem?_append_left (by simpa using h)]; simp [h]
theorem infsz : (Try.prog.info? 2).map (·.size) = some 1 := by kernel_rfl
set_option maxRecDepth 100000 in
set_option maxHeartbeats 1600000 in
theorem repeat_any (N : Nat) (k : Int) (b o c : Nat) (w : World) (h : Ints w b o 1 (fun _ => k)) (h1 : 1 ≤ N) (h2 : N ≤ 1000) :
    Calls Try.prog 124 #[.slice (some ⟨b, o, none⟩) 1 c, .int .i64 N] w (RetI N (fun _ => k) w) := by
  have hmk := run_make_row' (P := Try.prog) 34 2 (.int .i64 0) 8 Try.underlying34 inf2 rfl .i64 .i64 N (by omega) (by omega)
  have c0 := h.c 0 (by omega)
  have zb := h.blk
  have HZ : Hid ((w.alloc (Obj.cells (madeCells #[Value.int IntKind.i64 0] N) 2)).heap[w.heap.size]? = some (.cells (rpL k N 0).toArray 2 (0, 0))) := by
    show _ = _; rw [rpL_made k N]; exact heap_alloc_new w _
  have hsrc : ∀ j v, [Value.int .i64 k][j]? = some v → (w.alloc (Obj.cells (madeCells #[Value.int IntKind.i64 0] N) 2)).cell? ((⟨b, o, none⟩ : Addr).add j) = some v := fun j v hj => by
    match j, hj with
    | 0, hj =>
      simp only [List.getElem?_cons_zero, Option.some.injEq] at hj
      subst hj
      rw [Addr.add_lit, ((Below.refl w.heap.size w).alloc (Nat.le_refl _) _).cell (p := ⟨b, o + 0, none⟩) zb]; exact c0
  have HSRC := Lib.hid hsrc
  clear hsrc
  go_enter Try.func124, Try.ntmps124
  go_wp2_with (first
    | (go_at_call 138; refine (mul_any N h2 _).mono ?_; rintro e w' ⟨rfl, rfl⟩)
    | (refine wpList_copy_splice (o := ⟨some 33, _, _, _, _, _⟩) rfl (.tmp 31) (.tmp 32) 34 34 rfl 2 Try.underlying34 infsz _ _ _ _ _ _ rfl rfl w.heap.size 0 (rpL k N 0) 2 HZ.out [.int .i64 k] (by simp [Nat.min_def]; omega) (fun _ => ⟨rfl, _, rfl, HSRC.out⟩) (by rw [rpL_len k (by omega)]; simp; omega) (by intro v hv; simp at hv; subst hv; rfl) w.heap.size w ((Below.refl _ _).alloc (Nat.le_refl _) _) (Nat.le_refl _) ?_; intro w2 hg2 hb2))
  have hg3 : Hid (w2.heap[w.heap.size]? = some (.cells (rpL k N 1).toArray 2 (0, 0))) := by
    have := hg2.out
    rw [show [Value.int .i64 k] = List.replicate 1 (.int .i64 k) from rfl, rpL_splice k (by omega)] at this
    exact this
  clear hg2 HZ HSRC
  go_loopw [8] (fun rv wr => ∃ r : Nat, 1 ≤ r ∧ r ≤ N ∧ rv = .int .i64 r ∧ Hid (wr.heap[w.heap.size]? = some (.cells (rpL k N r).toArray 2 (0, 0))) ∧ Below w.heap.size w wr) (fun r _ => N - (intOf r).toNat)
  case atStart => exact ⟨1, Nat.le_refl _, h1, rfl, hg3, hb2⟩
  case round =>
    obtain ⟨r, hr1, hr2, rfl, HG, hbr⟩ := hrel
    clear hg3
    by_cases hlt : r < N
    · have z1 : w.heap.size < wr.heap.size := (Array.getElem?_eq_some_iff.1 HG.out).1
      obtain ⟨d, hd⟩ : ∃ d, d = Nat.min r (N - r) := ⟨_, rfl⟩
      have hd1 : 1 ≤ d ∧ r + d ≤ N := by have : Nat.min r (N - r) = min r (N - r) := rfl; omega
      have HD := Lib.hid hd
      have i0 : (0 : Int) ≤ (r : Int) := by omega
      have i1 : (r : Int) ≤ (N : Int) := by omega
      have iw : IntKind.i64.wrap ((r : Int) + (d : Int)) = (r : Int) + (d : Int) := IntWalk.i64_in _ (by omega)
      have HSRC : Hid (∀ j v, (List.replicate d (Value.int .i64 k))[j]? = some v → wr.cell? ((⟨w.heap.size, 0, none⟩ : Addr).add j) = some v) := fun j v hj => by
        have hj2 : j < d := by have := (List.getElem?_eq_some_iff.1 hj).1; simpa using this
        rw [Addr.add_lit, cell_of_row wr _ _ _ _ _ HG.out, Nat.zero_add, List.getElem?_toArray, rpL_at k (by have : Nat.min r (N - r) = min r (N - r) := rfl; omega)]
        simpa [hj2] using hj
      clear hd
      go_wp2_with fail
      go_region_held3 (fun _ => True) (trivial)
        ((refine step_copy_splice (by rfl) (.tmp 41) (.tmp 44) 34 34 (by rfl) 2 Try.underlying34 infsz _ _ _ _ _ _ (by rfl) (by rfl) w.heap.size r (rpL k N r) 2 (by exact HG.out) (List.replicate d (.int .i64 k)) (by simp; exact HD.out) (fun _ => ⟨(by first | rfl | rw [if_neg (by omega)]), _, by rfl, by exact HSRC.out⟩) (by rw [rpL_len k (by omega)]; simp; omega) (by intro v hv; simp at hv; rw [hv.2]; rfl) w.heap.size w (by exact hbr.drew) (Nat.le_refl _) ?_; intro w4 hg4 hb4))
      have hg5 : Hid (w4.heap[w.heap.size]? = some (.cells (rpL k N (r + d)).toArray 2 (0, 0))) := by
        have := hg4.out
        rw [rpL_splice k hd1.2] at this
        exact this
      clear hg4
      go_wp2_with fail
      go_roundw
      case rel => exact ⟨r + d, by omega, hd1.2, by go_num, hg5, hb4⟩
      case measure => simp [intOf]; omega
    · obtain rfl : r = N := by omega
      have HR : Hid (wr.rowIs w.heap.size 2 r (fun _ => .int .i64 k)) := ⟨_, HG.out, by simp [rpL], fun j hj => by rw [List.getElem?_toArray]; exact rpL_at k hj⟩
      go_wp2_with fail
      go_ret
      exact ⟨w.heap.size, rfl, Nat.le_refl _, HR.out, hbr⟩
end Go.Proofs.Ytccinfmphkihoaa
