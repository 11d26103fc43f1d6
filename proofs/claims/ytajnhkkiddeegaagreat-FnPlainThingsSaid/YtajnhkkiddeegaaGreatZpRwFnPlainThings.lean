/-
  For every code, the law FnPlainThings returns true: on the drawn graphs the program's renumbered graphs, graphs beside each other, distances, diameters, girths, halves and parts are what the reference's are; renumbered graphs have the same girth, as many parts and are bipartite alike, a bipartite graph's girth is even, a graph is connected if it has one part, graphs beside each other have the parts of both, and distances do not depend on the direction.
  Conditions: none.
-/
import Derived.Test.YtajnhkkiddeegaaGreatZp8
import Derived.Test.YtajnhkkiddeegaaGreatZp38
import Derived.Test.YtajnhkkiddeegaaGreatZpJfFnPlainThings
namespace Go.Proofs.YtajnhkkiddeegaaGreat.fnPlainThings
open Go.ChangeShapes Go.WideShapes Go.ChangeAt Go.RowKit
open Go.ChangeMaps (open_string)
set_option linter.unusedVariables false
set_option maxRecDepth 100000 in
theorem lifted (os : Os) (started : os.Started) (H : Type) (enc : TypeId × Value → H) :
    ReturnsInHanded {} Tryz.checked os 4 .any (Rows.fnPlainThingsSpec.pre6 enc Tryz.prog Tryz.f4 Rows.fnPlainThingsRow.domain false) (Rows.fnPlainThingsSpec.post enc Tryz.prog Tryz.f4 false true false false) := by
  refine returnsInHanded_of_change (C := Tryz.checked) own started (by kernel_rfl) Tryz.func4
    (ChangeSpec.witness6 (enc := enc) (C := Tryz.checked) false ⟨#[], #[.slice none 0 0], []⟩ 8 (by kernel_rfl) (by kernel_rfl) (by kernel_rfl) (by kernel_rfl)) ?_
  intro W base args ds gs before hval0 hW hcnd _
  have hval : ∀ (j : Nat) t v, Tryz.f4.params[j]? = some t → args[j]? = some v → Value.okWide Tryz.prog W .any base t v := hval0
  have hW' := hW
  obtain ⟨p, q, hA0, hV, rfl, hfz, hnd⟩ := hW
  have hA : DataW.TrodAll enc Tryz.prog W 0 (fun _ => true) true Tryz.f4.params.toList args.toList ds p := hA0
  rw [Tryz.params4] at hA hval
  obtain ⟨v0, vs0, d0, ds0, p0, q0, hargs, rfl, rfl, h0, r0⟩ := trodAll_cons hA
  obtain ⟨rfl, rfl, rfl⟩ := trodAll_nil r0
  obtain rfl : args = #[v0] := by cases args; simp_all
  obtain ⟨rfl, rfl⟩ := trodVars_none hV
  have k0 := h0
  have lt0 : ∀ x ∈ p0, x.block < W.heap.size := by obtain ⟨m, hm⟩ := k0; exact DataW.trod_lt m _ _ _ hm
  obtain ⟨A0, m0, c0, rfl, hs0, hm0⟩ := open_B (hval 0 22 v0 rfl rfl) h0
  clear hA0 hval0
  refine (law_FnPlainThings A0 m0 c0 W hs0 hm0).mono fun e W' ⟨he, bel⟩ => ?_
  subst he
  exact ⟨_, rfl, _, _, _, [], _, [], hW', trodAll_mk1 (shut_bool Tryz.underlying4 _), (trodAll_cons_mk (Below.trod laidOut (by kernel_rfl) (of_decide_eq_true (by kernel_rfl)) k0 bel lt0) trodAll_mk0), rfl, bel.frame _, fun h => by cases h⟩
theorem joined : joinedFacts Tryz.pinned.checked.prog 4 Tryz.f4 Rows.fnPlainThingsSpec Rows.fnPlainThingsRow = true := by
  have h1 := jH
  simp only [Bool.and_eq_true] at h1
  unfold joinedFacts
  rw [h1.1, h1.2, jL, jM]
  refine Eq.trans (b := true) ?_ rfl
  kernel_rfl
theorem over : Rows.fnPlainThingsRow.holds Tryz.pinned (OpenSpec.ofChange Rows.fnPlainThingsSpec) :=
  OpenClaim.holds_of_wide 4 Tryz.f4 rfl rfl rfl rfl rfl rfl rfl ⟨rfl, rfl, rfl, rfl, rfl⟩ rfl rfl rfl rfl rfl (by kernel_rfl) Tryz.func4 joined
    (of_decide_eq_true (by kernel_rfl)) (by unfold Func.isWrapper; first | (rw [if_pos (by decide +kernel)]; kernel_rfl) | (rw [if_neg (by decide +kernel)]; exact ⟨rfl, rfl⟩))
    (fun os started H enc _ => lifted os started H enc)
theorem proved : Rows.FnPlainThingsSaid := over
end Go.Proofs.YtajnhkkiddeegaaGreat.fnPlainThings
