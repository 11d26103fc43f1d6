/-
  For all arguments that are handed in, the law FnExactGraphText returns true: the program's GraphText returns what the reference's returns, and writes nothing into its arguments. The tables of math/bits and of internal/strconv are as the program's text lays them: the card ties them.
  Conditions: none.
-/
import Derived.Test.YtnoneppmeaeicaaDoorOpG
import Derived.Test.YtnoneppmeaeicaaDoorTie
import Derived.Test.YtnoneppmeaeicaaDoorCards
import Derived.SevenTiedAt
import Derived.Test.YtnoneppmeaeicaaDoorLwGraphText
import Derived.Test.YtnoneppmeaeicaaDoorJfGraphText
namespace Go.Proofs.YtnoneppmeaeicaaDoor.fnExactGraphText
open Go.ChangeShapes Go.WideShapes Go.ChangeAt Go.RowKit
open Go.ChangeMaps (open_string)
set_option linter.unusedVariables false
set_option maxRecDepth 100000 in
theorem lifted (os : Os) (started : os.Started) (H : Type) (enc : TypeId × Value → H) :
    ReturnsInHanded {} Tryd.checked os 3 .any (fun w args => (Rows.fnExactGraphTextSpec.pre enc Tryd.prog Tryd.f3 [] false w args ∧ laidMetH Tryd.prog laid3 w) ∧ sizedMet enc Tryd.prog Tryd.f3 (OpenSpec.ofChange Rows.fnExactGraphTextSpec) false w args) (Rows.fnExactGraphTextSpec.post enc Tryd.prog Tryd.f3 false true false false) := by
  refine returnsInHanded_of_change_and (C := Tryd.checked) (X := fun w _ => laidMetH Tryd.prog laid3 w) (fun _ _ _ hh h => h.of_heap hh) own started (by kernel_rfl) Tryd.func3
    (ChangeSpec.witness_shaped (enc := enc) (C := Tryd.checked) (os := os) (X := fun w _ => laidMetH Tryd.prog laid3 w) false (World.doorLaid Tryd.prog 400 os) #[.agg #[.int .i64 0, .slice none 0 0]] 8 rfl (World.shaped_of_RefB (by kernel_rfl) (by kernel_rfl)) (by kernel_rfl) (by kernel_rfl) (by kernel_rfl) (door_met3 os _)) ?_
  intro W base args ds gs before hval0 hW _ _ hL _
  have hval : ∀ (j : Nat) t v, Tryd.f3.params[j]? = some t → args[j]? = some v → Value.okWide Tryd.prog W .any base t v := hval0
  have hW' := hW
  obtain ⟨p, q, hA0, hV, rfl, hfz, hnd⟩ := hW
  have hA : DataW.TrodAll enc Tryd.prog W 0 (fun _ => true) true Tryd.f3.params.toList args.toList ds p := hA0
  rw [Tryd.params3] at hA hval
  obtain ⟨v0, vs0, d0, ds0, p0, q0, hargs, rfl, rfl, h0, r0⟩ := trodAll_cons hA
  obtain ⟨rfl, rfl, rfl⟩ := trodAll_nil r0
  obtain rfl : args = #[v0] := by cases args; simp_all
  obtain ⟨rfl, rfl⟩ := trodVars_none hV
  have k0 := h0
  have lt0 : ∀ x ∈ p0, x.block < W.heap.size := by obtain ⟨m, hm⟩ := k0; exact DataW.trod_lt m _ _ _ hm
  obtain ⟨n0, A0, m0, c0, es0, rfl, hs0, hm0⟩ := open_LG (hval 0 24 v0 rfl rfl) h0
  clear hA0 hval0
  refine (law_GraphText n0 A0 m0 c0 es0 W hs0 hm0).mono fun e W' ⟨he, bel⟩ => ?_
  subst he
  exact ⟨_, rfl, _, _, _, [], _, [], hW', trodAll_mk1 (shut_bool Tryd.underlying4 _), (trodAll_cons_mk (Below.trod laidOut (by kernel_rfl) (of_decide_eq_true (by kernel_rfl)) k0 bel lt0) trodAll_mk0), rfl, bel.frame _, fun h => by cases h⟩
theorem joined : joinedFacts Tryd.pinned.checked.prog 3 Tryd.f3 Rows.fnExactGraphTextSpec Rows.fnExactGraphTextRow = true := by
  have h1 := jH
  simp only [Bool.and_eq_true] at h1
  unfold joinedFacts
  rw [h1.1, h1.2, jL, jM]
  refine Eq.trans (b := true) ?_ rfl
  kernel_rfl
theorem over : Rows.fnExactGraphTextRow.holds Tryd.pinned (OpenSpec.ofChange Rows.fnExactGraphTextSpec) :=
  OpenClaim.holds_of_wide 3 Tryd.f3 rfl rfl rfl rfl rfl rfl rfl ⟨rfl, rfl, rfl, rfl, rfl⟩ rfl rfl rfl rfl rfl (by kernel_rfl) Tryd.func3 joined
    (of_decide_eq_true (by kernel_rfl)) (by unfold Func.isWrapper; first | (rw [if_pos (by decide +kernel)]; kernel_rfl) | (rw [if_neg (by decide +kernel)]; exact ⟨rfl, rfl⟩))
    (fun os started H enc _ => lifted os started H enc)
theorem card_holds : Claim7.holds Tryd.pinned (.plain (OpenSpec.ofChange Rows.fnExactGraphTextSpec)) Rows.fnExactGraphTextCard :=
  Claim7.holds_tied_plain_at .later [] [.data, .data, .data] true (true, "65f219a29654010862da41634fdc696a9ed1e458d50438b64c957f9d7c1e145f") false
    over (fun _ h => by cases h) (by kernel_rfl) (fun _ h => by cases h) fnExactGraphText_row_tie rfl ⟨rfl, rfl⟩ (by kernel_rfl) rfl
    (fun f fn hf hfn => by
      obtain rfl : f = 3 := Option.some.inj ((show Tryd.prog.funcNamed "loop.example/g01329/laws.FnExactGraphText" = some 3 by kernel_rfl).symm.trans hf) |>.symm
      obtain rfl : fn = Tryd.f3 := (Option.some.inj (Tryd.func3.symm.trans hfn)).symm
      exact ⟨by kernel_rfl, fun j t ht => by
        rw [Tryd.params3] at ht
        have hm : t ∈ [24] := by simpa using Array.mem_of_getElem? ht
        have hall : ([24].all fun u => !Tryd.prog.wantsStandIn u) = true := by kernel_rfl
        exact (show Tryd.prog.wantsStandIn t = false by simpa using List.all_eq_true.1 hall t hm)⟩)
    (by kernel_rfl)
theorem proved : Rows.FnExactGraphTextCardSaid := card_holds
end Go.Proofs.YtnoneppmeaeicaaDoor.fnExactGraphText
