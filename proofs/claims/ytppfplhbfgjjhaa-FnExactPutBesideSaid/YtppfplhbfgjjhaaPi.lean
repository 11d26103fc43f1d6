import Derived.Test.YtppfplhbfgjjhaaPe
namespace Go.Proofs.Ytppfplhbfgjjhaa
open Go.RowKit Go.Sort
theorem cloneE_any (b o l c : Nat) (es : List (Int × Int)) (w : World) (hE : Eds w b o l es) (hl0 : 0 < l) (hl : l ≤ 1048576) : Calls Try.prog 103 #[.slice (some ⟨b, o, none⟩) l c] w (fun e w' => ∃ A c', e = .returned (.slice A l c') ∧ OwnEA w.heap.size w' A l c' es ∧ Below w.heap.size w w') := by
  have HL0 := Lib.hid hl0
  have hq0 : ∀ W, (binOp .eql 28 (.slice (some ⟨b, o, none⟩) l c) (.slice none 0 0)).run Try.prog W = .ok (.bool false) W := fun W => by kernel_rfl
  clear hl0
  go_enter Try.func103, Try.ntmps103
  go_wp2_with (at_builtin; refine wp_appE0 rfl rfl rfl rfl (by simp) hE HL0.out hl ?_; intro A' c' w' O hb)
  go_ret
  exact ⟨A', c', rfl, O, hb⟩
end Go.Proofs.Ytppfplhbfgjjhaa
