/- Layer 10: MerkleNil, the walk. -/
import Derived.Test.YthfjjencnfebmaaMerQ
namespace Go.Proofs.Ythfjjencnfebmaa.mer
open Go Go.Xr Go.RowKit
set_option linter.unusedVariables false
set_option linter.unusedSimpArgs false
set_option maxRecDepth 20000 in
theorem nil_walk {w : World} (i : Int) (tag : ByteArray) : Calls Try.prog 7 #[.int .i64 i, .string tag] w fun e w' => e = .returned (.bool true) ∧ Fr [] w w' := by
  by_cases h : 4096 < tag.size
  · have hd : decide (4096 < (tag.size : Int)) = true := by simp; omega
    go_enter Try.func7, Try.ntmps7
    go_wp2_with (go_at_call 10; refine alive_any.mono ?_; rintro e w1 ⟨rfl, f1⟩)
    go_ret
    exact ⟨rfl, f1⟩
  · have hd : decide (4096 < (tag.size : Int)) = false := by simp; omega
    go_enter Try.func7, Try.ntmps7
    go_wp2_with (first
      | (go_at_call 23; refine (get_nil i).mono ?_; rintro e w1 ⟨rfl, hw⟩; have hw' := hw.symm; subst hw'; clear hw)
      | (go_at_call 21; refine (path_nil i).mono ?_; rintro e w1 ⟨rfl, hw⟩; have hw' := hw.symm; subst hw'; clear hw)
      | (go_at_call 20; refine (set_nil i tag).mono ?_; rintro e w1 ⟨rfl, hw⟩; have hw' := hw.symm; subst hw'; clear hw)
      | (go_at_call 22; refine root_nil.mono ?_; rintro e w1 ⟨rfl, hw⟩; have hw' := hw.symm; subst hw'; clear hw)
      | (go_at_call 24; refine len_nil.mono ?_; rintro e w1 ⟨rfl, hw⟩; have hw' := hw.symm; subst hw'; clear hw)
      | (go_at_call 25; refine copy_nil.mono ?_; rintro e w1 ⟨rfl, hw⟩; have hw' := hw.symm; subst hw'; clear hw)
      | (go_at_call 10; refine alive_any.mono ?_; rintro e w1 ⟨rfl, f1⟩))
    go_ret
    exact ⟨rfl, f1⟩
end Go.Proofs.Ythfjjencnfebmaa.mer
