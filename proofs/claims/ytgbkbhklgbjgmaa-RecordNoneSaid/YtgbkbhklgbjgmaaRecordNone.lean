/- Layer 21: RecordNone, the walk. -/
import Derived.Test.YtgbkbhklgbjgmaaRecM
namespace Go.Proofs.Ytgbkbhklgbjgmaa.rcd
open Go Go.Xr Go.RowKit
set_option linter.unusedVariables false
set_option linter.unusedSimpArgs false
set_option maxRecDepth 20000 in
set_option maxHeartbeats 1000000 in
theorem none_walk {w : World} (s : ByteArray) : Calls Try.prog 7 #[.string s] w fun e w' => e = .returned (.bool true) ∧ Fr [] w w' := by
  cases hb : decide (65536 < (s.size : Int))
  case true =>
    go_enter Try.func7, Try.ntmps7
    go_wp2_with fail
    refine works_any.mono ?_
    rintro e w1 ⟨rfl, f1⟩
    go_wp2_with fail
    go_ret
    exact ⟨rfl, f1⟩
  case false =>
    go_enter Try.func7, Try.ntmps7
    go_wp2_with fail
    refine (sseal_nil s).mono ?_
    rintro e w1 ⟨rfl, rfl⟩
    go_wp2_with fail
    refine (oopen_nil s).mono ?_
    rintro e w1 ⟨rfl, rfl⟩
    go_wp2_with fail
    refine scount_nil.mono ?_
    rintro e w1 ⟨rfl, rfl⟩
    go_wp2_with fail
    refine ocount_nil.mono ?_
    rintro e w1 ⟨rfl, rfl⟩
    go_wp2_with fail
    refine closed_nil.mono ?_
    rintro e w1 ⟨rfl, rfl⟩
    go_wp2_with fail
    refine works_any.mono ?_
    rintro e w1 ⟨rfl, f1⟩
    go_wp2_with fail
    go_ret
    exact ⟨rfl, f1⟩
end Go.Proofs.Ytgbkbhklgbjgmaa.rcd
