/- Layer 3: AesBytes, the walk. -/
import Derived.Test.YtnkcogaaajkplaaAesL
import Derived.Test.YtnkcogaaajkplaaAesC
import Derived.Test.YtnkcogaaajkplaaArgs
namespace Go.Proofs.Ytnkcogaaajkplaa
open Go Go.Xr Go.RowKit
set_option linter.unusedVariables false
set_option linter.unusedSimpArgs false

theorem eqg_u8 (t : TypeId) (x y : Operand) (a b : UInt8) : eqGuard .eql t x y (bt a) (bt b) = pure () := rfl
attribute [local go_sem] eql_u8 eqg_u8

theorem bytes_u {w : World} (a b : UInt8) : Calls Try.prog 3 #[bt a, bt b] w fun e w' => e = .returned (.bool true) ∧ Fr [] w w' := by
  have he : (subS a == subS b) = (a == b) := by
    rw [Bool.eq_iff_iff, beq_iff_eq, beq_iff_eq]
    exact subS_inj a b
  have he2 : ((a == b) == (a == b)) = true := beq_self_eq_true _
  go_enter Try.func3, Try.ntmps3
  go_wp2_with fail
  refine (times_any _ _).mono ?_
  rintro e w' ⟨rfl, rfl⟩
  go_wp2_with fail
  refine (rtimes_any _ _).mono ?_
  rintro e w' ⟨rfl, rfl⟩
  go_wp2_with fail
  refine (sub_any _).mono ?_
  rintro e w' ⟨rfl, rfl⟩
  go_wp2_with fail
  refine (rsub_any _).mono ?_
  rintro e w' ⟨rfl, rfl⟩
  go_wp2_with fail
  refine (sub_any _).mono ?_
  rintro e w' ⟨rfl, rfl⟩
  go_wp2_with fail
  refine (sub_any _).mono ?_
  rintro e w' ⟨rfl, rfl⟩
  go_wp2_with fail
  refine alive_any.mono ?_
  rintro e w1 ⟨rfl, f1⟩
  go_wp2_with fail
  go_ret
  exact ⟨rfl, f1⟩
theorem bytes_walk {w : World} (a b : Int) (ha : (Lit.int .u8 a).wf = true) (hb : (Lit.int .u8 b).wf = true) : Calls Try.prog 3 #[.int .u8 a, .int .u8 b] w fun e w' => e = .returned (.bool true) ∧ Fr [] w w' := by
  rw [bt_of ha, bt_of hb]
  exact bytes_u _ _
end Go.Proofs.Ytnkcogaaajkplaa
