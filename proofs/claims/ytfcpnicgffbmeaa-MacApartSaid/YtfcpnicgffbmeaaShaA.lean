/- Layer 1, sha: turning words. -/
import Derived.Test.YtfcpnicgffbmeaaProg
import Derived.Test.YtfcpnicgffbmeaaOwn
import Derived.Test.YtfcpnicgffbmeaaReg
import Derived.Test.YtfcpnicgffbmeaaShaS
import Derived.WalkLawsBesides
import Derived.WalkSpells
import Derived.LoopN
namespace Go.Proofs.Ytfcpnicgffbmeaa
open Go Go.Xr Go.RowKit
set_option linter.unusedVariables false
set_option linter.unusedSimpArgs false

def turns : List Nat := [2, 6, 7, 11, 13, 17, 18, 19, 22, 25]

attribute [local go_sem] shl_u32 shr_u32 or_u32

theorem rotl_any (x : UInt32) (n : Nat) (hn : n ∈ turns) (w : World) :
    Calls Try.prog 38 #[W32 x, .int .i64 (-(n : Int))] w fun e w' => e = .returned (W32 (rotr x n)) ∧ w = w' := by
  rw [← rotr_alt]
  have hb : bits .and .u64 (IntKind.u64.wrap (-(n : Int))) 31 = 32 - (n : Int) := by
    revert n
    decide
  simp only [turns, List.mem_cons, List.not_mem_nil, or_false] at hn
  rcases hn with rfl | rfl | rfl | rfl | rfl | rfl | rfl | rfl | rfl | rfl
  all_goals
    simp only [Int.cast_ofNat_Int, Int.reduceSub] at hb
    go_enter Try.func38, Try.ntmps38
    go_wp2
    go_ret
    exact ⟨rfl, rfl⟩

theorem turn_any (x : UInt32) (n : Nat) (hn : n ∈ turns) (w : World) :
    Calls Try.prog 37 #[W32 x, .int .i64 n] w fun e w' => e = .returned (W32 (rotr x n)) ∧ w = w' := by
  have hb : n < 32 := by
    simp only [turns, List.mem_cons, List.not_mem_nil, or_false] at hn
    omega
  have h := rotl_any x n hn w
  go_enter Try.func37, Try.ntmps37
  go_wp2_with (go_at_call 38; refine h.mono ?_; rintro e w' ⟨rfl, rfl⟩)
  go_ret
  exact ⟨rfl, rfl⟩
theorem turn_at (x : UInt32) (k : Int) (hk : k ∈ turns.map fun n : Nat => (n : Int)) (w : World) :
    Calls Try.prog 37 #[W32 x, .int .i64 k] w fun e w' => e = .returned (W32 (rotr x k.toNat)) ∧ w = w' := by
  obtain ⟨n, hn, rfl⟩ := List.mem_map.1 hk
  exact turn_any x n hn w
end Go.Proofs.Ytfcpnicgffbmeaa
