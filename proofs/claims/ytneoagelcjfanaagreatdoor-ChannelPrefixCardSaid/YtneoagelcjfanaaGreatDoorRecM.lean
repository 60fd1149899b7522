/- Layer 21, record: works; what is nil. -/
import Derived.Test.YtneoagelcjfanaaGreatDoorRecL
namespace Go.Proofs.YtneoagelcjfanaaGreatDoor.rcd
open Go Go.Xr Go.RowKit
set_option linter.unusedVariables false
set_option linter.unusedSimpArgs false
attribute [local go_sem] eqgA eqgB eql_u64 eql_u64_c neq_u64 neq_u64_c add_u64_c
def zL : List UInt8 := List.replicate 32 0
def zS : ByteArray := ⟨zL.toArray⟩
def xS : ByteArray := ⟨#[120]⟩
theorem zS_size : zS.size = 32 := rfl
theorem wk_sizes : (keyC zS xS).size = 16 ∧ (keyM zS xS).size = 32 := ⟨keyC_size _ _, keyM_size _ _⟩
theorem u01 : (0 : UInt64) + 1 = 1 := by decide
theorem u12 : (1 : UInt64) + 1 = 2 := by decide
theorem recOk_no (c m label t : ByteArray) (x nx : UInt64) (hc : c.size = 16) (hm : m.size = 32) (h : t.size ≤ 8192) (hx : x ≠ nx) : recOk c m label nx (recS c m label x t) = false := by
  rw [recOk_rec c m label t x nx hc hm h]
  exact decide_eq_false hx
theorem recOk_yes (c m label t : ByteArray) (x : UInt64) (hc : c.size = 16) (hm : m.size = 32) (h : t.size ≤ 8192) : recOk c m label x (recS c m label x t) = true := by
  rw [recOk_rec c m label t x x hc hm h]
  exact decide_eq_true rfl
set_option maxRecDepth 20000 in
theorem sseal_nil {w : World} (s : ByteArray) : Calls Tryz.prog 27 #[.pointer none, .string s] w fun e w' => e = .returned (.tuple #[.string ⟨#[]⟩, .int .i64 1]) ∧ w = w' := by
  go_enter Tryz.func27, Tryz.ntmps27
  go_wp2_with fail
  go_ret2
  exact ⟨rfl, rfl⟩
set_option maxRecDepth 20000 in
theorem oopen_nil {w : World} (s : ByteArray) : Calls Tryz.prog 35 #[.pointer none, .string s] w fun e w' => e = .returned (.tuple #[.string ⟨#[]⟩, .int .i64 1]) ∧ w = w' := by
  go_enter Tryz.func35, Tryz.ntmps35
  go_wp2_with fail
  go_ret2
  exact ⟨rfl, rfl⟩
end Go.Proofs.YtneoagelcjfanaaGreatDoor.rcd
