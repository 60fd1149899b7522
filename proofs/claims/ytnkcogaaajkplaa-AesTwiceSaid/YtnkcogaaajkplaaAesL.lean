/- Layer 3, aes: some answers that stand fixed. -/
import Derived.Test.YtnkcogaaajkplaaAesJ
import Derived.Test.YtnkcogaaajkplaaHex
namespace Go.Xr
open Go
set_option linter.unusedVariables false
def key0 : List UInt8 := [0, 1, 2, 3, 4, 5, 6, 7, 8, 9, 10, 11, 12, 13, 14, 15]
def txt0 : List UInt8 := [0, 17, 34, 51, 68, 85, 102, 119, 136, 153, 170, 187, 204, 221, 238, 255]
end Go.Xr
namespace Go.Proofs.Ytnkcogaaajkplaa
open Go Go.Xr Go.RowKit
set_option linter.unusedVariables false
set_option linter.unusedSimpArgs false

theorem hex_0 : hexS ⟨(blockS (ciT key0) txt0).toArray⟩ = ⟨#[54, 57, 99, 52, 101, 48, 100, 56, 54, 97, 55, 98, 48, 52, 51, 48, 100, 56, 99, 100, 98, 55, 56, 48, 55, 48, 98, 52, 99, 53, 53, 97]⟩ := by
  have e : hexL (blockS (ciT key0) txt0) = [54, 57, 99, 52, 101, 48, 100, 56, 54, 97, 55, 98, 48, 52, 51, 48, 100, 56, 99, 100, 98, 55, 56, 48, 55, 48, 98, 52, 99, 53, 53, 97] := by decide +kernel
  show (⟨(hexL (blockS (ciT key0) txt0)).toArray⟩ : ByteArray) = _
  rw [e]
theorem key_any {w : World} : Calls Try.prog 21 #[] w fun e w' => e = .returned (.string ⟨key0.toArray⟩) ∧ w = w' := by
  go_enter Try.func21, Try.ntmps21
  go_wp2
  go_ret
  exact ⟨rfl, rfl⟩
theorem sub_83 : subS 83 = 237 := by decide +kernel
theorem times_87 : times 87 131 = 193 := by decide +kernel
theorem sub83_any {w : World} : Calls Try.prog 8 #[.int .u8 83] w fun e w' => e = .returned (.int .u8 237) ∧ w = w' := by
  have := sub_any (w := w) 83
  rw [sub_83] at this
  exact this
theorem times87_any {w : World} : Calls Try.prog 6 #[.int .u8 87, .int .u8 131] w fun e w' => e = .returned (.int .u8 193) ∧ w = w' := by
  have := times_any (w := w) 87 131
  rw [times_87] at this
  exact this

set_option maxRecDepth 20000 in
theorem alive_any {w : World} : Calls Try.prog 10 #[] w fun e w' => e = .returned (.bool true) ∧ Fr [] w w' := by
  have h2 := fun w0 : World => hex_any (w := w0) ⟨(blockS (ciT key0) txt0).toArray⟩ (by rw [size_mk', blockS_len]; decide)
  rw [hex_0] at h2
  have H2 := hid h2
  clear h2
  go_enter Try.func10, Try.ntmps10
  go_wp2_with fail
  refine key_any.mono ?_
  rintro e w' ⟨rfl, rfl⟩
  go_wp2_with fail
  refine (new_any ⟨key0.toArray⟩ rfl).mono ?_
  rintro e w1 ⟨p, rfl, hb, hp, f1⟩
  go_wp2_with fail
  refine (new_bad ⟨#[120]⟩ (by decide) (by decide)).mono ?_
  rintro e w2 ⟨rfl, rfl⟩
  go_wp2_with fail
  refine (blockC_any ⟨txt0.toArray⟩ (ciT_len _ rfl) rfl hb).mono ?_
  rintro e w3 ⟨rfl, f2⟩
  go_wp2_with fail
  refine (H2.out _).mono ?_
  rintro e w4 ⟨rfl, f3⟩
  go_wp2_with fail
  refine sub83_any.mono ?_
  rintro e w5 ⟨rfl, rfl⟩
  go_wp2_with fail
  refine times87_any.mono ?_
  rintro e w6 ⟨rfl, rfl⟩
  go_wp2_with fail
  go_ret
  exact ⟨rfl, (f1.trans' f2).trans' f3⟩
end Go.Proofs.Ytnkcogaaajkplaa
