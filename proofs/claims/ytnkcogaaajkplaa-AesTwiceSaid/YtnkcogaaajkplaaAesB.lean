/- Layer 3, aes: what stands for a byte, walked. -/
import Derived.Test.YtnkcogaaajkplaaAesA
namespace Go.Proofs.Ytnkcogaaajkplaa
open Go Go.Xr Go.RowKit
set_option linter.unusedVariables false
set_option linter.unusedSimpArgs false

attribute [local go_sem] xor_u8 xor_u8_c or_u8 and_u8_c shl_u8 shr_u8 mul_u8_c eql_u8_c neq_u8_c eqg_u8_c neg_u8_c

set_option maxRecDepth 20000 in
theorem sub_any {w : World} (b : UInt8) : Calls Try.prog 8 #[bt b] w fun e w' => e = .returned (bt (subS b)) ∧ w = w' := by
  obtain ⟨C, hC⟩ : ∃ C, pw b 254 = C := ⟨_, rfl⟩
  have HC := hid hC
  obtain ⟨T, hT⟩ : ∃ T, subS b = T := ⟨_, rfl⟩
  rw [hT]
  have HT : Hid ((rx C 4).2 ^^^ c8 99 = T) := by rw [← hT, ← hC]; exact hid rfl
  clear hT hC
  go_enter Try.func8, Try.ntmps8
  go_wp2_with fail
  go_loopw [3, 5] (fun cv iv wr => ∃ k : Nat, k ≤ 254 ∧ iv = .int .i64 k ∧ cv = bt (pw b k) ∧ w = wr) (fun _ iv _ => 254 - (intOf iv).toNat)
  case atStart => exact ⟨0, by omega, rfl, rfl, rfl⟩
  case round =>
    obtain ⟨k, hk, rfl, rfl, rfl⟩ := hrel
    by_cases hlt : k < 254
    · have hd1 : decide ((k : Int) < 254) = true := by simp; omega
      go_wp2_with (go_at_call 6; refine (times_any _ _).mono ?_; rintro e w' ⟨rfl, rfl⟩)
      go_roundw
      case rel => exact ⟨k + 1, by omega, by go_num, rfl, trivial⟩
      case measure => simp [intOf]; omega
    · have hd1 : decide ((k : Int) < 254) = false := by simp; omega
      obtain ⟨D, hD⟩ : ∃ D, pw b k = D := ⟨_, rfl⟩
      rw [hD]
      obtain rfl : D = C := by rw [← hD, ← HC.out, show k = 254 by omega]
      clear hD hlt
      go_wp2_with fail
      clear hd1 hk
      go_loopw [3, 4, 12] (fun cv xv iv wr => ∃ k : Nat, k ≤ 4 ∧ iv = .int .i64 k ∧ cv = bt (rx D k).1 ∧ xv = bt (rx D k).2 ∧ w = wr) (fun _ _ iv _ => 4 - (intOf iv).toNat)
      case atStart => exact ⟨0, by omega, rfl, rfl, rfl, rfl⟩
      case round =>
        obtain ⟨k, hk, rfl, rfl, rfl, rfl⟩ := hrel
        by_cases hlt : k < 4
        · have hd1 : decide ((k : Int) < 4) = true := by simp; omega
          go_wp2_with fail
          go_roundw
          case rel => exact ⟨k + 1, by omega, by go_num, rfl, rfl, trivial⟩
          case measure => simp [intOf]; omega
        · have hd1 : decide ((k : Int) < 4) = false := by simp; omega
          have HT2 := hid (show (rx D k).2 ^^^ c8 99 = T by rw [← HT.out, show k = 4 by omega])
          clear hlt
          go_wp2_with fail
          go_ret
          rw [HT2.out]
          exact ⟨rfl, rfl⟩
end Go.Proofs.Ytnkcogaaajkplaa
