/- Layer 3, aes: bytes' products, walked. -/
import Derived.Test.YtnkcogaaajkplaaAesS
import Derived.Test.YtnkcogaaajkplaaProg
import Derived.Test.YtnkcogaaajkplaaOwn
import Derived.Test.YtnkcogaaajkplaaReg
import Derived.WalkLawsBesides
import Derived.WalkSpells
import Derived.LoopN
import Derived.Test.YtnkcogaaajkplaaAppS
namespace Go.Proofs.Ytnkcogaaajkplaa
open Go Go.Xr Go.RowKit
set_option linter.unusedVariables false
set_option linter.unusedSimpArgs false

theorem eqg_u8_c (t : TypeId) (x y : Operand) (a : UInt8) (n : Int) : eqGuard .eql t x y (bt a) (.int .u8 n) = pure () := rfl
theorem neg_u8_c (t : TypeId) (x y : Operand) (a : UInt8) (n : Int) : eqGuard .neq t x y (bt a) (.int .u8 n) = pure () := rfl
attribute [local go_sem] xor_u8 xor_u8_c or_u8 and_u8_c shl_u8 shr_u8 mul_u8_c eql_u8_c neq_u8_c eqg_u8_c neg_u8_c

theorem twice_any {w : World} (a : UInt8) : Calls Try.prog 20 #[bt a] w fun e w' => e = .returned (bt (tw a)) ∧ w = w' := by
  go_enter Try.func20, Try.ntmps20
  go_wp2
  go_ret
  exact ⟨rfl, rfl⟩

set_option maxRecDepth 20000 in
theorem times_any {w : World} (a b : UInt8) : Calls Try.prog 6 #[bt a, bt b] w fun e w' => e = .returned (bt (times a b)) ∧ w = w' := by
  obtain ⟨T, hT⟩ : ∃ T, times a b = T := ⟨_, rfl⟩
  rw [hT]
  have HT : Hid (tmF 8 a b 0 = T) := hid hT
  clear hT
  go_enter Try.func6, Try.ntmps6
  go_wp2_with fail
  go_loopg [0, 1, 5] 8 (fun g av bv pv wr => ∃ a' b' p' : UInt8, av = bt a' ∧ bv = bt b' ∧ pv = bt p' ∧ Hid (tmF g a' b' p' = T) ∧ b'.toNat < 2 ^ g ∧ w = wr)
  case atStart => exact ⟨a, b, 0, rfl, rfl, rfl, HT, b.toNat_lt, rfl⟩
  case round =>
    obtain ⟨a', b', p', rfl, rfl, rfl, hT, hb, rfl⟩ := hrel
    obtain ⟨G, rfl⟩ : ∃ G, G = gk := ⟨_, rfl⟩
    by_cases h0 : b'.toNat = 0
    · have hd0 : ((b'.toNat : Int) != 0) = false := by rw [h0]; rfl
      have e : b' = 0 := UInt8.toNat_inj.1 h0
      have Hp := hid (show p' = T by rw [← hT.out, e, tmF_stop])
      clear e h0
      go_wp2_with fail
      go_ret
      rw [Hp.out]
      exact ⟨rfl, rfl⟩
    · have hd0 : ((b'.toNat : Int) != 0) = true := by simp; omega
      cases G with
      | zero => simp at hb; exact absurd hb h0
      | succ G =>
        have hs : (shr8 b' 1).toNat < 2 ^ G := by
          unfold shr8
          show (b'.toBitVec >>> 1).toNat < _
          rw [BitVec.toNat_ushiftRight, Nat.shiftRight_eq_div_pow]
          have : b'.toBitVec.toNat = b'.toNat := rfl
          rw [Nat.pow_succ] at hb
          omega
        have hstep := hT.out
        rw [tmF] at hstep
        by_cases h1 : (b' &&& c8 1).toNat = 1
        · have hd1 : (((b'.toNat &&& (c8 1).toNat : Nat) : Int) == 1) = true := by rw [← UInt8.toNat_and, h1]; rfl
          rw [if_pos h1] at hstep
          have Hstep := hid hstep
          clear hstep h1 h0
          go_wp2_with (go_at_call 20; refine (twice_any _).mono ?_; rintro e w' ⟨rfl, rfl⟩)
          go_roundg G
          case rel => exact ⟨_, _, _, rfl, rfl, rfl, Hstep, hs, rfl⟩
          case measure => omega
        · have hd1 : (((b'.toNat &&& (c8 1).toNat : Nat) : Int) == 1) = false := by rw [← UInt8.toNat_and]; exact beq_eq_false_iff_ne.2 (by omega)
          rw [if_neg h1] at hstep
          have Hstep := hid hstep
          clear hstep h1 h0
          go_wp2_with (go_at_call 20; refine (twice_any _).mono ?_; rintro e w' ⟨rfl, rfl⟩)
          go_roundg G
          case rel => exact ⟨_, _, _, rfl, rfl, rfl, Hstep, hs, rfl⟩
          case measure => omega

set_option maxRecDepth 20000 in
theorem rtimes_any {w : World} (a b : UInt8) : Calls Try.prog 7 #[bt a, bt b] w fun e w' => e = .returned (bt (times a b)) ∧ w = w' := by
  obtain ⟨T, hT⟩ : ∃ T, times a b = T := ⟨_, rfl⟩
  rw [hT]
  have HT : Hid (tmF 8 a b 0 = T) := hid hT
  clear hT
  go_enter Try.func7, Try.ntmps7
  go_wp2_with fail
  go_loopg [0, 1, 5, 6] 8 (fun g av bv pv iv wr => ∃ (i : Nat) (a' b' p' : UInt8), i + g = 8 ∧ iv = .int .i64 i ∧ av = bt a' ∧ bv = bt b' ∧ pv = bt p' ∧ Hid (tmF g a' b' p' = T) ∧ w = wr)
  case atStart => exact ⟨0, a, b, 0, rfl, rfl, rfl, rfl, rfl, HT, rfl⟩
  case round =>
    obtain ⟨i, a', b', p', hi, rfl, rfl, rfl, rfl, hT, rfl⟩ := hrel
    obtain ⟨G, rfl⟩ : ∃ G, G = gk := ⟨_, rfl⟩
    cases G with
    | zero =>
      obtain rfl : i = 8 := by omega
      have Hp := hid (show p' = T from hT.out)
      go_wp2_with fail
      go_ret
      rw [Hp.out]
      exact ⟨rfl, rfl⟩
    | succ G =>
      have hd0 : decide ((i : Int) < 8) = true := by simp; omega
      have hstep := hT.out
      rw [tmF] at hstep
      have htw := tw_alt a'
      have c1 : (Hid ((b' &&& c8 1).toNat = 1) ∧ (((b'.toNat &&& (c8 1).toNat : Nat) : Int) == 1) = true) ∨ (Hid (¬ (b' &&& c8 1).toNat = 1) ∧ (((b'.toNat &&& (c8 1).toNat : Nat) : Int) == 1) = false) := by
        rw [← UInt8.toNat_and]
        by_cases h1 : (b' &&& c8 1).toNat = 1
        · exact .inl ⟨hid h1, by rw [h1]; rfl⟩
        · exact .inr ⟨hid h1, beq_eq_false_iff_ne.2 (by omega)⟩
      have c2 : (Hid ((a' &&& c8 128).toNat = 0) ∧ (((a'.toNat &&& (c8 128).toNat : Nat) : Int) != 0) = false) ∨ (Hid (¬ (a' &&& c8 128).toNat = 0) ∧ (((a'.toNat &&& (c8 128).toNat : Nat) : Int) != 0) = true) := by
        rw [← UInt8.toNat_and]
        by_cases h1 : (a' &&& c8 128).toNat = 0
        · exact .inl ⟨hid h1, by rw [h1]; rfl⟩
        · exact .inr ⟨hid h1, by simp only [bne_iff_ne, ne_eq]; omega⟩
      rcases c1 with ⟨h1, hd1⟩ | ⟨h1, hd1⟩
      all_goals
        rcases c2 with ⟨h2, hd2⟩ | ⟨h2, hd2⟩
      all_goals
        first | rw [if_pos h1.out] at hstep | rw [if_neg h1.out] at hstep
        first | rw [if_pos h2.out] at htw | rw [if_neg h2.out] at htw
        rw [← htw] at hstep
        have Hstep := hid hstep
        clear hstep htw h1 h2 hT HT
        go_wp2_with fail
        go_roundg G
        case rel => exact ⟨i + 1, _, _, _, by omega, by go_num, rfl, rfl, rfl, Hstep, rfl⟩
        case measure => omega
end Go.Proofs.Ytnkcogaaajkplaa
