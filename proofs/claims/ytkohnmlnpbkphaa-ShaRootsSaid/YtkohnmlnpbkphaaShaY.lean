/- Layer 1, sha: roots, the document's: power, root. -/
import Derived.Test.YtkohnmlnpbkphaaShaX
namespace Go.Xr
open Go
set_option linter.unusedVariables false
/-- The whole part; the digits behind it. -/
def wN (p k : Nat) : Nat → Nat → Nat
  | 0, w => w
  | f + 1, w => if (w + 1) ^ k ≤ p then wN p k f (w + 1) else w
def rx (p k w : Nat) : Nat → Nat
  | 0 => w
  | b + 1 => if (2 * rx p k w b + 1) ^ k ≤ p * 2 ^ (k * (b + 1)) then 2 * rx p k w b + 1 else 2 * rx p k w b
def rootN (p k : Nat) : Nat := rx p k (wN p k 30 0) 32 - wN p k 30 0 * 2 ^ 32
theorem rx_bd (p k w b : Nat) : w * 2 ^ b ≤ rx p k w b ∧ rx p k w b + 1 ≤ (w + 1) * 2 ^ b := by
  induction b with
  | zero => simp [rx]
  | succ b ih =>
    rw [rx, Nat.pow_succ]
    obtain ⟨h1, h2⟩ := ih
    generalize rx p k w b = y at h1 h2
    have e1 : w * (2 ^ b * 2) = 2 * (w * 2 ^ b) := by ac_rfl
    have e2 : (w + 1) * (2 ^ b * 2) = 2 * ((w + 1) * 2 ^ b) := by ac_rfl
    rw [e1, e2]
    split <;> omega
theorem subU (t : TypeId) (a b : Nat) (h : b ≤ a) (ha : a < 18446744073709551616) : binOp .sub t (.int .u64 (a : Int)) (.int .u64 (b : Int)) = pure (.int .u64 ((a - b : Nat) : Int)) := by
  have e : IntKind.u64.wrap ((a : Int) - (b : Int)) = ((a - b : Nat) : Int) := by
    simp [IntKind.wrap, IntKind.bits, IntKind.signed]
    omega
  exact congrArg (fun x => (pure (Value.int .u64 x) : Sem Value)) e
theorem shlU (t : TypeId) (a : Nat) (h : a ≤ 1000) : binOp .shl t (.int .u64 (a : Int)) (.int .u64 32) = pure (.int .u64 ((a * 4294967296 : Nat) : Int)) := by
  have e : IntKind.u64.wrap ((a : Int) * 2 ^ 32) = ((a * 4294967296 : Nat) : Int) := by
    simp [IntKind.wrap, IntKind.bits, IntKind.signed]
    omega
  simp [binOp, Op.shift, IntKind.bits]
  first
    | exact congrArg (fun x => (pure (Value.int .u64 x) : Sem Value)) e
    | (simp [IntKind.wrap, IntKind.bits, IntKind.signed]; omega)
end Go.Xr
namespace Go.Proofs.Ytkohnmlnpbkphaa
open Go Go.Xr Go.RowKit
set_option linter.unusedVariables false
set_option linter.unusedSimpArgs false
set_option maxRecDepth 20000 in
theorem power_any {w : World} (x : Nat) (third : Bool) (hx : x ≤ 1000) : Calls Try.prog 35 #[.int .u64 (x : Int), .bool third] w fun e w' => e = .returned (.int .u64 ((x ^ kk third : Nat) : Int)) ∧ w = w' := by
  have h2 : x * x ≤ 1000 * 1000 := Nat.mul_le_mul hx hx
  have h3 : x * x * x ≤ 1000 * 1000 * 1000 := Nat.mul_le_mul h2 hx
  have hm2 : ∀ t, binOp .mul t (.int .u64 (x : Int)) (.int .u64 (x : Int)) = pure (.int .u64 ((x * x : Nat) : Int)) := fun t => mulU t x x (by omega)
  have hm3 : ∀ t, binOp .mul t (.int .u64 ((x * x : Nat) : Int)) (.int .u64 (x : Int)) = pure (.int .u64 ((x * x * x : Nat) : Int)) := fun t => mulU t (x * x) x (by omega)
  have e2 : x ^ 2 = x * x := Nat.pow_two x
  have e3 : x ^ 3 = x * x * x := by rw [Nat.pow_succ, Nat.pow_two]
  cases third
  case false =>
    have H := hid (show x ^ kk false = x * x from e2)
    obtain ⟨y, hy⟩ : ∃ y, x * x = y := ⟨_, rfl⟩
    rw [hy] at hm2 H
    rw [H.out]
    clear hm3 h2 h3 e2 e3 hy
    go_enter Try.func35, Try.ntmps35
    go_wp2_with fail
    go_ret
    exact ⟨rfl, rfl⟩
  case true =>
    have H := hid (show x ^ kk true = x * x * x from e3)
    obtain ⟨z, hz⟩ : ∃ z, x * x * x = z := ⟨_, rfl⟩
    rw [hz] at hm3 H
    obtain ⟨y, hy⟩ : ∃ y, x * x = y := ⟨_, rfl⟩
    rw [hy] at hm2 hm3
    rw [H.out]
    clear h2 h3 e2 e3 hz hy
    go_enter Try.func35, Try.ntmps35
    go_wp2_with fail
    go_ret
    exact ⟨rfl, rfl⟩
theorem cvU32 (w : World) (x : Nat) (h : x < 4294967296) : (convert 42 28 (.int .u64 (x : Int))).run Try.prog w = .ok (.int .u32 (x : Int)) w := by
  have e : Value.int .u32 (IntKind.u32.wrap (x : Int)) = .int .u32 (x : Int) := by
    simp [IntKind.wrap, IntKind.bits, IntKind.signed]
    omega
  simp only [convert, Sem.run_bind, run_underlying Try.underlying42, run_underlying Try.underlying28, Result.andThen_ok, Conv.intToInt, e, Sem.run_pure]
theorem pow_mono2 (third : Bool) (x : Nat) (h : x < (x + 0) ^ kk third + 1) : x ≤ x ^ kk third := by simpa using Nat.lt_succ_iff.1 h
theorem le_pow (third : Bool) (x : Nat) : x ≤ x ^ kk third := by
  rcases Nat.eq_zero_or_pos x with rfl | h
  · exact Nat.zero_le _
  · exact Nat.le_self_pow (by cases third <;> decide) x
theorem sq_le (third : Bool) (x : Nat) : x * x ≤ x ^ kk third := by
  cases third
  · rw [show kk false = 2 from rfl, Nat.pow_two]; exact Nat.le_refl _
  · rw [show kk true = 3 from rfl, Nat.pow_succ, Nat.pow_two]
    rcases Nat.eq_zero_or_pos x with rfl | h
    · simp
    · exact Nat.le_mul_of_pos_right _ h
set_option maxRecDepth 20000 in
set_option maxHeartbeats 2000000 in
theorem root_any {w : World} (p : Nat) (third : Bool) (hp : p ≤ 400) : Calls Try.prog 30 #[.int .u64 (p : Int), .bool third] w fun e w' => e = .returned (.int .u32 (rootN p (kk third) : Int)) ∧ Fr [] w w' := by
  obtain ⟨W, hW⟩ : ∃ W, wN p (kk third) 30 0 = W := ⟨_, rfl⟩
  have HW := hid hW
  have HW0 := hid hW
  go_enter Try.func30, Try.ntmps30
  go_wp2_with fail
  go_loopw [5] (fun wv wr => ∃ (x f : Nat), wv = .int .u64 x ∧ x ≤ 20 ∧ x + f = 30 ∧ Hid (wN p (kk third) f x = W) ∧ Fr [] w wr) (fun wv _ => 30 - (intOf wv).toNat)
  case atStart => exact ⟨0, 30, rfl, by omega, rfl, HW, Fr.refl _ _⟩
  case round =>
    obtain ⟨x, f0, rfl, hx, hxf, HE, f⟩ := hrel
    clear hW HW
    have hadd : ∀ t, binOp .add t (.int .u64 (x : Int)) (.int .u64 1) = pure (.int .u64 ((x + 1 : Nat) : Int)) := fun t => addU t x 1 (by omega)
    have HP := hid fun w0 : World => power_any (w := w0) (x + 1) third (by omega)
    have hsq := sq_le third (x + 1)
    obtain ⟨y, hy⟩ : ∃ y, (x + 1) ^ kk third = y := ⟨_, rfl⟩
    rw [hy] at HP hsq
    obtain ⟨f1, rfl⟩ : ∃ f1, f0 = f1 + 1 := ⟨f0 - 1, by omega⟩
    have HE2 := HE.out
    rw [wN, hy] at HE2
    obtain ⟨x1, hx1⟩ : ∃ x1, x + 1 = x1 := ⟨_, rfl⟩
    rw [hx1] at hadd HP hsq HE2
    by_cases hyp : y ≤ p
    case pos =>
      have h1 : decide ((y : Int) ≤ (p : Int)) = true := by simp; omega
      have h1' : decide (y ≤ p) = true := by simp; omega
      rw [if_pos hyp] at HE2
      have hx20 : x1 ≤ 20 := by
        rcases Nat.lt_or_ge 20 x1 with h | h
        · have := Nat.mul_le_mul h h
          omega
        · exact h
      have HE3 := hid HE2
      clear HE2 hy HE hsq
      go_wp2_with fail
      refine (HP.out _).mono ?_
      rintro e w2 ⟨rfl, rfl⟩
      go_wp2_with fail
      go_roundw
      case rel => exact ⟨x1, f1, rfl, hx20, by omega, HE3, f⟩
      case measure => simp [intOf]; omega
    case neg =>
      have h1 : decide ((y : Int) ≤ (p : Int)) = false := by simp; omega
      have h1' : decide (y ≤ p) = false := by simp; omega
      rw [if_neg hyp] at HE2
      have Hxw := hid HE2
      clear HE2 hy HE hsq
      go_wp2_with fail
      refine (HP.out _).mono ?_
      rintro e w2 ⟨rfl, rfl⟩
      go_wp2_with fail
      clear HP hadd
      go_loopw [6, 7] (fun yv bv wr2 => ∃ (b y : Nat), bv = .int .u64 b ∧ 1 ≤ b ∧ b ≤ 33 ∧ yv = .int .u64 y ∧ Hid (rx p (kk third) x (b - 1) = y) ∧ Fr [] w wr2) (fun _ bv _ => 33 - (intOf bv).toNat)
      case atStart => exact ⟨1, x, rfl, by omega, by omega, rfl, hid rfl, f⟩
      case round =>
        obtain ⟨b, y2', rfl, hb1, hb2, rfl, HY, f⟩ := hrel
        obtain ⟨bd1, bd2⟩ := rx_bd p (kk third) x (b - 1)
        have HY2 := HY.out
        rw [HY2] at bd1 bd2
        by_cases hb : b ≤ 32
        case pos =>
          have h2 : decide ((b : Int) ≤ 32) = true := by simp; omega
          have h2' : decide (b ≤ 32) = true := by simp; omega
          have hpw : 2 ^ (b - 1) ≤ 2 ^ 31 := Nat.pow_le_pow_right (by decide) (by omega)
          have hyb : y2' ≤ 21 * 2 ^ 31 := by
            have := Nat.mul_le_mul (show x + 1 ≤ 21 by omega) hpw
            omega
          have hmul : ∀ t, binOp .mul t (.int .u64 2) (.int .u64 (y2' : Int)) = pure (.int .u64 ((2 * y2' : Nat) : Int)) := fun t => mulU t 2 y2' (by omega)
          have hadd : ∀ t, binOp .add t (.int .u64 ((2 * y2' : Nat) : Int)) (.int .u64 1) = pure (.int .u64 ((2 * y2' + 1 : Nat) : Int)) := fun t => addU t (2 * y2') 1 (by omega)
          have haddb : ∀ t, binOp .add t (.int .u64 (b : Int)) (.int .u64 1) = pure (.int .u64 ((b + 1 : Nat) : Int)) := fun t => addU t b 1 (by omega)
          have hstep : rx p (kk third) x b = if (2 * y2' + 1) ^ kk third ≤ p * 2 ^ (kk third * b) then 2 * y2' + 1 else 2 * y2' := by
            have e : b = (b - 1) + 1 := by omega
            rw [e, rx, HY2, ← e]
          have HA := hid fun w0 : World => atmost_any (w := w0) (2 * y2' + 1) p b third (by omega) (by omega) hb
          obtain ⟨D, hD⟩ : ∃ D, decide ((2 * y2' + 1) ^ kk third ≤ p * 2 ^ (kk third * b)) = D := ⟨_, rfl⟩
          rw [hD] at HA
          obtain ⟨z, hz⟩ : ∃ z, 2 * y2' = z := ⟨_, rfl⟩
          rw [hz] at hmul hadd HA hstep hD
          obtain ⟨z1, hz1⟩ : ∃ z1, z + 1 = z1 := ⟨_, rfl⟩
          rw [hz1] at hadd HA hstep hD
          obtain ⟨b1, hbb⟩ : ∃ b1, b + 1 = b1 := ⟨_, rfl⟩
          rw [hbb] at haddb
          have Hbb := hid (show b1 - 1 = b by omega)
          have hb3 : b1 ≤ 33 ∧ 1 ≤ b1 ∧ b < b1 := by omega
          have Hst := hid hstep
          cases D
          case true =>
            have Hfin := hid (show rx p (kk third) x (b1 - 1) = z1 by rw [Hbb.out, Hst.out, if_pos (of_decide_eq_true hD)])
            clear hD hz hz1 hbb hstep HY HY2 bd1 bd2 hpw hyb
            go_wp2_with fail
            refine (HA.out _).mono ?_
            rintro e w2 ⟨rfl, f2⟩
            go_wp2_with fail
            go_roundw
            case rel => exact ⟨b1, z1, rfl, hb3.2.1, hb3.1, rfl, Hfin, f.trans' f2⟩
            case measure => simp [intOf]; omega
          case false =>
            have Hfin := hid (show rx p (kk third) x (b1 - 1) = z by rw [Hbb.out, Hst.out, if_neg (of_decide_eq_false hD)])
            clear hD hz hz1 hbb hstep HY HY2 bd1 bd2 hpw hyb
            go_wp2_with fail
            refine (HA.out _).mono ?_
            rintro e w2 ⟨rfl, f2⟩
            go_wp2_with fail
            go_roundw
            case rel => exact ⟨b1, z, rfl, hb3.2.1, hb3.1, rfl, Hfin, f.trans' f2⟩
            case measure => simp [intOf]; omega
        case neg =>
          have h2 : decide ((b : Int) ≤ 32) = false := by simp; omega
          have h2' : decide (b ≤ 32) = false := by simp; omega
          have hb33 : b - 1 = 32 := by omega
          rw [hb33] at bd1 bd2 HY2
          have e32 : 2 ^ 32 = 4294967296 := by decide
          rw [e32] at bd1 bd2
          have hshl : ∀ t, binOp .shl t (.int .u64 (x : Int)) (.int .u64 32) = pure (.int .u64 ((x * 4294967296 : Nat) : Int)) := fun t => shlU t x (by omega)
          have hsub : ∀ t, binOp .sub t (.int .u64 (y2' : Int)) (.int .u64 ((x * 4294967296 : Nat) : Int)) = pure (.int .u64 ((y2' - x * 4294967296 : Nat) : Int)) := fun t => subU t y2' _ bd1 (by omega)
          have HR := hid (show rootN p (kk third) = y2' - x * 4294967296 by
            unfold rootN
            rw [show wN p (kk third) 30 0 = x from HW0.out.trans Hxw.out.symm, HY2])
          obtain ⟨v1, hv1⟩ : ∃ v1, x * 4294967296 = v1 := ⟨_, rfl⟩
          rw [hv1] at hshl hsub HR bd1
          obtain ⟨v2, hv2⟩ : ∃ v2, y2' - v1 = v2 := ⟨_, rfl⟩
          rw [hv2] at hsub HR
          have hcv : ∀ w0 : World, (convert 42 28 (.int .u64 (v2 : Int))).run Try.prog w0 = .ok (.int .u32 (v2 : Int)) w0 := fun w0 => cvU32 w0 v2 (by omega)
          clear hv1 hv2 bd1 bd2 HY HY2 hb33
          go_wp2_with fail
          go_ret
          rw [HR.out]
          exact ⟨rfl, f⟩
end Go.Proofs.Ytkohnmlnpbkphaa
