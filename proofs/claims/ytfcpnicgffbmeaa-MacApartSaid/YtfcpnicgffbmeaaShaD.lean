/- Layer 1, sha: roots of small numbers. -/
import Derived.Test.YtfcpnicgffbmeaaShaA
import Derived.Shelf.Bits.Mul64
import Derived.Outline
namespace Go.Proofs.Ytfcpnicgffbmeaa
open Go Go.Xr Go.RowKit
set_option linter.unusedVariables false
set_option linter.unusedSimpArgs false

theorem mul64_any (x y : Nat) (hx : x < 18446744073709551616) (hy : y < 18446744073709551616) (w : World) :
    Calls Try.prog 40 #[.int .u64 x, .int .u64 y] w fun e w' => e = .returned (.tuple #[.int .u64 ((x * y / 18446744073709551616 : Nat) : Int), .int .u64 ((x * y % 18446744073709551616 : Nat) : Int)]) ∧ w = w' := by
  obtain ⟨bd, bt, bw, hhi⟩ := Lib.mul64_hi x y hx hy
  have ba := Lib.half_mul_le (a := x / 4294967296) (b := y / 4294967296) (by omega) (by omega)
  have bb := Lib.half_mul_le (a := x / 4294967296) (b := y % 4294967296) (by omega) (by omega)
  have bc := Lib.half_mul_le (a := x % 4294967296) (b := y / 4294967296) (by omega) (by omega)
  have ba' : x / 4294967296 * (y / 4294967296) < 18446744073709551616 := by omega
  have bb' : x / 4294967296 * (y % 4294967296) < 18446744073709551616 := by omega
  have bc' : x % 4294967296 * (y / 4294967296) < 18446744073709551616 := by omega
  have bh1 : x / 4294967296 * (y / 4294967296) + (x / 4294967296 * (y % 4294967296) + x % 4294967296 * (y % 4294967296) / 4294967296) / 4294967296 < 18446744073709551616 := by omega
  have bh : x / 4294967296 * (y / 4294967296) + (x / 4294967296 * (y % 4294967296) + x % 4294967296 * (y % 4294967296) / 4294967296) / 4294967296 + ((x / 4294967296 * (y % 4294967296) + x % 4294967296 * (y % 4294967296) / 4294967296) % 4294967296 + x % 4294967296 * (y / 4294967296)) / 4294967296 < 18446744073709551616 := by omega
  go_enter Try.func40, Try.ntmps40
  go_wp2
  simp only [Mul64.maskN x hx, Mul64.maskN y hy, Mul64.divN, Mul64.mulN, Mul64.addN, Mul64.wrapN _ bd, Mul64.wrapN _ bb', Mul64.wrapN _ bt, Mul64.maskN _ bt, Mul64.wrapN _ bc', Mul64.wrapN _ bw, Mul64.wrapN _ ba', Mul64.wrapN _ bh1, Mul64.wrapN _ bh, Mul64.wrapM (x * y)]
  rw [hhi]
  go_ret2
  exact ⟨rfl, rfl⟩

def sqB (x p : Nat) : Bool := decide (x * x ≤ p * 18446744073709551616)
def cuB (x p : Nat) : Bool := decide (x * x * x ≤ p * 79228162514264337593543950336)

theorem bool3 (a b c : Bool) (P : Prop) [Decidable P] (h : P ↔ (a = true ∨ (b = true ∧ c = true))) : (if a = true then true else if b = true then c else false) = decide P := by
  cases a <;> cases b <;> cases c <;> simp_all

theorem square_any (x p : Nat) (hx : x < 18446744073709551616) (hp : p < 18446744073709551616) (w : World) :
    Calls Try.prog 35 #[.int .u64 x, .int .u64 p] w fun e w' => e = .returned (.bool (sqB x p)) ∧ w = w' := by
  have hm := mul64_any x x hx hx w
  have hq : x * x = x * x / 18446744073709551616 * 18446744073709551616 + x * x % 18446744073709551616 := by omega
  have hl : x * x % 18446744073709551616 < 18446744073709551616 := Nat.mod_lt _ (by decide)
  generalize x * x / 18446744073709551616 = H at *
  generalize x * x % 18446744073709551616 = L at *
  have Hq := hid hq
  clear hq
  have fin : ∀ b : Bool, (b = true ↔ (H < p ∨ (H = p ∧ L = 0))) → Ending.returned (.bool b) = .returned (.bool (sqB x p)) := by
    intro b hb
    have : b = sqB x p := by
      rw [Bool.eq_iff_iff, hb]
      unfold sqB
      rw [decide_eq_true_iff, Hq.out]
      omega
    rw [this]
  have Fin := hid fin
  clear fin
  by_cases h1 : H < p
  · have e1 : decide ((H : Int) < (p : Int)) = true := by simp; omega
    go_enter Try.func35, Try.ntmps35
    go_wp2_with (go_at_call 40; refine hm.mono ?_; rintro e w' ⟨rfl, rfl⟩)
    go_ret
    exact ⟨Fin.out _ (by simp [h1]), rfl⟩
  · have e1 : decide ((H : Int) < (p : Int)) = false := by simp; omega
    by_cases h2 : H = p
    · subst h2
      have e2 : ((H : Int) == (H : Int)) = true := by simp
      go_enter Try.func35, Try.ntmps35
      go_wp2_with (go_at_call 40; refine hm.mono ?_; rintro e w' ⟨rfl, rfl⟩)
      go_ret
      exact ⟨Fin.out _ (by simp), rfl⟩
    · have e2 : ((H : Int) == (p : Int)) = false := by simp; omega
      go_enter Try.func35, Try.ntmps35
      go_wp2_with (go_at_call 40; refine hm.mono ?_; rintro e w' ⟨rfl, rfl⟩)
      go_ret
      exact ⟨Fin.out _ (by simp [h2, h1]), rfl⟩

theorem cube_parts (x H L H2 L2 : Nat) (h1 : x * x = H * 18446744073709551616 + L) (h2 : L * x = H2 * 18446744073709551616 + L2) : x * x * x = (H * x + H2) * 18446744073709551616 + L2 := by
  rw [h1, Nat.add_mul, h2, Nat.add_mul, Nat.mul_right_comm]
  omega

set_option maxHeartbeats 400000 in
theorem cube_any (x p : Nat) (hx : x < 137438953472) (hp : p < 1048576) (w : World) :
    Calls Try.prog 36 #[.int .u64 x, .int .u64 p] w fun e w' => e = .returned (.bool (cuB x p)) ∧ w = w' := by
  have hm := mul64_any x x (by omega) (by omega) w
  have hq : x * x = x * x / 18446744073709551616 * 18446744073709551616 + x * x % 18446744073709551616 := by omega
  have hl : x * x % 18446744073709551616 < 18446744073709551616 := Nat.mod_lt _ (by decide)
  have hHx : x * x / 18446744073709551616 < 1024 := by
    have : x * x < 137438953472 * 137438953472 := Nat.mul_lt_mul'' hx hx
    omega
  generalize x * x / 18446744073709551616 = H at *
  generalize x * x % 18446744073709551616 = L at *
  have hm2 := mul64_any L x hl (by omega) w
  have hq2 : L * x = L * x / 18446744073709551616 * 18446744073709551616 + L * x % 18446744073709551616 := by omega
  have hl2 : L * x % 18446744073709551616 < 18446744073709551616 := Nat.mod_lt _ (by decide)
  have hH2 : L * x / 18446744073709551616 < 137438953472 := by
    have : L * x < 18446744073709551616 * 137438953472 := Nat.mul_lt_mul'' hl hx
    omega
  generalize L * x / 18446744073709551616 = H2 at *
  generalize L * x % 18446744073709551616 = L2 at *
  have hc := cube_parts x H L H2 L2 hq hq2
  have hG : H * x < 140737488355328 := by
    have : H * x < 1024 * 137438953472 := Nat.mul_lt_mul'' hHx hx
    omega
  have hwG : IntKind.u64.wrap ((H : Int) * (x : Int)) = ((H * x : Nat) : Int) := by
    rw [← Int.natCast_mul]
    exact IntWalk.u64_in _ (by omega)
  obtain ⟨G, hGe⟩ : ∃ G, H * x = G := ⟨_, rfl⟩
  rw [hGe] at hc hG hwG
  have Hc := hid hc
  clear hq hq2 hc hGe
  have fin : ∀ b : Bool, (b = true ↔ (G + H2 < p * 4294967296 ∨ (G + H2 = p * 4294967296 ∧ L2 = 0))) → Ending.returned (.bool b) = .returned (.bool (cuB x p)) := by
    intro b hb
    have : b = cuB x p := by
      rw [Bool.eq_iff_iff, hb]
      unfold cuB
      rw [decide_eq_true_iff, Hc.out]
      omega
    rw [this]
  have Fin := hid fin
  clear fin
  by_cases h1 : G + H2 < p * 4294967296
  · have e1 : decide ((G : Int) + (H2 : Int) < (p : Int) * 4294967296) = true := by simp; omega
    go_enter Try.func36, Try.ntmps36
    go_wp2_with fail
    refine hm.mono ?_
    rintro e w' ⟨rfl, rfl⟩
    go_wp2_with fail
    refine hm2.mono ?_
    rintro e w' ⟨rfl, rfl⟩
    go_wp2_with fail
    go_ret
    exact ⟨Fin.out _ (by simp [h1]), rfl⟩
  · have e1 : decide ((G : Int) + (H2 : Int) < (p : Int) * 4294967296) = false := by simp; omega
    by_cases h2 : G + H2 = p * 4294967296
    · have e2 : ((G : Int) + (H2 : Int) == (p : Int) * 4294967296) = true := by simp; omega
      have Hh2 := hid h2
      clear h2
      go_enter Try.func36, Try.ntmps36
      go_wp2_with fail
      refine hm.mono ?_
      rintro e w' ⟨rfl, rfl⟩
      go_wp2_with fail
      refine hm2.mono ?_
      rintro e w' ⟨rfl, rfl⟩
      go_wp2_with fail
      go_ret
      exact ⟨Fin.out _ (by simp [Hh2.out]), rfl⟩
    · have e2 : ((G : Int) + (H2 : Int) == (p : Int) * 4294967296) = false := by simp; omega
      go_enter Try.func36, Try.ntmps36
      go_wp2_with fail
      refine hm.mono ?_
      rintro e w' ⟨rfl, rfl⟩
      go_wp2_with fail
      refine hm2.mono ?_
      rintro e w' ⟨rfl, rfl⟩
      go_wp2_with fail
      go_ret
      exact ⟨Fin.out _ (by simp [h2, h1]), rfl⟩

/-- A root, bit by bit: the bits from b - 1 down. -/
def rootF (t : Nat → Bool) : Nat → Nat → Nat
  | 0, x => x
  | b + 1, x => rootF t b (if t (x + 2 ^ b) then x + 2 ^ b else x)

theorem or_bit (x : UInt64) (c : Nat) (hc : c < 37) (hx : x.toNat % 2 ^ (c + 1) = 0) : (x ||| shl64 1 c).toNat = x.toNat + 2 ^ c := by
  have h1 : (shl64 1 c).toNat = 2 ^ c := by
    unfold shl64
    show ((1 : UInt64).toBitVec <<< c).toNat = 2 ^ c
    rw [BitVec.toNat_shiftLeft, Nat.shiftLeft_eq]
    have : (1 : UInt64).toBitVec.toNat = 1 := rfl
    rw [this, Nat.one_mul]
    exact Nat.mod_eq_of_lt (Nat.pow_lt_pow_right (by decide) (by omega))
  rw [UInt64.toNat_or, h1]
  obtain ⟨q, hq⟩ : ∃ q, x.toNat = 2 ^ (c + 1) * q := ⟨x.toNat / 2 ^ (c + 1), by have := Nat.div_add_mod x.toNat (2 ^ (c + 1)); omega⟩
  rw [hq, Nat.two_pow_add_eq_or_of_lt (Nat.pow_lt_pow_right (by decide) (Nat.lt_succ_self c))]

def fracW (t : Nat → Bool) : UInt32 := (rootF t 37 0).toUInt32
theorem shl1 (c : Nat) (hc : c < 37) (t : TypeId) : binOp .shl t (.int .u64 1) (.int .u64 (c : Int)) = pure (W64 (shl64 1 c)) := by
  have := shl_u64 t 1 .u64 c (by omega)
  rw [Int.toNat_natCast] at this
  exact this

attribute [local go_sem] or_u64
theorem cv64_32 (w : World) (a : UInt64) : (convert 48 52 (W64 a)).run Try.prog w = .ok (W32 a.toUInt32) w := conv_u64_u32 w _ _ a Try.underlying48 Try.underlying52 rfl
attribute [local go_sem] cv64_32

theorem frac_any (F : Nat) (p : Nat) (t : Nat → Bool) (hF : ∀ (x : Nat) (w : World), x < 137438953472 → Calls Try.prog F #[.int .u64 x, .int .u64 p] w fun e w' => e = .returned (.bool (t x)) ∧ w = w') (hFn : F = 35 ∨ F = 36) (w : World) :
    Calls Try.prog 34 #[.int .u64 p, .func (.func F) #[] #[]] w fun e w' => e = .returned (W32 (fracW t)) ∧ w = w' := by
  have HF := hid hF
  clear hF
  rcases hFn with rfl | rfl
  all_goals
    go_enter Try.func34, Try.ntmps34
    go_wp2_with fail
    go_loop [5, 6] (fun xv bv => ∃ (b : Nat) (x : UInt64), b ≤ 37 ∧ bv = .int .i64 ((b : Int) - 1) ∧ xv = W64 x ∧ x.toNat % 2 ^ b = 0 ∧ x.toNat + 2 ^ b ≤ 137438953472 ∧ Hid (rootF t b x.toNat = rootF t 37 0)) (fun _ bv => (intOf bv + 1).toNat)
    case atStart => exact ⟨37, 0, by omega, rfl, rfl, rfl, by decide, rfl⟩
    case round =>
      obtain ⟨b, x, hb, rfl, rfl, hx1, hx2, hr⟩ := hrel
      cases b with
      | zero =>
        clear hx1 hx2
        go_wp2_with fail
        go_ret
        refine ⟨?_, rfl⟩
        have : x.toUInt32 = fracW t := by
          unfold fracW
          rw [← hr.out]
          rfl
        rw [this]
        rfl
      | succ c =>
        have em : ((c + 1 : Nat) : Int) - 1 = (c : Int) := by omega
        have hy := or_bit x c (by omega) hx1
        have hsh := shl1 c (by omega) 48
        have hp2 : 2 ^ (c + 1) = 2 ^ c + 2 ^ c := by rw [Nat.pow_succ]; omega
        have hxc : x.toNat % 2 ^ c = 0 := by
          have h1 : x.toNat % 2 ^ c = x.toNat % 2 ^ (c + 1) % 2 ^ c := (Nat.mod_mod_of_dvd _ (Nat.pow_dvd_pow 2 (Nat.le_succ c))).symm
          rw [h1, hx1, Nat.zero_mod]
        have hyc : (x ||| shl64 1 c).toNat % 2 ^ c = 0 := by rw [hy, Nat.add_mod_right]; exact hxc
        have hb1 : x.toNat + 2 ^ c ≤ 137438953472 := by omega
        have hb2 : (x ||| shl64 1 c).toNat + 2 ^ c ≤ 137438953472 := by omega
        have hb3 : (x ||| shl64 1 c).toNat < 137438953472 := by have := Nat.two_pow_pos c; omega
        have Hy := hid hy
        have Hxc := hid hxc
        have Hyc := hid hyc
        have Hb1 := hid hb1
        have Hb2 := hid hb2
        have HC := hid (HF.out (x ||| shl64 1 c).toNat)
        clear hx1 hx2 hp2 hy hxc hyc hb1 hb2
        rw [em]
        have hc0 : (0 : Int) ≤ c := by omega
        clear em
        cases htx : t (x ||| shl64 1 c).toNat with
        | true =>
          rw [htx] at HC
          have Ht := hid htx
          clear htx
          go_wp2_with fail
          refine (HC.out _ hb3).mono ?_
          rintro e w' ⟨rfl, rfl⟩
          go_wp2_with fail
          go_round
          case rel => exact ⟨c, _, by omega, rfl, rfl, Hyc.out, Hb2.out, by
            have h2 := hr.out
            rw [rootF, ← Hy.out, Ht.out, if_pos rfl] at h2
            exact h2⟩
          case measure => simp [intOf]
        | false =>
          rw [htx] at HC
          have Ht := hid htx
          clear htx
          go_wp2_with fail
          refine (HC.out _ hb3).mono ?_
          rintro e w' ⟨rfl, rfl⟩
          go_wp2_with fail
          go_round
          case rel => exact ⟨c, _, by omega, rfl, rfl, Hxc.out, Hb1.out, by
            have h2 := hr.out
            rw [rootF, ← Hy.out, Ht.out, if_neg (by decide)] at h2
            exact h2⟩
          case measure => simp [intOf]
end Go.Proofs.Ytfcpnicgffbmeaa
