/- Words of 8, 32 and 64 bits as values that a walk leaves shut: what each operation makes of them. No condition. -/
import Derived.Test.YtflapddkeeiieaaMem
namespace Go.Xr
open Go
set_option linter.unusedVariables false
set_option linter.unusedSimpArgs false

def W32 (x : UInt32) : Value := .int .u32 x.toNat
def W64 (x : UInt64) : Value := .int .u64 x.toNat
/-- A constant as a word. -/
def c8 (n : Int) : UInt8 := ⟨BitVec.ofInt 8 n⟩
def c32 (n : Int) : UInt32 := ⟨BitVec.ofInt 32 n⟩
def c64 (n : Int) : UInt64 := ⟨BitVec.ofInt 64 n⟩
def shl8 (a : UInt8) (n : Nat) : UInt8 := ⟨a.toBitVec <<< n⟩
def shr8 (a : UInt8) (n : Nat) : UInt8 := ⟨a.toBitVec >>> n⟩
def shl32 (a : UInt32) (n : Nat) : UInt32 := ⟨a.toBitVec <<< n⟩
def shr32 (a : UInt32) (n : Nat) : UInt32 := ⟨a.toBitVec >>> n⟩
def shl64 (a : UInt64) (n : Nat) : UInt64 := ⟨a.toBitVec <<< n⟩
def shr64 (a : UInt64) (n : Nat) : UInt64 := ⟨a.toBitVec >>> n⟩

theorem wrap_u8' (n : Int) : IntKind.u8.wrap n = n % 256 := by simp [IntKind.wrap, IntKind.bits, IntKind.signed]
theorem wrap_u32' (n : Int) : IntKind.u32.wrap n = n % 4294967296 := by simp [IntKind.wrap, IntKind.bits, IntKind.signed]
theorem wrap_u64' (n : Int) : IntKind.u64.wrap n = n % 18446744073709551616 := by simp [IntKind.wrap, IntKind.bits, IntKind.signed]
theorem bv_wrap (n : Nat) (x : Int) : ((BitVec.ofInt n x).toNat : Int) = x % (2 ^ n : Nat) := by
  rw [BitVec.toNat_ofInt]
  have : (0 : Int) ≤ x % (2 ^ n : Nat) := Int.emod_nonneg _ (by have := Nat.two_pow_pos n; omega)
  omega
theorem bv_sub (n : Nat) (x y : Int) : BitVec.ofInt n (x - y) = BitVec.ofInt n x - BitVec.ofInt n y := by
  rw [Int.sub_eq_add_neg, BitVec.ofInt_add, BitVec.ofInt_neg, BitVec.sub_eq_add_neg]
theorem ofInt_toNat {n : Nat} (x : BitVec n) : BitVec.ofInt n (x.toNat : Int) = x := by
  apply BitVec.eq_of_toNat_eq
  simp [BitVec.toNat_ofInt]


/-! ### u8 -/
theorem int_u8 (x : Int) : Value.int .u8 (IntKind.u8.wrap x) = bt ⟨BitVec.ofInt 8 x⟩ := by
  unfold bt
  rw [wrap_u8']
  congr 1
  exact (bv_wrap 8 x).symm
theorem val_u8 (a : UInt8) : bt a = .int .u8 a.toNat := rfl
theorem bvi_u8 (a : UInt8) : BitVec.ofInt 8 (a.toNat : Int) = a.toBitVec := ofInt_toNat a.toBitVec
theorem back_u8 (r : BitVec 8) : Value.int .u8 (IntKind.u8.wrap r.toNat) = bt ⟨r⟩ := by rw [int_u8, ofInt_toNat]

theorem add_u8 (t : TypeId) (a b : UInt8) : binOp .add t (bt a) (bt b) = pure (bt (a + b)) := by
  have e : IntKind.u8 = IntKind.u8 := rfl
  simp only [val_u8, binOp, ne_eq, not_true_eq_false, if_false, Op.intArith, int_u8, BitVec.ofInt_add, bvi_u8]
  rfl
theorem add_u8_c (t : TypeId) (a : UInt8) (n : Int) : binOp .add t (bt a) (.int .u8 n) = pure (bt (a + c8 n)) := by
  have e : IntKind.u8 = IntKind.u8 := rfl
  simp only [val_u8, binOp, ne_eq, not_true_eq_false, if_false, Op.intArith, int_u8, BitVec.ofInt_add, bvi_u8]
  rfl
theorem add_u8c_ (t : TypeId) (n : Int) (b : UInt8) : binOp .add t (.int .u8 n) (bt b) = pure (bt (c8 n + b)) := by
  have e : IntKind.u8 = IntKind.u8 := rfl
  simp only [val_u8, binOp, ne_eq, not_true_eq_false, if_false, Op.intArith, int_u8, BitVec.ofInt_add, bvi_u8]
  rfl
theorem sub_u8 (t : TypeId) (a b : UInt8) : binOp .sub t (bt a) (bt b) = pure (bt (a - b)) := by
  have e : IntKind.u8 = IntKind.u8 := rfl
  simp only [val_u8, binOp, ne_eq, not_true_eq_false, if_false, Op.intArith, int_u8, bv_sub, bvi_u8]
  rfl
theorem sub_u8_c (t : TypeId) (a : UInt8) (n : Int) : binOp .sub t (bt a) (.int .u8 n) = pure (bt (a - c8 n)) := by
  have e : IntKind.u8 = IntKind.u8 := rfl
  simp only [val_u8, binOp, ne_eq, not_true_eq_false, if_false, Op.intArith, int_u8, bv_sub, bvi_u8]
  rfl
theorem sub_u8c_ (t : TypeId) (n : Int) (b : UInt8) : binOp .sub t (.int .u8 n) (bt b) = pure (bt (c8 n - b)) := by
  have e : IntKind.u8 = IntKind.u8 := rfl
  simp only [val_u8, binOp, ne_eq, not_true_eq_false, if_false, Op.intArith, int_u8, bv_sub, bvi_u8]
  rfl
theorem mul_u8 (t : TypeId) (a b : UInt8) : binOp .mul t (bt a) (bt b) = pure (bt (a * b)) := by
  have e : IntKind.u8 = IntKind.u8 := rfl
  simp only [val_u8, binOp, ne_eq, not_true_eq_false, if_false, Op.intArith, int_u8, BitVec.ofInt_mul, bvi_u8]
  rfl
theorem mul_u8_c (t : TypeId) (a : UInt8) (n : Int) : binOp .mul t (bt a) (.int .u8 n) = pure (bt (a * c8 n)) := by
  have e : IntKind.u8 = IntKind.u8 := rfl
  simp only [val_u8, binOp, ne_eq, not_true_eq_false, if_false, Op.intArith, int_u8, BitVec.ofInt_mul, bvi_u8]
  rfl
theorem mul_u8c_ (t : TypeId) (n : Int) (b : UInt8) : binOp .mul t (.int .u8 n) (bt b) = pure (bt (c8 n * b)) := by
  have e : IntKind.u8 = IntKind.u8 := rfl
  simp only [val_u8, binOp, ne_eq, not_true_eq_false, if_false, Op.intArith, int_u8, BitVec.ofInt_mul, bvi_u8]
  rfl
theorem and_u8 (t : TypeId) (a b : UInt8) : binOp .and t (bt a) (bt b) = pure (bt (a &&& b)) := by
  simp only [val_u8, binOp, ne_eq, not_true_eq_false, if_false, Op.intBits, IntKind.bits, bvi_u8]
  rw [back_u8]
  rfl
theorem and_u8_c (t : TypeId) (a : UInt8) (n : Int) : binOp .and t (bt a) (.int .u8 n) = pure (bt (a &&& (c8 n))) := by
  simp only [val_u8, binOp, ne_eq, not_true_eq_false, if_false, Op.intBits, IntKind.bits, bvi_u8]
  rw [back_u8]
  rfl
theorem and_u8c_ (t : TypeId) (n : Int) (b : UInt8) : binOp .and t (.int .u8 n) (bt b) = pure (bt (c8 n &&& b)) := by
  simp only [val_u8, binOp, ne_eq, not_true_eq_false, if_false, Op.intBits, IntKind.bits, bvi_u8]
  rw [back_u8]
  rfl
theorem or_u8 (t : TypeId) (a b : UInt8) : binOp .or t (bt a) (bt b) = pure (bt (a ||| b)) := by
  simp only [val_u8, binOp, ne_eq, not_true_eq_false, if_false, Op.intBits, IntKind.bits, bvi_u8]
  rw [back_u8]
  rfl
theorem or_u8_c (t : TypeId) (a : UInt8) (n : Int) : binOp .or t (bt a) (.int .u8 n) = pure (bt (a ||| (c8 n))) := by
  simp only [val_u8, binOp, ne_eq, not_true_eq_false, if_false, Op.intBits, IntKind.bits, bvi_u8]
  rw [back_u8]
  rfl
theorem or_u8c_ (t : TypeId) (n : Int) (b : UInt8) : binOp .or t (.int .u8 n) (bt b) = pure (bt (c8 n ||| b)) := by
  simp only [val_u8, binOp, ne_eq, not_true_eq_false, if_false, Op.intBits, IntKind.bits, bvi_u8]
  rw [back_u8]
  rfl
theorem xor_u8 (t : TypeId) (a b : UInt8) : binOp .xor t (bt a) (bt b) = pure (bt (a ^^^ b)) := by
  simp only [val_u8, binOp, ne_eq, not_true_eq_false, if_false, Op.intBits, IntKind.bits, bvi_u8]
  rw [back_u8]
  rfl
theorem xor_u8_c (t : TypeId) (a : UInt8) (n : Int) : binOp .xor t (bt a) (.int .u8 n) = pure (bt (a ^^^ (c8 n))) := by
  simp only [val_u8, binOp, ne_eq, not_true_eq_false, if_false, Op.intBits, IntKind.bits, bvi_u8]
  rw [back_u8]
  rfl
theorem xor_u8c_ (t : TypeId) (n : Int) (b : UInt8) : binOp .xor t (.int .u8 n) (bt b) = pure (bt (c8 n ^^^ b)) := by
  simp only [val_u8, binOp, ne_eq, not_true_eq_false, if_false, Op.intBits, IntKind.bits, bvi_u8]
  rw [back_u8]
  rfl
theorem andNot_u8 (t : TypeId) (a b : UInt8) : binOp .andNot t (bt a) (bt b) = pure (bt (a &&& ~~~b)) := by
  simp only [val_u8, binOp, ne_eq, not_true_eq_false, if_false, Op.intBits, IntKind.bits, bvi_u8]
  rw [back_u8]
  rfl
theorem andNot_u8_c (t : TypeId) (a : UInt8) (n : Int) : binOp .andNot t (bt a) (.int .u8 n) = pure (bt (a &&& ~~~(c8 n))) := by
  simp only [val_u8, binOp, ne_eq, not_true_eq_false, if_false, Op.intBits, IntKind.bits, bvi_u8]
  rw [back_u8]
  rfl
theorem andNot_u8c_ (t : TypeId) (n : Int) (b : UInt8) : binOp .andNot t (.int .u8 n) (bt b) = pure (bt (c8 n &&& ~~~b)) := by
  simp only [val_u8, binOp, ne_eq, not_true_eq_false, if_false, Op.intBits, IntKind.bits, bvi_u8]
  rw [back_u8]
  rfl
theorem eql_u8 (t : TypeId) (a b : UInt8) : binOp .eql t (bt a) (bt b) = pure (.bool (a == b)) := by
  simp only [val_u8, binOp, ne_eq, not_true_eq_false, if_false, Op.intCmp]
  rw [show ((a.toNat : Int) == (b.toNat : Int)) = (a == b) from by rw [Bool.eq_iff_iff]; simp [← UInt8.toNat_inj]; omega]
theorem eql_u8_c (t : TypeId) (a : UInt8) (n : Int) : binOp .eql t (bt a) (.int .u8 n) = pure (.bool ((a.toNat : Int) == n)) := by
  simp only [val_u8, binOp, ne_eq, not_true_eq_false, if_false, Op.intCmp]
theorem neq_u8 (t : TypeId) (a b : UInt8) : binOp .neq t (bt a) (bt b) = pure (.bool (a != b)) := by
  simp only [val_u8, binOp, ne_eq, not_true_eq_false, if_false, Op.intCmp]
  rw [show ((a.toNat : Int) != (b.toNat : Int)) = (a != b) from by rw [Bool.eq_iff_iff]; simp [← UInt8.toNat_inj]; omega]
theorem neq_u8_c (t : TypeId) (a : UInt8) (n : Int) : binOp .neq t (bt a) (.int .u8 n) = pure (.bool ((a.toNat : Int) != n)) := by
  simp only [val_u8, binOp, ne_eq, not_true_eq_false, if_false, Op.intCmp]
theorem lss_u8 (t : TypeId) (a b : UInt8) : binOp .lss t (bt a) (bt b) = pure (.bool (decide (a < b))) := by
  simp only [val_u8, binOp, ne_eq, not_true_eq_false, if_false, Op.intCmp]
  rw [show (decide ((a.toNat : Int) < b.toNat)) = (decide (a < b)) from by rw [Bool.eq_iff_iff]; simp [UInt8.lt_iff_toNat_lt, UInt8.le_iff_toNat_le]]
theorem lss_u8_c (t : TypeId) (a : UInt8) (n : Int) : binOp .lss t (bt a) (.int .u8 n) = pure (.bool (decide ((a.toNat : Int) < n))) := by
  simp only [val_u8, binOp, ne_eq, not_true_eq_false, if_false, Op.intCmp]
theorem leq_u8 (t : TypeId) (a b : UInt8) : binOp .leq t (bt a) (bt b) = pure (.bool (decide (a ≤ b))) := by
  simp only [val_u8, binOp, ne_eq, not_true_eq_false, if_false, Op.intCmp]
  rw [show (decide ((a.toNat : Int) ≤ b.toNat)) = (decide (a ≤ b)) from by rw [Bool.eq_iff_iff]; simp [UInt8.lt_iff_toNat_lt, UInt8.le_iff_toNat_le]]
theorem leq_u8_c (t : TypeId) (a : UInt8) (n : Int) : binOp .leq t (bt a) (.int .u8 n) = pure (.bool (decide ((a.toNat : Int) ≤ n))) := by
  simp only [val_u8, binOp, ne_eq, not_true_eq_false, if_false, Op.intCmp]
theorem gtr_u8 (t : TypeId) (a b : UInt8) : binOp .gtr t (bt a) (bt b) = pure (.bool (decide (b < a))) := by
  simp only [val_u8, binOp, ne_eq, not_true_eq_false, if_false, Op.intCmp]
  rw [show (decide ((a.toNat : Int) > b.toNat)) = (decide (b < a)) from by rw [Bool.eq_iff_iff]; simp [UInt8.lt_iff_toNat_lt, UInt8.le_iff_toNat_le]]
theorem gtr_u8_c (t : TypeId) (a : UInt8) (n : Int) : binOp .gtr t (bt a) (.int .u8 n) = pure (.bool (decide ((a.toNat : Int) > n))) := by
  simp only [val_u8, binOp, ne_eq, not_true_eq_false, if_false, Op.intCmp]
theorem geq_u8 (t : TypeId) (a b : UInt8) : binOp .geq t (bt a) (bt b) = pure (.bool (decide (b ≤ a))) := by
  simp only [val_u8, binOp, ne_eq, not_true_eq_false, if_false, Op.intCmp]
  rw [show (decide ((a.toNat : Int) ≥ b.toNat)) = (decide (b ≤ a)) from by rw [Bool.eq_iff_iff]; simp [UInt8.lt_iff_toNat_lt, UInt8.le_iff_toNat_le]]
theorem geq_u8_c (t : TypeId) (a : UInt8) (n : Int) : binOp .geq t (bt a) (.int .u8 n) = pure (.bool (decide ((a.toNat : Int) ≥ n))) := by
  simp only [val_u8, binOp, ne_eq, not_true_eq_false, if_false, Op.intCmp]
theorem not_u8 (a : UInt8) : Op.unary .xor (bt a) = pure (bt (~~~a)) := by
  have h : BitVec.ofInt 8 IntKind.u8.max = BitVec.allOnes 8 := by decide
  have e : Op.unary .xor (bt a) = Op.intBits .xor .u8 IntKind.u8.max a.toNat := rfl
  rw [e]
  simp only [Op.intBits, IntKind.bits, bvi_u8, h, BitVec.allOnes_xor]
  rw [back_u8]
  rfl
theorem shl_u8 (t : TypeId) (a : UInt8) (yk : IntKind) (n : Int) (h : 0 ≤ n) : binOp .shl t (bt a) (.int yk n) = pure (bt (shl8 a n.toNat)) := by
  have hn : ¬ n < 0 := by omega
  simp only [val_u8, binOp, Op.shift, hn, if_false, IntKind.bits]
  have e : Value.int .u8 (IntKind.u8.wrap ((a.toNat : Int) * 2 ^ min n.toNat 8)) = Value.int .u8 ((shl8 a n.toNat).toNat : Int) := by
    rw [wrap_u8']
    congr 1
    unfold shl8
    show _ = ((a.toBitVec <<< n.toNat).toNat : Int)
    rw [BitVec.toNat_shiftLeft, Nat.shiftLeft_eq]
    have e2 : a.toBitVec.toNat = a.toNat := rfl
    rw [e2]
    by_cases hm : n.toNat ≤ 8
    · rw [Nat.min_eq_left hm]
      rw [Int.natCast_emod, Int.natCast_mul, Int.natCast_pow]
      rfl
    · rw [Nat.min_eq_right (by omega)]
      obtain ⟨j, hj⟩ : ∃ j, n.toNat = 8 + j := ⟨n.toNat - 8, by omega⟩
      have e3 : ((a.toNat * 2 ^ n.toNat) % 2 ^ 8 : Nat) = 0 := by
        rw [hj, Nat.pow_add, ← Nat.mul_assoc, Nat.mul_right_comm, Nat.mul_mod_left]
      rw [e3]
      exact Int.mul_emod_left _ _
  rw [e]
theorem shr_u8 (t : TypeId) (a : UInt8) (yk : IntKind) (n : Int) (h : 0 ≤ n) : binOp .shr t (bt a) (.int yk n) = pure (bt (shr8 a n.toNat)) := by
  have hn : ¬ n < 0 := by omega
  simp only [val_u8, binOp, Op.shift, hn, if_false, IntKind.bits]
  have e : Value.int .u8 ((a.toNat : Int).fdiv (2 ^ min n.toNat 8)) = Value.int .u8 ((shr8 a n.toNat).toNat : Int) := by
    congr 1
    unfold shr8
    show _ = ((a.toBitVec >>> n.toNat).toNat : Int)
    rw [BitVec.toNat_ushiftRight, Nat.shiftRight_eq_div_pow]
    have e2 : a.toBitVec.toNat = a.toNat := rfl
    rw [e2]
    have e4 : ∀ j : Nat, (a.toNat : Int).fdiv (2 ^ j) = ((a.toNat / 2 ^ j : Nat) : Int) := fun j => by
      rw [Int.fdiv_eq_ediv_of_nonneg _ (by exact Int.pow_nonneg (by decide))]
      rw [Int.natCast_ediv, Int.natCast_pow]
      rfl
    rw [e4]
    by_cases hm : n.toNat ≤ 8
    · rw [Nat.min_eq_left hm]
    · rw [Nat.min_eq_right (by omega)]
      have h1 : a.toNat < 2 ^ 8 := a.toBitVec.isLt
      have h2 : a.toNat < 2 ^ n.toNat := Nat.lt_of_lt_of_le h1 (Nat.pow_le_pow_right (by decide) (by omega))
      rw [Nat.div_eq_of_lt h1, Nat.div_eq_of_lt h2]
  rw [e]


/-! ### u32 -/
theorem int_u32 (x : Int) : Value.int .u32 (IntKind.u32.wrap x) = W32 ⟨BitVec.ofInt 32 x⟩ := by
  unfold W32
  rw [wrap_u32']
  congr 1
  exact (bv_wrap 32 x).symm
theorem val_u32 (a : UInt32) : W32 a = .int .u32 a.toNat := rfl
theorem bvi_u32 (a : UInt32) : BitVec.ofInt 32 (a.toNat : Int) = a.toBitVec := ofInt_toNat a.toBitVec
theorem back_u32 (r : BitVec 32) : Value.int .u32 (IntKind.u32.wrap r.toNat) = W32 ⟨r⟩ := by rw [int_u32, ofInt_toNat]

theorem add_u32 (t : TypeId) (a b : UInt32) : binOp .add t (W32 a) (W32 b) = pure (W32 (a + b)) := by
  have e : IntKind.u32 = IntKind.u32 := rfl
  simp only [val_u32, binOp, ne_eq, not_true_eq_false, if_false, Op.intArith, int_u32, BitVec.ofInt_add, bvi_u32]
  rfl
theorem add_u32_c (t : TypeId) (a : UInt32) (n : Int) : binOp .add t (W32 a) (.int .u32 n) = pure (W32 (a + c32 n)) := by
  have e : IntKind.u32 = IntKind.u32 := rfl
  simp only [val_u32, binOp, ne_eq, not_true_eq_false, if_false, Op.intArith, int_u32, BitVec.ofInt_add, bvi_u32]
  rfl
theorem add_u32c_ (t : TypeId) (n : Int) (b : UInt32) : binOp .add t (.int .u32 n) (W32 b) = pure (W32 (c32 n + b)) := by
  have e : IntKind.u32 = IntKind.u32 := rfl
  simp only [val_u32, binOp, ne_eq, not_true_eq_false, if_false, Op.intArith, int_u32, BitVec.ofInt_add, bvi_u32]
  rfl
theorem sub_u32 (t : TypeId) (a b : UInt32) : binOp .sub t (W32 a) (W32 b) = pure (W32 (a - b)) := by
  have e : IntKind.u32 = IntKind.u32 := rfl
  simp only [val_u32, binOp, ne_eq, not_true_eq_false, if_false, Op.intArith, int_u32, bv_sub, bvi_u32]
  rfl
theorem sub_u32_c (t : TypeId) (a : UInt32) (n : Int) : binOp .sub t (W32 a) (.int .u32 n) = pure (W32 (a - c32 n)) := by
  have e : IntKind.u32 = IntKind.u32 := rfl
  simp only [val_u32, binOp, ne_eq, not_true_eq_false, if_false, Op.intArith, int_u32, bv_sub, bvi_u32]
  rfl
theorem sub_u32c_ (t : TypeId) (n : Int) (b : UInt32) : binOp .sub t (.int .u32 n) (W32 b) = pure (W32 (c32 n - b)) := by
  have e : IntKind.u32 = IntKind.u32 := rfl
  simp only [val_u32, binOp, ne_eq, not_true_eq_false, if_false, Op.intArith, int_u32, bv_sub, bvi_u32]
  rfl
theorem mul_u32 (t : TypeId) (a b : UInt32) : binOp .mul t (W32 a) (W32 b) = pure (W32 (a * b)) := by
  have e : IntKind.u32 = IntKind.u32 := rfl
  simp only [val_u32, binOp, ne_eq, not_true_eq_false, if_false, Op.intArith, int_u32, BitVec.ofInt_mul, bvi_u32]
  rfl
theorem mul_u32_c (t : TypeId) (a : UInt32) (n : Int) : binOp .mul t (W32 a) (.int .u32 n) = pure (W32 (a * c32 n)) := by
  have e : IntKind.u32 = IntKind.u32 := rfl
  simp only [val_u32, binOp, ne_eq, not_true_eq_false, if_false, Op.intArith, int_u32, BitVec.ofInt_mul, bvi_u32]
  rfl
theorem mul_u32c_ (t : TypeId) (n : Int) (b : UInt32) : binOp .mul t (.int .u32 n) (W32 b) = pure (W32 (c32 n * b)) := by
  have e : IntKind.u32 = IntKind.u32 := rfl
  simp only [val_u32, binOp, ne_eq, not_true_eq_false, if_false, Op.intArith, int_u32, BitVec.ofInt_mul, bvi_u32]
  rfl
theorem and_u32 (t : TypeId) (a b : UInt32) : binOp .and t (W32 a) (W32 b) = pure (W32 (a &&& b)) := by
  simp only [val_u32, binOp, ne_eq, not_true_eq_false, if_false, Op.intBits, IntKind.bits, bvi_u32]
  rw [back_u32]
  rfl
theorem and_u32_c (t : TypeId) (a : UInt32) (n : Int) : binOp .and t (W32 a) (.int .u32 n) = pure (W32 (a &&& (c32 n))) := by
  simp only [val_u32, binOp, ne_eq, not_true_eq_false, if_false, Op.intBits, IntKind.bits, bvi_u32]
  rw [back_u32]
  rfl
theorem and_u32c_ (t : TypeId) (n : Int) (b : UInt32) : binOp .and t (.int .u32 n) (W32 b) = pure (W32 (c32 n &&& b)) := by
  simp only [val_u32, binOp, ne_eq, not_true_eq_false, if_false, Op.intBits, IntKind.bits, bvi_u32]
  rw [back_u32]
  rfl
theorem or_u32 (t : TypeId) (a b : UInt32) : binOp .or t (W32 a) (W32 b) = pure (W32 (a ||| b)) := by
  simp only [val_u32, binOp, ne_eq, not_true_eq_false, if_false, Op.intBits, IntKind.bits, bvi_u32]
  rw [back_u32]
  rfl
theorem or_u32_c (t : TypeId) (a : UInt32) (n : Int) : binOp .or t (W32 a) (.int .u32 n) = pure (W32 (a ||| (c32 n))) := by
  simp only [val_u32, binOp, ne_eq, not_true_eq_false, if_false, Op.intBits, IntKind.bits, bvi_u32]
  rw [back_u32]
  rfl
theorem or_u32c_ (t : TypeId) (n : Int) (b : UInt32) : binOp .or t (.int .u32 n) (W32 b) = pure (W32 (c32 n ||| b)) := by
  simp only [val_u32, binOp, ne_eq, not_true_eq_false, if_false, Op.intBits, IntKind.bits, bvi_u32]
  rw [back_u32]
  rfl
theorem xor_u32 (t : TypeId) (a b : UInt32) : binOp .xor t (W32 a) (W32 b) = pure (W32 (a ^^^ b)) := by
  simp only [val_u32, binOp, ne_eq, not_true_eq_false, if_false, Op.intBits, IntKind.bits, bvi_u32]
  rw [back_u32]
  rfl
theorem xor_u32_c (t : TypeId) (a : UInt32) (n : Int) : binOp .xor t (W32 a) (.int .u32 n) = pure (W32 (a ^^^ (c32 n))) := by
  simp only [val_u32, binOp, ne_eq, not_true_eq_false, if_false, Op.intBits, IntKind.bits, bvi_u32]
  rw [back_u32]
  rfl
theorem xor_u32c_ (t : TypeId) (n : Int) (b : UInt32) : binOp .xor t (.int .u32 n) (W32 b) = pure (W32 (c32 n ^^^ b)) := by
  simp only [val_u32, binOp, ne_eq, not_true_eq_false, if_false, Op.intBits, IntKind.bits, bvi_u32]
  rw [back_u32]
  rfl
theorem andNot_u32 (t : TypeId) (a b : UInt32) : binOp .andNot t (W32 a) (W32 b) = pure (W32 (a &&& ~~~b)) := by
  simp only [val_u32, binOp, ne_eq, not_true_eq_false, if_false, Op.intBits, IntKind.bits, bvi_u32]
  rw [back_u32]
  rfl
theorem andNot_u32_c (t : TypeId) (a : UInt32) (n : Int) : binOp .andNot t (W32 a) (.int .u32 n) = pure (W32 (a &&& ~~~(c32 n))) := by
  simp only [val_u32, binOp, ne_eq, not_true_eq_false, if_false, Op.intBits, IntKind.bits, bvi_u32]
  rw [back_u32]
  rfl
theorem andNot_u32c_ (t : TypeId) (n : Int) (b : UInt32) : binOp .andNot t (.int .u32 n) (W32 b) = pure (W32 (c32 n &&& ~~~b)) := by
  simp only [val_u32, binOp, ne_eq, not_true_eq_false, if_false, Op.intBits, IntKind.bits, bvi_u32]
  rw [back_u32]
  rfl
theorem eql_u32 (t : TypeId) (a b : UInt32) : binOp .eql t (W32 a) (W32 b) = pure (.bool (a == b)) := by
  simp only [val_u32, binOp, ne_eq, not_true_eq_false, if_false, Op.intCmp]
  rw [show ((a.toNat : Int) == (b.toNat : Int)) = (a == b) from by rw [Bool.eq_iff_iff]; simp [← UInt32.toNat_inj]; omega]
theorem eql_u32_c (t : TypeId) (a : UInt32) (n : Int) : binOp .eql t (W32 a) (.int .u32 n) = pure (.bool ((a.toNat : Int) == n)) := by
  simp only [val_u32, binOp, ne_eq, not_true_eq_false, if_false, Op.intCmp]
theorem neq_u32 (t : TypeId) (a b : UInt32) : binOp .neq t (W32 a) (W32 b) = pure (.bool (a != b)) := by
  simp only [val_u32, binOp, ne_eq, not_true_eq_false, if_false, Op.intCmp]
  rw [show ((a.toNat : Int) != (b.toNat : Int)) = (a != b) from by rw [Bool.eq_iff_iff]; simp [← UInt32.toNat_inj]; omega]
theorem neq_u32_c (t : TypeId) (a : UInt32) (n : Int) : binOp .neq t (W32 a) (.int .u32 n) = pure (.bool ((a.toNat : Int) != n)) := by
  simp only [val_u32, binOp, ne_eq, not_true_eq_false, if_false, Op.intCmp]
theorem lss_u32 (t : TypeId) (a b : UInt32) : binOp .lss t (W32 a) (W32 b) = pure (.bool (decide (a < b))) := by
  simp only [val_u32, binOp, ne_eq, not_true_eq_false, if_false, Op.intCmp]
  rw [show (decide ((a.toNat : Int) < b.toNat)) = (decide (a < b)) from by rw [Bool.eq_iff_iff]; simp [UInt32.lt_iff_toNat_lt, UInt32.le_iff_toNat_le]]
theorem lss_u32_c (t : TypeId) (a : UInt32) (n : Int) : binOp .lss t (W32 a) (.int .u32 n) = pure (.bool (decide ((a.toNat : Int) < n))) := by
  simp only [val_u32, binOp, ne_eq, not_true_eq_false, if_false, Op.intCmp]
theorem leq_u32 (t : TypeId) (a b : UInt32) : binOp .leq t (W32 a) (W32 b) = pure (.bool (decide (a ≤ b))) := by
  simp only [val_u32, binOp, ne_eq, not_true_eq_false, if_false, Op.intCmp]
  rw [show (decide ((a.toNat : Int) ≤ b.toNat)) = (decide (a ≤ b)) from by rw [Bool.eq_iff_iff]; simp [UInt32.lt_iff_toNat_lt, UInt32.le_iff_toNat_le]]
theorem leq_u32_c (t : TypeId) (a : UInt32) (n : Int) : binOp .leq t (W32 a) (.int .u32 n) = pure (.bool (decide ((a.toNat : Int) ≤ n))) := by
  simp only [val_u32, binOp, ne_eq, not_true_eq_false, if_false, Op.intCmp]
theorem gtr_u32 (t : TypeId) (a b : UInt32) : binOp .gtr t (W32 a) (W32 b) = pure (.bool (decide (b < a))) := by
  simp only [val_u32, binOp, ne_eq, not_true_eq_false, if_false, Op.intCmp]
  rw [show (decide ((a.toNat : Int) > b.toNat)) = (decide (b < a)) from by rw [Bool.eq_iff_iff]; simp [UInt32.lt_iff_toNat_lt, UInt32.le_iff_toNat_le]]
theorem gtr_u32_c (t : TypeId) (a : UInt32) (n : Int) : binOp .gtr t (W32 a) (.int .u32 n) = pure (.bool (decide ((a.toNat : Int) > n))) := by
  simp only [val_u32, binOp, ne_eq, not_true_eq_false, if_false, Op.intCmp]
theorem geq_u32 (t : TypeId) (a b : UInt32) : binOp .geq t (W32 a) (W32 b) = pure (.bool (decide (b ≤ a))) := by
  simp only [val_u32, binOp, ne_eq, not_true_eq_false, if_false, Op.intCmp]
  rw [show (decide ((a.toNat : Int) ≥ b.toNat)) = (decide (b ≤ a)) from by rw [Bool.eq_iff_iff]; simp [UInt32.lt_iff_toNat_lt, UInt32.le_iff_toNat_le]]
theorem geq_u32_c (t : TypeId) (a : UInt32) (n : Int) : binOp .geq t (W32 a) (.int .u32 n) = pure (.bool (decide ((a.toNat : Int) ≥ n))) := by
  simp only [val_u32, binOp, ne_eq, not_true_eq_false, if_false, Op.intCmp]
theorem not_u32 (a : UInt32) : Op.unary .xor (W32 a) = pure (W32 (~~~a)) := by
  have h : BitVec.ofInt 32 IntKind.u32.max = BitVec.allOnes 32 := by decide
  have e : Op.unary .xor (W32 a) = Op.intBits .xor .u32 IntKind.u32.max a.toNat := rfl
  rw [e]
  simp only [Op.intBits, IntKind.bits, bvi_u32, h, BitVec.allOnes_xor]
  rw [back_u32]
  rfl
theorem shl_u32 (t : TypeId) (a : UInt32) (yk : IntKind) (n : Int) (h : 0 ≤ n) : binOp .shl t (W32 a) (.int yk n) = pure (W32 (shl32 a n.toNat)) := by
  have hn : ¬ n < 0 := by omega
  simp only [val_u32, binOp, Op.shift, hn, if_false, IntKind.bits]
  have e : Value.int .u32 (IntKind.u32.wrap ((a.toNat : Int) * 2 ^ min n.toNat 32)) = Value.int .u32 ((shl32 a n.toNat).toNat : Int) := by
    rw [wrap_u32']
    congr 1
    unfold shl32
    show _ = ((a.toBitVec <<< n.toNat).toNat : Int)
    rw [BitVec.toNat_shiftLeft, Nat.shiftLeft_eq]
    have e2 : a.toBitVec.toNat = a.toNat := rfl
    rw [e2]
    by_cases hm : n.toNat ≤ 32
    · rw [Nat.min_eq_left hm]
      rw [Int.natCast_emod, Int.natCast_mul, Int.natCast_pow]
      rfl
    · rw [Nat.min_eq_right (by omega)]
      obtain ⟨j, hj⟩ : ∃ j, n.toNat = 32 + j := ⟨n.toNat - 32, by omega⟩
      have e3 : ((a.toNat * 2 ^ n.toNat) % 2 ^ 32 : Nat) = 0 := by
        rw [hj, Nat.pow_add, ← Nat.mul_assoc, Nat.mul_right_comm, Nat.mul_mod_left]
      rw [e3]
      exact Int.mul_emod_left _ _
  rw [e]
theorem shr_u32 (t : TypeId) (a : UInt32) (yk : IntKind) (n : Int) (h : 0 ≤ n) : binOp .shr t (W32 a) (.int yk n) = pure (W32 (shr32 a n.toNat)) := by
  have hn : ¬ n < 0 := by omega
  simp only [val_u32, binOp, Op.shift, hn, if_false, IntKind.bits]
  have e : Value.int .u32 ((a.toNat : Int).fdiv (2 ^ min n.toNat 32)) = Value.int .u32 ((shr32 a n.toNat).toNat : Int) := by
    congr 1
    unfold shr32
    show _ = ((a.toBitVec >>> n.toNat).toNat : Int)
    rw [BitVec.toNat_ushiftRight, Nat.shiftRight_eq_div_pow]
    have e2 : a.toBitVec.toNat = a.toNat := rfl
    rw [e2]
    have e4 : ∀ j : Nat, (a.toNat : Int).fdiv (2 ^ j) = ((a.toNat / 2 ^ j : Nat) : Int) := fun j => by
      rw [Int.fdiv_eq_ediv_of_nonneg _ (by exact Int.pow_nonneg (by decide))]
      rw [Int.natCast_ediv, Int.natCast_pow]
      rfl
    rw [e4]
    by_cases hm : n.toNat ≤ 32
    · rw [Nat.min_eq_left hm]
    · rw [Nat.min_eq_right (by omega)]
      have h1 : a.toNat < 2 ^ 32 := a.toBitVec.isLt
      have h2 : a.toNat < 2 ^ n.toNat := Nat.lt_of_lt_of_le h1 (Nat.pow_le_pow_right (by decide) (by omega))
      rw [Nat.div_eq_of_lt h1, Nat.div_eq_of_lt h2]
  rw [e]


/-! ### u64 -/
theorem int_u64 (x : Int) : Value.int .u64 (IntKind.u64.wrap x) = W64 ⟨BitVec.ofInt 64 x⟩ := by
  unfold W64
  rw [wrap_u64']
  congr 1
  exact (bv_wrap 64 x).symm
theorem val_u64 (a : UInt64) : W64 a = .int .u64 a.toNat := rfl
theorem bvi_u64 (a : UInt64) : BitVec.ofInt 64 (a.toNat : Int) = a.toBitVec := ofInt_toNat a.toBitVec
theorem back_u64 (r : BitVec 64) : Value.int .u64 (IntKind.u64.wrap r.toNat) = W64 ⟨r⟩ := by rw [int_u64, ofInt_toNat]

theorem add_u64 (t : TypeId) (a b : UInt64) : binOp .add t (W64 a) (W64 b) = pure (W64 (a + b)) := by
  have e : IntKind.u64 = IntKind.u64 := rfl
  simp only [val_u64, binOp, ne_eq, not_true_eq_false, if_false, Op.intArith, int_u64, BitVec.ofInt_add, bvi_u64]
  rfl
theorem add_u64_c (t : TypeId) (a : UInt64) (n : Int) : binOp .add t (W64 a) (.int .u64 n) = pure (W64 (a + c64 n)) := by
  have e : IntKind.u64 = IntKind.u64 := rfl
  simp only [val_u64, binOp, ne_eq, not_true_eq_false, if_false, Op.intArith, int_u64, BitVec.ofInt_add, bvi_u64]
  rfl
theorem add_u64c_ (t : TypeId) (n : Int) (b : UInt64) : binOp .add t (.int .u64 n) (W64 b) = pure (W64 (c64 n + b)) := by
  have e : IntKind.u64 = IntKind.u64 := rfl
  simp only [val_u64, binOp, ne_eq, not_true_eq_false, if_false, Op.intArith, int_u64, BitVec.ofInt_add, bvi_u64]
  rfl
theorem sub_u64 (t : TypeId) (a b : UInt64) : binOp .sub t (W64 a) (W64 b) = pure (W64 (a - b)) := by
  have e : IntKind.u64 = IntKind.u64 := rfl
  simp only [val_u64, binOp, ne_eq, not_true_eq_false, if_false, Op.intArith, int_u64, bv_sub, bvi_u64]
  rfl
theorem sub_u64_c (t : TypeId) (a : UInt64) (n : Int) : binOp .sub t (W64 a) (.int .u64 n) = pure (W64 (a - c64 n)) := by
  have e : IntKind.u64 = IntKind.u64 := rfl
  simp only [val_u64, binOp, ne_eq, not_true_eq_false, if_false, Op.intArith, int_u64, bv_sub, bvi_u64]
  rfl
theorem sub_u64c_ (t : TypeId) (n : Int) (b : UInt64) : binOp .sub t (.int .u64 n) (W64 b) = pure (W64 (c64 n - b)) := by
  have e : IntKind.u64 = IntKind.u64 := rfl
  simp only [val_u64, binOp, ne_eq, not_true_eq_false, if_false, Op.intArith, int_u64, bv_sub, bvi_u64]
  rfl
theorem mul_u64 (t : TypeId) (a b : UInt64) : binOp .mul t (W64 a) (W64 b) = pure (W64 (a * b)) := by
  have e : IntKind.u64 = IntKind.u64 := rfl
  simp only [val_u64, binOp, ne_eq, not_true_eq_false, if_false, Op.intArith, int_u64, BitVec.ofInt_mul, bvi_u64]
  rfl
theorem mul_u64_c (t : TypeId) (a : UInt64) (n : Int) : binOp .mul t (W64 a) (.int .u64 n) = pure (W64 (a * c64 n)) := by
  have e : IntKind.u64 = IntKind.u64 := rfl
  simp only [val_u64, binOp, ne_eq, not_true_eq_false, if_false, Op.intArith, int_u64, BitVec.ofInt_mul, bvi_u64]
  rfl
theorem mul_u64c_ (t : TypeId) (n : Int) (b : UInt64) : binOp .mul t (.int .u64 n) (W64 b) = pure (W64 (c64 n * b)) := by
  have e : IntKind.u64 = IntKind.u64 := rfl
  simp only [val_u64, binOp, ne_eq, not_true_eq_false, if_false, Op.intArith, int_u64, BitVec.ofInt_mul, bvi_u64]
  rfl
theorem and_u64 (t : TypeId) (a b : UInt64) : binOp .and t (W64 a) (W64 b) = pure (W64 (a &&& b)) := by
  simp only [val_u64, binOp, ne_eq, not_true_eq_false, if_false, Op.intBits, IntKind.bits, bvi_u64]
  rw [back_u64]
  rfl
theorem and_u64_c (t : TypeId) (a : UInt64) (n : Int) : binOp .and t (W64 a) (.int .u64 n) = pure (W64 (a &&& (c64 n))) := by
  simp only [val_u64, binOp, ne_eq, not_true_eq_false, if_false, Op.intBits, IntKind.bits, bvi_u64]
  rw [back_u64]
  rfl
theorem and_u64c_ (t : TypeId) (n : Int) (b : UInt64) : binOp .and t (.int .u64 n) (W64 b) = pure (W64 (c64 n &&& b)) := by
  simp only [val_u64, binOp, ne_eq, not_true_eq_false, if_false, Op.intBits, IntKind.bits, bvi_u64]
  rw [back_u64]
  rfl
theorem or_u64 (t : TypeId) (a b : UInt64) : binOp .or t (W64 a) (W64 b) = pure (W64 (a ||| b)) := by
  simp only [val_u64, binOp, ne_eq, not_true_eq_false, if_false, Op.intBits, IntKind.bits, bvi_u64]
  rw [back_u64]
  rfl
theorem or_u64_c (t : TypeId) (a : UInt64) (n : Int) : binOp .or t (W64 a) (.int .u64 n) = pure (W64 (a ||| (c64 n))) := by
  simp only [val_u64, binOp, ne_eq, not_true_eq_false, if_false, Op.intBits, IntKind.bits, bvi_u64]
  rw [back_u64]
  rfl
theorem or_u64c_ (t : TypeId) (n : Int) (b : UInt64) : binOp .or t (.int .u64 n) (W64 b) = pure (W64 (c64 n ||| b)) := by
  simp only [val_u64, binOp, ne_eq, not_true_eq_false, if_false, Op.intBits, IntKind.bits, bvi_u64]
  rw [back_u64]
  rfl
theorem xor_u64 (t : TypeId) (a b : UInt64) : binOp .xor t (W64 a) (W64 b) = pure (W64 (a ^^^ b)) := by
  simp only [val_u64, binOp, ne_eq, not_true_eq_false, if_false, Op.intBits, IntKind.bits, bvi_u64]
  rw [back_u64]
  rfl
theorem xor_u64_c (t : TypeId) (a : UInt64) (n : Int) : binOp .xor t (W64 a) (.int .u64 n) = pure (W64 (a ^^^ (c64 n))) := by
  simp only [val_u64, binOp, ne_eq, not_true_eq_false, if_false, Op.intBits, IntKind.bits, bvi_u64]
  rw [back_u64]
  rfl
theorem xor_u64c_ (t : TypeId) (n : Int) (b : UInt64) : binOp .xor t (.int .u64 n) (W64 b) = pure (W64 (c64 n ^^^ b)) := by
  simp only [val_u64, binOp, ne_eq, not_true_eq_false, if_false, Op.intBits, IntKind.bits, bvi_u64]
  rw [back_u64]
  rfl
theorem andNot_u64 (t : TypeId) (a b : UInt64) : binOp .andNot t (W64 a) (W64 b) = pure (W64 (a &&& ~~~b)) := by
  simp only [val_u64, binOp, ne_eq, not_true_eq_false, if_false, Op.intBits, IntKind.bits, bvi_u64]
  rw [back_u64]
  rfl
theorem andNot_u64_c (t : TypeId) (a : UInt64) (n : Int) : binOp .andNot t (W64 a) (.int .u64 n) = pure (W64 (a &&& ~~~(c64 n))) := by
  simp only [val_u64, binOp, ne_eq, not_true_eq_false, if_false, Op.intBits, IntKind.bits, bvi_u64]
  rw [back_u64]
  rfl
theorem andNot_u64c_ (t : TypeId) (n : Int) (b : UInt64) : binOp .andNot t (.int .u64 n) (W64 b) = pure (W64 (c64 n &&& ~~~b)) := by
  simp only [val_u64, binOp, ne_eq, not_true_eq_false, if_false, Op.intBits, IntKind.bits, bvi_u64]
  rw [back_u64]
  rfl
theorem eql_u64 (t : TypeId) (a b : UInt64) : binOp .eql t (W64 a) (W64 b) = pure (.bool (a == b)) := by
  simp only [val_u64, binOp, ne_eq, not_true_eq_false, if_false, Op.intCmp]
  rw [show ((a.toNat : Int) == (b.toNat : Int)) = (a == b) from by rw [Bool.eq_iff_iff]; simp [← UInt64.toNat_inj]; omega]
theorem eql_u64_c (t : TypeId) (a : UInt64) (n : Int) : binOp .eql t (W64 a) (.int .u64 n) = pure (.bool ((a.toNat : Int) == n)) := by
  simp only [val_u64, binOp, ne_eq, not_true_eq_false, if_false, Op.intCmp]
theorem neq_u64 (t : TypeId) (a b : UInt64) : binOp .neq t (W64 a) (W64 b) = pure (.bool (a != b)) := by
  simp only [val_u64, binOp, ne_eq, not_true_eq_false, if_false, Op.intCmp]
  rw [show ((a.toNat : Int) != (b.toNat : Int)) = (a != b) from by rw [Bool.eq_iff_iff]; simp [← UInt64.toNat_inj]; omega]
theorem neq_u64_c (t : TypeId) (a : UInt64) (n : Int) : binOp .neq t (W64 a) (.int .u64 n) = pure (.bool ((a.toNat : Int) != n)) := by
  simp only [val_u64, binOp, ne_eq, not_true_eq_false, if_false, Op.intCmp]
theorem lss_u64 (t : TypeId) (a b : UInt64) : binOp .lss t (W64 a) (W64 b) = pure (.bool (decide (a < b))) := by
  simp only [val_u64, binOp, ne_eq, not_true_eq_false, if_false, Op.intCmp]
  rw [show (decide ((a.toNat : Int) < b.toNat)) = (decide (a < b)) from by rw [Bool.eq_iff_iff]; simp [UInt64.lt_iff_toNat_lt, UInt64.le_iff_toNat_le]]
theorem lss_u64_c (t : TypeId) (a : UInt64) (n : Int) : binOp .lss t (W64 a) (.int .u64 n) = pure (.bool (decide ((a.toNat : Int) < n))) := by
  simp only [val_u64, binOp, ne_eq, not_true_eq_false, if_false, Op.intCmp]
theorem leq_u64 (t : TypeId) (a b : UInt64) : binOp .leq t (W64 a) (W64 b) = pure (.bool (decide (a ≤ b))) := by
  simp only [val_u64, binOp, ne_eq, not_true_eq_false, if_false, Op.intCmp]
  rw [show (decide ((a.toNat : Int) ≤ b.toNat)) = (decide (a ≤ b)) from by rw [Bool.eq_iff_iff]; simp [UInt64.lt_iff_toNat_lt, UInt64.le_iff_toNat_le]]
theorem leq_u64_c (t : TypeId) (a : UInt64) (n : Int) : binOp .leq t (W64 a) (.int .u64 n) = pure (.bool (decide ((a.toNat : Int) ≤ n))) := by
  simp only [val_u64, binOp, ne_eq, not_true_eq_false, if_false, Op.intCmp]
theorem gtr_u64 (t : TypeId) (a b : UInt64) : binOp .gtr t (W64 a) (W64 b) = pure (.bool (decide (b < a))) := by
  simp only [val_u64, binOp, ne_eq, not_true_eq_false, if_false, Op.intCmp]
  rw [show (decide ((a.toNat : Int) > b.toNat)) = (decide (b < a)) from by rw [Bool.eq_iff_iff]; simp [UInt64.lt_iff_toNat_lt, UInt64.le_iff_toNat_le]]
theorem gtr_u64_c (t : TypeId) (a : UInt64) (n : Int) : binOp .gtr t (W64 a) (.int .u64 n) = pure (.bool (decide ((a.toNat : Int) > n))) := by
  simp only [val_u64, binOp, ne_eq, not_true_eq_false, if_false, Op.intCmp]
theorem geq_u64 (t : TypeId) (a b : UInt64) : binOp .geq t (W64 a) (W64 b) = pure (.bool (decide (b ≤ a))) := by
  simp only [val_u64, binOp, ne_eq, not_true_eq_false, if_false, Op.intCmp]
  rw [show (decide ((a.toNat : Int) ≥ b.toNat)) = (decide (b ≤ a)) from by rw [Bool.eq_iff_iff]; simp [UInt64.lt_iff_toNat_lt, UInt64.le_iff_toNat_le]]
theorem geq_u64_c (t : TypeId) (a : UInt64) (n : Int) : binOp .geq t (W64 a) (.int .u64 n) = pure (.bool (decide ((a.toNat : Int) ≥ n))) := by
  simp only [val_u64, binOp, ne_eq, not_true_eq_false, if_false, Op.intCmp]
theorem not_u64 (a : UInt64) : Op.unary .xor (W64 a) = pure (W64 (~~~a)) := by
  have h : BitVec.ofInt 64 IntKind.u64.max = BitVec.allOnes 64 := by decide
  have e : Op.unary .xor (W64 a) = Op.intBits .xor .u64 IntKind.u64.max a.toNat := rfl
  rw [e]
  simp only [Op.intBits, IntKind.bits, bvi_u64, h, BitVec.allOnes_xor]
  rw [back_u64]
  rfl
theorem shl_u64 (t : TypeId) (a : UInt64) (yk : IntKind) (n : Int) (h : 0 ≤ n) : binOp .shl t (W64 a) (.int yk n) = pure (W64 (shl64 a n.toNat)) := by
  have hn : ¬ n < 0 := by omega
  simp only [val_u64, binOp, Op.shift, hn, if_false, IntKind.bits]
  have e : Value.int .u64 (IntKind.u64.wrap ((a.toNat : Int) * 2 ^ min n.toNat 64)) = Value.int .u64 ((shl64 a n.toNat).toNat : Int) := by
    rw [wrap_u64']
    congr 1
    unfold shl64
    show _ = ((a.toBitVec <<< n.toNat).toNat : Int)
    rw [BitVec.toNat_shiftLeft, Nat.shiftLeft_eq]
    have e2 : a.toBitVec.toNat = a.toNat := rfl
    rw [e2]
    by_cases hm : n.toNat ≤ 64
    · rw [Nat.min_eq_left hm]
      rw [Int.natCast_emod, Int.natCast_mul, Int.natCast_pow]
      rfl
    · rw [Nat.min_eq_right (by omega)]
      obtain ⟨j, hj⟩ : ∃ j, n.toNat = 64 + j := ⟨n.toNat - 64, by omega⟩
      have e3 : ((a.toNat * 2 ^ n.toNat) % 2 ^ 64 : Nat) = 0 := by
        rw [hj, Nat.pow_add, ← Nat.mul_assoc, Nat.mul_right_comm, Nat.mul_mod_left]
      rw [e3]
      exact Int.mul_emod_left _ _
  rw [e]
theorem shr_u64 (t : TypeId) (a : UInt64) (yk : IntKind) (n : Int) (h : 0 ≤ n) : binOp .shr t (W64 a) (.int yk n) = pure (W64 (shr64 a n.toNat)) := by
  have hn : ¬ n < 0 := by omega
  simp only [val_u64, binOp, Op.shift, hn, if_false, IntKind.bits]
  have e : Value.int .u64 ((a.toNat : Int).fdiv (2 ^ min n.toNat 64)) = Value.int .u64 ((shr64 a n.toNat).toNat : Int) := by
    congr 1
    unfold shr64
    show _ = ((a.toBitVec >>> n.toNat).toNat : Int)
    rw [BitVec.toNat_ushiftRight, Nat.shiftRight_eq_div_pow]
    have e2 : a.toBitVec.toNat = a.toNat := rfl
    rw [e2]
    have e4 : ∀ j : Nat, (a.toNat : Int).fdiv (2 ^ j) = ((a.toNat / 2 ^ j : Nat) : Int) := fun j => by
      rw [Int.fdiv_eq_ediv_of_nonneg _ (by exact Int.pow_nonneg (by decide))]
      rw [Int.natCast_ediv, Int.natCast_pow]
      rfl
    rw [e4]
    by_cases hm : n.toNat ≤ 64
    · rw [Nat.min_eq_left hm]
    · rw [Nat.min_eq_right (by omega)]
      have h1 : a.toNat < 2 ^ 64 := a.toBitVec.isLt
      have h2 : a.toNat < 2 ^ n.toNat := Nat.lt_of_lt_of_le h1 (Nat.pow_le_pow_right (by decide) (by omega))
      rw [Nat.div_eq_of_lt h1, Nat.div_eq_of_lt h2]
  rw [e]


/-! ### From one width to another -/
section
variable {P : Program}
theorem conv_u8_u32 (w : World) (s d : TypeId) (a : UInt8) {ds : TypeDesc} (hs : P.underlying s = some ds) (hd : P.underlying d = some (.int .u32)) (hn : ds = .int .u8) : (convert s d (bt a)).run P w = .ok (W32 a.toUInt32) w := by
  subst hn
  have e : Value.int .u32 (IntKind.u32.wrap (a.toNat : Int)) = W32 a.toUInt32 := by
    rw [wrap_u32']
    unfold W32
    refine congrArg (Value.int _) ?_
    have := a.toNat_lt
    simp [UInt8.toNat_toUInt32]
    try omega
  simp only [val_u8, convert, Sem.run_bind, run_underlying hs, run_underlying hd, Result.andThen_ok, Conv.intToInt, e, Sem.run_pure]
theorem conv_u8_u64 (w : World) (s d : TypeId) (a : UInt8) {ds : TypeDesc} (hs : P.underlying s = some ds) (hd : P.underlying d = some (.int .u64)) (hn : ds = .int .u8) : (convert s d (bt a)).run P w = .ok (W64 a.toUInt64) w := by
  subst hn
  have e : Value.int .u64 (IntKind.u64.wrap (a.toNat : Int)) = W64 a.toUInt64 := by
    rw [wrap_u64']
    unfold W64
    refine congrArg (Value.int _) ?_
    have := a.toNat_lt
    simp [UInt8.toNat_toUInt64]
    try omega
  simp only [val_u8, convert, Sem.run_bind, run_underlying hs, run_underlying hd, Result.andThen_ok, Conv.intToInt, e, Sem.run_pure]
theorem conv_u32_u8 (w : World) (s d : TypeId) (a : UInt32) {ds : TypeDesc} (hs : P.underlying s = some ds) (hd : P.underlying d = some (.int .u8)) (hn : ds = .int .u32) : (convert s d (W32 a)).run P w = .ok (bt a.toUInt8) w := by
  subst hn
  have e : Value.int .u8 (IntKind.u8.wrap (a.toNat : Int)) = bt a.toUInt8 := by
    rw [wrap_u8']
    unfold bt
    refine congrArg (Value.int _) ?_
    have := a.toNat_lt
    simp [UInt32.toNat_toUInt8]
    try omega
  simp only [val_u32, convert, Sem.run_bind, run_underlying hs, run_underlying hd, Result.andThen_ok, Conv.intToInt, e, Sem.run_pure]
theorem conv_u32_u64 (w : World) (s d : TypeId) (a : UInt32) {ds : TypeDesc} (hs : P.underlying s = some ds) (hd : P.underlying d = some (.int .u64)) (hn : ds = .int .u32) : (convert s d (W32 a)).run P w = .ok (W64 a.toUInt64) w := by
  subst hn
  have e : Value.int .u64 (IntKind.u64.wrap (a.toNat : Int)) = W64 a.toUInt64 := by
    rw [wrap_u64']
    unfold W64
    refine congrArg (Value.int _) ?_
    have := a.toNat_lt
    simp [UInt32.toNat_toUInt64]
    try omega
  simp only [val_u32, convert, Sem.run_bind, run_underlying hs, run_underlying hd, Result.andThen_ok, Conv.intToInt, e, Sem.run_pure]
theorem conv_u64_u8 (w : World) (s d : TypeId) (a : UInt64) {ds : TypeDesc} (hs : P.underlying s = some ds) (hd : P.underlying d = some (.int .u8)) (hn : ds = .int .u64) : (convert s d (W64 a)).run P w = .ok (bt a.toUInt8) w := by
  subst hn
  have e : Value.int .u8 (IntKind.u8.wrap (a.toNat : Int)) = bt a.toUInt8 := by
    rw [wrap_u8']
    unfold bt
    refine congrArg (Value.int _) ?_
    have := a.toNat_lt
    simp [UInt64.toNat_toUInt8]
    try omega
  simp only [val_u64, convert, Sem.run_bind, run_underlying hs, run_underlying hd, Result.andThen_ok, Conv.intToInt, e, Sem.run_pure]
theorem conv_u64_u32 (w : World) (s d : TypeId) (a : UInt64) {ds : TypeDesc} (hs : P.underlying s = some ds) (hd : P.underlying d = some (.int .u32)) (hn : ds = .int .u64) : (convert s d (W64 a)).run P w = .ok (W32 a.toUInt32) w := by
  subst hn
  have e : Value.int .u32 (IntKind.u32.wrap (a.toNat : Int)) = W32 a.toUInt32 := by
    rw [wrap_u32']
    unfold W32
    refine congrArg (Value.int _) ?_
    have := a.toNat_lt
    simp [UInt64.toNat_toUInt32]
    try omega
  simp only [val_u64, convert, Sem.run_bind, run_underlying hs, run_underlying hd, Result.andThen_ok, Conv.intToInt, e, Sem.run_pure]
/-- A word is stored. -/
theorem store_one (w : World) (b o : Nat) (v : Value) (h1 : v.oneCell' = true) (h : (w.cell? ⟨b, o, none⟩).isSome = true) (hf : w.frozen? ⟨b, o, none⟩ = false) : (storeCells ⟨b, o, none⟩ [v]).run P w = .ok () (w.setCell ⟨b, o, none⟩ v) := by
  have := run_storeCells_cells (P := P) b o [v] 0 w (by simpa using h) (by simpa using hf) (by simpa using h1)
  simpa [World.setCells] using this
theorem store_u8 (w : World) (b o : Nat) (x : UInt8) (h : (w.cell? ⟨b, o, none⟩).isSome = true) (hf : w.frozen? ⟨b, o, none⟩ = false) : (storeCells ⟨b, o, none⟩ [bt x]).run P w = .ok () (w.setCell ⟨b, o, none⟩ (bt x)) := store_one w b o _ rfl h hf
theorem store_u32 (w : World) (b o : Nat) (x : UInt32) (h : (w.cell? ⟨b, o, none⟩).isSome = true) (hf : w.frozen? ⟨b, o, none⟩ = false) : (storeCells ⟨b, o, none⟩ [W32 x]).run P w = .ok () (w.setCell ⟨b, o, none⟩ (W32 x)) := store_one w b o _ rfl h hf
theorem store_u64 (w : World) (b o : Nat) (x : UInt64) (h : (w.cell? ⟨b, o, none⟩).isSome = true) (hf : w.frozen? ⟨b, o, none⟩ = false) : (storeCells ⟨b, o, none⟩ [W64 x]).run P w = .ok () (w.setCell ⟨b, o, none⟩ (W64 x)) := store_one w b o _ rfl h hf
theorem cells_u8 (x : UInt8) : (bt x).cells = #[bt x] := rfl
theorem cells_u32 (x : UInt32) : (W32 x).cells = #[W32 x] := rfl
theorem cells_u64 (x : UInt64) : (W64 x).cells = #[W64 x] := rfl
theorem put_one (w : World) (b o : Nat) (v : Value) (h1 : v.oneCell' = true) (h : (w.cell? ⟨b, o, none⟩).isSome = true) (hf : w.frozen? ⟨b, o, none⟩ = false) : (store ⟨b, o, none⟩ v).run P w = .ok () (w.setCell ⟨b, o, none⟩ v) := by
  have := store_one (P := P) w b o v h1 h hf
  have hadd : (⟨b, o, none⟩ : Addr).add 0 = ⟨b, o, none⟩ := rfl
  simp only [storeCells, hadd, Sem.run_bind] at this
  generalize (store ⟨b, o, none⟩ v).run P w = r at this ⊢
  cases r with
  | ok u w' => simpa using this
  | halt x w' => simp at this
theorem put_u8 (w : World) (b o : Nat) (x : UInt8) (h : (w.cell? ⟨b, o, none⟩).isSome = true) (hf : w.frozen? ⟨b, o, none⟩ = false) : (store ⟨b, o, none⟩ (bt x)).run P w = .ok () (w.setCell ⟨b, o, none⟩ (bt x)) := put_one w b o _ rfl h hf
theorem put_u32 (w : World) (b o : Nat) (x : UInt32) (h : (w.cell? ⟨b, o, none⟩).isSome = true) (hf : w.frozen? ⟨b, o, none⟩ = false) : (store ⟨b, o, none⟩ (W32 x)).run P w = .ok () (w.setCell ⟨b, o, none⟩ (W32 x)) := put_one w b o _ rfl h hf
theorem put_u64 (w : World) (b o : Nat) (x : UInt64) (h : (w.cell? ⟨b, o, none⟩).isSome = true) (hf : w.frozen? ⟨b, o, none⟩ = false) : (store ⟨b, o, none⟩ (W64 x)).run P w = .ok () (w.setCell ⟨b, o, none⟩ (W64 x)) := put_one w b o _ rfl h hf
/-- An array that is a value, at a place. -/
theorem index_agg (w : World) (t e : TypeId) (n : Nat) (cs : Array Value) (k : IntKind) (i : Int) (h : P.underlying t = some (.array n e)) (hs : (P.info? e).map (·.size) = some 1) (hc : cs.size = n) (v : Value) (h0 : 0 ≤ i) (h1 : i < n) (hv : cs.toList[i.toNat]? = some v) (hna : (P.underlying e).map aggDesc = some false) :
    (Instr.index t (.agg cs) (.int k i)).run P w = .ok v w := by
  cases hq : P.info? e with
  | none => simp [hq] at hs
  | some inf =>
    have hs1 : inf.size = 1 := by simpa [hq] using hs
    have hv2 : cs[i.toNat]? = some v := by simpa using hv
    cases hu : P.underlying e with
    | none => simp [hu] at hna
    | some d =>
      have hd : aggDesc d = false := by simpa [hu] using hna
      have hagg : (isAgg e).run P w = .ok false w := by
        unfold isAgg
        rw [Sem.run_bind, run_underlying hu w]
        cases d <;> simp_all [aggDesc]
      simp [Instr.index, asIntOf, run_underlying h, h0, h1, part, hagg, sizeOf, typeInfo, hq, hs1, hv2]
end
section
variable {P : Program} {ops : Array Oper} {Q : Exit → Act → World → Prop} {a : Act} {w : World} {K : Act → World → Prop} {rest : List Oper} {o : Oper}
/-- A cell of a block is written; of the world behind it no more is told. -/
theorem wp_put (ty : TypeId) (x y : Operand) (ho : o.op = .store ty x y) {b off : Nat} (hx : a.eval x = .pointer (some ⟨b, off, none⟩)) (v : Value) (hy : a.eval y = v) (h1 : v.oneCell' = true) {cs : List Value} (hb : Blk w b cs) (hoff : off < cs.length)
    (hs : (P.info? ty).map (·.size) = some 1) (h : ∀ w', Fr [b] w w' → Blk w' b (cs.set off v) → w'.heap.size = w.heap.size → K (a.put o.dst undef) w') : o.wp P a w K Q := by
  cases hq : P.info? ty with
  | none => simp [hq] at hs
  | some i =>
    have hs1 : i.size = 1 := by simpa [hq] using hs
    have hvc : v.cells = #[v] := by cases v <;> simp_all [Value.cells, Value.oneCell']
    have hst := store_one (P := P) w b off v h1 (by rw [hb.cell]; simp; exact hoff) (hb.free off hoff)
    have hr : (storeVar ty ⟨b, off, none⟩ v).run P w = .ok () (w.setCell ⟨b, off, none⟩ v) := by simp [storeVar, sizeOf, typeInfo, hq, hs1, hvc, hst]
    unfold Oper.wp execOp
    simp only [ho, hx, hy, Instr.storeAt, Instr.sureAddr, Sem.run_bind, Sem.run_pure, Result.andThen_ok, hr]
    exact h _ ((Fr.refl [b] w).setCell (.inl (by simp)) v) (hb.set off v) (by simp)
theorem wpList_put (hg : o.guard = none) (ty : TypeId) (x y : Operand) (ho : o.op = .store ty x y) {b off : Nat} (hx : a.eval x = .pointer (some ⟨b, off, none⟩)) (v : Value) (hy : a.eval y = v) (h1 : v.oneCell' = true) {cs : List Value} (hb : Blk w b cs) (hoff : off < cs.length)
    (hs : (P.info? ty).map (·.size) = some 1) (h : ∀ w', Fr [b] w w' → Blk w' b (cs.set off v) → w'.heap.size = w.heap.size → wpList P ops Q rest (a.put o.dst undef) w') : wpList P ops Q (o :: rest) a w :=
  wpList_plain hg fun _ hK => wp_put ty x y ho hx v hy h1 hb hoff hs fun w' h2 h3 h4 => hK _ _ (h w' h2 h3 h4)
end
end Go.Xr
