/- Layer 3, aes: what is enciphered comes back (no program). -/
import Derived.Test.YtnkcogaaajkplaaAesG
import Derived.Test.YtnkcogaaajkplaaAesK
namespace Go.Xr
open Go
set_option linter.unusedVariables false
set_option linter.unusedSimpArgs false
theorem tmF_xor (n : Nat) (a b b' p p' : UInt8) : tmF n a (b ^^^ b') (p ^^^ p') = tmF n a b p ^^^ tmF n a b' p' := by
  induction n generalizing a b b' p p' with
  | zero => rfl
  | succ n ih =>
    have hs : shr8 (b ^^^ b') 1 = shr8 b 1 ^^^ shr8 b' 1 := by
      unfold shr8
      show UInt8.ofBitVec ((b.toBitVec ^^^ b'.toBitVec) >>> 1) = UInt8.ofBitVec ((b.toBitVec >>> 1) ^^^ (b'.toBitVec >>> 1))
      rw [BitVec.ushiftRight_xor_distrib]
    have hm : ((b ^^^ b') &&& c8 1).toNat = (b.toNat ^^^ b'.toNat) % 2 := by rw [low_nat, UInt8.toNat_xor]
    have hb := Nat.mod_two_eq_zero_or_one b.toNat
    have hb' := Nat.mod_two_eq_zero_or_one b'.toNat
    have hx : (b.toNat ^^^ b'.toNat) % 2 = (b.toNat % 2 + b'.toNat % 2) % 2 := by
      have h1 := Nat.testBit_xor b.toNat b'.toNat 0
      have h2 := Nat.mod_two_eq_zero_or_one (b.toNat ^^^ b'.toNat)
      rw [Nat.testBit_zero, Nat.testBit_zero, Nat.testBit_zero] at h1
      rcases hb with h | h <;> rcases hb' with h' | h' <;> rcases h2 with h2 | h2 <;> rw [h, h', h2] at h1 <;> simp at h1 <;> rw [h, h', h2]
    rw [tmF, tmF, tmF, hs, hm, low_nat, low_nat, hx, ← ih]
    congr 1
    rcases hb with h | h <;> rcases hb' with h' | h' <;> rw [h, h'] <;> simp
    · ac_rfl
    · ac_rfl
    · rw [show p ^^^ a ^^^ (p' ^^^ a) = p ^^^ p' ^^^ (a ^^^ a) by ac_rfl, UInt8.xor_self, UInt8.xor_zero]
theorem times_xor (f x y : UInt8) : times f (x ^^^ y) = times f x ^^^ times f y := by
  have := tmF_xor 8 f x y 0 0
  rw [UInt8.xor_self] at this
  exact this
theorem times_zero (f : UInt8) : times f 0 = 0 := tmF_stop 8 f 0
def four2 (a b c d a' b' c' d' x : Nat) : Nat := (timesN a (timesN a' x) ^^^ timesN b (timesN b' x)) ^^^ (timesN c (timesN c' x) ^^^ timesN d (timesN d' x))
theorem four2_u8 (a b c d a' b' c' d' x : UInt8) : ((times a (times a' x) ^^^ times b (times b' x)) ^^^ (times c (times c' x) ^^^ times d (times d' x))).toNat = four2 a.toNat b.toNat c.toNat d.toNat a'.toNat b'.toNat c'.toNat d'.toNat x.toNat := by
  simp only [UInt8.toNat_xor, times_nat, four2]
theorem four2_id (a b c d a' b' c' d' : UInt8) (h : (List.range 256).all (fun x => four2 a.toNat b.toNat c.toNat d.toNat a'.toNat b'.toNat c'.toNat d'.toNat x == x) = true) (x : UInt8) :
    (times a (times a' x) ^^^ times b (times b' x)) ^^^ (times c (times c' x) ^^^ times d (times d' x)) = x := by
  apply UInt8.toNat_inj.1
  rw [four2_u8]
  simpa using List.all_eq_true.1 h x.toNat (List.mem_range.2 x.toNat_lt)
theorem four2_0 (a b c d a' b' c' d' : UInt8) (h : (List.range 256).all (fun x => four2 a.toNat b.toNat c.toNat d.toNat a'.toNat b'.toNat c'.toNat d'.toNat x == 0) = true) (x : UInt8) :
    (times a (times a' x) ^^^ times b (times b' x)) ^^^ (times c (times c' x) ^^^ times d (times d' x)) = 0 := by
  apply UInt8.toNat_inj.1
  rw [four2_u8]
  simpa using List.all_eq_true.1 h x.toNat (List.mem_range.2 x.toNat_lt)
theorem z21_00 (x : UInt8) : (times (g8 F2 ((0 + 4 - 0) % 4)) (times (g8 F1 ((0 + 4 - 0) % 4)) x) ^^^ times (g8 F2 ((1 + 4 - 0) % 4)) (times (g8 F1 ((0 + 4 - 1) % 4)) x)) ^^^ (times (g8 F2 ((2 + 4 - 0) % 4)) (times (g8 F1 ((0 + 4 - 2) % 4)) x) ^^^ times (g8 F2 ((3 + 4 - 0) % 4)) (times (g8 F1 ((0 + 4 - 3) % 4)) x)) = x := four2_id _ _ _ _ _ _ _ _ (by decide +kernel) x
theorem z21_01 (x : UInt8) : (times (g8 F2 ((0 + 4 - 0) % 4)) (times (g8 F1 ((1 + 4 - 0) % 4)) x) ^^^ times (g8 F2 ((1 + 4 - 0) % 4)) (times (g8 F1 ((1 + 4 - 1) % 4)) x)) ^^^ (times (g8 F2 ((2 + 4 - 0) % 4)) (times (g8 F1 ((1 + 4 - 2) % 4)) x) ^^^ times (g8 F2 ((3 + 4 - 0) % 4)) (times (g8 F1 ((1 + 4 - 3) % 4)) x)) = 0 := four2_0 _ _ _ _ _ _ _ _ (by decide +kernel) x
theorem z21_02 (x : UInt8) : (times (g8 F2 ((0 + 4 - 0) % 4)) (times (g8 F1 ((2 + 4 - 0) % 4)) x) ^^^ times (g8 F2 ((1 + 4 - 0) % 4)) (times (g8 F1 ((2 + 4 - 1) % 4)) x)) ^^^ (times (g8 F2 ((2 + 4 - 0) % 4)) (times (g8 F1 ((2 + 4 - 2) % 4)) x) ^^^ times (g8 F2 ((3 + 4 - 0) % 4)) (times (g8 F1 ((2 + 4 - 3) % 4)) x)) = 0 := four2_0 _ _ _ _ _ _ _ _ (by decide +kernel) x
theorem z21_03 (x : UInt8) : (times (g8 F2 ((0 + 4 - 0) % 4)) (times (g8 F1 ((3 + 4 - 0) % 4)) x) ^^^ times (g8 F2 ((1 + 4 - 0) % 4)) (times (g8 F1 ((3 + 4 - 1) % 4)) x)) ^^^ (times (g8 F2 ((2 + 4 - 0) % 4)) (times (g8 F1 ((3 + 4 - 2) % 4)) x) ^^^ times (g8 F2 ((3 + 4 - 0) % 4)) (times (g8 F1 ((3 + 4 - 3) % 4)) x)) = 0 := four2_0 _ _ _ _ _ _ _ _ (by decide +kernel) x
theorem z21_10 (x : UInt8) : (times (g8 F2 ((0 + 4 - 1) % 4)) (times (g8 F1 ((0 + 4 - 0) % 4)) x) ^^^ times (g8 F2 ((1 + 4 - 1) % 4)) (times (g8 F1 ((0 + 4 - 1) % 4)) x)) ^^^ (times (g8 F2 ((2 + 4 - 1) % 4)) (times (g8 F1 ((0 + 4 - 2) % 4)) x) ^^^ times (g8 F2 ((3 + 4 - 1) % 4)) (times (g8 F1 ((0 + 4 - 3) % 4)) x)) = 0 := four2_0 _ _ _ _ _ _ _ _ (by decide +kernel) x
theorem z21_11 (x : UInt8) : (times (g8 F2 ((0 + 4 - 1) % 4)) (times (g8 F1 ((1 + 4 - 0) % 4)) x) ^^^ times (g8 F2 ((1 + 4 - 1) % 4)) (times (g8 F1 ((1 + 4 - 1) % 4)) x)) ^^^ (times (g8 F2 ((2 + 4 - 1) % 4)) (times (g8 F1 ((1 + 4 - 2) % 4)) x) ^^^ times (g8 F2 ((3 + 4 - 1) % 4)) (times (g8 F1 ((1 + 4 - 3) % 4)) x)) = x := four2_id _ _ _ _ _ _ _ _ (by decide +kernel) x
theorem z21_12 (x : UInt8) : (times (g8 F2 ((0 + 4 - 1) % 4)) (times (g8 F1 ((2 + 4 - 0) % 4)) x) ^^^ times (g8 F2 ((1 + 4 - 1) % 4)) (times (g8 F1 ((2 + 4 - 1) % 4)) x)) ^^^ (times (g8 F2 ((2 + 4 - 1) % 4)) (times (g8 F1 ((2 + 4 - 2) % 4)) x) ^^^ times (g8 F2 ((3 + 4 - 1) % 4)) (times (g8 F1 ((2 + 4 - 3) % 4)) x)) = 0 := four2_0 _ _ _ _ _ _ _ _ (by decide +kernel) x
theorem z21_13 (x : UInt8) : (times (g8 F2 ((0 + 4 - 1) % 4)) (times (g8 F1 ((3 + 4 - 0) % 4)) x) ^^^ times (g8 F2 ((1 + 4 - 1) % 4)) (times (g8 F1 ((3 + 4 - 1) % 4)) x)) ^^^ (times (g8 F2 ((2 + 4 - 1) % 4)) (times (g8 F1 ((3 + 4 - 2) % 4)) x) ^^^ times (g8 F2 ((3 + 4 - 1) % 4)) (times (g8 F1 ((3 + 4 - 3) % 4)) x)) = 0 := four2_0 _ _ _ _ _ _ _ _ (by decide +kernel) x
theorem z21_20 (x : UInt8) : (times (g8 F2 ((0 + 4 - 2) % 4)) (times (g8 F1 ((0 + 4 - 0) % 4)) x) ^^^ times (g8 F2 ((1 + 4 - 2) % 4)) (times (g8 F1 ((0 + 4 - 1) % 4)) x)) ^^^ (times (g8 F2 ((2 + 4 - 2) % 4)) (times (g8 F1 ((0 + 4 - 2) % 4)) x) ^^^ times (g8 F2 ((3 + 4 - 2) % 4)) (times (g8 F1 ((0 + 4 - 3) % 4)) x)) = 0 := four2_0 _ _ _ _ _ _ _ _ (by decide +kernel) x
theorem z21_21 (x : UInt8) : (times (g8 F2 ((0 + 4 - 2) % 4)) (times (g8 F1 ((1 + 4 - 0) % 4)) x) ^^^ times (g8 F2 ((1 + 4 - 2) % 4)) (times (g8 F1 ((1 + 4 - 1) % 4)) x)) ^^^ (times (g8 F2 ((2 + 4 - 2) % 4)) (times (g8 F1 ((1 + 4 - 2) % 4)) x) ^^^ times (g8 F2 ((3 + 4 - 2) % 4)) (times (g8 F1 ((1 + 4 - 3) % 4)) x)) = 0 := four2_0 _ _ _ _ _ _ _ _ (by decide +kernel) x
theorem z21_22 (x : UInt8) : (times (g8 F2 ((0 + 4 - 2) % 4)) (times (g8 F1 ((2 + 4 - 0) % 4)) x) ^^^ times (g8 F2 ((1 + 4 - 2) % 4)) (times (g8 F1 ((2 + 4 - 1) % 4)) x)) ^^^ (times (g8 F2 ((2 + 4 - 2) % 4)) (times (g8 F1 ((2 + 4 - 2) % 4)) x) ^^^ times (g8 F2 ((3 + 4 - 2) % 4)) (times (g8 F1 ((2 + 4 - 3) % 4)) x)) = x := four2_id _ _ _ _ _ _ _ _ (by decide +kernel) x
theorem z21_23 (x : UInt8) : (times (g8 F2 ((0 + 4 - 2) % 4)) (times (g8 F1 ((3 + 4 - 0) % 4)) x) ^^^ times (g8 F2 ((1 + 4 - 2) % 4)) (times (g8 F1 ((3 + 4 - 1) % 4)) x)) ^^^ (times (g8 F2 ((2 + 4 - 2) % 4)) (times (g8 F1 ((3 + 4 - 2) % 4)) x) ^^^ times (g8 F2 ((3 + 4 - 2) % 4)) (times (g8 F1 ((3 + 4 - 3) % 4)) x)) = 0 := four2_0 _ _ _ _ _ _ _ _ (by decide +kernel) x
theorem z21_30 (x : UInt8) : (times (g8 F2 ((0 + 4 - 3) % 4)) (times (g8 F1 ((0 + 4 - 0) % 4)) x) ^^^ times (g8 F2 ((1 + 4 - 3) % 4)) (times (g8 F1 ((0 + 4 - 1) % 4)) x)) ^^^ (times (g8 F2 ((2 + 4 - 3) % 4)) (times (g8 F1 ((0 + 4 - 2) % 4)) x) ^^^ times (g8 F2 ((3 + 4 - 3) % 4)) (times (g8 F1 ((0 + 4 - 3) % 4)) x)) = 0 := four2_0 _ _ _ _ _ _ _ _ (by decide +kernel) x
theorem z21_31 (x : UInt8) : (times (g8 F2 ((0 + 4 - 3) % 4)) (times (g8 F1 ((1 + 4 - 0) % 4)) x) ^^^ times (g8 F2 ((1 + 4 - 3) % 4)) (times (g8 F1 ((1 + 4 - 1) % 4)) x)) ^^^ (times (g8 F2 ((2 + 4 - 3) % 4)) (times (g8 F1 ((1 + 4 - 2) % 4)) x) ^^^ times (g8 F2 ((3 + 4 - 3) % 4)) (times (g8 F1 ((1 + 4 - 3) % 4)) x)) = 0 := four2_0 _ _ _ _ _ _ _ _ (by decide +kernel) x
theorem z21_32 (x : UInt8) : (times (g8 F2 ((0 + 4 - 3) % 4)) (times (g8 F1 ((2 + 4 - 0) % 4)) x) ^^^ times (g8 F2 ((1 + 4 - 3) % 4)) (times (g8 F1 ((2 + 4 - 1) % 4)) x)) ^^^ (times (g8 F2 ((2 + 4 - 3) % 4)) (times (g8 F1 ((2 + 4 - 2) % 4)) x) ^^^ times (g8 F2 ((3 + 4 - 3) % 4)) (times (g8 F1 ((2 + 4 - 3) % 4)) x)) = 0 := four2_0 _ _ _ _ _ _ _ _ (by decide +kernel) x
theorem z21_33 (x : UInt8) : (times (g8 F2 ((0 + 4 - 3) % 4)) (times (g8 F1 ((3 + 4 - 0) % 4)) x) ^^^ times (g8 F2 ((1 + 4 - 3) % 4)) (times (g8 F1 ((3 + 4 - 1) % 4)) x)) ^^^ (times (g8 F2 ((2 + 4 - 3) % 4)) (times (g8 F1 ((3 + 4 - 2) % 4)) x) ^^^ times (g8 F2 ((3 + 4 - 3) % 4)) (times (g8 F1 ((3 + 4 - 3) % 4)) x)) = x := four2_id _ _ _ _ _ _ _ _ (by decide +kernel) x
theorem z12_00 (x : UInt8) : (times (g8 F1 ((0 + 4 - 0) % 4)) (times (g8 F2 ((0 + 4 - 0) % 4)) x) ^^^ times (g8 F1 ((1 + 4 - 0) % 4)) (times (g8 F2 ((0 + 4 - 1) % 4)) x)) ^^^ (times (g8 F1 ((2 + 4 - 0) % 4)) (times (g8 F2 ((0 + 4 - 2) % 4)) x) ^^^ times (g8 F1 ((3 + 4 - 0) % 4)) (times (g8 F2 ((0 + 4 - 3) % 4)) x)) = x := four2_id _ _ _ _ _ _ _ _ (by decide +kernel) x
theorem z12_01 (x : UInt8) : (times (g8 F1 ((0 + 4 - 0) % 4)) (times (g8 F2 ((1 + 4 - 0) % 4)) x) ^^^ times (g8 F1 ((1 + 4 - 0) % 4)) (times (g8 F2 ((1 + 4 - 1) % 4)) x)) ^^^ (times (g8 F1 ((2 + 4 - 0) % 4)) (times (g8 F2 ((1 + 4 - 2) % 4)) x) ^^^ times (g8 F1 ((3 + 4 - 0) % 4)) (times (g8 F2 ((1 + 4 - 3) % 4)) x)) = 0 := four2_0 _ _ _ _ _ _ _ _ (by decide +kernel) x
theorem z12_02 (x : UInt8) : (times (g8 F1 ((0 + 4 - 0) % 4)) (times (g8 F2 ((2 + 4 - 0) % 4)) x) ^^^ times (g8 F1 ((1 + 4 - 0) % 4)) (times (g8 F2 ((2 + 4 - 1) % 4)) x)) ^^^ (times (g8 F1 ((2 + 4 - 0) % 4)) (times (g8 F2 ((2 + 4 - 2) % 4)) x) ^^^ times (g8 F1 ((3 + 4 - 0) % 4)) (times (g8 F2 ((2 + 4 - 3) % 4)) x)) = 0 := four2_0 _ _ _ _ _ _ _ _ (by decide +kernel) x
theorem z12_03 (x : UInt8) : (times (g8 F1 ((0 + 4 - 0) % 4)) (times (g8 F2 ((3 + 4 - 0) % 4)) x) ^^^ times (g8 F1 ((1 + 4 - 0) % 4)) (times (g8 F2 ((3 + 4 - 1) % 4)) x)) ^^^ (times (g8 F1 ((2 + 4 - 0) % 4)) (times (g8 F2 ((3 + 4 - 2) % 4)) x) ^^^ times (g8 F1 ((3 + 4 - 0) % 4)) (times (g8 F2 ((3 + 4 - 3) % 4)) x)) = 0 := four2_0 _ _ _ _ _ _ _ _ (by decide +kernel) x
theorem z12_10 (x : UInt8) : (times (g8 F1 ((0 + 4 - 1) % 4)) (times (g8 F2 ((0 + 4 - 0) % 4)) x) ^^^ times (g8 F1 ((1 + 4 - 1) % 4)) (times (g8 F2 ((0 + 4 - 1) % 4)) x)) ^^^ (times (g8 F1 ((2 + 4 - 1) % 4)) (times (g8 F2 ((0 + 4 - 2) % 4)) x) ^^^ times (g8 F1 ((3 + 4 - 1) % 4)) (times (g8 F2 ((0 + 4 - 3) % 4)) x)) = 0 := four2_0 _ _ _ _ _ _ _ _ (by decide +kernel) x
theorem z12_11 (x : UInt8) : (times (g8 F1 ((0 + 4 - 1) % 4)) (times (g8 F2 ((1 + 4 - 0) % 4)) x) ^^^ times (g8 F1 ((1 + 4 - 1) % 4)) (times (g8 F2 ((1 + 4 - 1) % 4)) x)) ^^^ (times (g8 F1 ((2 + 4 - 1) % 4)) (times (g8 F2 ((1 + 4 - 2) % 4)) x) ^^^ times (g8 F1 ((3 + 4 - 1) % 4)) (times (g8 F2 ((1 + 4 - 3) % 4)) x)) = x := four2_id _ _ _ _ _ _ _ _ (by decide +kernel) x
theorem z12_12 (x : UInt8) : (times (g8 F1 ((0 + 4 - 1) % 4)) (times (g8 F2 ((2 + 4 - 0) % 4)) x) ^^^ times (g8 F1 ((1 + 4 - 1) % 4)) (times (g8 F2 ((2 + 4 - 1) % 4)) x)) ^^^ (times (g8 F1 ((2 + 4 - 1) % 4)) (times (g8 F2 ((2 + 4 - 2) % 4)) x) ^^^ times (g8 F1 ((3 + 4 - 1) % 4)) (times (g8 F2 ((2 + 4 - 3) % 4)) x)) = 0 := four2_0 _ _ _ _ _ _ _ _ (by decide +kernel) x
theorem z12_13 (x : UInt8) : (times (g8 F1 ((0 + 4 - 1) % 4)) (times (g8 F2 ((3 + 4 - 0) % 4)) x) ^^^ times (g8 F1 ((1 + 4 - 1) % 4)) (times (g8 F2 ((3 + 4 - 1) % 4)) x)) ^^^ (times (g8 F1 ((2 + 4 - 1) % 4)) (times (g8 F2 ((3 + 4 - 2) % 4)) x) ^^^ times (g8 F1 ((3 + 4 - 1) % 4)) (times (g8 F2 ((3 + 4 - 3) % 4)) x)) = 0 := four2_0 _ _ _ _ _ _ _ _ (by decide +kernel) x
theorem z12_20 (x : UInt8) : (times (g8 F1 ((0 + 4 - 2) % 4)) (times (g8 F2 ((0 + 4 - 0) % 4)) x) ^^^ times (g8 F1 ((1 + 4 - 2) % 4)) (times (g8 F2 ((0 + 4 - 1) % 4)) x)) ^^^ (times (g8 F1 ((2 + 4 - 2) % 4)) (times (g8 F2 ((0 + 4 - 2) % 4)) x) ^^^ times (g8 F1 ((3 + 4 - 2) % 4)) (times (g8 F2 ((0 + 4 - 3) % 4)) x)) = 0 := four2_0 _ _ _ _ _ _ _ _ (by decide +kernel) x
theorem z12_21 (x : UInt8) : (times (g8 F1 ((0 + 4 - 2) % 4)) (times (g8 F2 ((1 + 4 - 0) % 4)) x) ^^^ times (g8 F1 ((1 + 4 - 2) % 4)) (times (g8 F2 ((1 + 4 - 1) % 4)) x)) ^^^ (times (g8 F1 ((2 + 4 - 2) % 4)) (times (g8 F2 ((1 + 4 - 2) % 4)) x) ^^^ times (g8 F1 ((3 + 4 - 2) % 4)) (times (g8 F2 ((1 + 4 - 3) % 4)) x)) = 0 := four2_0 _ _ _ _ _ _ _ _ (by decide +kernel) x
theorem z12_22 (x : UInt8) : (times (g8 F1 ((0 + 4 - 2) % 4)) (times (g8 F2 ((2 + 4 - 0) % 4)) x) ^^^ times (g8 F1 ((1 + 4 - 2) % 4)) (times (g8 F2 ((2 + 4 - 1) % 4)) x)) ^^^ (times (g8 F1 ((2 + 4 - 2) % 4)) (times (g8 F2 ((2 + 4 - 2) % 4)) x) ^^^ times (g8 F1 ((3 + 4 - 2) % 4)) (times (g8 F2 ((2 + 4 - 3) % 4)) x)) = x := four2_id _ _ _ _ _ _ _ _ (by decide +kernel) x
theorem z12_23 (x : UInt8) : (times (g8 F1 ((0 + 4 - 2) % 4)) (times (g8 F2 ((3 + 4 - 0) % 4)) x) ^^^ times (g8 F1 ((1 + 4 - 2) % 4)) (times (g8 F2 ((3 + 4 - 1) % 4)) x)) ^^^ (times (g8 F1 ((2 + 4 - 2) % 4)) (times (g8 F2 ((3 + 4 - 2) % 4)) x) ^^^ times (g8 F1 ((3 + 4 - 2) % 4)) (times (g8 F2 ((3 + 4 - 3) % 4)) x)) = 0 := four2_0 _ _ _ _ _ _ _ _ (by decide +kernel) x
theorem z12_30 (x : UInt8) : (times (g8 F1 ((0 + 4 - 3) % 4)) (times (g8 F2 ((0 + 4 - 0) % 4)) x) ^^^ times (g8 F1 ((1 + 4 - 3) % 4)) (times (g8 F2 ((0 + 4 - 1) % 4)) x)) ^^^ (times (g8 F1 ((2 + 4 - 3) % 4)) (times (g8 F2 ((0 + 4 - 2) % 4)) x) ^^^ times (g8 F1 ((3 + 4 - 3) % 4)) (times (g8 F2 ((0 + 4 - 3) % 4)) x)) = 0 := four2_0 _ _ _ _ _ _ _ _ (by decide +kernel) x
theorem z12_31 (x : UInt8) : (times (g8 F1 ((0 + 4 - 3) % 4)) (times (g8 F2 ((1 + 4 - 0) % 4)) x) ^^^ times (g8 F1 ((1 + 4 - 3) % 4)) (times (g8 F2 ((1 + 4 - 1) % 4)) x)) ^^^ (times (g8 F1 ((2 + 4 - 3) % 4)) (times (g8 F2 ((1 + 4 - 2) % 4)) x) ^^^ times (g8 F1 ((3 + 4 - 3) % 4)) (times (g8 F2 ((1 + 4 - 3) % 4)) x)) = 0 := four2_0 _ _ _ _ _ _ _ _ (by decide +kernel) x
theorem z12_32 (x : UInt8) : (times (g8 F1 ((0 + 4 - 3) % 4)) (times (g8 F2 ((2 + 4 - 0) % 4)) x) ^^^ times (g8 F1 ((1 + 4 - 3) % 4)) (times (g8 F2 ((2 + 4 - 1) % 4)) x)) ^^^ (times (g8 F1 ((2 + 4 - 3) % 4)) (times (g8 F2 ((2 + 4 - 2) % 4)) x) ^^^ times (g8 F1 ((3 + 4 - 3) % 4)) (times (g8 F2 ((2 + 4 - 3) % 4)) x)) = 0 := four2_0 _ _ _ _ _ _ _ _ (by decide +kernel) x
theorem z12_33 (x : UInt8) : (times (g8 F1 ((0 + 4 - 3) % 4)) (times (g8 F2 ((3 + 4 - 0) % 4)) x) ^^^ times (g8 F1 ((1 + 4 - 3) % 4)) (times (g8 F2 ((3 + 4 - 1) % 4)) x)) ^^^ (times (g8 F1 ((2 + 4 - 3) % 4)) (times (g8 F2 ((3 + 4 - 2) % 4)) x) ^^^ times (g8 F1 ((3 + 4 - 3) % 4)) (times (g8 F2 ((3 + 4 - 3) % 4)) x)) = x := four2_id _ _ _ _ _ _ _ _ (by decide +kernel) x
theorem mixL_get (F l : List UInt8) (i : Nat) (hi : i < 16) : g8 (mixL F l) i = mixP F l i 4 := by
  simp [mixL, g8, List.getD, hi]
theorem list16 {l k : List UInt8} (hl : l.length = 16) (hk : k.length = 16) (h : ∀ i, i < 16 → g8 l i = g8 k i) : l = k := by
  apply List.ext_getElem?
  intro i
  by_cases hi : i < 16
  · rw [g8_eq l i (by omega), g8_eq k i (by omega), h i hi]
  · rw [List.getElem?_eq_none (by omega), List.getElem?_eq_none (by omega)]
theorem mixP_col (F l : List UInt8) (c r : Nat) (hr : r < 4) :
    mixP F l (4 * c + r) 4 = ((times (g8 F ((0 + 4 - r) % 4)) (g8 l (4 * c + 0)) ^^^ times (g8 F ((1 + 4 - r) % 4)) (g8 l (4 * c + 1))) ^^^ times (g8 F ((2 + 4 - r) % 4)) (g8 l (4 * c + 2))) ^^^ times (g8 F ((3 + 4 - r) % 4)) (g8 l (4 * c + 3)) := by
  simp only [mixP, show (4 * c + r) % 4 = r by omega, show (4 * c + r) / 4 * 4 = 4 * c by omega, UInt8.zero_xor]
theorem regroup (a b c d e f g h i j k l m n o p : UInt8) :
    ((((a ^^^ b) ^^^ c) ^^^ d) ^^^ (((e ^^^ f) ^^^ g) ^^^ h) ^^^ (((i ^^^ j) ^^^ k) ^^^ l)) ^^^ (((m ^^^ n) ^^^ o) ^^^ p) =
    (((((a ^^^ e) ^^^ (i ^^^ m)) ^^^ ((b ^^^ f) ^^^ (j ^^^ n)))) ^^^ ((c ^^^ g) ^^^ (k ^^^ o))) ^^^ ((d ^^^ h) ^^^ (l ^^^ p)) := by ac_rfl
theorem mix21 (l : List UInt8) (hl : l.length = 16) : mixL F2 (mixL F1 l) = l := by
  refine list16 (mixL_len _ _) hl fun i hi => ?_
  rw [mixL_get _ _ _ hi]
  obtain ⟨c, r, rfl, hr⟩ : ∃ c r, i = 4 * c + r ∧ r < 4 := ⟨i / 4, i % 4, by omega, by omega⟩
  rw [mixP_col _ _ _ _ hr, mixL_get _ _ _ (by omega), mixL_get _ _ _ (by omega), mixL_get _ _ _ (by omega), mixL_get _ _ _ (by omega), mixP_col _ _ _ 0 (by omega), mixP_col _ _ _ 1 (by omega), mixP_col _ _ _ 2 (by omega), mixP_col _ _ _ 3 (by omega)]
  simp only [times_xor]
  rw [regroup]
  have h3 : r = 0 ∨ r = 1 ∨ r = 2 ∨ r = 3 := by omega
  rcases h3 with rfl | rfl | rfl | rfl
  · rw [z21_00, z21_01, z21_02, z21_03, UInt8.xor_zero, UInt8.xor_zero, UInt8.xor_zero]
  · rw [z21_10, z21_11, z21_12, z21_13, UInt8.xor_zero, UInt8.xor_zero, UInt8.zero_xor]
  · rw [z21_20, z21_21, z21_22, z21_23, UInt8.xor_zero, UInt8.xor_zero, UInt8.zero_xor]
  · rw [z21_30, z21_31, z21_32, z21_33, UInt8.xor_zero, UInt8.xor_zero, UInt8.zero_xor]
theorem mix12 (l : List UInt8) (hl : l.length = 16) : mixL F1 (mixL F2 l) = l := by
  refine list16 (mixL_len _ _) hl fun i hi => ?_
  rw [mixL_get _ _ _ hi]
  obtain ⟨c, r, rfl, hr⟩ : ∃ c r, i = 4 * c + r ∧ r < 4 := ⟨i / 4, i % 4, by omega, by omega⟩
  rw [mixP_col _ _ _ _ hr, mixL_get _ _ _ (by omega), mixL_get _ _ _ (by omega), mixL_get _ _ _ (by omega), mixL_get _ _ _ (by omega), mixP_col _ _ _ 0 (by omega), mixP_col _ _ _ 1 (by omega), mixP_col _ _ _ 2 (by omega), mixP_col _ _ _ 3 (by omega)]
  simp only [times_xor]
  rw [regroup]
  have h3 : r = 0 ∨ r = 1 ∨ r = 2 ∨ r = 3 := by omega
  rcases h3 with rfl | rfl | rfl | rfl
  · rw [z12_00, z12_01, z12_02, z12_03, UInt8.xor_zero, UInt8.xor_zero, UInt8.xor_zero]
  · rw [z12_10, z12_11, z12_12, z12_13, UInt8.xor_zero, UInt8.xor_zero, UInt8.zero_xor]
  · rw [z12_20, z12_21, z12_22, z12_23, UInt8.xor_zero, UInt8.xor_zero, UInt8.zero_xor]
  · rw [z12_30, z12_31, z12_32, z12_33, UInt8.xor_zero, UInt8.xor_zero, UInt8.zero_xor]
/-- The tables undo one another. -/
structure Tab (T : List UInt8) : Prop where
  len : T.length = 688
  us : ∀ b : UInt8, g8 T (432 + (g8 T (176 + b.toNat)).toNat) = b
  su : ∀ b : UInt8, g8 T (176 + (g8 T (432 + b.toNat)).toNat) = b
theorem ush_get (T t : List UInt8) (j : Nat) (hj : j < 16) : g8 (ush T t) j = g8 T (432 + (g8 t (igx j)).toNat) := by
  simp [ush, setsL, g8, List.getD, hj]
theorem shs_gx (T s : List UInt8) (i : Nat) (hi : i < 16) : g8 (shs T s) i = g8 T (176 + (g8 s (gx i)).toNat) := shs_get T s i hi
theorem ush_shs {T : List UInt8} (h : Tab T) (s : List UInt8) (hs : s.length = 16) : ush T (shs T s) = s := by
  refine list16 (ush_len _ _) hs fun j hj => ?_
  have key : ∀ a, a < 16 → gx (igx a) = a := by decide
  rw [ush_get _ _ _ hj, shs_gx _ _ _ (by unfold igx; omega), h.us, key j hj]
theorem shs_ush {T : List UInt8} (h : Tab T) (s : List UInt8) (hs : s.length = 16) : shs T (ush T s) = s := by
  refine list16 (shs_len _ _) hs fun j hj => ?_
  have key : ∀ a, a < 16 → igx (gx a) = a := by decide
  rw [shs_gx _ _ _ hj, ush_get _ _ _ (by unfold gx; omega), h.su, key j hj]
theorem xorL_get (a b : List UInt8) (i : Nat) (hi : i < 16) : g8 (xorL a b) i = g8 a i ^^^ g8 b i := by simp [g8, xorL, hi]
theorem xorL_back (a k : List UInt8) (ha : a.length = 16) : xorL (xorL a k) k = a := by
  refine list16 (xorL_len _ _) ha fun i hi => ?_
  rw [xorL_get _ _ _ hi, xorL_get _ _ _ hi, UInt8.xor_assoc, UInt8.xor_self, UInt8.xor_zero]
theorem bk_of_blk {T : List UInt8} (h : Tab T) (s : List UInt8) (hs : s.length = 16) : ∀ k, k ≤ 10 → bkR T (blockS T s) k = blkR T s (10 - k)
  | 0, _ => rfl
  | k + 1, hk => by
    rw [bkR, bk_of_blk h s hs k (by omega), show 10 - k = (10 - (k + 1)) + 1 by omega, blkR, show 10 - (k + 1) + 1 = 10 - k by omega]
    by_cases h0 : k = 0
    · subst h0
      rw [if_pos rfl, if_neg (by decide), xorL_back _ _ (shs_len _ _), ush_shs h _ (blkR_len _ _ _)]
    · rw [if_neg h0, if_pos (by omega), xorL_back _ _ (mixL_len _ _), mix21 _ (shs_len _ _), ush_shs h _ (blkR_len _ _ _)]
theorem back_block {T : List UInt8} (h : Tab T) (s : List UInt8) (hs : s.length = 16) : backS T (blockS T s) = s := by
  unfold backS
  rw [bk_of_blk h s hs 10 (by decide)]
  exact xorL_back _ _ hs
theorem blk_of_bk {T : List UInt8} (h : Tab T) (s : List UInt8) (hs : s.length = 16) : ∀ r, r ≤ 10 → blkR T (backS T s) r = bkR T s (10 - r)
  | 0, _ => by
    show xorL (xorL (bkR T s 10) (rk T 0)) (rk T 0) = _
    rw [xorL_back _ _ (bkR_len _ _ hs _)]
  | r + 1, hr => by
    rw [blkR, blk_of_bk h s hs r (by omega), show 10 - r = (10 - (r + 1)) + 1 by omega, bkR]
    have e : shs T (ush T (if 10 - (r + 1) = 0 then xorL (bkR T s (10 - (r + 1))) (rk T (10 - (10 - (r + 1)))) else mixL F2 (xorL (bkR T s (10 - (r + 1))) (rk T (10 - (10 - (r + 1))))))) = if 10 - (r + 1) = 0 then xorL (bkR T s (10 - (r + 1))) (rk T (r + 1)) else mixL F2 (xorL (bkR T s (10 - (r + 1))) (rk T (r + 1))) := by
      rw [shs_ush h _ (by split; exact xorL_len _ _; exact mixL_len _ _), show 10 - (10 - (r + 1)) = r + 1 by omega]
    rw [e]
    by_cases h0 : r + 1 < 10
    · rw [if_pos h0, if_neg (by omega), mix12 _ (xorL_len _ _), xorL_back _ _ (bkR_len _ _ hs _)]
    · rw [if_neg h0, if_pos (by omega), xorL_back _ _ (bkR_len _ _ hs _)]
theorem block_back {T : List UInt8} (h : Tab T) (s : List UInt8) (hs : s.length = 16) : blockS T (backS T s) = s := blk_of_bk h s hs 10 (by decide)
end Go.Xr
