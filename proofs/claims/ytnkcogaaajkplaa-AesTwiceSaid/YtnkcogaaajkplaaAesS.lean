/- Layer 3, aes: bytes' products, in plain words (no program). -/
import Derived.Test.YtnkcogaaajkplaaShaS
namespace Go.Xr
open Go
set_option linter.unusedVariables false
def tw (a : UInt8) : UInt8 := shl8 a 1 ^^^ (shr8 a 7 * c8 27)
def tmF : Nat → UInt8 → UInt8 → UInt8 → UInt8
  | 0, _, _, p => p
  | n + 1, a, b, p => tmF n (tw a) (shr8 b 1) (if (b &&& c8 1).toNat = 1 then p ^^^ a else p)
/-- The product. -/
def times (a b : UInt8) : UInt8 := tmF 8 a b 0
def pw (b : UInt8) : Nat → UInt8
  | 0 => 1
  | k + 1 => times (pw b k) b
def rot1 (c : UInt8) : UInt8 := shl8 c 1 ||| shr8 c 7
def rx (c : UInt8) : Nat → UInt8 × UInt8
  | 0 => (c, c)
  | k + 1 => (rot1 (rx c k).1, (rx c k).2 ^^^ rot1 (rx c k).1)
def aff (c : UInt8) : UInt8 := (rx c 4).2 ^^^ c8 99
def subS (b : UInt8) : UInt8 := aff (pw b 254)
def ry (c : UInt8) : Nat → UInt8
  | 0 => c8 99
  | i + 1 => ry c i ^^^ (shl8 c i ||| shr8 c (8 - i))
theorem u8_every (p : UInt8 → Bool) (h : (List.range 256).all (fun i => p (UInt8.ofNat i)) = true) (c : UInt8) : p c = true := by
  have := List.all_eq_true.1 h c.toNat (List.mem_range.2 c.toNat_lt)
  simpa using this
theorem aff_eq (c : UInt8) : ry c 5 = aff c := by
  have := u8_every (fun c => ry c 5 == aff c) (by decide +kernel) c
  simpa using this
theorem tw_alt (a : UInt8) : (if (a &&& c8 128).toNat = 0 then shl8 a 1 else shl8 a 1 ^^^ c8 27) = tw a := by
  have := u8_every (fun a => (if (a &&& c8 128).toNat = 0 then shl8 a 1 else shl8 a 1 ^^^ c8 27) == tw a) (by decide +kernel) a
  simpa using this
def invOk (b : UInt8) : Bool := b == 0 || ((times b (pw b 254) == 1) && (List.range (pw b 254).toNat).all (fun i => times b (UInt8.ofNat i) != 1))
theorem tmF_stop (n : Nat) (a p : UInt8) : tmF n a 0 p = p := by
  induction n generalizing a p with
  | zero => rfl
  | succ n ih =>
    have e : shr8 0 1 = (0 : UInt8) := by decide
    have e2 : ((0 : UInt8) &&& c8 1).toNat = 0 := by decide
    rw [tmF, e, e2]
    exact ih _ _
end Go.Xr
