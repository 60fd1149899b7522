/- Layer 1, sha: the digest of many bytes, in plain words (no program). -/
import Derived.Test.YtfcpnicgffbmeaaShaS
namespace Go.Xr
open Go
set_option linter.unusedVariables false

def B0 : List UInt32 := [0x6a09e667, 0xbb67ae85, 0x3c6ef372, 0xa54ff53a, 0x510e527f, 0x9b05688c, 0x1f83d9ab, 0x5be0cd19]
def K0 : List UInt32 := [
  0x428a2f98, 0x71374491, 0xb5c0fbcf, 0xe9b5dba5, 0x3956c25b, 0x59f111f1, 0x923f82a4, 0xab1c5ed5,
  0xd807aa98, 0x12835b01, 0x243185be, 0x550c7dc3, 0x72be5d74, 0x80deb1fe, 0x9bdc06a7, 0xc19bf174,
  0xe49b69c1, 0xefbe4786, 0xfc19dc6, 0x240ca1cc, 0x2de92c6f, 0x4a7484aa, 0x5cb0a9dc, 0x76f988da,
  0x983e5152, 0xa831c66d, 0xb00327c8, 0xbf597fc7, 0xc6e00bf3, 0xd5a79147, 0x6ca6351, 0x14292967,
  0x27b70a85, 0x2e1b2138, 0x4d2c6dfc, 0x53380d13, 0x650a7354, 0x766a0abb, 0x81c2c92e, 0x92722c85,
  0xa2bfe8a1, 0xa81a664b, 0xc24b8b70, 0xc76c51a3, 0xd192e819, 0xd6990624, 0xf40e3585, 0x106aa070,
  0x19a4c116, 0x1e376c08, 0x2748774c, 0x34b0bcb5, 0x391c0cb3, 0x4ed8aa4a, 0x5b9cca4f, 0x682e6ff3,
  0x748f82ee, 0x78a5636f, 0x84c87814, 0x8cc70208, 0x90befffa, 0xa4506ceb, 0xbef9a3f7, 0xc67178f2]
theorem B0_len : B0.length = 8 := rfl
theorem K0_len : K0.length = 64 := rfl

/-- The words behind q whole blocks. -/
def hv : Nat → List UInt8 → List UInt32
  | 0, _ => B0
  | q + 1, bs => compress K0 (hv q bs) ((bs.drop (64 * q)).take 64)
def zlen (n : Nat) : Nat := (119 - n % 64) % 64
def be8 (m : Nat) : List UInt8 := (List.range 8).map fun i => UInt8.ofNat (m / 2 ^ (56 - 8 * i))
def padL (bs : List UInt8) : List UInt8 := bs ++ (0x80 :: (List.replicate (zlen bs.length) 0 ++ be8 (8 * bs.length)))
def outB (v : List UInt32) (m : Nat) : List UInt8 := (List.range m).map fun i => (shr32 (g32 v (i / 4)) (24 - i % 4 * 8)).toUInt8
/-- THE DIGEST. -/
def shaL (bs : List UInt8) : List UInt8 := outB (hv ((padL bs).length / 64) (padL bs)) 32

theorem hv_len (q : Nat) (bs : List UInt8) : (hv q bs).length = 8 := by
  cases q with
  | zero => rfl
  | succ q => exact compress_length _ _ _
theorem hv_append (c : List UInt8) : ∀ (q : Nat) (bs : List UInt8), 64 * q ≤ bs.length → hv q (bs ++ c) = hv q bs
  | 0, _, _ => rfl
  | q + 1, bs, h => by
    simp only [hv]
    rw [hv_append c q bs (by omega), List.drop_append_of_le_length (by omega), List.take_append_of_le_length (by rw [List.length_drop]; omega)]

/-- Some bytes written over. -/
def spl (p : List UInt8) (r : Nat) (c : List UInt8) : List UInt8 := p.take r ++ c ++ p.drop (r + c.length)
theorem spl_len (p : List UInt8) (r : Nat) (c : List UInt8) (h : r + c.length ≤ p.length) : (spl p r c).length = p.length := by
  simp [spl]; omega

/-- What a hash has behind the bytes bs: the words v, the part p. -/
structure Inv (bs : List UInt8) (v : List UInt32) (p : List UInt8) : Prop where
  vl : v = hv (bs.length / 64) bs
  pl : p.length = 64
  pt : p.take (bs.length % 64) = bs.drop (bs.length - bs.length % 64)

theorem Inv.start (p : List UInt8) (h : p.length = 64) : Inv [] B0 p := ⟨rfl, h, by simp⟩
theorem Inv.v8 {bs : List UInt8} {v : List UInt32} {p : List UInt8} (h : Inv bs v p) : v.length = 8 := by rw [h.vl]; exact hv_len _ _
theorem Inv.part {bs : List UInt8} {v : List UInt32} {p : List UInt8} (h : Inv bs v p) (c : List UInt8) (hc : bs.length % 64 + c.length < 64) : Inv (bs ++ c) v (spl p (bs.length % 64) c) := by
  have e1 : (bs ++ c).length = bs.length + c.length := List.length_append
  have e2 : (bs.length + c.length) / 64 = bs.length / 64 := by omega
  have e3 : (bs.length + c.length) % 64 = bs.length % 64 + c.length := by omega
  have hl : (p.take (bs.length % 64)).length = bs.length % 64 := by rw [List.length_take, h.pl]; omega
  refine ⟨?_, by rw [spl_len p _ c (by rw [h.pl]; omega)]; exact h.pl, ?_⟩
  · rw [e1, e2, hv_append c _ bs (by omega)]
    exact h.vl
  · rw [e1, e3, show bs.length + c.length - (bs.length % 64 + c.length) = bs.length - bs.length % 64 by omega, List.drop_append_of_le_length (by omega), ← h.pt]
    unfold spl
    have := List.take_left (l₁ := p.take (bs.length % 64) ++ c) (l₂ := p.drop (bs.length % 64 + c.length))
    rw [List.length_append, hl] at this
    exact this
theorem Inv.whole {bs : List UInt8} {v : List UInt32} {p : List UInt8} (h : Inv bs v p) (c : List UInt8) (hc : bs.length % 64 + c.length = 64) (hc0 : 0 < c.length) : Inv (bs ++ c) (compress K0 v (spl p (bs.length % 64) c)) (spl p (bs.length % 64) c) := by
  have e1 : (bs ++ c).length = bs.length + c.length := List.length_append
  have e2 : (bs.length + c.length) / 64 = bs.length / 64 + 1 := by omega
  have e3 : (bs.length + c.length) % 64 = 0 := by omega
  have hd : p.drop (bs.length % 64 + c.length) = [] := List.drop_eq_nil_of_le (by rw [h.pl]; omega)
  refine ⟨?_, by rw [spl_len p _ c (by rw [h.pl]; omega)]; exact h.pl, ?_⟩
  · rw [e1, e2]
    simp only [hv]
    rw [hv_append c _ bs (by omega), ← h.vl]
    congr 1
    have e4 : 64 * (bs.length / 64) = bs.length - bs.length % 64 := by omega
    unfold spl
    rw [hd, List.append_nil, h.pt, e4, List.drop_append_of_le_length (by omega)]
    have hl : (bs.drop (bs.length - bs.length % 64) ++ c).length = 64 := by rw [List.length_append, List.length_drop]; omega
    exact (List.take_of_length_le (by omega)).symm
  · rw [e1, e3]
    simp
theorem pad_len (bs : List UInt8) : (padL bs).length % 64 = 0 := by
  simp only [padL, be8, zlen, List.length_append, List.length_cons, List.length_replicate, List.length_map, List.length_range]
  omega
theorem outB_len (v : List UInt32) (m : Nat) : (outB v m).length = m := by simp [outB]
theorem shaL_len (bs : List UInt8) : (shaL bs).length = 32 := outB_len _ _
theorem outB_succ (v : List UInt32) (m : Nat) : outB v (m + 1) = outB v m ++ [(shr32 (g32 v (m / 4)) (24 - m % 4 * 8)).toUInt8] := by simp [outB, List.range_succ]
/-- Behind the padded bytes the words are those of the digest. -/
theorem shaL_of {bs : List UInt8} {v : List UInt32} {p : List UInt8} (h : Inv (padL bs) v p) : outB v 32 = shaL bs := by rw [h.vl]; rfl
end Go.Xr
