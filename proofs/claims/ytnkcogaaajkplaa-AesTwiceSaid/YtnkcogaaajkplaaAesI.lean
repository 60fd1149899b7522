/- Layer 3, aes: inverses, by reckoning over numbers. -/
import Derived.Test.YtnkcogaaajkplaaAesS
namespace Go.Xr
open Go
set_option linter.unusedVariables false
def twN (a : Nat) : Nat := (a * 2 % 256) ^^^ (a / 128 * 27)
def tmN : Nat → Nat → Nat → Nat → Nat
  | 0, _, _, p => p
  | n + 1, a, b, p => tmN n (twN a) (b / 2) (p ^^^ (b % 2 * a))
theorem tw_nat (a : UInt8) : (tw a).toNat = twN a.toNat := by
  have := u8_every (fun a => (tw a).toNat == twN a.toNat) (by decide +kernel) a
  simpa using this
theorem shr_nat8 (b : UInt8) : (shr8 b 1).toNat = b.toNat / 2 := by
  have := u8_every (fun b => (shr8 b 1).toNat == b.toNat / 2) (by decide +kernel) b
  simpa using this
theorem low_nat (b : UInt8) : (b &&& c8 1).toNat = b.toNat % 2 := by
  have := u8_every (fun b => (b &&& c8 1).toNat == b.toNat % 2) (by decide +kernel) b
  simpa using this
theorem tm_nat (n : Nat) (a b p : UInt8) : (tmF n a b p).toNat = tmN n a.toNat b.toNat p.toNat := by
  induction n generalizing a b p with
  | zero => rfl
  | succ n ih =>
    rw [tmF, tmN, ih, tw_nat, shr_nat8, low_nat]
    congr 1
    have h := Nat.mod_two_eq_zero_or_one b.toNat
    rcases h with h | h
    · rw [h, if_neg (by decide), Nat.zero_mul, Nat.xor_zero]
    · rw [h, if_pos rfl, UInt8.toNat_xor, Nat.one_mul]
def timesN (a b : Nat) : Nat := tmN 8 a b 0
theorem times_nat (a b : UInt8) : (times a b).toNat = timesN a.toNat b.toNat := tm_nat 8 a b 0
def pwN (b : Nat) : Nat → Nat
  | 0 => 1
  | k + 1 => timesN (pwN b k) b
theorem pw_nat (b : UInt8) (k : Nat) : (pw b k).toNat = pwN b.toNat k := by
  induction k with
  | zero => rfl
  | succ k ih => rw [pw, pwN, times_nat, ih]
/-- Counts up to the first c whose product is 1. -/
def firstN (b : Nat) : Nat → Nat → Bool
  | 0, c => timesN b c == 1
  | j + 1, c => (timesN b c != 1) && firstN b j (c + 1)
def invN (b : Nat) : Bool := firstN b (pwN b 254) 0
theorem inv_c0 : (List.range' 1 8).all invN = true := by decide +kernel
theorem inv_c1 : (List.range' 9 8).all invN = true := by decide +kernel
theorem inv_c2 : (List.range' 17 8).all invN = true := by decide +kernel
theorem inv_c3 : (List.range' 25 8).all invN = true := by decide +kernel
theorem inv_c4 : (List.range' 33 8).all invN = true := by decide +kernel
theorem inv_c5 : (List.range' 41 8).all invN = true := by decide +kernel
theorem inv_c6 : (List.range' 49 8).all invN = true := by decide +kernel
theorem inv_c7 : (List.range' 57 8).all invN = true := by decide +kernel
theorem inv_c8 : (List.range' 65 8).all invN = true := by decide +kernel
theorem inv_c9 : (List.range' 73 8).all invN = true := by decide +kernel
theorem inv_c10 : (List.range' 81 8).all invN = true := by decide +kernel
theorem inv_c11 : (List.range' 89 8).all invN = true := by decide +kernel
theorem inv_c12 : (List.range' 97 8).all invN = true := by decide +kernel
theorem inv_c13 : (List.range' 105 8).all invN = true := by decide +kernel
theorem inv_c14 : (List.range' 113 8).all invN = true := by decide +kernel
theorem inv_c15 : (List.range' 121 8).all invN = true := by decide +kernel
theorem inv_c16 : (List.range' 129 8).all invN = true := by decide +kernel
theorem inv_c17 : (List.range' 137 8).all invN = true := by decide +kernel
theorem inv_c18 : (List.range' 145 8).all invN = true := by decide +kernel
theorem inv_c19 : (List.range' 153 8).all invN = true := by decide +kernel
theorem inv_c20 : (List.range' 161 8).all invN = true := by decide +kernel
theorem inv_c21 : (List.range' 169 8).all invN = true := by decide +kernel
theorem inv_c22 : (List.range' 177 8).all invN = true := by decide +kernel
theorem inv_c23 : (List.range' 185 8).all invN = true := by decide +kernel
theorem inv_c24 : (List.range' 193 8).all invN = true := by decide +kernel
theorem inv_c25 : (List.range' 201 8).all invN = true := by decide +kernel
theorem inv_c26 : (List.range' 209 8).all invN = true := by decide +kernel
theorem inv_c27 : (List.range' 217 8).all invN = true := by decide +kernel
theorem inv_c28 : (List.range' 225 8).all invN = true := by decide +kernel
theorem inv_c29 : (List.range' 233 8).all invN = true := by decide +kernel
theorem inv_c30 : (List.range' 241 8).all invN = true := by decide +kernel
theorem inv_c31 : (List.range' 249 7).all invN = true := by decide +kernel
theorem inv_at (n : Nat) (h : 1 ≤ n) (h2 : n < 256) : invN n = true := by
  have key : ∀ s m, (List.range' s m).all invN = true → s ≤ n → n < s + m → invN n = true := fun s m h a b => List.all_eq_true.1 h n (by rw [List.mem_range'_1]; omega)
  by_cases g0 : n < 9
  · exact key _ _ inv_c0 (by omega) (by omega)
  by_cases g1 : n < 17
  · exact key _ _ inv_c1 (by omega) (by omega)
  by_cases g2 : n < 25
  · exact key _ _ inv_c2 (by omega) (by omega)
  by_cases g3 : n < 33
  · exact key _ _ inv_c3 (by omega) (by omega)
  by_cases g4 : n < 41
  · exact key _ _ inv_c4 (by omega) (by omega)
  by_cases g5 : n < 49
  · exact key _ _ inv_c5 (by omega) (by omega)
  by_cases g6 : n < 57
  · exact key _ _ inv_c6 (by omega) (by omega)
  by_cases g7 : n < 65
  · exact key _ _ inv_c7 (by omega) (by omega)
  by_cases g8 : n < 73
  · exact key _ _ inv_c8 (by omega) (by omega)
  by_cases g9 : n < 81
  · exact key _ _ inv_c9 (by omega) (by omega)
  by_cases g10 : n < 89
  · exact key _ _ inv_c10 (by omega) (by omega)
  by_cases g11 : n < 97
  · exact key _ _ inv_c11 (by omega) (by omega)
  by_cases g12 : n < 105
  · exact key _ _ inv_c12 (by omega) (by omega)
  by_cases g13 : n < 113
  · exact key _ _ inv_c13 (by omega) (by omega)
  by_cases g14 : n < 121
  · exact key _ _ inv_c14 (by omega) (by omega)
  by_cases g15 : n < 129
  · exact key _ _ inv_c15 (by omega) (by omega)
  by_cases g16 : n < 137
  · exact key _ _ inv_c16 (by omega) (by omega)
  by_cases g17 : n < 145
  · exact key _ _ inv_c17 (by omega) (by omega)
  by_cases g18 : n < 153
  · exact key _ _ inv_c18 (by omega) (by omega)
  by_cases g19 : n < 161
  · exact key _ _ inv_c19 (by omega) (by omega)
  by_cases g20 : n < 169
  · exact key _ _ inv_c20 (by omega) (by omega)
  by_cases g21 : n < 177
  · exact key _ _ inv_c21 (by omega) (by omega)
  by_cases g22 : n < 185
  · exact key _ _ inv_c22 (by omega) (by omega)
  by_cases g23 : n < 193
  · exact key _ _ inv_c23 (by omega) (by omega)
  by_cases g24 : n < 201
  · exact key _ _ inv_c24 (by omega) (by omega)
  by_cases g25 : n < 209
  · exact key _ _ inv_c25 (by omega) (by omega)
  by_cases g26 : n < 217
  · exact key _ _ inv_c26 (by omega) (by omega)
  by_cases g27 : n < 225
  · exact key _ _ inv_c27 (by omega) (by omega)
  by_cases g28 : n < 233
  · exact key _ _ inv_c28 (by omega) (by omega)
  by_cases g29 : n < 241
  · exact key _ _ inv_c29 (by omega) (by omega)
  by_cases g30 : n < 249
  · exact key _ _ inv_c30 (by omega) (by omega)
  by_cases g31 : n < 256
  · exact key _ _ inv_c31 (by omega) (by omega)
  omega
theorem firstN_spec (b : Nat) : ∀ (j c : Nat), firstN b j c = true → timesN b (c + j) = 1 ∧ ∀ i, i < j → timesN b (c + i) ≠ 1
  | 0, c, h => ⟨by simpa [firstN] using h, fun i hi => absurd hi (Nat.not_lt_zero _)⟩
  | j + 1, c, h => by
    rw [firstN, Bool.and_eq_true] at h
    have h2 := firstN_spec b j (c + 1) h.2
    refine ⟨by rw [show c + (j + 1) = c + 1 + j by omega]; exact h2.1, fun i hi => ?_⟩
    cases i with
    | zero => simpa using h.1
    | succ i => rw [show c + (i + 1) = c + 1 + i by omega]; exact h2.2 i (by omega)
/-- The inverse, and that no smaller byte is one. -/
theorem inv_spec (b : UInt8) (h : b.toNat ≠ 0) : (times b (pw b 254)).toNat = 1 ∧ ∀ i, i < (pw b 254).toNat → (times b (UInt8.ofNat i)).toNat ≠ 1 := by
  have h1 : invN b.toNat = true := inv_at _ (by omega) b.toNat_lt
  unfold invN at h1
  rw [← pw_nat] at h1
  obtain ⟨h2, h3⟩ := firstN_spec b.toNat _ 0 h1
  refine ⟨by rw [times_nat]; rw [Nat.zero_add] at h2; exact h2, fun i hi => ?_⟩
  have hl := (pw b 254).toNat_lt
  have e : (UInt8.ofNat i).toNat = i := by rw [UInt8.toNat_ofNat']; omega
  rw [times_nat, e]
  have := h3 i hi
  rw [Nat.zero_add] at this
  exact this
end Go.Xr
