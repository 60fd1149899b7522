/- Several texts put together: AesS, AesA, AesB, AesI, AesC, AesD, AesE, AesF, AesG, AesH. What each shows stands ahead of it. -/
import Derived.Test.YtneoagelcjfanaaGreatDoorGSha
import Derived.Test.YtneoagelcjfanaaGreatDoorProg
import Derived.Test.YtneoagelcjfanaaGreatDoorGCore
import Derived.WalkLawsBesides
import Derived.WalkSpells
import Derived.LoopN
/- Layer 3, aes: bytes' products, in plain words (no program). -/
namespace Go.Xr
open Go
set_option linter.unusedVariables false
def tw (a : UInt8) : UInt8 := shl8 a 1 ^^^ (shr8 a 7 * c8 27)
def tmF : Nat → UInt8 → UInt8 → UInt8 → UInt8
  | 0, _, _, p => p
  | n + 1, a, b, p => tmF n (tw a) (shr8 b 1) (if (b &&& c8 1).toNat = 1 then p ^^^ a else p)
/-- The product. -/
def times (a b : UInt8) : UInt8 := tmF 8 a b 0
def pw (b : UInt8) : Nat → UInt8
  | 0 => 1
  | k + 1 => times (pw b k) b
def rot1 (c : UInt8) : UInt8 := shl8 c 1 ||| shr8 c 7
def rx (c : UInt8) : Nat → UInt8 × UInt8
  | 0 => (c, c)
  | k + 1 => (rot1 (rx c k).1, (rx c k).2 ^^^ rot1 (rx c k).1)
def aff (c : UInt8) : UInt8 := (rx c 4).2 ^^^ c8 99
def subS (b : UInt8) : UInt8 := aff (pw b 254)
def ry (c : UInt8) : Nat → UInt8
  | 0 => c8 99
  | i + 1 => ry c i ^^^ (shl8 c i ||| shr8 c (8 - i))
theorem u8_every (p : UInt8 → Bool) (h : (List.range 256).all (fun i => p (UInt8.ofNat i)) = true) (c : UInt8) : p c = true := by
  have := List.all_eq_true.1 h c.toNat (List.mem_range.2 c.toNat_lt)
  simpa using this
theorem aff_eq (c : UInt8) : ry c 5 = aff c := by
  have := u8_every (fun c => ry c 5 == aff c) (by decide +kernel) c
  simpa using this
theorem tw_alt (a : UInt8) : (if (a &&& c8 128).toNat = 0 then shl8 a 1 else shl8 a 1 ^^^ c8 27) = tw a := by
  have := u8_every (fun a => (if (a &&& c8 128).toNat = 0 then shl8 a 1 else shl8 a 1 ^^^ c8 27) == tw a) (by decide +kernel) a
  simpa using this
def invOk (b : UInt8) : Bool := b == 0 || ((times b (pw b 254) == 1) && (List.range (pw b 254).toNat).all (fun i => times b (UInt8.ofNat i) != 1))
theorem tmF_stop (n : Nat) (a p : UInt8) : tmF n a 0 p = p := by
  induction n generalizing a p with
  | zero => rfl
  | succ n ih =>
    have e : shr8 0 1 = (0 : UInt8) := by decide
    have e2 : ((0 : UInt8) &&& c8 1).toNat = 0 := by decide
    rw [tmF, e, e2]
    exact ih _ _
end Go.Xr

/- Layer 3, aes: bytes' products, walked. -/
namespace Go.Proofs.YtneoagelcjfanaaGreatDoor.aes
open Go Go.Xr Go.RowKit
set_option linter.unusedVariables false
set_option linter.unusedSimpArgs false

theorem eqg_u8_c (t : TypeId) (x y : Operand) (a : UInt8) (n : Int) : eqGuard .eql t x y (bt a) (.int .u8 n) = pure () := rfl
theorem neg_u8_c (t : TypeId) (x y : Operand) (a : UInt8) (n : Int) : eqGuard .neq t x y (bt a) (.int .u8 n) = pure () := rfl
attribute [local go_sem] xor_u8 xor_u8_c or_u8 and_u8_c shl_u8 shr_u8 mul_u8_c eql_u8_c neq_u8_c eqg_u8_c neg_u8_c

theorem twice_any {w : World} (a : UInt8) : Calls Tryz.prog 110 #[bt a] w fun e w' => e = .returned (bt (tw a)) ∧ w = w' := by
  go_enter Tryz.func110, Tryz.ntmps110
  go_wp2
  go_ret
  exact ⟨rfl, rfl⟩

set_option maxRecDepth 20000 in
theorem times_any {w : World} (a b : UInt8) : Calls Tryz.prog 109 #[bt a, bt b] w fun e w' => e = .returned (bt (times a b)) ∧ w = w' := by
  obtain ⟨T, hT⟩ : ∃ T, times a b = T := ⟨_, rfl⟩
  rw [hT]
  have HT : Hid (tmF 8 a b 0 = T) := hid hT
  clear hT
  go_enter Tryz.func109, Tryz.ntmps109
  go_wp2_with fail
  go_loopg [0, 1, 5] 8 (fun g av bv pv wr => ∃ a' b' p' : UInt8, av = bt a' ∧ bv = bt b' ∧ pv = bt p' ∧ Hid (tmF g a' b' p' = T) ∧ b'.toNat < 2 ^ g ∧ w = wr)
  case atStart => exact ⟨a, b, 0, rfl, rfl, rfl, HT, b.toNat_lt, rfl⟩
  case round =>
    obtain ⟨a', b', p', rfl, rfl, rfl, hT, hb, rfl⟩ := hrel
    obtain ⟨G, rfl⟩ : ∃ G, G = gk := ⟨_, rfl⟩
    by_cases h0 : b'.toNat = 0
    · have hd0 : ((b'.toNat : Int) != 0) = false := by rw [h0]; rfl
      have e : b' = 0 := UInt8.toNat_inj.1 h0
      have Hp := hid (show p' = T by rw [← hT.out, e, tmF_stop])
      clear e h0
      go_wp2_with fail
      go_ret
      rw [Hp.out]
      exact ⟨rfl, rfl⟩
    · have hd0 : ((b'.toNat : Int) != 0) = true := by simp; omega
      cases G with
      | zero => simp at hb; exact absurd hb h0
      | succ G =>
        have hs : (shr8 b' 1).toNat < 2 ^ G := by
          unfold shr8
          show (b'.toBitVec >>> 1).toNat < _
          rw [BitVec.toNat_ushiftRight, Nat.shiftRight_eq_div_pow]
          have : b'.toBitVec.toNat = b'.toNat := rfl
          rw [Nat.pow_succ] at hb
          omega
        have hstep := hT.out
        rw [tmF] at hstep
        by_cases h1 : (b' &&& c8 1).toNat = 1
        · have hd1 : (((b'.toNat &&& (c8 1).toNat : Nat) : Int) == 1) = true := by rw [← UInt8.toNat_and, h1]; rfl
          rw [if_pos h1] at hstep
          have Hstep := hid hstep
          clear hstep h1 h0
          go_wp2_with (go_at_call 110; refine (twice_any _).mono ?_; rintro e w' ⟨rfl, rfl⟩)
          go_roundg G
          case rel => exact ⟨_, _, _, rfl, rfl, rfl, Hstep, hs, rfl⟩
          case measure => omega
        · have hd1 : (((b'.toNat &&& (c8 1).toNat : Nat) : Int) == 1) = false := by rw [← UInt8.toNat_and]; exact beq_eq_false_iff_ne.2 (by omega)
          rw [if_neg h1] at hstep
          have Hstep := hid hstep
          clear hstep h1 h0
          go_wp2_with (go_at_call 110; refine (twice_any _).mono ?_; rintro e w' ⟨rfl, rfl⟩)
          go_roundg G
          case rel => exact ⟨_, _, _, rfl, rfl, rfl, Hstep, hs, rfl⟩
          case measure => omega

set_option maxRecDepth 20000 in
theorem rtimes_any {w : World} (a b : UInt8) : Calls Tryz.prog 133 #[bt a, bt b] w fun e w' => e = .returned (bt (times a b)) ∧ w = w' := by
  obtain ⟨T, hT⟩ : ∃ T, times a b = T := ⟨_, rfl⟩
  rw [hT]
  have HT : Hid (tmF 8 a b 0 = T) := hid hT
  clear hT
  go_enter Tryz.func133, Tryz.ntmps133
  go_wp2_with fail
  go_loopg [0, 1, 5, 6] 8 (fun g av bv pv iv wr => ∃ (i : Nat) (a' b' p' : UInt8), i + g = 8 ∧ iv = .int .i64 i ∧ av = bt a' ∧ bv = bt b' ∧ pv = bt p' ∧ Hid (tmF g a' b' p' = T) ∧ w = wr)
  case atStart => exact ⟨0, a, b, 0, rfl, rfl, rfl, rfl, rfl, HT, rfl⟩
  case round =>
    obtain ⟨i, a', b', p', hi, rfl, rfl, rfl, rfl, hT, rfl⟩ := hrel
    obtain ⟨G, rfl⟩ : ∃ G, G = gk := ⟨_, rfl⟩
    cases G with
    | zero =>
      obtain rfl : i = 8 := by omega
      have Hp := hid (show p' = T from hT.out)
      go_wp2_with fail
      go_ret
      rw [Hp.out]
      exact ⟨rfl, rfl⟩
    | succ G =>
      have hd0 : decide ((i : Int) < 8) = true := by simp; omega
      have hstep := hT.out
      rw [tmF] at hstep
      have htw := tw_alt a'
      have c1 : (Hid ((b' &&& c8 1).toNat = 1) ∧ (((b'.toNat &&& (c8 1).toNat : Nat) : Int) == 1) = true) ∨ (Hid (¬ (b' &&& c8 1).toNat = 1) ∧ (((b'.toNat &&& (c8 1).toNat : Nat) : Int) == 1) = false) := by
        rw [← UInt8.toNat_and]
        by_cases h1 : (b' &&& c8 1).toNat = 1
        · exact .inl ⟨hid h1, by rw [h1]; rfl⟩
        · exact .inr ⟨hid h1, beq_eq_false_iff_ne.2 (by omega)⟩
      have c2 : (Hid ((a' &&& c8 128).toNat = 0) ∧ (((a'.toNat &&& (c8 128).toNat : Nat) : Int) != 0) = false) ∨ (Hid (¬ (a' &&& c8 128).toNat = 0) ∧ (((a'.toNat &&& (c8 128).toNat : Nat) : Int) != 0) = true) := by
        rw [← UInt8.toNat_and]
        by_cases h1 : (a' &&& c8 128).toNat = 0
        · exact .inl ⟨hid h1, by rw [h1]; rfl⟩
        · exact .inr ⟨hid h1, by simp only [bne_iff_ne, ne_eq]; omega⟩
      rcases c1 with ⟨h1, hd1⟩ | ⟨h1, hd1⟩
      all_goals
        rcases c2 with ⟨h2, hd2⟩ | ⟨h2, hd2⟩
      all_goals
        first | rw [if_pos h1.out] at hstep | rw [if_neg h1.out] at hstep
        first | rw [if_pos h2.out] at htw | rw [if_neg h2.out] at htw
        rw [← htw] at hstep
        have Hstep := hid hstep
        clear hstep htw h1 h2 hT HT
        go_wp2_with fail
        go_roundg G
        case rel => exact ⟨i + 1, _, _, _, by omega, by go_num, rfl, rfl, rfl, Hstep, rfl⟩
        case measure => omega
end Go.Proofs.YtneoagelcjfanaaGreatDoor.aes

/- Layer 3, aes: what stands for a byte, walked. -/
namespace Go.Proofs.YtneoagelcjfanaaGreatDoor.aes
open Go Go.Xr Go.RowKit
set_option linter.unusedVariables false
set_option linter.unusedSimpArgs false

attribute [local go_sem] xor_u8 xor_u8_c or_u8 and_u8_c shl_u8 shr_u8 mul_u8_c eql_u8_c neq_u8_c eqg_u8_c neg_u8_c

end Go.Proofs.YtneoagelcjfanaaGreatDoor.aes

/- Layer 3, aes: inverses, by reckoning over numbers. -/
namespace Go.Xr
open Go
set_option linter.unusedVariables false
def twN (a : Nat) : Nat := (a * 2 % 256) ^^^ (a / 128 * 27)
def tmN : Nat → Nat → Nat → Nat → Nat
  | 0, _, _, p => p
  | n + 1, a, b, p => tmN n (twN a) (b / 2) (p ^^^ (b % 2 * a))
theorem tw_nat (a : UInt8) : (tw a).toNat = twN a.toNat := by
  have := u8_every (fun a => (tw a).toNat == twN a.toNat) (by decide +kernel) a
  simpa using this
theorem shr_nat8 (b : UInt8) : (shr8 b 1).toNat = b.toNat / 2 := by
  have := u8_every (fun b => (shr8 b 1).toNat == b.toNat / 2) (by decide +kernel) b
  simpa using this
theorem low_nat (b : UInt8) : (b &&& c8 1).toNat = b.toNat % 2 := by
  have := u8_every (fun b => (b &&& c8 1).toNat == b.toNat % 2) (by decide +kernel) b
  simpa using this
theorem tm_nat (n : Nat) (a b p : UInt8) : (tmF n a b p).toNat = tmN n a.toNat b.toNat p.toNat := by
  induction n generalizing a b p with
  | zero => rfl
  | succ n ih =>
    rw [tmF, tmN, ih, tw_nat, shr_nat8, low_nat]
    congr 1
    have h := Nat.mod_two_eq_zero_or_one b.toNat
    rcases h with h | h
    · rw [h, if_neg (by decide), Nat.zero_mul, Nat.xor_zero]
    · rw [h, if_pos rfl, UInt8.toNat_xor, Nat.one_mul]
def timesN (a b : Nat) : Nat := tmN 8 a b 0
theorem times_nat (a b : UInt8) : (times a b).toNat = timesN a.toNat b.toNat := tm_nat 8 a b 0
def pwN (b : Nat) : Nat → Nat
  | 0 => 1
  | k + 1 => timesN (pwN b k) b
theorem pw_nat (b : UInt8) (k : Nat) : (pw b k).toNat = pwN b.toNat k := by
  induction k with
  | zero => rfl
  | succ k ih => rw [pw, pwN, times_nat, ih]
/-- Counts up to the first c whose product is 1. -/
def firstN (b : Nat) : Nat → Nat → Bool
  | 0, c => timesN b c == 1
  | j + 1, c => (timesN b c != 1) && firstN b j (c + 1)
def invN (b : Nat) : Bool := firstN b (pwN b 254) 0
theorem inv_c0 : (List.range' 1 8).all invN = true := by decide +kernel
theorem inv_c1 : (List.range' 9 8).all invN = true := by decide +kernel
theorem inv_c2 : (List.range' 17 8).all invN = true := by decide +kernel
theorem inv_c3 : (List.range' 25 8).all invN = true := by decide +kernel
theorem inv_c4 : (List.range' 33 8).all invN = true := by decide +kernel
theorem inv_c5 : (List.range' 41 8).all invN = true := by decide +kernel
theorem inv_c6 : (List.range' 49 8).all invN = true := by decide +kernel
theorem inv_c7 : (List.range' 57 8).all invN = true := by decide +kernel
theorem inv_c8 : (List.range' 65 8).all invN = true := by decide +kernel
theorem inv_c9 : (List.range' 73 8).all invN = true := by decide +kernel
theorem inv_c10 : (List.range' 81 8).all invN = true := by decide +kernel
theorem inv_c11 : (List.range' 89 8).all invN = true := by decide +kernel
theorem inv_c12 : (List.range' 97 8).all invN = true := by decide +kernel
theorem inv_c13 : (List.range' 105 8).all invN = true := by decide +kernel
theorem inv_c14 : (List.range' 113 8).all invN = true := by decide +kernel
theorem inv_c15 : (List.range' 121 8).all invN = true := by decide +kernel
theorem inv_c16 : (List.range' 129 8).all invN = true := by decide +kernel
theorem inv_c17 : (List.range' 137 8).all invN = true := by decide +kernel
theorem inv_c18 : (List.range' 145 8).all invN = true := by decide +kernel
theorem inv_c19 : (List.range' 153 8).all invN = true := by decide +kernel
theorem inv_c20 : (List.range' 161 8).all invN = true := by decide +kernel
theorem inv_c21 : (List.range' 169 8).all invN = true := by decide +kernel
theorem inv_c22 : (List.range' 177 8).all invN = true := by decide +kernel
theorem inv_c23 : (List.range' 185 8).all invN = true := by decide +kernel
theorem inv_c24 : (List.range' 193 8).all invN = true := by decide +kernel
theorem inv_c25 : (List.range' 201 8).all invN = true := by decide +kernel
theorem inv_c26 : (List.range' 209 8).all invN = true := by decide +kernel
theorem inv_c27 : (List.range' 217 8).all invN = true := by decide +kernel
theorem inv_c28 : (List.range' 225 8).all invN = true := by decide +kernel
theorem inv_c29 : (List.range' 233 8).all invN = true := by decide +kernel
theorem inv_c30 : (List.range' 241 8).all invN = true := by decide +kernel
theorem inv_c31 : (List.range' 249 7).all invN = true := by decide +kernel
theorem inv_at (n : Nat) (h : 1 ≤ n) (h2 : n < 256) : invN n = true := by
  have key : ∀ s m, (List.range' s m).all invN = true → s ≤ n → n < s + m → invN n = true := fun s m h a b => List.all_eq_true.1 h n (by rw [List.mem_range'_1]; omega)
  by_cases g0 : n < 9
  · exact key _ _ inv_c0 (by omega) (by omega)
  by_cases g1 : n < 17
  · exact key _ _ inv_c1 (by omega) (by omega)
  by_cases g2 : n < 25
  · exact key _ _ inv_c2 (by omega) (by omega)
  by_cases g3 : n < 33
  · exact key _ _ inv_c3 (by omega) (by omega)
  by_cases g4 : n < 41
  · exact key _ _ inv_c4 (by omega) (by omega)
  by_cases g5 : n < 49
  · exact key _ _ inv_c5 (by omega) (by omega)
  by_cases g6 : n < 57
  · exact key _ _ inv_c6 (by omega) (by omega)
  by_cases g7 : n < 65
  · exact key _ _ inv_c7 (by omega) (by omega)
  by_cases g8 : n < 73
  · exact key _ _ inv_c8 (by omega) (by omega)
  by_cases g9 : n < 81
  · exact key _ _ inv_c9 (by omega) (by omega)
  by_cases g10 : n < 89
  · exact key _ _ inv_c10 (by omega) (by omega)
  by_cases g11 : n < 97
  · exact key _ _ inv_c11 (by omega) (by omega)
  by_cases g12 : n < 105
  · exact key _ _ inv_c12 (by omega) (by omega)
  by_cases g13 : n < 113
  · exact key _ _ inv_c13 (by omega) (by omega)
  by_cases g14 : n < 121
  · exact key _ _ inv_c14 (by omega) (by omega)
  by_cases g15 : n < 129
  · exact key _ _ inv_c15 (by omega) (by omega)
  by_cases g16 : n < 137
  · exact key _ _ inv_c16 (by omega) (by omega)
  by_cases g17 : n < 145
  · exact key _ _ inv_c17 (by omega) (by omega)
  by_cases g18 : n < 153
  · exact key _ _ inv_c18 (by omega) (by omega)
  by_cases g19 : n < 161
  · exact key _ _ inv_c19 (by omega) (by omega)
  by_cases g20 : n < 169
  · exact key _ _ inv_c20 (by omega) (by omega)
  by_cases g21 : n < 177
  · exact key _ _ inv_c21 (by omega) (by omega)
  by_cases g22 : n < 185
  · exact key _ _ inv_c22 (by omega) (by omega)
  by_cases g23 : n < 193
  · exact key _ _ inv_c23 (by omega) (by omega)
  by_cases g24 : n < 201
  · exact key _ _ inv_c24 (by omega) (by omega)
  by_cases g25 : n < 209
  · exact key _ _ inv_c25 (by omega) (by omega)
  by_cases g26 : n < 217
  · exact key _ _ inv_c26 (by omega) (by omega)
  by_cases g27 : n < 225
  · exact key _ _ inv_c27 (by omega) (by omega)
  by_cases g28 : n < 233
  · exact key _ _ inv_c28 (by omega) (by omega)
  by_cases g29 : n < 241
  · exact key _ _ inv_c29 (by omega) (by omega)
  by_cases g30 : n < 249
  · exact key _ _ inv_c30 (by omega) (by omega)
  by_cases g31 : n < 256
  · exact key _ _ inv_c31 (by omega) (by omega)
  omega
theorem firstN_spec (b : Nat) : ∀ (j c : Nat), firstN b j c = true → timesN b (c + j) = 1 ∧ ∀ i, i < j → timesN b (c + i) ≠ 1
  | 0, c, h => ⟨by simpa [firstN] using h, fun i hi => absurd hi (Nat.not_lt_zero _)⟩
  | j + 1, c, h => by
    rw [firstN, Bool.and_eq_true] at h
    have h2 := firstN_spec b j (c + 1) h.2
    refine ⟨by rw [show c + (j + 1) = c + 1 + j by omega]; exact h2.1, fun i hi => ?_⟩
    cases i with
    | zero => simpa using h.1
    | succ i => rw [show c + (i + 1) = c + 1 + i by omega]; exact h2.2 i (by omega)
/-- The inverse, and that no smaller byte is one. -/
theorem inv_spec (b : UInt8) (h : b.toNat ≠ 0) : (times b (pw b 254)).toNat = 1 ∧ ∀ i, i < (pw b 254).toNat → (times b (UInt8.ofNat i)).toNat ≠ 1 := by
  have h1 : invN b.toNat = true := inv_at _ (by omega) b.toNat_lt
  unfold invN at h1
  rw [← pw_nat] at h1
  obtain ⟨h2, h3⟩ := firstN_spec b.toNat _ 0 h1
  refine ⟨by rw [times_nat]; rw [Nat.zero_add] at h2; exact h2, fun i hi => ?_⟩
  have hl := (pw b 254).toNat_lt
  have e : (UInt8.ofNat i).toNat = i := by rw [UInt8.toNat_ofNat']; omega
  rw [times_nat, e]
  have := h3 i hi
  rw [Nat.zero_add] at this
  exact this
end Go.Xr

/- Layer 3, the document's aes: what stands for a byte. -/
namespace Go.Proofs.YtneoagelcjfanaaGreatDoor.aes
open Go Go.Xr Go.RowKit
set_option linter.unusedVariables false
set_option linter.unusedSimpArgs false

attribute [local go_sem] xor_u8 xor_u8_c or_u8 and_u8_c shl_u8 shr_u8 mul_u8_c add_u8_c eql_u8_c neq_u8_c eqg_u8_c neg_u8_c

theorem pw_zero : pw 0 254 = 0 := by decide +kernel

set_option maxRecDepth 20000 in
theorem rsub_any {w : World} (b : UInt8) : Calls Tryz.prog 132 #[bt b] w fun e w' => e = .returned (bt (subS b)) ∧ w = w' := by
  obtain ⟨C, hC⟩ : ∃ C, pw b 254 = C := ⟨_, rfl⟩
  obtain ⟨T, hT⟩ : ∃ T, subS b = T := ⟨_, rfl⟩
  rw [hT]
  have HT : Hid (ry C 5 = T) := by rw [← hT, ← hC]; exact hid (aff_eq _)
  have hz : b.toNat = 0 → C = 0 := fun h => by
    have e : b = 0 := UInt8.toNat_inj.1 h
    rw [← hC, e, pw_zero]
  have hi := inv_spec b
  rw [hC] at hi
  clear hC hT
  have hb : (Hid (b.toNat = 0) ∧ ((b.toNat : Int) != 0) = false) ∨ (Hid (b.toNat ≠ 0) ∧ ((b.toNat : Int) != 0) = true) := by
    by_cases h : b.toNat = 0
    · exact .inl ⟨hid h, by rw [h]; rfl⟩
    · exact .inr ⟨hid h, by simp only [bne_iff_ne, ne_eq]; omega⟩
  rcases hb with ⟨h, hd⟩ | ⟨h, hd⟩
  case inl =>
    obtain rfl := hz h.out
    clear hz hi h
    go_enter Tryz.func132, Tryz.ntmps132
    go_wp2_with fail
    obtain ⟨C, hC⟩ : ∃ C : UInt8, C = 0 := ⟨_, rfl⟩
    rw [← hC] at HT
    rw [show Value.int .u8 0 = bt C by rw [hC]; rfl]
    clear hC
    go_loopw [4, 5] (fun xv iv wr => ∃ i : Nat, i ≤ 5 ∧ iv = .int .u64 i ∧ xv = bt (ry C i) ∧ w = wr) (fun _ iv _ => 5 - (intOf iv).toNat)
    case atStart => exact ⟨0, by omega, rfl, rfl, rfl⟩
    case round =>
      obtain ⟨i, hi5, rfl, rfl, rfl⟩ := hrel
      by_cases hlt : i < 5
      · have hd5 : decide ((i : Int) < 5) = true := by simp; omega
        have hm1 : (i : Int) ≤ 8 := by omega
        have hm2 : (8 - (i : Int)).toNat = 8 - i := by omega
        go_wp2_with fail
        go_roundw
        case rel => exact ⟨i + 1, by omega, by go_num, rfl, trivial⟩
        case measure => simp [intOf]; omega
      · have hd5 : decide ((i : Int) < 5) = false := by simp; omega
        have HT2 := hid (show ry C i = T by rw [← HT.out, show i = 5 by omega])
        clear hlt
        go_wp2_with fail
        go_ret
        rw [HT2.out]
        exact ⟨rfl, rfl⟩
  case inr =>
    have Hi := hid (hi h.out)
    clear hz hi h
    go_enter Tryz.func132, Tryz.ntmps132
    go_wp2_with fail
    go_loopw [3] (fun cv wr => ∃ j : Nat, j ≤ C.toNat ∧ cv = bt (UInt8.ofNat j) ∧ w = wr) (fun cv _ => C.toNat - (intOf cv).toNat)
    case atStart => exact ⟨0, by omega, rfl, rfl⟩
    case round =>
      obtain ⟨j, hj, rfl, rfl⟩ := hrel
      have hCl := C.toNat_lt
      have e0 : (UInt8.ofNat j).toNat = j := by rw [UInt8.toNat_ofNat']; omega
      by_cases hlt : j < C.toNat
      · have h1 : ((times b (UInt8.ofNat j)).toNat : Int) ≠ 1 := by have := Hi.out.2 j hlt; omega
        have hd1 : (((times b (UInt8.ofNat j)).toNat : Int) != 1) = true := by simpa using h1
        have e1 := hid (show UInt8.ofNat j + c8 1 = UInt8.ofNat (j + 1) from (UInt8.ofNat_add j 1).symm)
        have e2 : (UInt8.ofNat (j + 1)).toNat = j + 1 := by rw [UInt8.toNat_ofNat']; omega
        go_wp2_with (go_at_call 133; refine (rtimes_any _ _).mono ?_; rintro e w' ⟨rfl, rfl⟩)
        go_roundw
        case rel => exact ⟨j + 1, by omega, by rw [e1.out], trivial⟩
        case measure => rw [e1.out]; simp only [bt, intOf, e0, e2]; omega
      · have ej : UInt8.ofNat j = C := UInt8.toNat_inj.1 (by omega)
        have h1 : ((times b (UInt8.ofNat j)).toNat : Int) = 1 := by have := Hi.out.1; rw [ej]; omega
        have hd1 : (((times b (UInt8.ofNat j)).toNat : Int) != 1) = false := by rw [h1]; rfl
        rw [ej] at hd1 ⊢
        clear h1 ej hlt e0
        go_wp2_with (go_at_call 133; refine (rtimes_any _ _).mono ?_; rintro e w' ⟨rfl, rfl⟩)
        clear hd1
        go_loopw [4, 5] (fun xv iv wr => ∃ i : Nat, i ≤ 5 ∧ iv = .int .u64 i ∧ xv = bt (ry C i) ∧ w = wr) (fun _ iv _ => 5 - (intOf iv).toNat)
        case atStart => exact ⟨0, by omega, rfl, rfl, rfl⟩
        case round =>
          obtain ⟨i, hi5, rfl, rfl, rfl⟩ := hrel
          by_cases hlt : i < 5
          · have hd5 : decide ((i : Int) < 5) = true := by simp; omega
            have hm1 : (i : Int) ≤ 8 := by omega
            have hm2 : (8 - (i : Int)).toNat = 8 - i := by omega
            go_wp2_with fail
            go_roundw
            case rel => exact ⟨i + 1, by omega, by go_num, rfl, trivial⟩
            case measure => simp [intOf]; omega
          · have hd5 : decide ((i : Int) < 5) = false := by simp; omega
            have HT2 := hid (show ry C i = T by rw [← HT.out, show i = 5 by omega])
            clear hlt
            go_wp2_with fail
            go_ret
            rw [HT2.out]
            exact ⟨rfl, rfl⟩
end Go.Proofs.YtneoagelcjfanaaGreatDoor.aes

/- Layer 3, aes: two blocks, exclusive or. -/
namespace Go.Xr
open Go
set_option linter.unusedVariables false
def xorL (l k : List UInt8) : List UInt8 := (List.range 16).map fun i => g8 l i ^^^ g8 k i
def xorI (l k : List UInt8) (i : Nat) : List UInt8 := (xorL l k).take i ++ l.drop i
theorem xorL_len (l k : List UInt8) : (xorL l k).length = 16 := by simp [xorL]
theorem xorI_len (l k : List UInt8) (i : Nat) (hl : l.length = 16) (hi : i ≤ 16) : (xorI l k i).length = 16 := by
  simp only [xorI, List.length_append, List.length_take, List.length_drop, xorL_len, hl]
  omega
theorem xorI_get (l k : List UInt8) (i : Nat) (hl : l.length = 16) (hi : i < 16) : (xorI l k i)[i]? = some (g8 l i) := by
  have h : ((xorL l k).take i).length = i := by rw [List.length_take, xorL_len]; omega
  unfold xorI
  rw [List.getElem?_append_right (by omega), h, Nat.sub_self, List.getElem?_drop, Nat.add_zero, g8_eq l i (by omega)]
theorem xorI_set (l k : List UInt8) (i : Nat) (hl : l.length = 16) (hi : i < 16) : (xorI l k i).set i (g8 l i ^^^ g8 k i) = xorI l k (i + 1) := by
  have h : ((xorL l k).take i).length = i := by rw [List.length_take, xorL_len]; omega
  have e : (xorL l k)[i]'(by rw [xorL_len]; exact hi) = g8 l i ^^^ g8 k i := by simp [xorL]
  unfold xorI
  rw [List.set_append_right _ _ (by omega), h, Nat.sub_self, List.drop_eq_getElem_cons (by omega), List.set_cons_zero, List.take_succ_eq_append_getElem (by rw [xorL_len]; exact hi), List.append_assoc, e]
  rfl
theorem xorI_zero (l k : List UInt8) : xorI l k 0 = l := by simp [xorI]
theorem xorI_all (l k : List UInt8) (hl : l.length = 16) : xorI l k 16 = xorL l k := by
  unfold xorI
  rw [List.take_of_length_le (by rw [xorL_len]; exact Nat.le_refl _), List.drop_eq_nil_of_le (by omega), List.append_nil]
end Go.Xr
namespace Go.Proofs.YtneoagelcjfanaaGreatDoor.aes
open Go Go.Xr Go.RowKit
set_option linter.unusedVariables false
set_option linter.unusedSimpArgs false
/-- The return of a result that lies in a block. -/
theorem bodyPost_cell {P : Program} {fn : Func} {R : Ending → World → Prop} {a : Act} {w : World} {p : Tmp} {ty : TypeId} (h : fn.results = #[.cell p ty]) {b : Nat} {cs : List Value} (hp : a.tmps.getD p undef = .pointer (some ⟨b, 0, none⟩)) (hb : Blk w b cs)
    (d : TypeDesc) (hu : P.underlying ty = some d) (hd : (match d with | .struct _ | .array _ _ => true | _ => false) = true) (hi : (P.info? ty).map (·.size) = some cs.length) (hdf : a.defers = []) (hR : R (.returned (.agg cs.toArray)) w) : bodyPost P fn R .ret a w := by
  obtain ⟨t, fr, hg, _⟩ := hb
  exact bodyPost_ret (results_cell_row h a.tmps w b t cs.toArray fr d hp hg hu hd (by simpa using hi)) hdf hR
set_option maxRecDepth 20000 in
theorem infS : ∃ i, Tryz.prog.info? 175 = some i ∧ i.zero = some (.agg (List.replicate 16 (bt 0)).toArray) ∧ i.size = 16 := ⟨_, rfl, rfl, rfl⟩
attribute [local go_sem] xor_u8 xor_u8_c

set_option maxRecDepth 20000 in
theorem with_any {w : World} (l k : List UInt8) (hl : l.length = 16) (hk : k.length = 16) : Calls Tryz.prog 130 #[.agg (bv l).toArray, .agg (bv k).toArray] w fun e w' => e = .returned (.agg (bv (xorL l k)).toArray) ∧ Fr [] w w' := by
  obtain ⟨i, hi, hz, hs⟩ := infS
  have Hi := hid hi
  have Hz := hid hz
  have Hs := hid (show (Tryz.prog.info? 175).map (·.size) = some 16 by rw [hi]; exact congrArg some hs)
  have Hl := hid hl
  have Hk := hid hk
  clear hi hz hs hl hk
  go_enter Tryz.func130, Tryz.ntmps130
  go_wp2_with (first
    | (refine wpList_box rfl _ _ rfl (bv l) rfl ?_; intro w1 f1 hlt1 hb1; simp only [World.size_alloc, World.size_drew, Act.put, List.setIfInBounds_toArray, List.set_cons_succ, List.set_cons_zero])
    | (refine wpList_box rfl _ _ rfl (bv k) rfl ?_; intro w2 f2 hlt2 hb2; simp only [World.size_alloc, World.size_drew, Act.put, List.setIfInBounds_toArray, List.set_cons_succ, List.set_cons_zero])
    | (refine wpList_alloc_any rfl _ rfl _ _ 16 Hi.out Hz.out rfl ?_; intro zs w3 hzl hze f3 hlt3 hb3; have Hze := hid hze; clear hzl hze; simp only [World.size_alloc, World.size_drew, Act.put, List.setIfInBounds_toArray, List.set_cons_succ, List.set_cons_zero]))
  have hq1 : Blk w3 w.heap.size (bv l) := f3.blk (f2.blk hb1 (by simp)) (by simp)
  have hq2 : Blk w3 w1.heap.size (bv k) := f3.blk hb2 (by simp)
  have hn3 : w.heap.size < w2.heap.size ∧ w1.heap.size < w2.heap.size := ⟨by omega, by omega⟩
  have hq3 : Blk w3 w2.heap.size (bv (List.replicate 16 0)) := by
    rw [Hze.out] at hb3
    exact hb3
  have g3 := (f1.trans' f2).trans' f3
  generalize w2.heap.size = N3 at *
  generalize hN2 : w1.heap.size = N2 at *
  clear hb1 hb2 hb3 f1 f2 f3 Hze
  go_loopw [6] (fun iv wr => ∃ i : Nat, i ≤ 16 ∧ iv = .int .i64 i ∧ Blk wr w.heap.size (bv (xorI l k i)) ∧ Blk wr N2 (bv k) ∧ Blk wr N3 (bv (List.replicate 16 0)) ∧ Fr [] w wr) (fun iv _ => 16 - (intOf iv).toNat)
  case atStart => exact ⟨0, by omega, rfl, by rw [xorI_zero]; exact hq1, hq2, hq3, g3⟩
  case round =>
    obtain ⟨i, hi, rfl, b1, b2, b3, f⟩ := hrel
    clear hq1 hq2 hq3 g3
    have hlt1 : w.heap.size < N2 := by omega
    by_cases hlt : i < 16
    · have hd1 : decide ((i : Int) < 16) = true := by simp; omega
      have hc1 : wr.cell? ⟨w.heap.size, i, none⟩ = some (bt (g8 l i)) := by rw [b1.cell, bv_getElem?, xorI_get l k i Hl.out hlt]; rfl
      have hc2 : wr.cell? ⟨N2, i, none⟩ = some (bt (g8 k i)) := by rw [b2.cell, bv_getElem?, g8_eq k i (by rw [Hk.out]; exact hlt)]; rfl
      go_wp2_with fail
      obtain ⟨ι, W, hι, hW1, hW2, hW0⟩ := family (fun w' => w'.cell? ⟨w.heap.size, i, none⟩ = some (bt (g8 l i)) ∧ w'.cell? ⟨N2, i, none⟩ = some (bt (g8 k i))) (w := wr.drew) ⟨hc1, hc2⟩
      have HW1 := hid hW1
      have HW2 := hid hW2
      have HW0 := hid hW0
      clear hW1 hW2 hW0
      have hS1 : ∀ j, (W j).cell? ⟨w.heap.size, i, none⟩ = some (bt (g8 l i)) := fun j => (HW1.out j).1
      have hS2 : ∀ j, (W j).cell? ⟨N2, i, none⟩ = some (bt (g8 k i)) := fun j => (HW1.out j).2
      refine wp_region_X (fun w' => ∃ j, w' = W j) true (by kernel_rfl) ?_
      refine WX.pure [0, 1, 2, 3, 4, 5, 6, 7] (by kernel_rfl) HW0.out ?_
      simp only [pick, List.toList_toArray, List.map_cons, List.map_nil, List.getD_cons_succ, List.getD_cons_zero]
      repeat (go_big_quiet_step (fail))
      refine wpQuiet_nil ?_
      refine WX.eff 8 (by kernel_rfl) ?_
      simp only [pick, List.toList_toArray, List.map_cons, List.map_nil, List.getD_cons_succ, List.getD_cons_zero]
      refine wpList_put rfl _ _ _ rfl rfl (bt (g8 l i ^^^ g8 k i)) rfl rfl b1.drew (by rw [bv_length, xorI_len l k i Hl.out (by omega)]; exact hlt) (by kernel_rfl) ?_
      intro w5 f5 hb5 _
      refine wpList_nil ?_
      refine After.end rfl ?_
      refine WX.done (by kernel_rfl) ?_
      clear hS1 hS2
      clear HW1 HW2 HW0 hι W ι
      rw [← bv_set, xorI_set l k i Hl.out hlt] at hb5
      have f6 : Fr [w.heap.size] wr w5 := ((Fr.refl _ wr).drew).trans' f5
      go_wp2_with fail
      go_roundw
      case rel => exact ⟨i + 1, by omega, by go_num, hb5, f6.blk b2 (by simp; omega), f6.blk b3 (by simp; omega), f.trans f6 (by simp)⟩
      case measure => simp [intOf]; omega
    · have ei : i = 16 := by omega
      have hd1 : decide ((i : Int) < 16) = false := by simp; omega
      rw [ei, xorI_all l k Hl.out] at b1
      clear ei hlt
      have HS := hid (show (Tryz.prog.info? 175).map (·.size) = some (bv (xorL l k)).length by rw [Hs.out, bv_length, xorL_len])
      have Hv := hid (show ((bv (xorL l k)).drop 0).take (bv (xorL l k)).length = bv (xorL l k) by rw [List.drop_zero, List.take_length])
      go_wp2_with (first
        | (refine wpList_load_agg rfl _ _ rfl rfl (bv (xorL l k)) b1 _ Tryz.underlying175 rfl HS.out Hv.out ?_; simp only [World.size_alloc, World.size_drew, Act.put, List.setIfInBounds_toArray, List.set_cons_succ, List.set_cons_zero])
        | (refine wpList_store_agg rfl _ _ _ rfl rfl (bv (xorL l k)) rfl b3 HS.out (by rw [bv_length, bv_length, xorL_len]; decide) (bv_one _) ?_; intro w7 f7 b7 hs7; rw [splice_all _ _ (by rw [bv_length, bv_length, xorL_len]; rfl)] at b7; (try simp only [World.size_alloc, World.size_drew, Act.put, List.setIfInBounds_toArray, List.set_cons_succ, List.set_cons_zero])))
      refine bodyPost_cell rfl rfl b7 _ Tryz.underlying175 rfl HS.out rfl ?_
      exact ⟨rfl, f.trans f7 (fun x hx => .inr (by simp at hx; omega))⟩
end Go.Proofs.YtneoagelcjfanaaGreatDoor.aes

/- Layer 3, aes: each column by four factors. -/
namespace Go.Xr
open Go
set_option linter.unusedVariables false
def mixP (f l : List UInt8) (i : Nat) : Nat → UInt8
  | 0 => 0
  | k + 1 => mixP f l i k ^^^ times (g8 f ((k + 4 - i % 4) % 4)) (g8 l (i / 4 * 4 + k))
def mixL (f l : List UInt8) : List UInt8 := (List.range 16).map fun i => mixP f l i 4
def mixI (f l : List UInt8) (i : Nat) : List UInt8 := (mixL f l).take i ++ List.replicate (16 - i) 0
theorem mixL_len (f l : List UInt8) : (mixL f l).length = 16 := by simp [mixL]
theorem mixI_len (f l : List UInt8) (i : Nat) (hi : i ≤ 16) : (mixI f l i).length = 16 := by
  simp only [mixI, List.length_append, List.length_take, List.length_replicate, mixL_len]
  omega
theorem mixI_zero (f l : List UInt8) : mixI f l 0 = List.replicate 16 0 := by simp [mixI]
theorem mixI_all (f l : List UInt8) : mixI f l 16 = mixL f l := by
  unfold mixI
  rw [List.take_of_length_le (by rw [mixL_len]; exact Nat.le_refl _)]
  simp
theorem mixI_start (f l : List UInt8) (i : Nat) (hi : i < 16) : (mixI f l i).set i (mixP f l i 0) = mixI f l i := by
  have h : ((mixL f l).take i).length = i := by rw [List.length_take, mixL_len]; omega
  unfold mixI
  rw [List.set_append_right _ _ (by omega), h, Nat.sub_self, show 16 - i = (16 - (i + 1)) + 1 by omega, List.replicate_succ, List.set_cons_zero]
  rfl
theorem mixI_next (f l : List UInt8) (i : Nat) (hi : i < 16) : (mixI f l i).set i (mixP f l i 4) = mixI f l (i + 1) := by
  have h : ((mixL f l).take i).length = i := by rw [List.length_take, mixL_len]; omega
  have e : (mixL f l)[i]'(by rw [mixL_len]; exact hi) = mixP f l i 4 := by simp [mixL]
  unfold mixI
  rw [List.set_append_right _ _ (by omega), h, Nat.sub_self, show 16 - i = (16 - (i + 1)) + 1 by omega, List.replicate_succ, List.set_cons_zero, List.take_succ_eq_append_getElem (by rw [mixL_len]; exact hi), List.append_assoc, e]
  rfl
end Go.Xr
namespace Go.Proofs.YtneoagelcjfanaaGreatDoor.aes
open Go Go.Xr Go.RowKit
set_option linter.unusedVariables false
set_option linter.unusedSimpArgs false
theorem bodyPost_row {P : Program} {fn : Func} {R : Ending → World → Prop} {a : Act} {w : World} {p : Tmp} {ty : TypeId} (h : fn.results = #[.cell p ty]) {b : Nat} {cs : List Value} (hp : a.tmps.getD p undef = .pointer (some ⟨b, 0, none⟩)) (hb : Blk w b cs)
    {n : Nat} (hT : AggT P ty n) (hn : cs.length = n) (hdf : a.defers = []) (hR : R (.returned (.agg cs.toArray)) w) : bodyPost P fn R .ret a w := by
  obtain ⟨d, hu, hd, hs⟩ := hT
  exact bodyPost_cell h hp hb d hu (by cases d <;> first | rfl | (simp [aggDesc] at hd)) (by rw [hs, hn]) hdf hR
theorem bvl {l : List UInt8} {n : Nat} (h : l.length = n) : (bv l).length = n := by rw [bv_length, h]
theorem whole {vs : List Value} {n : Nat} (h : vs.length = n) : (vs.drop 0).take n = vs := by rw [List.drop_zero, ← h, List.take_length]
set_option maxRecDepth 20000 in
theorem sqT : AggT Tryz.prog 175 16 := ⟨_, Tryz.underlying175, rfl, rfl⟩
attribute [local go_sem] xor_u8 xor_u8_c

set_option maxRecDepth 20000 in
set_option maxHeartbeats 1000000 in
theorem mix_any {w : World} (l fs : List UInt8) (hl : l.length = 16) (hk : fs.length = 4) : Calls Tryz.prog 131 #[.agg (bv l).toArray, .agg (bv fs).toArray] w fun e w' => e = .returned (.agg (bv (mixL fs l)).toArray) ∧ Fr [] w w' := by
  obtain ⟨i, hi, hz, hs⟩ := infS
  have Hi := hid hi
  have Hz := hid hz
  have Hs := hid (show (Tryz.prog.info? 175).map (·.size) = some 16 by rw [hi]; exact congrArg some hs)
  have Hl := hid hl
  have Hk := hid hk
  clear hi hz hs hl hk
  go_enter Tryz.func131, Tryz.ntmps131
  go_wp2_with (first
    | (refine wpList_box rfl _ _ rfl (bv l) rfl ?_; intro w1 f1 hlt1 hb1; simp only [World.size_alloc, World.size_drew, Act.put, List.setIfInBounds_toArray, List.set_cons_succ, List.set_cons_zero])
    | (refine wpList_box rfl _ _ rfl (bv fs) rfl ?_; intro w2 f2 hlt2 hb2; simp only [World.size_alloc, World.size_drew, Act.put, List.setIfInBounds_toArray, List.set_cons_succ, List.set_cons_zero])
    | (have q := hb3; clear q; refine wpList_alloc_any rfl _ rfl _ _ 16 Hi.out Hz.out rfl ?_; intro zs w4 hzl hze f4 hlt4 hb4; rw [hze] at hb4; clear hzl hze; simp only [World.size_alloc, World.size_drew, Act.put, List.setIfInBounds_toArray, List.set_cons_succ, List.set_cons_zero])
    | (refine wpList_alloc_any rfl _ rfl _ _ 16 Hi.out Hz.out rfl ?_; intro zs w3 hzl hze f3 hlt3 hb3; rw [hze] at hb3; clear hzl hze; simp only [World.size_alloc, World.size_drew, Act.put, List.setIfInBounds_toArray, List.set_cons_succ, List.set_cons_zero]))
  have q1 : Blk w4 w.heap.size (bv l) := f4.blk (f3.blk (f2.blk hb1 (by simp)) (by simp)) (by simp)
  have q2 : Blk w4 w1.heap.size (bv fs) := f4.blk (f3.blk hb2 (by simp)) (by simp)
  have q3 : Blk w4 w2.heap.size (bv (List.replicate 16 0)) := f4.blk hb3 (by simp)
  have q4 : Blk w4 w3.heap.size (bv (mixI fs l 0)) := by rw [mixI_zero]; exact hb4
  have g4 := ((f1.trans' f2).trans' f3).trans' f4
  have hn : w.heap.size < w1.heap.size ∧ w1.heap.size < w2.heap.size ∧ w2.heap.size < w3.heap.size := ⟨by omega, by omega, by omega⟩
  generalize w3.heap.size = N4 at *
  generalize w2.heap.size = N3 at *
  generalize w1.heap.size = N2 at *
  obtain ⟨hn1, hn2, hn3⟩ := hn
  clear hb1 hb2 hb3 hb4 f1 f2 f3 f4
  go_loopw [8] (fun iv wr => ∃ i : Nat, i ≤ 16 ∧ iv = .int .i64 i ∧ Blk wr w.heap.size (bv l) ∧ Blk wr N2 (bv fs) ∧ Blk wr N3 (bv (List.replicate 16 0)) ∧ Blk wr N4 (bv (mixI fs l i)) ∧ Fr [] w wr) (fun iv _ => 16 - (intOf iv).toNat)
  case atStart => exact ⟨0, by omega, rfl, q1, q2, q3, q4, g4⟩
  case round =>
    obtain ⟨i, hi, rfl, b1, b2, b3, b4, f⟩ := hrel
    clear q1 q2 q3 q4 g4
    by_cases hlt : i < 16
    · have hd1 : decide ((i : Int) < 16) = true := by simp; omega
      go_wp2_with fail
      rw [← mixI_start fs l i hlt] at b4
      clear hd1
      go_loopw [11] (fun jv wr => ∃ j : Nat, j ≤ 4 ∧ jv = .int .i64 j ∧ Blk wr w.heap.size (bv l) ∧ Blk wr N2 (bv fs) ∧ Blk wr N3 (bv (List.replicate 16 0)) ∧ Blk wr N4 (bv ((mixI fs l i).set i (mixP fs l i j))) ∧ Fr [] w wr) (fun jv _ => 4 - (intOf jv).toNat)
      case atStart => exact ⟨0, by omega, rfl, b1, b2, b3, b4, f⟩
      case round =>
        obtain ⟨j, hj, rfl, c1, c2, c3, c4, g⟩ := hrel
        clear b1 b2 b3 b4 f
        by_cases hlj : j < 4
        · have hd2 : decide ((j : Int) < 4) = true := by simp; omega
          obtain ⟨P, hP⟩ : ∃ P, mixP fs l i j = P := ⟨_, rfl⟩
          obtain ⟨A, hA⟩ : ∃ A, g8 fs ((j + 4 - i % 4) % 4) = A := ⟨_, rfl⟩
          obtain ⟨B, hB⟩ : ∃ B, g8 l (i / 4 * 4 + j) = B := ⟨_, rfl⟩
          have Hnx := hid (show mixP fs l i (j + 1) = P ^^^ times A B by rw [mixP, hP, hA, hB])
          have hlm := mixI_len fs l i hi
          obtain ⟨J, hJ⟩ : ∃ J, (j + 4 - i % 4) % 4 = J := ⟨_, rfl⟩
          obtain ⟨I, hI⟩ : ∃ I, i / 4 * 4 + j = I := ⟨_, rfl⟩
          rw [hJ] at hA
          rw [hI] at hB
          have hJ4 : J < 4 := by omega
          have hI16 : I < 16 := by omega
          have k4 : wr.cell? ⟨N4, i, none⟩ = some (bt P) := by rw [c4.cell, bv_getElem?, List.getElem?_set_self (by omega), hP]; rfl
          have k2 : wr.cell? ⟨N2, J, none⟩ = some (bt A) := by rw [c2.cell, bv_getElem?, g8_eq fs _ (by rw [Hk.out]; omega), hA]; rfl
          have k1 : wr.cell? ⟨w.heap.size, I, none⟩ = some (bt B) := by rw [c1.cell, bv_getElem?, g8_eq l _ (by rw [Hl.out]; omega), hB]; rfl
          have m1 : (0 : Int) ≤ (j : Int) - (i : Int) % 4 + 4 := by omega
          have m2 : (((j : Int) - (i : Int)) % 4).toNat = J := by omega
          have m3 : ((i : Int) / 4 * 4 + (j : Int)).toNat = I := by omega
          have m4 : (i : Int) / 4 * 4 + (j : Int) < 16 := by omega
          have m5 : i / 4 * 4 + j < 16 := by omega
          clear hP hA hB hlm hJ
          go_wp2_with fail
          refine wp_region_D (fun _ => True) false [18] (by kernel_rfl) ?_
          refine WD.pure [0, 1, 2, 3, 4, 5, 6, 7, 8, 9, 10, 11, 12, 13, 14, 15, 16, 17] (by kernel_rfl) trivial ?_
          simp only [pick, List.toList_toArray, List.map_cons, List.map_nil, List.getD_cons_succ, List.getD_cons_zero]
          repeat (first | go_big_quiet_step (fail))
          refine wpQuiet_nil ?_
          refine WD.eff 18 (by kernel_rfl) ?_
          simp only [pick, List.toList_toArray, List.map_cons, List.map_nil, List.getD_cons_succ, List.getD_cons_zero]
          go_wp2_with (go_at_call 109; refine (times_any _ _).mono ?_; rintro e w' ⟨rfl, rfl⟩)
          try refine wpList_nil ?_
          refine AfterD.quiet trivial rfl ?_
          try simp only [World.size_alloc, World.size_drew, Act.put, List.setIfInBounds_toArray, List.set_cons_succ, List.set_cons_zero]
          refine WD.pure [19, 20] (by kernel_rfl) trivial ?_
          simp only [pick, List.toList_toArray, List.map_cons, List.map_nil, List.getD_cons_succ, List.getD_cons_zero]
          repeat (first | go_big_quiet_step (fail))
          refine wpQuiet_nil ?_
          refine WD.eff 21 (by kernel_rfl) ?_
          simp only [pick, List.toList_toArray, List.map_cons, List.map_nil, List.getD_cons_succ, List.getD_cons_zero]
          refine wpList_put rfl _ _ _ rfl rfl (bt (P ^^^ times A B)) rfl rfl c4.drew (by rw [bv_length, List.length_set, mixI_len fs l i hi]; exact hlt) (by kernel_rfl) ?_
          intro w5 f5 hb5 _
          try refine wpList_nil ?_
          refine AfterD.on trivial (by kernel_rfl) ?_
          try simp only [World.size_alloc, World.size_drew, Act.put, List.setIfInBounds_toArray, List.set_cons_succ, List.set_cons_zero]
          refine WD.done (by kernel_rfl) ?_
          rw [← bv_set, List.set_set, ← Hnx.out] at hb5
          have f6 : Fr [N4] wr w5 := ((Fr.refl _ wr).drew).trans' f5
          go_wp2_with fail
          go_roundw
          case rel => exact ⟨j + 1, by omega, by go_num, f6.blk c1 (by simp; omega), f6.blk c2 (by simp; omega), f6.blk c3 (by simp; omega), hb5, g.trans f6 (by simp; omega)⟩
          case measure => simp [intOf]; omega
        · have hd2 : decide ((j : Int) < 4) = false := by simp; omega
          have ej : j = 4 := by omega
          rw [ej, mixI_next fs l i hlt] at c4
          clear ej hlj hj
          go_wp2_with fail
          go_roundw
          case rel => exact ⟨i + 1, by omega, by go_num, c1, c2, c3, c4, g⟩
          case measure => simp [intOf]; omega
    · have ei : i = 16 := by omega
      have hd1 : decide ((i : Int) < 16) = false := by simp; omega
      rw [ei, mixI_all fs l] at b4
      clear ei hlt
      have hlen := bvl (mixL_len fs l)
      have Hlen := hid hlen
      clear hlen
      go_wp2_with (first
        | (refine wpList_load_ag rfl _ _ rfl rfl (bv (mixL fs l)) b4 sqT Hlen.out (whole Hlen.out) ?_; simp only [World.size_alloc, World.size_drew, Act.put, List.setIfInBounds_toArray, List.set_cons_succ, List.set_cons_zero])
        | (refine wpList_store_ag rfl _ _ _ rfl rfl (bv (mixL fs l)) rfl b3 sqT Hlen.out (by rw [bv_length]; decide) (bv_one _) ?_; intro w7 f7 b7 hs7; rw [splice_all _ _ (by rw [bv_length, Hlen.out]; rfl)] at b7; (try simp only [World.size_alloc, World.size_drew, Act.put, List.setIfInBounds_toArray, List.set_cons_succ, List.set_cons_zero])))
      refine bodyPost_row rfl rfl b7 sqT (by rw [bv_length, mixL_len]) rfl ?_
      exact ⟨rfl, f.trans f7 (fun x hx => .inr (by simp at hx; omega))⟩
end Go.Proofs.YtneoagelcjfanaaGreatDoor.aes

/- Layer 3, aes: a block enciphered. -/
namespace Go.Xr
open Go
set_option linter.unusedVariables false
/-- A cipher's cells: the round keys, the table, the table back, and that it is made. -/
def ciph (T : List UInt8) : List Value := bv T ++ [.bool true]
theorem ciph_get (T : List UInt8) (hT : T.length = 688) (i : Nat) (hi : i < 688) : (ciph T)[i]? = some (bt (g8 T i)) := by
  unfold ciph
  rw [List.getElem?_append_left (by rw [bv_length, hT]; exact hi), bv_getElem?, g8_eq T i (by omega)]
  rfl
theorem ciph_made (T : List UInt8) (hT : T.length = 688) : (ciph T)[688]? = some (.bool true) := by
  unfold ciph
  rw [List.getElem?_append_right (by rw [bv_length, hT]; exact Nat.le_refl _), bv_length, hT]
  rfl
def rk (T : List UInt8) (r : Nat) : List UInt8 := (T.drop (16 * r)).take 16
theorem rk_len (T : List UInt8) (hT : T.length = 688) (r : Nat) (hr : r ≤ 11) : (rk T r).length = 16 := by
  unfold rk
  rw [List.length_take, List.length_drop, hT]
  omega
theorem ciph_rk (T : List UInt8) (hT : T.length = 688) (r : Nat) (hr : r < 11) : ((ciph T).drop (r * 16)).take 16 = bv (rk T r) := by
  unfold ciph rk
  rw [List.drop_append_of_le_length (by rw [bv_length, hT]; omega), List.take_append_of_le_length (by rw [List.length_drop, bv_length, hT]; omega), bv_drop, bv_take, Nat.mul_comm]
def shs (T s : List UInt8) : List UInt8 := (List.range 16).map fun i => g8 T (176 + (g8 s ((i + i % 4 * 4) % 16)).toNat)
theorem shs_len (T s : List UInt8) : (shs T s).length = 16 := by simp [shs]
/-- The first i bytes of it. -/
def partL (l : List UInt8) (i : Nat) : List UInt8 := l.take i ++ List.replicate (16 - i) 0
theorem partL_len (l : List UInt8) (hl : l.length = 16) (i : Nat) (hi : i ≤ 16) : (partL l i).length = 16 := by
  simp only [partL, List.length_append, List.length_take, List.length_replicate, hl]
  omega
theorem partL_zero (l : List UInt8) : partL l 0 = List.replicate 16 0 := by simp [partL]
theorem partL_all (l : List UInt8) (hl : l.length = 16) : partL l 16 = l := by
  unfold partL
  rw [List.take_of_length_le (by omega)]
  simp
theorem partL_set (l : List UInt8) (hl : l.length = 16) (i : Nat) (hi : i < 16) : (partL l i).set i (g8 l i) = partL l (i + 1) := by
  have h : (l.take i).length = i := by rw [List.length_take]; omega
  have e : l[i]'(by omega) = g8 l i := by simp [g8, List.getD, List.getElem?_eq_getElem (show i < l.length by omega)]
  unfold partL
  rw [List.set_append_right _ _ (by omega), h, Nat.sub_self, show 16 - i = (16 - (i + 1)) + 1 by omega, List.replicate_succ, List.set_cons_zero, List.take_succ_eq_append_getElem (by omega), List.append_assoc, e]
  rfl
theorem shs_get (T s : List UInt8) (i : Nat) (hi : i < 16) : g8 (shs T s) i = g8 T (176 + (g8 s ((i + i % 4 * 4) % 16)).toNat) := by
  simp [shs, g8, List.getD, hi]
def F1 : List UInt8 := [2, 3, 1, 1]
/-- After r rounds. -/
def blkR (T s : List UInt8) : Nat → List UInt8
  | 0 => xorL s (rk T 0)
  | r + 1 => xorL (if r + 1 < 10 then mixL F1 (shs T (blkR T s r)) else shs T (blkR T s r)) (rk T (r + 1))
theorem blkR_len (T s : List UInt8) (r : Nat) : (blkR T s r).length = 16 := by cases r <;> exact xorL_len _ _
def blockS (T s : List UInt8) : List UInt8 := blkR T s 10
theorem blockS_len (T s : List UInt8) : (blockS T s).length = 16 := blkR_len T s 10
end Go.Xr
namespace Go.Proofs.YtneoagelcjfanaaGreatDoor.aes
open Go Go.Xr Go.RowKit
set_option linter.unusedVariables false
set_option linter.unusedSimpArgs false
attribute [local go_sem] xor_u8 xor_u8_c

theorem not_any {w : World} {p : Nat} {T : List UInt8} (hT : T.length = 688) (hp : Blk w p (ciph T)) : Calls Tryz.prog 111 #[.pointer (some ⟨p, 0, none⟩)] w fun e w' => e = .returned (.bool false) ∧ w = w' := by
  have hc : w.cell? ⟨p, 688, none⟩ = some (.bool true) := by rw [hp.cell, ciph_made T hT]
  clear hT
  go_enter Tryz.func111, Tryz.ntmps111
  go_wp2_with fail
  go_ret
  exact ⟨rfl, rfl⟩
theorem not_nil {w : World} : Calls Tryz.prog 111 #[.pointer none] w fun e w' => e = .returned (.bool true) ∧ w = w' := by
  go_enter Tryz.func111, Tryz.ntmps111
  go_wp2_with fail
  go_ret
  exact ⟨rfl, rfl⟩
theorem mix_F1 {w : World} (l : List UInt8) (hl : l.length = 16) : Calls Tryz.prog 131 #[.agg (bv l).toArray, .agg #[.int .u8 2, .int .u8 3, .int .u8 1, .int .u8 1]] w fun e w' => e = .returned (.agg (bv (mixL F1 l)).toArray) ∧ Fr [] w w' := mix_any l F1 hl rfl
theorem at_bt {t : TypeId} {v : Value} {x : UInt8} : Instr.indexAt t v (bt x) = Instr.indexAt t v (.int .u8 (x.toNat : Int)) := rfl
attribute [local go_sem] at_bt

set_option maxRecDepth 20000 in
set_option maxHeartbeats 1000000 in
theorem block_any {w : World} {p : Nat} {T s : List UInt8} (hT : T.length = 688) (hs : s.length = 16) (hp : Blk w p (ciph T)) :
    Calls Tryz.prog 124 #[.pointer (some ⟨p, 0, none⟩), .agg (bv s).toArray] w fun e w' => e = .returned (.agg (bv (blockS T s)).toArray) ∧ Fr [] w w' := by
  obtain ⟨i, hi, hz, _⟩ := infS
  have Hi := hid hi
  have Hz := hid hz
  have HT := hid hT
  have Hs := hid hs
  have hplt := hp.lt
  clear hi hz hT hs
  go_enter Tryz.func124, Tryz.ntmps124
  go_wp2_with (first
    | (refine wpList_box rfl _ _ rfl (bv s) rfl ?_; intro w1 f1 hlt1 hb1; simp only [World.size_alloc, World.size_drew, Act.put, List.setIfInBounds_toArray, List.set_cons_succ, List.set_cons_zero])
    | (refine wpList_alloc_any rfl _ rfl _ _ 16 Hi.out Hz.out rfl ?_; intro zs w2 hzl hze f2 hlt2 hb2; rw [hze] at hb2; clear hzl hze; simp only [World.size_alloc, World.size_drew, Act.put, List.setIfInBounds_toArray, List.set_cons_succ, List.set_cons_zero]))
  have q1 : Blk w2 w.heap.size (bv s) := f2.blk hb1 (by simp)
  have q2 : Blk w2 w1.heap.size (bv (List.replicate 16 0)) := hb2
  have q0 : Blk w2 p (ciph T) := f2.blk (f1.blk hp (by simp)) (by simp)
  have g2 := f1.trans' f2
  obtain ⟨N1, hN1⟩ : ∃ N1, w1.heap.size = N1 := ⟨_, rfl⟩
  rw [hN1] at q2 hlt1 ⊢
  obtain ⟨N0, hN0⟩ : ∃ N0, w.heap.size = N0 := ⟨_, rfl⟩
  rw [hN0] at q1 hlt1 hplt ⊢
  have HN0 := hid hN0
  have hl2 : N1 < w2.heap.size := by omega
  clear hb1 hb2 f1 f2 hN1 hN0 hlt2
  refine wp_region_D (fun _ => True) false [] (by kernel_rfl) ?_
  refine WD.pure [0, 1, 2, 3, 4, 5] (by kernel_rfl) trivial ?_
  simp only [pick, List.toList_toArray, List.map_cons, List.map_nil, List.getD_cons_succ, List.getD_cons_zero]
  repeat (first | go_big_quiet_step (fail) | (refine quiet_load_ag rfl _ _ rfl rfl (bv s) q1.drew sqT (bvl Hs.out) (whole (bvl Hs.out)) ?_; simp only [World.size_alloc, World.size_drew, Act.put, List.setIfInBounds_toArray, List.set_cons_succ, List.set_cons_zero]) | (refine quiet_load_ag rfl _ _ rfl rfl (bv (rk T 0)) q0.drew sqT (bvl (rk_len T HT.out 0 (by decide))) (ciph_rk T HT.out 0 (by decide)) ?_; simp only [World.size_alloc, World.size_drew, Act.put, List.setIfInBounds_toArray, List.set_cons_succ, List.set_cons_zero]))
  refine wpQuiet_nil ?_
  refine WD.eff 6 (by kernel_rfl) ?_
  simp only [pick, List.toList_toArray, List.map_cons, List.map_nil, List.getD_cons_succ, List.getD_cons_zero]
  go_wp2_with (go_at_call 130; refine (with_any _ _ Hs.out (rk_len T HT.out 0 (by decide))).mono ?_; rintro e w3 ⟨rfl, f3⟩)
  try refine wpList_nil ?_
  refine AfterD.on trivial (by kernel_rfl) ?_
  try simp only [World.size_alloc, World.size_drew, Act.put, List.setIfInBounds_toArray, List.set_cons_succ, List.set_cons_zero]
  refine WD.eff 7 (by kernel_rfl) ?_
  simp only [pick, List.toList_toArray, List.map_cons, List.map_nil, List.getD_cons_succ, List.getD_cons_zero]
  refine wpList_store_ag rfl _ _ _ rfl rfl (bv (blkR T s 0)) rfl (f3.blk q1.drew (by simp)) sqT (bvl (blkR_len T s 0)) (by rw [bvl Hs.out]; decide) (bv_one _) ?_
  intro w4 f4 b4 hs4
  rw [splice_all _ _ (by rw [bvl Hs.out, bvl (blkR_len T s 0)])] at b4
  try refine wpList_nil ?_
  refine AfterD.on trivial (by kernel_rfl) ?_
  try simp only [World.size_alloc, World.size_drew, Act.put, List.setIfInBounds_toArray, List.set_cons_succ, List.set_cons_zero]
  refine WD.done (by kernel_rfl) ?_
  have r0 : Blk w4 p (ciph T) := f4.blk (f3.blk q0.drew (by simp)) (by simp; omega)
  have r2 : Blk w4 N1 (bv (List.replicate 16 0)) := f4.blk (f3.blk q2.drew (by simp)) (by simp; omega)
  have g4 : Fr [] w w4 := (((g2.drew).trans' f3).trans f4 (by simp; have := HN0.out; omega))
  have hN1 : N1 < w4.heap.size := Nat.lt_of_lt_of_le hl2 (Nat.le_trans f3.size f4.size)
  clear q0 q1 q2 g2 f3 f4 hs4 hp
  go_wp2_with fail
  go_loopw [5] (fun rv wr => ∃ r : Nat, 1 ≤ r ∧ r ≤ 11 ∧ rv = .int .i64 r ∧ Blk wr p (ciph T) ∧ Blk wr N0 (bv (blkR T s (r - 1))) ∧ Blk wr N1 (bv (List.replicate 16 0)) ∧ Fr [] w wr ∧ N1 < wr.heap.size) (fun rv _ => 11 - (intOf rv).toNat)
  case atStart => exact ⟨1, by decide, by decide, rfl, r0, b4, r2, g4, hN1⟩
  case round =>
    obtain ⟨r, hr1, hr, rfl, b0, b1, b2, f, hn⟩ := hrel
    clear r0 b4 r2 g4 hN1
    by_cases hlt : r < 11
    · have hd1 : decide ((r : Int) < 11) = true := by simp; omega
      obtain ⟨C, hC⟩ : ∃ C, blkR T s (r - 1) = C := ⟨_, rfl⟩
      have hCl : C.length = 16 := by rw [← hC]; exact blkR_len _ _ _
      have HC := hid hC
      have HCl := hid hCl
      rw [hC] at b1
      clear hC hCl
      go_wp2_with (refine wpList_alloc_any rfl _ rfl _ _ 16 Hi.out Hz.out rfl ?_; intro zs w5 hzl hze f5 hlt5 hb5; rw [hze] at hb5; clear hzl hze; simp only [World.size_alloc, World.size_drew, Act.put, List.setIfInBounds_toArray, List.set_cons_succ, List.set_cons_zero])
      obtain ⟨Nt, hNt⟩ : ∃ Nt, wr.heap.size = Nt := ⟨_, rfl⟩
      rw [hNt] at hb5 hlt5 hn ⊢
      have c0 := f5.blk b0 (by simp)
      have c1 := f5.blk b1 (by simp)
      have c2 := f5.blk b2 (by simp)
      have c3 : Blk w5 Nt (bv (partL (shs T C) 0)) := by rw [partL_zero]; exact hb5
      have gt := f.trans' f5
      have HNt := hid hNt
      clear b0 b1 b2 hb5 f f5 hNt
      go_loopw [19] (fun iv wr => ∃ i : Nat, i ≤ 16 ∧ iv = .int .i64 i ∧ Blk wr p (ciph T) ∧ Blk wr N0 (bv C) ∧ Blk wr N1 (bv (List.replicate 16 0)) ∧ Blk wr Nt (bv (partL (shs T C) i)) ∧ Fr [] w wr ∧ Nt < wr.heap.size) (fun iv _ => 16 - (intOf iv).toNat)
      case atStart => exact ⟨0, by omega, rfl, c0, c1, c2, c3, gt, hlt5⟩
      case round =>
        obtain ⟨i, hi, rfl, d0, d1, d2, d3, g, hnt⟩ := hrel
        clear c0 c1 c2 c3 gt hlt5
        by_cases hli : i < 16
        · have hd2 : decide ((i : Int) < 16) = true := by simp; omega
          obtain ⟨J, hJ⟩ : ∃ J, (i + i % 4 * 4) % 16 = J := ⟨_, rfl⟩
          obtain ⟨X, hX⟩ : ∃ X, g8 C J = X := ⟨_, rfl⟩
          obtain ⟨Y, hY⟩ : ∃ Y, g8 T (176 + X.toNat) = Y := ⟨_, rfl⟩
          have hx := X.toNat_lt
          have k1 : wr.cell? ⟨N0, J, none⟩ = some (bt X) := by rw [d1.cell, bv_getElem?, g8_eq C J (by rw [HCl.out]; omega), hX]; rfl
          have k2 : wr.cell? ⟨p, 176 + X.toNat, none⟩ = some (bt Y) := by rw [d0.cell, ciph_get T HT.out _ (by omega), hY]
          have hY2 := hid (show g8 (shs T C) i = Y by rw [shs_get T C i hli, hJ, hX, hY])
          have m1 : (((i : Int) + (i : Int) % 4 * 4) % 16).toNat = J := by omega
          have m2 : (X.toNat : Int) < 256 := by omega
          clear hY hX hJ
          go_wp2_with fail
          refine wp_region_D (fun _ => True) false [] (by kernel_rfl) ?_
          refine WD.pure [0, 1, 2, 3, 4, 5, 6, 7, 8, 9, 10, 11, 12, 13, 14] (by kernel_rfl) trivial ?_
          simp only [pick, List.toList_toArray, List.map_cons, List.map_nil, List.getD_cons_succ, List.getD_cons_zero]
          repeat (first | go_big_quiet_step (fail))
          refine wpQuiet_nil ?_
          refine WD.eff 15 (by kernel_rfl) ?_
          simp only [pick, List.toList_toArray, List.map_cons, List.map_nil, List.getD_cons_succ, List.getD_cons_zero]
          refine wpList_put rfl _ _ _ rfl rfl (bt Y) rfl rfl d3.drew (by rw [bv_length, partL_len _ (shs_len T C) i hi]; exact hli) (by kernel_rfl) ?_
          intro w6 f6 b6 hs6
          try refine wpList_nil ?_
          refine AfterD.on trivial (by kernel_rfl) ?_
          try simp only [World.size_alloc, World.size_drew, Act.put, List.setIfInBounds_toArray, List.set_cons_succ, List.set_cons_zero]
          refine WD.done (by kernel_rfl) ?_
          rw [← hY2.out, ← bv_set, partL_set _ (shs_len T C) i hli] at b6
          have f7 : Fr [Nt] wr w6 := ((Fr.refl _ wr).drew).trans' f6
          go_wp2_with fail
          go_roundw
          case rel => exact ⟨i + 1, by omega, by go_num, f7.blk d0 (by simp; omega), f7.blk d1 (by simp; omega), f7.blk d2 (by simp; omega), b6, g.trans f7 (by simp; have := HN0.out; omega), Nat.lt_of_lt_of_le hnt f7.size⟩
          case measure => simp [intOf]; omega
        · have hd2 : decide ((i : Int) < 16) = false := by simp; omega
          have ei : i = 16 := by omega
          rw [ei, partL_all _ (shs_len T C)] at d3
          clear ei hli hi
          have hrl : (rk T r).length = 16 := rk_len T HT.out r hr
          have Hrl := hid hrl
          have HE := HC.out
          clear hrl
          by_cases hr10 : r < 10
          case' pos =>
            have hd10 : decide ((r : Int) < 10) = true := by simp; omega
            have HE2 := hid (show xorL (mixL F1 (shs T C)) (rk T r) = blkR T s r by
              obtain ⟨q, rfl⟩ : ∃ q, r = q + 1 := ⟨r - 1, by omega⟩
              rw [Nat.add_sub_cancel] at HE
              rw [blkR, if_pos hr10, HE])
            clear HE hr10
            go_wp2_with (first
              | (refine wpList_load_ag rfl _ _ rfl rfl (bv (shs T C)) d3 sqT (bvl (shs_len T C)) (whole (bvl (shs_len T C))) ?_; simp only [World.size_alloc, World.size_drew, Act.put, List.setIfInBounds_toArray, List.set_cons_succ, List.set_cons_zero])
              | (go_at_call 131; refine (mix_F1 _ (shs_len T C)).mono ?_; rintro e w6 ⟨rfl, f6⟩)
              | (refine wpList_store_ag rfl _ _ _ rfl rfl (bv (mixL F1 (shs T C))) rfl (f6.blk d3 (by simp)) sqT (bvl (mixL_len F1 _)) (by rw [bvl (shs_len T C)]; decide) (bv_one _) ?_; intro w7 f7 b7 hs7; rw [splice_all _ _ (by rw [bvl (shs_len T C), bvl (mixL_len F1 _)])] at b7; (try simp only [World.size_alloc, World.size_drew, Act.put, List.setIfInBounds_toArray, List.set_cons_succ, List.set_cons_zero])))
            have e0 := f7.blk (f6.blk d0 (by simp)) (by simp; omega)
            have e1 := f7.blk (f6.blk d1 (by simp)) (by simp; omega)
            have e2 := f7.blk (f6.blk d2 (by simp)) (by simp; omega)
            have g7 := (g.trans' f6).trans f7 (by simp; have := HN0.out; omega)
            have ht7 : Nt < w7.heap.size := by have := f6.size; have := f7.size; omega
            obtain ⟨D, hD⟩ : ∃ D, mixL F1 (shs T C) = D := ⟨_, rfl⟩
            have HDl := hid (show D.length = 16 by rw [← hD]; exact mixL_len _ _)
            rw [hD] at b7 HE2
            clear d0 d1 d2 d3 f6 f7 g hnt hs7 hD
          case' neg =>
            have hd10 : decide ((r : Int) < 10) = false := by simp; omega
            have HE2 := hid (show xorL (shs T C) (rk T r) = blkR T s r by
              obtain ⟨q, rfl⟩ : ∃ q, r = q + 1 := ⟨r - 1, by omega⟩
              rw [Nat.add_sub_cancel] at HE
              rw [blkR, if_neg hr10, HE])
            clear HE hr10
            go_wp2_with fail
            obtain ⟨w7, hw7⟩ : ∃ w7, wr = w7 := ⟨_, rfl⟩
            rw [hw7] at d0 d1 d2 d3 g hnt ⊢
            have e0 := d0
            have e1 := d1
            have e2 := d2
            have g7 := g
            have ht7 := hnt
            obtain ⟨D, hD⟩ : ∃ D, shs T C = D := ⟨_, rfl⟩
            have HDl := hid (show D.length = 16 by rw [← hD]; exact shs_len _ _)
            have b7 := d3
            rw [hD] at b7 HE2
            clear d0 d1 d2 d3 g hnt hD hw7
          all_goals
            refine wp_region_D (fun _ => True) false [] (by kernel_rfl) ?_
            refine WD.pure [0, 1, 2, 3, 4, 5, 6] (by kernel_rfl) trivial ?_
            simp only [pick, List.toList_toArray, List.map_cons, List.map_nil, List.getD_cons_succ, List.getD_cons_zero]
            repeat (first | go_big_quiet_step (fail) | (refine quiet_load_ag rfl _ _ rfl rfl (bv D) b7.drew sqT (bvl HDl.out) (whole (bvl HDl.out)) ?_; simp only [World.size_alloc, World.size_drew, Act.put, List.setIfInBounds_toArray, List.set_cons_succ, List.set_cons_zero]) | (refine quiet_load_ag rfl _ _ rfl rfl (bv (rk T r)) e0.drew sqT (bvl Hrl.out) (ciph_rk T HT.out r hlt) ?_; simp only [World.size_alloc, World.size_drew, Act.put, List.setIfInBounds_toArray, List.set_cons_succ, List.set_cons_zero]))
            refine wpQuiet_nil ?_
            refine WD.eff 7 (by kernel_rfl) ?_
            simp only [pick, List.toList_toArray, List.map_cons, List.map_nil, List.getD_cons_succ, List.getD_cons_zero]
            go_wp2_with (go_at_call 130; refine (with_any _ _ HDl.out Hrl.out).mono ?_; rintro e w8 ⟨rfl, f8⟩)
            try refine wpList_nil ?_
            refine AfterD.on trivial (by kernel_rfl) ?_
            try simp only [World.size_alloc, World.size_drew, Act.put, List.setIfInBounds_toArray, List.set_cons_succ, List.set_cons_zero]
            refine WD.eff 8 (by kernel_rfl) ?_
            simp only [pick, List.toList_toArray, List.map_cons, List.map_nil, List.getD_cons_succ, List.getD_cons_zero]
            refine wpList_store_ag rfl _ _ _ rfl rfl (bv (blkR T s r)) (by rw [← HE2.out]; rfl) (f8.blk e1.drew (by simp)) sqT (bvl (blkR_len T s r)) (by rw [bvl HCl.out]; decide) (bv_one _) ?_
            intro w9 f9 b9 hs9
            rw [splice_all _ _ (by rw [bvl HCl.out, bvl (blkR_len T s r)])] at b9
            try refine wpList_nil ?_
            refine AfterD.on trivial (by kernel_rfl) ?_
            try simp only [World.size_alloc, World.size_drew, Act.put, List.setIfInBounds_toArray, List.set_cons_succ, List.set_cons_zero]
            refine WD.done (by kernel_rfl) ?_
            have k0 := f9.blk (f8.blk e0.drew (by simp)) (by simp; omega)
            have k2 := f9.blk (f8.blk e2.drew (by simp)) (by simp; omega)
            have g9 := ((g7.drew).trans' f8).trans f9 (by simp; have := HN0.out; omega)
            have ht9 : N1 < w9.heap.size := by have h8 : w7.heap.size ≤ w8.heap.size := f8.size; have := f9.size; omega
            clear e0 e1 e2 g7 f8 f9 b7
            go_wp2_with fail
            go_roundw
            case rel => exact ⟨r + 1, by omega, by omega, by go_num, k0, b9, k2, g9, ht9⟩
            case measure => simp [intOf]; omega
    · have er : r = 11 := by omega
      have hd1 : decide ((r : Int) < 11) = false := by simp; omega
      rw [er] at b1
      clear er hlt
      have Hlen := hid (bvl (blockS_len T s))
      go_wp2_with (first
        | (refine wpList_load_ag rfl _ _ rfl rfl (bv (blockS T s)) b1 sqT Hlen.out (whole Hlen.out) ?_; simp only [World.size_alloc, World.size_drew, Act.put, List.setIfInBounds_toArray, List.set_cons_succ, List.set_cons_zero])
        | (refine wpList_store_ag rfl _ _ _ rfl rfl (bv (blockS T s)) rfl b2 sqT Hlen.out (by rw [bv_length]; decide) (bv_one _) ?_; intro w7 f7 b7 hs7; rw [splice_all _ _ (by rw [bv_length, Hlen.out]; rfl)] at b7; (try simp only [World.size_alloc, World.size_drew, Act.put, List.setIfInBounds_toArray, List.set_cons_succ, List.set_cons_zero])))
      refine bodyPost_row rfl rfl b7 sqT Hlen.out rfl ?_
      exact ⟨rfl, f.trans f7 (fun x hx => .inr (by simp at hx; have := HN0.out; omega))⟩
end Go.Proofs.YtneoagelcjfanaaGreatDoor.aes

/- Layer 3, aes: a block turned back. -/
namespace Go.Xr
open Go
set_option linter.unusedVariables false
/-- Where byte i goes. -/
def gx (i : Nat) : Nat := (i + i % 4 * 4) % 16
def setsI (f : Nat → UInt8) (s : List UInt8) : Nat → List UInt8
  | 0 => s
  | i + 1 => (setsI f s i).set (gx i) (f i)
def igx (j : Nat) : Nat := (j + j % 4 * 12) % 16
def setsL (f : Nat → UInt8) : List UInt8 := (List.range 16).map fun j => f (igx j)
theorem setsI_len (f : Nat → UInt8) (s : List UInt8) (i : Nat) : (setsI f s i).length = s.length := by
  induction i with
  | zero => rfl
  | succ i ih => rw [setsI, List.length_set, ih]
theorem setsI_get (f : Nat → UInt8) (s : List UInt8) (hs : s.length = 16) : ∀ n, n ≤ 16 → ∀ i, i < n → (setsI f s n)[gx i]? = some (f i)
  | 0, _, i, hi => absurd hi (Nat.not_lt_zero _)
  | n + 1, hn, i, hi => by
    rw [setsI, List.getElem?_set, setsI_len, hs]
    by_cases h : gx n = gx i
    · have e : n = i := by
        have key : ∀ a, a < 16 → ∀ b, b < 16 → gx a = gx b → a = b := by decide
        exact key n (by omega) i (by omega) h
      rw [if_pos h, if_pos (by unfold gx; omega), e]
    · rw [if_neg h]
      exact setsI_get f s hs n (by omega) i (by
        by_cases he : i = n
        · exact absurd (by rw [he]) h
        · omega)
theorem setsI_all (f : Nat → UInt8) (s : List UInt8) (hs : s.length = 16) : setsI f s 16 = setsL f := by
  apply List.ext_getElem?
  intro j
  by_cases hj : j < 16
  · have key : ∀ a, a < 16 → gx (igx a) = a := by decide
    have h := setsI_get f s hs 16 (by omega) (igx j) (by unfold igx; omega)
    rw [key j hj] at h
    rw [h]
    simp [setsL, hj]
  · rw [List.getElem?_eq_none (by rw [setsI_len]; omega), List.getElem?_eq_none (by simp [setsL]; omega)]
/-- The first i bytes laid back over s. -/
def ushI (T t s : List UInt8) (i : Nat) : List UInt8 := setsI (fun i => g8 T (432 + (g8 t i).toNat)) s i
theorem ushI_zero (T t s : List UInt8) : ushI T t s 0 = s := rfl
theorem ushI_succ (T t s : List UInt8) (i : Nat) : ushI T t s (i + 1) = (ushI T t s i).set (gx i) (g8 T (432 + (g8 t i).toNat)) := rfl
theorem ushI_len (T t s : List UInt8) (i : Nat) : (ushI T t s i).length = s.length := setsI_len _ _ _
def ush (T t : List UInt8) : List UInt8 := setsL fun i => g8 T (432 + (g8 t i).toNat)
theorem ush_len (T t : List UInt8) : (ush T t).length = 16 := by
  simp [ush, setsL]
theorem ush_any (T t s : List UInt8) (hs : s.length = 16) : ushI T t s 16 = ush T t := setsI_all _ s hs
def F2 : List UInt8 := [14, 11, 13, 9]
/-- From round 10 down, k rounds done. -/
def bkR (T s : List UInt8) : Nat → List UInt8
  | 0 => s
  | k + 1 => ush T (if k = 0 then xorL (bkR T s k) (rk T (10 - k)) else mixL F2 (xorL (bkR T s k) (rk T (10 - k))))
theorem bkR_len (T s : List UInt8) (hs : s.length = 16) (k : Nat) : (bkR T s k).length = 16 := by
  cases k with
  | zero => exact hs
  | succ k => exact ush_len _ _
def backS (T s : List UInt8) : List UInt8 := xorL (bkR T s 10) (rk T 0)
theorem backS_len (T s : List UInt8) : (backS T s).length = 16 := xorL_len _ _
end Go.Xr
namespace Go.Proofs.YtneoagelcjfanaaGreatDoor.aes
open Go Go.Xr Go.RowKit
set_option linter.unusedVariables false
set_option linter.unusedSimpArgs false
attribute [local go_sem] xor_u8 xor_u8_c at_bt

theorem mix_F2 {w : World} (l : List UInt8) (hl : l.length = 16) : Calls Tryz.prog 131 #[.agg (bv l).toArray, .agg #[.int .u8 14, .int .u8 11, .int .u8 13, .int .u8 9]] w fun e w' => e = .returned (.agg (bv (mixL F2 l)).toArray) ∧ Fr [] w w' := mix_any l F2 hl rfl

end Go.Proofs.YtneoagelcjfanaaGreatDoor.aes

/- Layer 3, aes: Block, Back. -/
namespace Go.Proofs.YtneoagelcjfanaaGreatDoor.aes
open Go Go.Xr Go.RowKit
set_option linter.unusedVariables false
set_option linter.unusedSimpArgs false

end Go.Proofs.YtneoagelcjfanaaGreatDoor.aes
