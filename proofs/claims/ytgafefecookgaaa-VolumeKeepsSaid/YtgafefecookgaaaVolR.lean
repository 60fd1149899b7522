/- Layer 8: numbers; what a place and a sector are to each other. -/
import Derived.Test.YtgafefecookgaaaVolQ
namespace Go.Proofs.Ytgafefecookgaaa
open Go Go.Xr Go.RowKit
set_option linter.unusedVariables false
set_option linter.unusedSimpArgs false
theorem v_and16 (x : Int) : ∃ q : Nat, q ≤ 65535 ∧ bits .and .i64 x 65535 = q := by
  refine ⟨(BitVec.ofInt 64 x &&& BitVec.ofInt 64 65535).toNat, ?_, ?_⟩
  · rw [BitVec.toNat_and]
    exact Nat.le_trans Nat.and_le_right (by decide)
  · have h : (BitVec.ofInt 64 x &&& BitVec.ofInt 64 65535).toNat ≤ 65535 := by
      rw [BitVec.toNat_and]
      exact Nat.le_trans Nat.and_le_right (by decide)
    show IntKind.i64.wrap ((BitVec.ofInt 64 x &&& BitVec.ofInt 64 65535).toNat : Int) = _
    rw [IntKind.wrap_i64]
    omega
theorem v_mod (x : Int) (d : Nat) (hd : 0 < d) : ∃ k : Nat, k < d ∧ (bits .and .i64 x 65535).tmod (d : Int) = k := by
  obtain ⟨q, hq, e⟩ := v_and16 x
  refine ⟨q % d, Nat.mod_lt _ hd, ?_⟩
  rw [e]
  exact (Int.ofNat_tmod q d).symm
theorem v_add (ty : TypeId) (a b c : Nat) (h : a + b = c) (hc : c ≤ 9223372036854775807) : binOp .add ty (.int .i64 (a : Int)) (.int .i64 (b : Int)) = pure (.int .i64 (c : Int)) := by
  show pure (Value.int .i64 (IntKind.i64.wrap ((a : Int) + (b : Int)))) = _
  rw [IntKind.wrap_i64]
  have h9 : ((a : Int) + (b : Int) + 9223372036854775808) % 18446744073709551616 - 9223372036854775808 = (c : Int) := by omega
  rw [h9]
theorem v_mul (ty : TypeId) (a b c : Nat) (h : a * b = c) (hc : c ≤ 9223372036854775807) : binOp .mul ty (.int .i64 (a : Int)) (.int .i64 (b : Int)) = pure (.int .i64 (c : Int)) := by
  show pure (Value.int .i64 (IntKind.i64.wrap ((a : Int) * (b : Int)))) = _
  rw [IntKind.wrap_i64, show (a : Int) * (b : Int) = (c : Int) by rw [← h]; exact (Int.natCast_mul a b).symm]
  have h9 : ((c : Int) + 9223372036854775808) % 18446744073709551616 - 9223372036854775808 = (c : Int) := by omega
  rw [h9]
/-- A sector's place is one, and leads back. -/
theorem pl_in {n e : Nat} {i : Int} (h0 : 0 ≤ i) (h1 : i < ((e * n : Nat) : Int)) (hn : 0 < n) : plC n e i = 0 ∧ plP n e i < n ∧ plA n e i < e ∧ ixC n e (plP n e i : Int) (plA n e i : Int) = 0 ∧ ((ixN n e (plP n e i : Int) (plA n e i : Int) : Nat) : Int) = i := by
  obtain ⟨q, rfl⟩ : ∃ q : Nat, i = (q : Int) := ⟨i.toNat, by omega⟩
  have hp : plP n e (q : Int) = q % n := by unfold plP; rw [if_pos ⟨h0, h1⟩, Int.toNat_natCast]
  have ha : plA n e (q : Int) = q / n := by unfold plA; rw [if_pos ⟨h0, h1⟩, Int.toNat_natCast]
  have h2 : q % n < n := Nat.mod_lt _ hn
  have h3 : q / n < e := (Nat.div_lt_iff_lt_mul hn).2 (by omega)
  have hc : (0 ≤ ((q % n : Nat) : Int) ∧ ((q % n : Nat) : Int) < (n : Int)) ∧ (0 ≤ ((q / n : Nat) : Int) ∧ ((q / n : Nat) : Int) < (e : Int)) := by omega
  rw [hp, ha]
  refine ⟨by unfold plC; rw [if_pos ⟨h0, h1⟩], h2, h3, by unfold ixC; rw [if_pos hc], ?_⟩
  unfold ixN
  rw [if_pos hc, Int.toNat_natCast, Int.toNat_natCast]
  congr 1
  exact Nat.div_add_mod' q n
theorem pl_out {n e : Nat} {i : Int} (h : ¬ (0 ≤ i ∧ i < ((e * n : Nat) : Int))) : plC n e i = 2 := by unfold plC; rw [if_neg h]
/-- A place's sector is one, and leads back. -/
theorem ix_in {n e : Nat} {p a : Int} (h : (0 ≤ p ∧ p < (n : Int)) ∧ (0 ≤ a ∧ a < (e : Int))) : ixC n e p a = 0 ∧ plC n e (ixN n e p a : Int) = 0 ∧ ((plP n e (ixN n e p a : Int) : Nat) : Int) = p ∧ ((plA n e (ixN n e p a : Int) : Nat) : Int) = a := by
  have e1 : ixN n e p a = a.toNat * n + p.toNat := by unfold ixN; rw [if_pos h]
  have hp : p.toNat < n := by omega
  have ha : a.toNat < e := by omega
  have hlt : a.toNat * n + p.toNat < e * n := by
    have : (a.toNat + 1) * n ≤ e * n := Nat.mul_le_mul_right n ha
    rw [Nat.succ_mul] at this
    omega
  have hc : 0 ≤ ((a.toNat * n + p.toNat : Nat) : Int) ∧ ((a.toNat * n + p.toNat : Nat) : Int) < ((e * n : Nat) : Int) := by omega
  have hm : (a.toNat * n + p.toNat) % n = p.toNat := by rw [Nat.mul_comm, Nat.mul_add_mod]; exact Nat.mod_eq_of_lt hp
  have hd : (a.toNat * n + p.toNat) / n = a.toNat := by rw [Nat.mul_comm, Nat.mul_add_div (by omega), Nat.div_eq_of_lt hp, Nat.add_zero]
  rw [e1]
  refine ⟨by unfold ixC; rw [if_pos h], by unfold plC; rw [if_pos hc], ?_, ?_⟩
  · unfold plP
    rw [if_pos hc, Int.toNat_natCast, hm]
    omega
  · unfold plA
    rw [if_pos hc, Int.toNat_natCast, hd]
    omega
theorem ix_out {n e : Nat} {p a : Int} (h : ¬ ((0 ≤ p ∧ p < (n : Int)) ∧ (0 ≤ a ∧ a < (e : Int)))) : ixC n e p a = 2 ∧ ixN n e p a = 0 := by
  unfold ixC ixN
  rw [if_neg h, if_neg h]
  exact ⟨rfl, rfl⟩
end Go.Proofs.Ytgafefecookgaaa
