/- Layer 21, record: what was sealed is opened in its turn; works. -/
import Derived.Test.YtneoagelcjfanaaGreatDoorRecK
namespace Go.Xr
open Go
set_option linter.unusedVariables false
theorem rd_get (n : Nat) (r : List UInt8) (k : Nat) (h : k < 8) : g8 (be8 n ++ r) k = UInt8.ofNat (n / 2 ^ (56 - 8 * k)) := by
  unfold g8
  rw [List.getD_eq_getElem?_getD, List.getElem?_append_left (by rw [be8_len]; exact h), be8_get n k h]
  rfl
theorem rd_nat (n : Nat) (hn : n < 2 ^ 64) (r : List UInt8) : ∀ k, k ≤ 8 → (rdN (be8 n ++ r) k).toNat = n / 2 ^ (64 - 8 * k)
  | 0, _ => by
    show 0 = n / 2 ^ 64
    rw [Nat.div_eq_of_lt hn]
  | k + 1, h => by
    have ih := rd_nat n hn r k (by omega)
    rw [rdN, or_nat, shl64_nat, ih, rd_get n r k (by omega), UInt8.toNat_toUInt64, UInt8.toNat_ofNat']
    obtain ⟨m, hm⟩ : ∃ m, n / 2 ^ (56 - 8 * k) = m := ⟨_, rfl⟩
    have e1 : n / 2 ^ (64 - 8 * k) = m / 256 := by
      rw [← hm, Nat.div_div_eq_div_mul, show (256 : Nat) = 2 ^ 8 from rfl, ← Nat.pow_add, show 56 - 8 * k + 8 = 64 - 8 * k by omega]
    have e2 : n / 2 ^ (64 - 8 * (k + 1)) = m := by rw [← hm, show 64 - 8 * (k + 1) = 56 - 8 * k by omega]
    have hm64 : m < 2 ^ 64 := by
      rw [← hm]
      exact Nat.lt_of_le_of_lt (Nat.div_le_self _ _) hn
    rw [e1, e2, hm]
    have hlt : m / 256 * 2 ^ 8 < 2 ^ 64 := by omega
    rw [Nat.mod_eq_of_lt hlt, Nat.mul_comm, ← Nat.two_pow_add_eq_or_of_lt (show m % 2 ^ 8 < 2 ^ 8 by omega)]
    omega
theorem rd_be8 (x : UInt64) (r : List UInt8) : rdN (be8 x.toNat ++ r) 8 = x := by
  apply UInt64.toNat_inj.1
  rw [rd_nat x.toNat x.toNat_lt r 8 (by omega)]
  simp
end Go.Xr
namespace Go.Proofs.YtneoagelcjfanaaGreatDoor.rcd
open Go Go.Xr Go.RowKit
set_option linter.unusedVariables false
set_option linter.unusedSimpArgs false
theorem rd_rec (c m label t : ByteArray) (x : UInt64) : rdN (recS c m label x t).data.toList 8 = x := by
  unfold recS
  rw [sealT_list]
  exact rd_be8 x _
theorem pad_small (t : ByteArray) (h : t.size ≤ 8192) : (padS t (clsN t.size)).size ≤ 1048576 := by
  rw [padS_size _ _ (clsN_ge _ h)]
  have := (clsN_le t.size).2
  omega
theorem recP_rec (c m label t : ByteArray) (x : UInt64) (hc : c.size = 16) (hm : m.size = 32) (h : t.size ≤ 8192) : recP c m label (recS c m label x t) = padS t (clsN t.size) :=
  openR_seal _ _ _ _ _ hc hm (n8_size x) (pad_small t h)
theorem recT_rec (c m label t : ByteArray) (x : UInt64) (hc : c.size = 16) (hm : m.size = 32) (h : t.size ≤ 8192) : recT c m label (recS c m label x t) = t := by
  unfold recT
  rw [recP_rec c m label t x hc hm h, unpT_pad _ _ (clsN_ge _ h) (clsN_le _).2]
theorem recOk_rec (c m label t : ByteArray) (x nx : UInt64) (hc : c.size = 16) (hm : m.size = 32) (h : t.size ≤ 8192) : recOk c m label nx (recS c m label x t) = decide (x = nx) := by
  unfold recOk
  rw [rd_rec, recP_rec c m label t x hc hm h, unpT_pad _ _ (clsN_ge _ h) (clsN_le _).2, unpE_pad _ _ (clsN_ge _ h) (clsN_le _).2, padS_size _ _ (clsN_ge _ h), clsI_nat _ h]
  rw [show openB c m label (recS c m label x t) = true from openB_seal _ _ _ _ _ hc hm (n8_size x) (pad_small t h)]
  simp
end Go.Proofs.YtneoagelcjfanaaGreatDoor.rcd
