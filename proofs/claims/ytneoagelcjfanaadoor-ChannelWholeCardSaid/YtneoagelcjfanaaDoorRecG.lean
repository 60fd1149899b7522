/- Layer 21, record: a padded text read, the document's; padded texts come back. -/
import Derived.Test.YtneoagelcjfanaaDoorRecF
namespace Go.Proofs.YtneoagelcjfanaaDoor.rcd
open Go Go.Xr Go.RowKit
set_option linter.unusedVariables false
set_option linter.unusedSimpArgs false
attribute [local go_sem] neq_u8_c neg8 gtr_u64

theorem toNat64b (m : Nat) (h : m ≤ 140737488355328) : (UInt64.ofNat m).toNat = m := by
  rw [UInt64.toNat_ofNat']
  omega
/-- A padded text comes back. -/
theorem padS_size (s : ByteArray) (n : Nat) (h : s.size + 4 ≤ n) : (padS s n).size = n := by
  unfold padS
  rw [size_mk', padB_len _ _ (by rw [ba_len]; exact h)]
theorem padS_list (s : ByteArray) (n : Nat) : (padS s n).data.toList = leN s.size 4 ++ (s.data.toList ++ List.replicate (n - 4 - s.size) 0) := by
  show padB s.data.toList n = _
  unfold padB
  rw [ba_len, List.append_assoc]
theorem tell_pad (s : ByteArray) (n : Nat) (h : s.size < 4294967296) : tellN (padS s n) = s.size := by
  unfold tellN
  rw [padS_list, List.take_append_of_le_length (by rw [leN_len]; exact Nat.le_refl _), List.take_of_length_le (by rw [leN_len]; exact Nat.le_refl _), leV_leN _ h]
theorem zero_pad (s : ByteArray) (n : Nat) : zeroB (padS s n) (4 + s.size) = true := by
  unfold zeroB
  rw [padS_list, show 4 + s.size = (leN s.size 4).length + s.data.toList.length by rw [leN_len, ba_len], ← List.drop_drop, List.drop_left, List.drop_left]
  simp
theorem unpOk_pad (s : ByteArray) (n : Nat) (h : s.size + 4 ≤ n) (hn : n ≤ 16384) : unpOk (padS s n) = true := by
  unfold unpOk
  rw [tell_pad s n (by omega), zero_pad, padS_size s n h]
  simp
  omega
theorem unpT_pad (s : ByteArray) (n : Nat) (h : s.size + 4 ≤ n) (hn : n ≤ 16384) : unpT (padS s n) = s := by
  unfold unpT
  rw [unpOk_pad s n h hn, if_pos rfl, tell_pad s n (by omega)]
  apply ba_ext
  rw [ext_list, padS_list, show 4 + s.size = (leN s.size 4).length + s.data.toList.length by rw [leN_len, ba_len], List.take_length_add_append, List.take_left, List.drop_left' (leN_len _ _)]
theorem unpE_pad (s : ByteArray) (n : Nat) (h : s.size + 4 ≤ n) (hn : n ≤ 16384) : unpE (padS s n) = 0 := by
  unfold unpE
  rw [unpOk_pad s n h hn, padS_size s n h, if_neg (by omega)]
  rfl
end Go.Proofs.YtneoagelcjfanaaDoor.rcd
