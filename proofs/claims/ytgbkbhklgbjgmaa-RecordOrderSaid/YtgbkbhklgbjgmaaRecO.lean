/- Layer 21, record: whether a row of texts is more than a statement seals. -/
import Derived.Test.YtgbkbhklgbjgmaaRecN
namespace Go.Xr
open Go
set_option linter.unusedVariables false
def totN (l : List ByteArray) : Nat := (l.map ByteArray.size).sum
def heavyS (l : List ByteArray) : Bool := decide (20 < l.length) || decide (32768 < totN l)
theorem totN_take (l : List ByteArray) (i : Nat) (h : i < l.length) : totN (l.take (i + 1)) = totN (l.take i) + (l[i]'h).size := by
  unfold totN
  rw [List.take_succ_eq_append_getElem h, List.map_append, List.sum_append]
  simp
theorem totN_le (l : List ByteArray) (B : Nat) (h : ∀ s ∈ l, s.size ≤ B) : totN l ≤ l.length * B := by
  unfold totN
  induction l with
  | nil => simp
  | cons s l ih =>
    have h1 := h s (by simp)
    have h2 := ih fun x hx => h x (by simp [hx])
    simp only [List.map_cons, List.sum_cons, List.length_cons, Nat.add_mul]
    omega
theorem totN_mem (l : List ByteArray) (s : ByteArray) (h : s ∈ l) : s.size ≤ totN l := by
  unfold totN
  induction l with
  | nil => cases h
  | cons x l ih =>
    simp only [List.map_cons, List.sum_cons]
    rcases List.mem_cons.1 h with rfl | h
    · omega
    · have := ih h; omega
end Go.Xr
namespace Go.Proofs.Ytgbkbhklgbjgmaa.rcd
open Go Go.Xr Go.RowKit
set_option linter.unusedVariables false
set_option linter.unusedSimpArgs false
set_option maxRecDepth 20000 in
set_option maxHeartbeats 1000000 in
theorem heavy_any {w : World} {v : Value} {l : List ByteArray} {LB : Option Nat} (hl : Rc w 1 v l.length (l.map .string) LB) (ho : ∀ s ∈ l, s.size ≤ 140737488351232) (hlm : l.length ≤ 9223372036854775807) : Calls Try.prog 8 #[v] w fun e w' => e = .returned (.bool (heavyS l)) ∧ Fr [] w w' := by
  obtain ⟨la, lc, rfl⟩ := hl.isSlice
  have Hl := hid hl
  have Ho := hid ho
  have Hh : Hid (heavyS l = (decide (20 < l.length) || decide (32768 < totN l))) := hid rfl
  obtain ⟨n, hn⟩ : ∃ n, l.length = n := ⟨_, rfl⟩
  have Hn := hid hn
  rw [hn] at hlm Hh ⊢
  clear hl ho hn
  go_enter Try.func8, Try.ntmps8
  go_wp2_with fail
  go_loopw [3, 4] (fun nv iv wr => ∃ (i : Nat) (s : Int), i ≤ n ∧ iv = .int .i64 i ∧ nv = .int .i64 s ∧ (n ≤ 20 → s = (totN (l.take i) : Int)) ∧ Fr [] w wr) (fun _ iv _ => n - (intOf iv).toNat)
  case atStart => exact ⟨0, 0, by omega, rfl, rfl, fun _ => by simp [totN], Fr.refl _ _⟩
  case round =>
    obtain ⟨i, s, hi, rfl, rfl, hs, f⟩ := hrel
    by_cases hli : i < n
    case neg =>
      have hd1 : decide (i < n) = false := by simp; omega
      have hin : i = n := by omega
      cases hd2 : decide (20 < n)
      case true =>
        have hd2' : decide (20 < (n : Int)) = true := by simp at hd2 ⊢; omega
        have HR := hid (show heavyS l = true by rw [Hh.out, hd2]; rfl)
        clear hs
        go_wp2_with fail
        go_ret
        rw [HR.out]
        exact ⟨rfl, f⟩
      case false =>
        have hd2' : decide (20 < (n : Int)) = false := by simp at hd2 ⊢; omega
        have hs2 : s = (totN l : Int) := by
          rw [hs (by simpa using hd2), hin, ← Hn.out, List.take_length]
        have HR := hid (show heavyS l = decide ((32768 : Int) < s) by rw [Hh.out, hd2, hs2]; simp; omega)
        clear hs hs2
        go_wp2_with fail
        go_ret
        rw [HR.out]
        exact ⟨rfl, f⟩
    case pos =>
      have hd1 : decide (i < n) = true := by simp; omega
      obtain ⟨lb, off, rfl, hlb, hcell⟩ := rc_str (wr := wr) Hl.out f i (by rw [Hn.out]; exact hli)
      have hso : (l[i]'(by rw [Hn.out]; exact hli)).size ≤ 140737488351232 := Ho.out _ (List.getElem_mem _)
      have hnx := totN_take l i (by rw [Hn.out]; exact hli)
      have htl := totN_le (l.take i) 140737488351232 (fun s hs => Ho.out s (List.mem_of_mem_take hs))
      obtain ⟨S, hS⟩ : ∃ S, l[i]'(by rw [Hn.out]; exact hli) = S := ⟨_, rfl⟩
      rw [hS] at hcell hso hnx
      have Hnx := hid hnx
      have Hs := hid hs
      have Htl := hid htl
      clear hS hs hnx htl
      go_wp2_with fail
      go_roundw
      case rel =>
        refine ⟨i + 1, wrap64 (s + S.size), by omega, by go_num, rfl, fun h20 => ?_, f⟩
        have h1 := Hs.out h20
        have h2 := Htl.out
        rw [List.length_take] at h2
        have h3 : totN (l.take i) ≤ 20 * 140737488351232 := Nat.le_trans h2 (Nat.mul_le_mul_right _ (by omega))
        rw [Hnx.out, h1, IntWalk.wrap64_in _ ⟨by omega, by omega⟩]
        omega
      case measure => simp [intOf]; omega
end Go.Proofs.Ytgbkbhklgbjgmaa.rcd
