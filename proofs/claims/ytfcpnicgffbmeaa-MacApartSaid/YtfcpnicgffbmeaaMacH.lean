/- Layer 2: MacApart, the plain laws. -/
import Derived.Test.YtfcpnicgffbmeaaMacOfs
import Derived.Test.YtfcpnicgffbmeaaMacIs
namespace Go.Xr
open Go
set_option linter.unusedVariables false
theorem be8_inj {n m : Nat} (hn : n < 65536) (hm : m < 65536) (h : be8 n = be8 m) : n = m := by
  have e : ∀ k, be8 k = [UInt8.ofNat (k / 2 ^ 56), UInt8.ofNat (k / 2 ^ 48), UInt8.ofNat (k / 2 ^ 40), UInt8.ofNat (k / 2 ^ 32), UInt8.ofNat (k / 2 ^ 24), UInt8.ofNat (k / 2 ^ 16), UInt8.ofNat (k / 2 ^ 8), UInt8.ofNat (k / 2 ^ 0)] := fun _ => rfl
  rw [e, e] at h
  simp only [List.cons.injEq, and_true] at h
  obtain ⟨_, _, _, _, _, _, h1, h2⟩ := h
  have h3 := congrArg UInt8.toNat h1
  have h4 := congrArg UInt8.toNat h2
  rw [UInt8.toNat_ofNat', UInt8.toNat_ofNat'] at h3 h4
  omega
theorem allL_inj : ∀ (l m : List ByteArray), (∀ s ∈ l, s.size < 65536) → (∀ s ∈ m, s.size < 65536) → allL l = allL m → l = m
  | [], [], _, _, _ => rfl
  | [], t :: m, _, _, h => by
    have := congrArg List.length h
    rw [show allL (t :: m) = longL t ++ allL m by simp [allL], List.length_append, longL_len] at this
    simp [allL] at this
    try omega
  | s :: l, [], _, _, h => by
    have := congrArg List.length h
    rw [show allL (s :: l) = longL s ++ allL l by simp [allL], List.length_append, longL_len] at this
    simp [allL] at this
    try omega
  | s :: l, t :: m, hl, hm, h => by
    rw [show allL (s :: l) = longL s ++ allL l by simp [allL], show allL (t :: m) = longL t ++ allL m by simp [allL]] at h
    unfold longL at h
    rw [List.append_assoc, List.append_assoc] at h
    obtain ⟨h1, h2⟩ := List.append_inj h (by rw [be8_len, be8_len])
    have e := be8_inj (hl s (by simp)) (hm t (by simp)) h1
    obtain ⟨h3, h4⟩ := List.append_inj h2 (by rw [bytes_len, bytes_len, e])
    have e2 : s = t := by
      apply ByteArray.ext
      apply Array.ext'
      exact h3
    have e3 := allL_inj l m (fun x hx => hl x (by simp [hx])) (fun x hx => hm x (by simp [hx])) h4
    rw [e2, e3]
def sameU (l m : List ByteArray) (i : Nat) : Bool := decide (l.length = m.length) && decide (l.take i = m.take i)
theorem sameU_zero (l m : List ByteArray) : sameU l m 0 = decide (l.length = m.length) := by simp [sameU]
theorem sameU_succ (l m : List ByteArray) (i : Nat) (h : sameU l m i = true) (hl : i < l.length) : ∃ hm : i < m.length, sameU l m (i + 1) = decide (m[i] = l[i]) := by
  unfold sameU at h
  simp only [Bool.and_eq_true, decide_eq_true_eq] at h
  obtain ⟨h1, h2⟩ := h
  refine ⟨by omega, ?_⟩
  unfold sameU
  rw [decide_eq_true h1, Bool.true_and, decide_eq_decide, List.take_succ_eq_append_getElem hl, List.take_succ_eq_append_getElem (by omega), h2]
  constructor
  · intro h
    have := List.append_cancel_left h
    simpa using this.symm
  · intro h
    rw [h]
theorem sameU_end (l m : List ByteArray) (i : Nat) (h : l.length ≤ i) : sameU l m i = decide (l = m) := by
  unfold sameU
  rw [List.take_of_length_le h]
  by_cases e : l = m
  · subst e
    rw [List.take_of_length_le h]
    simp
  · rw [decide_eq_false e]
    by_cases h1 : l.length = m.length
    · rw [List.take_of_length_le (by omega), decide_eq_false e, Bool.and_false]
    · rw [decide_eq_false h1, Bool.false_and]
theorem sameU_no (l m : List ByteArray) (i : Nat) (h : sameU l m i = false) : decide (l = m) = false := by
  by_cases e : l = m
  · subst e
    simp [sameU] at h
  · exact decide_eq_false e
end Go.Xr
namespace Go.Proofs.Ytfcpnicgffbmeaa
open Go Go.Xr Go.RowKit
set_option linter.unusedVariables false
set_option linter.unusedSimpArgs false

theorem allS_same (l m : List ByteArray) (hl : smallS l = true) (hm : smallS m = true) : ((allS l).toList == (allS m).toList) = decide (l = m) := by
  rw [beq_txt]
  have h1 := small_yes hl
  have h2 := small_yes hm
  rw [decide_eq_decide]
  constructor
  · intro h
    have e : allL l = allL m := by
      have := congrArg (fun b : ByteArray => b.data.toList) h
      simpa [allS] using this.symm
    exact allL_inj l m (fun s hs => by have := totL_mem l s hs; omega) (fun s hs => by have := totL_mem m s hs; omega) e
  · rintro rfl
    rfl
theorem derT_pre (key label : ByteArray) (j : Nat) : ∀ k, ∃ r : ByteArray, (derT key label (j + k)).1 = (derT key label j).1 ++ r
  | 0 => ⟨⟨#[]⟩, by apply ByteArray.ext; simp⟩
  | k + 1 => by
    obtain ⟨r, hr⟩ := derT_pre key label j k
    refine ⟨r ++ macS key ((derT key label (j + k)).2 ++ label ++ ⟨#[UInt8.ofNat (j + k + 1)]⟩), ?_⟩
    show (derT key label (j + k)).1 ++ _ = _
    rw [hr]
    apply ByteArray.ext
    simp
theorem derS_size (key label : ByteArray) (m : Nat) : (derS key label m).size = m := by
  unfold derS
  rw [ByteArray.size_extract, derT_len]
  omega
theorem derS_pre (key label : ByteArray) (a b : Nat) : (derS key label (a + b)).extract 0 a = derS key label a := by
  unfold derS
  obtain ⟨r, hr⟩ := derT_pre key label ((a + 31) / 32) ((a + b + 31) / 32 - (a + 31) / 32)
  rw [show (a + 31) / 32 + ((a + b + 31) / 32 - (a + 31) / 32) = (a + b + 31) / 32 by omega] at hr
  have hl := derT_len key label ((a + 31) / 32)
  rw [hr]
  apply ByteArray.ext
  apply Array.ext'
  generalize (derT key label ((a + 31) / 32)).1 = D at *
  have hd : D.data.toList.length = D.size := bytes_len D
  simp only [ByteArray.data_extract, ByteArray.data_append, Array.toList_extract, Array.toList_append, List.extract_eq_take_drop, List.drop_zero, Nat.sub_zero]
  rw [List.take_take, Nat.min_eq_left (by omega), List.take_append_of_le_length (by omega)]
theorem treeS_last (key : ByteArray) (l : List ByteArray) (h : 0 < l.length) : treeS key l = treeS (treeS key (l.take (l.length - 1))) [l[l.length - 1]] := by
  have h1 := treeS_snoc key l (l.length - 1) (by omega)
  rw [show l.length - 1 + 1 = l.length by omega, List.take_of_length_le (Nat.le_refl _)] at h1
  exact h1
theorem and_low (n : Int) : ∃ k : Nat, k ≤ 1023 ∧ ∀ t, binOp .and t (.int .i64 n) (.int .i64 1023) = pure (.int .i64 (k : Int)) := by
  refine ⟨(BitVec.ofInt 64 n &&& BitVec.ofInt 64 1023).toNat, ?_, fun t => ?_⟩
  · rw [BitVec.toNat_and]
    exact Nat.and_le_right
  · have h : (BitVec.ofInt 64 n &&& BitVec.ofInt 64 1023).toNat ≤ 1023 := by
      rw [BitVec.toNat_and]
      exact Nat.and_le_right
    have e : IntKind.i64.wrap ((BitVec.ofInt 64 n &&& BitVec.ofInt 64 1023).toNat : Int) = ((BitVec.ofInt 64 n &&& BitVec.ofInt 64 1023).toNat : Int) := IntWalk.i64_in _ ⟨by omega, by omega⟩
    exact congrArg (fun x => (pure (Value.int .i64 x) : Sem Value)) e
/-- The first elements of a row. -/
theorem rc_take {w : World} {ad : Option Addr} {n c k : Nat} {xs : List Value} {B : Option Nat} (h : Rc w 1 (.slice ad n c) n xs B) (hk : k ≤ n) : Rc w 1 (.slice ad k c) k (xs.take k) B := by
  obtain ⟨h1, h2, a, c', h3, h4, h5, h6⟩ := h
  cases h3
  refine ⟨by rw [List.length_take]; omega, h2, _, _, rfl, by omega, h5, fun h0 => ?_⟩
  obtain ⟨b, off, hB, ha, hc⟩ := h6 (by omega)
  refine ⟨b, off, hB, ha, fun j hj => ?_⟩
  rw [List.length_take] at hj
  rw [hc j (by omega), List.getElem?_take, if_pos (by omega)]
end Go.Proofs.Ytfcpnicgffbmeaa
