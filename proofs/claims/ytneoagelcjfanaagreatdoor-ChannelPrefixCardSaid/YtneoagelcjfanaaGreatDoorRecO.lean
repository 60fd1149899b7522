/- Layer 21, record: whether a row of texts is more than a statement seals. -/
import Derived.Test.YtneoagelcjfanaaGreatDoorRecN
namespace Go.Xr
open Go
set_option linter.unusedVariables false
def totN (l : List ByteArray) : Nat := (l.map ByteArray.size).sum
def heavyS (l : List ByteArray) : Bool := decide (20 < l.length) || decide (32768 < totN l)
theorem totN_take (l : List ByteArray) (i : Nat) (h : i < l.length) : totN (l.take (i + 1)) = totN (l.take i) + (l[i]'h).size := by
  unfold totN
  rw [List.take_succ_eq_append_getElem h, List.map_append, List.sum_append]
  simp
theorem totN_le (l : List ByteArray) (B : Nat) (h : ∀ s ∈ l, s.size ≤ B) : totN l ≤ l.length * B := by
  unfold totN
  induction l with
  | nil => simp
  | cons s l ih =>
    have h1 := h s (by simp)
    have h2 := ih fun x hx => h x (by simp [hx])
    simp only [List.map_cons, List.sum_cons, List.length_cons, Nat.add_mul]
    omega
theorem totN_mem (l : List ByteArray) (s : ByteArray) (h : s ∈ l) : s.size ≤ totN l := by
  unfold totN
  induction l with
  | nil => cases h
  | cons x l ih =>
    simp only [List.map_cons, List.sum_cons]
    rcases List.mem_cons.1 h with rfl | h
    · omega
    · have := ih h; omega
end Go.Xr
namespace Go.Proofs.YtneoagelcjfanaaGreatDoor.rcd
open Go Go.Xr Go.RowKit
set_option linter.unusedVariables false
set_option linter.unusedSimpArgs false
end Go.Proofs.YtneoagelcjfanaaGreatDoor.rcd
