/- Layer 21, record: what is done to a row of records. -/
import Derived.Test.YtneoagelcjfanaaDoorRecP
namespace Go.Xr
open Go
set_option linter.unusedVariables false
theorem own_put {w' : World} {b n cap : Nat} {l : List ByteArray} {cs : List Value} (hn : l.length = n) (ht : cs.take n = l.map .string) (hnc : n ≤ cap) (hcm : cap ≤ maxLen) (hl : cs.length = cap) (k : Nat) (V : ByteArray) (hb : Blk w' b (cs.set k (.string V))) :
    Rc w' 1 (.slice (some ⟨b, 0, none⟩) n cap) n ((l.set k V).map .string) (some b) := by
  have h := (Own.blk (n := n) (size := 1) hb hnc hcm (by rw [List.length_set]; omega)).rd.rc
  rw [Nat.mul_one, List.take_set, ht, ← List.map_set] at h
  exact h
end Go.Xr
namespace Go.Proofs.YtneoagelcjfanaaDoor.rcd
open Go Go.Xr Go.RowKit
set_option linter.unusedVariables false
set_option linter.unusedSimpArgs false
attribute [local go_sem] xor_u8
/-- What a turn answers. -/
def TurnedTo (w w' : World) (l : List ByteArray) (e : Ending) : Prop := (∃ (u : Value) (l' : List ByteArray) (B : Option Nat), e = .returned u ∧ Rc w' 1 u l'.length (l'.map .string) B ∧ l'.length ≤ l.length + 1 ∧ ∀ s ∈ l', s.size ≤ 100000) ∧ Fr [] w w'
theorem set_small {l : List ByteArray} {V : ByteArray} (k : Nat) (h : ∀ s ∈ l, s.size ≤ 100000) (hV : V.size ≤ 100000) : ∀ s ∈ l.set k V, s.size ≤ 100000 := by
  intro s hs
  rcases List.mem_or_eq_of_mem_set hs with h1 | rfl
  · exact h s h1
  · exact hV

end Go.Proofs.YtneoagelcjfanaaDoor.rcd
