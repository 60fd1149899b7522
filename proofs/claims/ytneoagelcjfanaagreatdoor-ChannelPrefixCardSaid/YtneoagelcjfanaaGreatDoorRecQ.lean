/- Layer 21, record: what is done to a row of records. -/
import Derived.Test.YtneoagelcjfanaaGreatDoorRecP
namespace Go.Xr
open Go
set_option linter.unusedVariables false
theorem own_put {w' : World} {b n cap : Nat} {l : List ByteArray} {cs : List Value} (hn : l.length = n) (ht : cs.take n = l.map .string) (hnc : n ≤ cap) (hcm : cap ≤ maxLen) (hl : cs.length = cap) (k : Nat) (V : ByteArray) (hb : Blk w' b (cs.set k (.string V))) :
    Rc w' 1 (.slice (some ⟨b, 0, none⟩) n cap) n ((l.set k V).map .string) (some b) := by
  have h := (Own.blk (n := n) (size := 1) hb hnc hcm (by rw [List.length_set]; omega)).rd.rc
  rw [Nat.mul_one, List.take_set, ht, ← List.map_set] at h
  exact h
end Go.Xr
namespace Go.Proofs.YtneoagelcjfanaaGreatDoor.rcd
open Go Go.Xr Go.RowKit
set_option linter.unusedVariables false
set_option linter.unusedSimpArgs false
attribute [local go_sem] xor_u8
set_option maxRecDepth 20000 in
theorem rpad_long {w : World} (s : ByteArray) (n : Nat) (h : n < s.size + 4) (h4 : 4 ≤ n) (hn : n ≤ 16384) (hs : s.size ≤ 140737488351232) : Calls Tryz.prog 50 #[.string s, .int .i64 (n : Int)] w fun e w' => e = .returned (.tuple #[.string ⟨#[]⟩, .int .i64 4]) ∧ Fr [] w w' := by
  have hd1 : decide ((n : Int) < 4) = false := by simp; omega
  have hd2 : decide ((n : Int) - 4 < (s.size : Int)) = true := by simp; omega
  clear h
  go_enter Tryz.func50, Tryz.ntmps50
  go_wp2_with fail
  go_ret2
  exact ⟨rfl, Fr.refl _ _⟩
/-- Whatever is padded and sealed. -/
theorem rpad_some {w : World} (s : ByteArray) (hs : s.size ≤ 4096) : Calls Tryz.prog 50 #[.string s, .int .i64 256] w fun e w' => (∃ P k, e = .returned (.tuple #[.string P, .int .i64 k]) ∧ P.size ≤ 256) ∧ Fr [] w w' := by
  by_cases h : s.size + 4 ≤ 256
  · refine (rpad_any s 256 h (by decide) (by decide)).mono ?_
    rintro e w' ⟨rfl, f⟩
    exact ⟨⟨_, _, rfl, by rw [padS_size _ _ h]; exact Nat.le_refl _⟩, f⟩
  · refine (rpad_long s 256 (by omega) (by decide) (by decide) (by omega)).mono ?_
    rintro e w' ⟨rfl, f⟩
    exact ⟨⟨_, _, rfl, Nat.zero_le _⟩, f⟩

/-- What a turn answers. -/
def TurnedTo (w w' : World) (l : List ByteArray) (e : Ending) : Prop := (∃ (u : Value) (l' : List ByteArray) (B : Option Nat), e = .returned u ∧ Rc w' 1 u l'.length (l'.map .string) B ∧ l'.length ≤ l.length + 1 ∧ ∀ s ∈ l', s.size ≤ 100000) ∧ Fr [] w w'
theorem set_small {l : List ByteArray} {V : ByteArray} (k : Nat) (h : ∀ s ∈ l, s.size ≤ 100000) (hV : V.size ≤ 100000) : ∀ s ∈ l.set k V, s.size ≤ 100000 := by
  intro s hs
  rcases List.mem_or_eq_of_mem_set hs with h1 | rfl
  · exact h s h1
  · exact hV

end Go.Proofs.YtneoagelcjfanaaGreatDoor.rcd
