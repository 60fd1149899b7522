/- Layer 7: the steps that come in. -/
import Derived.Test.YtjgagcpmoffldaaGreatGMirD
import Derived.Test.YtjgagcpmoffldaaGreatGArgs
namespace Go.Proofs.YtjgagcpmoffldaaGreat
open Go Go.Xr Go.RowKit Go.ChangeShapes Go.WideShapes Go.Deep
set_option linter.unusedVariables false
set_option linter.unusedSimpArgs false
structure Step7 where
  Do : Int
  I : Int
  D : Int
  C : UInt8
  Text : ByteArray
  Keep : Value
  ks : List Bool
  KB : Option Nat
instance : Inhabited Step7 := ⟨⟨0, 0, 0, 0, ⟨#[]⟩, .slice none 0 0, [], none⟩⟩
def stc7 (s : Step7) : List Value := [.int .i64 s.Do, .int .i64 s.I, .int .i64 s.D, bt s.C, .string s.Text, s.Keep]
structure StOk7 (w : World) (s : Step7) : Prop where
  d1 : -9223372036854775808 ≤ s.Do
  d2 : s.Do ≤ 9223372036854775807
  i1 : -9223372036854775808 ≤ s.I
  i2 : s.I ≤ 9223372036854775807
  k1 : -9223372036854775808 ≤ s.D
  k2 : s.D ≤ 9223372036854775807
  t : s.Text.size ≤ maxLen
  k : Rc w 1 s.Keep s.ks.length (s.ks.map .bool) s.KB
  kl : s.ks.length ≤ maxLen
theorem stc7_len (a : Step7) : (stc7 a).length = 6 := rfl
theorem step_cell7 {w : World} {v : Value} {l : List Step7} {B : Option Nat} (h : Rc w 6 v l.length (l.flatMap stc7) B) (i : Nat) (hi : i < l.length) :
    ∃ b off cap, v = .slice (some ⟨b, off, none⟩) l.length cap ∧ B = some b ∧ b < w.heap.size ∧ ∀ j, j < 6 → w.cell? ⟨b, off + i * 6 + j, none⟩ = (stc7 l[i])[j]? := by
  obtain ⟨b, off, cap, hB, hv, h1, h2, h3, h4⟩ := h.some (by omega)
  refine ⟨b, off, cap, hv, hB, h3, fun j hj => ?_⟩
  rw [← flat_get stc7 6 stc7_len l i j hi hj, Nat.add_assoc]
  exact h4 _ (by rw [Go.Xr.flat_len stc7 6 stc7_len]; omega)
section
variable {N K : List ByteArray} {M : MS}
end
section
variable {w w' w0 : World} {N : List ByteArray} {l rs : List Res} {pbs : List Nat} {m : Nat} {M : MS} {d : Bool → Nat} {FF : Bool → List Nat}
theorem mir_drop (e : Ev w0 rs w (l ++ mirC pbs m d FF M)) : Ev w0 rs w (l ++ sysC pbs M.s d FF) := Ev.less l _ e
end
theorem k_bit (x : Int) : bits .and .i64 x 1 = 0 ∨ bits .and .i64 x 1 = 1 := by
  have h : (BitVec.ofInt 64 x &&& BitVec.ofInt 64 1).toNat ≤ 1 := by
    rw [BitVec.toNat_and]
    exact Nat.le_trans Nat.and_le_right (by decide)
  have e : bits .and .i64 x 1 = ((BitVec.ofInt 64 x &&& BitVec.ofInt 64 1).toNat : Int) := by
    show IntKind.i64.wrap ((BitVec.ofInt 64 x &&& BitVec.ofInt 64 1).toNat : Int) = _
    rw [IntKind.wrap_i64]
    omega
  omega
end Go.Proofs.YtjgagcpmoffldaaGreat
