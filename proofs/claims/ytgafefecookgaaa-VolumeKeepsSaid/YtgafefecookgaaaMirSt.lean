/- Layer 7: the steps that come in. -/
import Derived.Test.YtgafefecookgaaaGMirD
import Derived.Test.YtgafefecookgaaaGArgs
namespace Go.Proofs.Ytgafefecookgaaa
open Go Go.Xr Go.RowKit Go.ChangeShapes Go.WideShapes Go.Deep
set_option linter.unusedVariables false
set_option linter.unusedSimpArgs false
/-- A step, as data; 'Keep' is the slice as it lies, and what it holds. -/
structure Step7 where
  Do : Int
  I : Int
  D : Int
  C : UInt8
  Text : ByteArray
  Keep : Value
  ks : List Bool
  KB : Option Nat
instance : Inhabited Step7 := ⟨⟨0, 0, 0, 0, ⟨#[]⟩, .slice none 0 0, [], none⟩⟩
def stc7 (s : Step7) : List Value := [.int .i64 s.Do, .int .i64 s.I, .int .i64 s.D, bt s.C, .string s.Text, s.Keep]
structure StOk7 (w : World) (s : Step7) : Prop where
  d1 : -9223372036854775808 ≤ s.Do
  d2 : s.Do ≤ 9223372036854775807
  i1 : -9223372036854775808 ≤ s.I
  i2 : s.I ≤ 9223372036854775807
  k1 : -9223372036854775808 ≤ s.D
  k2 : s.D ≤ 9223372036854775807
  t : s.Text.size ≤ maxLen
  k : Rc w 1 s.Keep s.ks.length (s.ks.map .bool) s.KB
  kl : s.ks.length ≤ maxLen
theorem stc7_len (a : Step7) : (stc7 a).length = 6 := rfl
/-- A cell of a row of steps that lies in memory. -/
theorem step_cell7 {w : World} {v : Value} {l : List Step7} {B : Option Nat} (h : Rc w 6 v l.length (l.flatMap stc7) B) (i : Nat) (hi : i < l.length) :
    ∃ b off cap, v = .slice (some ⟨b, off, none⟩) l.length cap ∧ B = some b ∧ b < w.heap.size ∧ ∀ j, j < 6 → w.cell? ⟨b, off + i * 6 + j, none⟩ = (stc7 l[i])[j]? := by
  obtain ⟨b, off, cap, hB, hv, h1, h2, h3, h4⟩ := h.some (by omega)
  refine ⟨b, off, cap, hv, hB, h3, fun j hj => ?_⟩
  rw [← flat_get stc7 6 stc7_len l i j hi hj, Nat.add_assoc]
  exact h4 _ (by rw [Go.Xr.flat_len stc7 6 stc7_len]; omega)
section
variable {N K : List ByteArray} {M : MS}
theorem snd_k (h : Snd N M) (b : Bool) : M.s.k b = none := by cases h <;> cases b <;> rfl
theorem snd_fa (h : Snd N M) (b : Bool) (hb : M.c (!b) = true) : ({ M with s := M.s.fa b } : MS).flushC = 0 ∧ Snd N ({ M with s := M.s.fa b } : MS).flushM ∧ (Alv M → Alv ({ M with s := M.s.fa b } : MS).flushM) := by
  have e : ({ M with s := M.s.fa b } : MS) = M.failB b := by cases h <;> cases b <;> rfl
  rw [e]
  exact snd_fail h b hb
theorem snd_rp (h : Snd N M) : Snd N { M with s := (M.s.rp false).rp true } := by
  cases h with
  | both T0 T1 L g => exact .both T0 T1 L g
  | one0 T0 T1 K dd L g hK => exact .one0 T0 T1 K false L g hK
  | one1 T0 T1 K dd L g hK => exact .one1 T0 T1 K false L g hK
theorem snd_cr1 (h : Snd N M) (b : Bool) (ks : List Bool) : M.s.cr b ks = M.s := by
  unfold Sys.cr
  rw [snd_cr h]
  cases h <;> cases b <;> rfl
end
section
variable {w w' w0 : World} {N : List ByteArray} {l rs : List Res} {pbs : List Nat} {m : Nat} {M : MS} {d : Bool → Nat} {FF : Bool → List Nat}
theorem mCrash (b : Bool) (h : Held w (l ++ mirC pbs m d FF M)) (ok : SysOk M.s) (hs : Snd N M) (ht : M.s.T < 1000000) {v : Value} {ks : List Bool} {KB : Option Nat} (hk : Rc w 1 v ks.length (ks.map .bool) KB) (hKB : ∀ x, KB = some x → x ∉ feetOf (l ++ mirC pbs m d FF M)) (hkl : ks.length ≤ maxLen) :
    Calls Try.prog 23 #[.pointer (some ⟨d b, 0, none⟩), v] w fun e w' => ∃ c FF', e = .returned (.int .i64 c) ∧ Ev w (l ++ mirC pbs m d FF M) w' (l ++ mirC pbs m d FF' M) := by
  have hin : ∀ x ∈ FF b, x ∈ feetOf (l ++ mirC pbs m d FF M) := fun x hx => by
    refine List.mem_flatMap.2 ⟨dk (d b) (M.s.X b) pbs (M.s.k b) (FF b), ?_, hx⟩
    refine List.mem_append_right _ (List.mem_cons_of_mem _ ?_)
    cases b
    · exact List.mem_cons_of_mem _ (List.mem_cons_self ..)
    · exact List.mem_cons_of_mem _ (List.mem_cons_of_mem _ (List.mem_cons_self ..))
  have h1 := sCrash0 b (mir_sys h) ok (snd_k hs b) ht hk (fun x hx hx2 => hKB x hx (hin x hx2)) hkl
  rw [snd_cr1 hs] at h1
  refine h1.mono ?_
  rintro e w' ⟨rfl, FF', ev⟩
  exact ⟨_, FF', rfl, mir_ev (M := M) (s' := M.s) ev⟩
theorem mir_drop (e : Ev w0 rs w (l ++ mirC pbs m d FF M)) : Ev w0 rs w (l ++ sysC pbs M.s d FF) := Ev.less l _ e
theorem mOpen (h : Held w (l ++ sysC pbs M.s d FF)) (ok : SysOk M.s) (hs : Snd N M) (hn : 1 ≤ N.length) :
    Calls Try.prog 44 #[.pointer (some ⟨d false, 0, none⟩), .pointer (some ⟨d true, 0, none⟩)] w fun e w' => ∃ m', e = .returned (.tuple #[.pointer (some ⟨m', 0, none⟩), .int .i64 0]) ∧ Ev w (l ++ sysC pbs M.s d FF) w' (l ++ mirC pbs m' d FF M) := by
  have h1 := open_ok h ok (by rw [(snd_len hs).1, (snd_len hs).2]) (by rw [(snd_len hs).2]; omega) (snd_alive hs)
  rw [snd_open hs] at h1
  exact h1
end
theorem k_and16 (x : Int) : ∃ q : Nat, q ≤ 65535 ∧ bits .and .i64 x 65535 = q := by
  refine ⟨(BitVec.ofInt 64 x &&& BitVec.ofInt 64 65535).toNat, ?_, ?_⟩
  · rw [BitVec.toNat_and]
    exact Nat.le_trans Nat.and_le_right (by decide)
  · have h : (BitVec.ofInt 64 x &&& BitVec.ofInt 64 65535).toNat ≤ 65535 := by
      rw [BitVec.toNat_and]
      exact Nat.le_trans Nat.and_le_right (by decide)
    show IntKind.i64.wrap ((BitVec.ofInt 64 x &&& BitVec.ofInt 64 65535).toNat : Int) = _
    rw [IntKind.wrap_i64]
    omega
theorem k_fifth (x : Int) : ∃ k : Nat, k < 5 ∧ (bits .and .i64 x 65535).tmod 5 = k := by
  obtain ⟨q, hq, e⟩ := k_and16 x
  refine ⟨q % 5, Nat.mod_lt _ (by decide), ?_⟩
  rw [e]
  exact (Int.ofNat_tmod q 5).symm
theorem k_bit (x : Int) : bits .and .i64 x 1 = 0 ∨ bits .and .i64 x 1 = 1 := by
  have h : (BitVec.ofInt 64 x &&& BitVec.ofInt 64 1).toNat ≤ 1 := by
    rw [BitVec.toNat_and]
    exact Nat.le_trans Nat.and_le_right (by decide)
  have e : bits .and .i64 x 1 = ((BitVec.ofInt 64 x &&& BitVec.ofInt 64 1).toNat : Int) := by
    show IntKind.i64.wrap ((BitVec.ofInt 64 x &&& BitVec.ofInt 64 1).toNat : Int) = _
    rw [IntKind.wrap_i64]
    omega
  omega
end Go.Proofs.Ytgafefecookgaaa
