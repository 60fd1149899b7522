/- Layer 7: the steps that come in. -/
import Derived.Test.YtjgagcpmoffldaaGMirD
import Derived.Test.YtjgagcpmoffldaaGArgs
namespace Go.Proofs.Ytjgagcpmoffldaa
open Go Go.Xr Go.RowKit Go.ChangeShapes Go.WideShapes Go.Deep
set_option linter.unusedVariables false
set_option linter.unusedSimpArgs false
/-- A step, as data; 'Keep' is the slice as it lies, and what it holds. -/
structure Step7 where
  Do : Int
  I : Int
  D : Int
  C : UInt8
  Text : ByteArray
  Keep : Value
  ks : List Bool
  KB : Option Nat
instance : Inhabited Step7 := ⟨⟨0, 0, 0, 0, ⟨#[]⟩, .slice none 0 0, [], none⟩⟩
def stc7 (s : Step7) : List Value := [.int .i64 s.Do, .int .i64 s.I, .int .i64 s.D, bt s.C, .string s.Text, s.Keep]
structure StOk7 (w : World) (s : Step7) : Prop where
  d1 : -9223372036854775808 ≤ s.Do
  d2 : s.Do ≤ 9223372036854775807
  i1 : -9223372036854775808 ≤ s.I
  i2 : s.I ≤ 9223372036854775807
  k1 : -9223372036854775808 ≤ s.D
  k2 : s.D ≤ 9223372036854775807
  t : s.Text.size ≤ maxLen
  k : Rc w 1 s.Keep s.ks.length (s.ks.map .bool) s.KB
  kl : s.ks.length ≤ maxLen
theorem stc7_len (a : Step7) : (stc7 a).length = 6 := rfl
set_option maxRecDepth 20000 in
/-- The steps that came in, opened. -/
theorem open_steps7 {H : Type} {enc : TypeId × Value → H} {w : World} {base : Nat} {spare : Nat → Bool} {held : Bool} {fuel : Nat} {cs : List Value} {x : DataW H × List MemPlace} (h : DataW.trod enc Try.prog w base spare held fuel 42 cs = some x) :
    ∃ (v : Value) (l : List Step7) (B : Option Nat), cs = [v] ∧ Rc w 6 v l.length (l.flatMap stc7) B ∧ (∀ a ∈ l, StOk7 w a) ∧ l.length ≤ maxLen := by
  refine open_rows stc7 (StOk7 w) 6 (by decide) stc7_len Try.underlying42 rfl (fun n cs x hx => ?_) h
  obtain ⟨xs, n', _, _, hlen, hxl, hf⟩ := DataW.trod_struct Try.underlying47 hx
  have hlen5 : cs.length = 6 := hlen
  have hxl5 : xs.length = 6 := hxl
  match cs, hlen5, xs, hxl5 with
  | [c0, c1, c2, c3, c4, c5], _, [x0, x1, x2, x3, x4, x5], _ =>
    obtain ⟨n0, h0, _, w0⟩ := DataW.trod_int Try.underlying3 (hf 0 _ rfl)
    obtain ⟨n1, h1, _, w1⟩ := DataW.trod_int Try.underlying3 (hf 1 _ rfl)
    obtain ⟨n2, h2, _, w2⟩ := DataW.trod_int Try.underlying3 (hf 2 _ rfl)
    obtain ⟨n3, h3, _, w3⟩ := DataW.trod_int Try.underlying5 (hf 3 _ rfl)
    obtain ⟨s4, h4, _, w4⟩ := DataW.trod_string Try.underlying9 (hf 4 _ rfl)
    obtain ⟨v5, l5, B5, h5, r5, m5⟩ := open_bools Try.underlying45 Try.underlying4 rfl (hf 5 _ rfl)
    have e0 : c0 = .int .i64 n0 := List.singleton_inj.1 h0
    have e1 : c1 = .int .i64 n1 := List.singleton_inj.1 h1
    have e2 : c2 = .int .i64 n2 := List.singleton_inj.1 h2
    have e3 : c3 = .int .u8 n3 := List.singleton_inj.1 h3
    have e4 : c4 = .string s4 := List.singleton_inj.1 h4
    have e5 : c5 = v5 := List.singleton_inj.1 h5
    refine ⟨⟨n0, n1, n2, UInt8.ofNat n3.toNat, s4, v5, l5, B5⟩, ?_, ⟨(i64_wf w0).1, (i64_wf w0).2, (i64_wf w1).1, (i64_wf w1).2, (i64_wf w2).1, (i64_wf w2).2, w4, r5, m5⟩⟩
    rw [e0, e1, e2, e3, e4, e5, bt_of w3]
    rfl
/-- A cell of a row of steps that lies in memory. -/
theorem step_cell7 {w : World} {v : Value} {l : List Step7} {B : Option Nat} (h : Rc w 6 v l.length (l.flatMap stc7) B) (i : Nat) (hi : i < l.length) :
    ∃ b off cap, v = .slice (some ⟨b, off, none⟩) l.length cap ∧ B = some b ∧ b < w.heap.size ∧ ∀ j, j < 6 → w.cell? ⟨b, off + i * 6 + j, none⟩ = (stc7 l[i])[j]? := by
  obtain ⟨b, off, cap, hB, hv, h1, h2, h3, h4⟩ := h.some (by omega)
  refine ⟨b, off, cap, hv, hB, h3, fun j hj => ?_⟩
  rw [← flat_get stc7 6 stc7_len l i j hi hj, Nat.add_assoc]
  exact h4 _ (by rw [Go.Xr.flat_len stc7 6 stc7_len]; omega)
section
variable {N K : List ByteArray} {M : MS}
theorem snd_k (h : Snd N M) (b : Bool) : M.s.k b = none := by cases h <;> cases b <;> rfl
theorem snd_fa (h : Snd N M) (b : Bool) (hb : M.c (!b) = true) : ({ M with s := M.s.fa b } : MS).flushC = 0 ∧ Snd N ({ M with s := M.s.fa b } : MS).flushM := by
  have e : ({ M with s := M.s.fa b } : MS) = M.failB b := by cases h <;> cases b <;> rfl
  rw [e]
  exact snd_fail h b hb
theorem snd_rp (h : Snd N M) : Snd N { M with s := (M.s.rp false).rp true } := by
  cases h with
  | both T0 T1 L g => exact .both T0 T1 L g
  | one0 T0 T1 K dd L g hK => exact .one0 T0 T1 K false L g hK
  | one1 T0 T1 K dd L g hK => exact .one1 T0 T1 K false L g hK
theorem snd_cr1 (h : Snd N M) (b : Bool) (ks : List Bool) : M.s.cr b ks = M.s := by
  unfold Sys.cr
  rw [snd_cr h]
  cases h <;> cases b <;> rfl
end
section
variable {w w' w0 : World} {N : List ByteArray} {l rs : List Res} {pbs : List Nat} {m : Nat} {M : MS} {d : Bool → Nat} {FF : Bool → List Nat}
theorem mCrash (b : Bool) (h : Held w (l ++ mirC pbs m d FF M)) (ok : SysOk M.s) (hs : Snd N M) (ht : M.s.T < 1000000) {v : Value} {ks : List Bool} {KB : Option Nat} (hk : Rc w 1 v ks.length (ks.map .bool) KB) (hKB : ∀ x, KB = some x → x ∉ feetOf (l ++ mirC pbs m d FF M)) (hkl : ks.length ≤ maxLen) :
    Calls Try.prog 19 #[.pointer (some ⟨d b, 0, none⟩), v] w fun e w' => ∃ c FF', e = .returned (.int .i64 c) ∧ Ev w (l ++ mirC pbs m d FF M) w' (l ++ mirC pbs m d FF' M) := by
  have hin : ∀ x ∈ FF b, x ∈ feetOf (l ++ mirC pbs m d FF M) := fun x hx => by
    refine List.mem_flatMap.2 ⟨dk (d b) (M.s.X b) pbs (M.s.k b) (FF b), ?_, hx⟩
    refine List.mem_append_right _ (List.mem_cons_of_mem _ ?_)
    cases b
    · exact List.mem_cons_of_mem _ (List.mem_cons_self ..)
    · exact List.mem_cons_of_mem _ (List.mem_cons_of_mem _ (List.mem_cons_self ..))
  have h1 := sCrash0 b (mir_sys h) ok (snd_k hs b) ht hk (fun x hx hx2 => hKB x hx (hin x hx2)) hkl
  rw [snd_cr1 hs] at h1
  refine h1.mono ?_
  rintro e w' ⟨rfl, FF', ev⟩
  exact ⟨_, FF', rfl, mir_ev (M := M) (s' := M.s) ev⟩
theorem mir_drop (e : Ev w0 rs w (l ++ mirC pbs m d FF M)) : Ev w0 rs w (l ++ sysC pbs M.s d FF) := Ev.less l _ e
theorem mOpen (h : Held w (l ++ sysC pbs M.s d FF)) (ok : SysOk M.s) (hs : Snd N M) (hn : 1 ≤ N.length) :
    Calls Try.prog 7 #[.pointer (some ⟨d false, 0, none⟩), .pointer (some ⟨d true, 0, none⟩)] w fun e w' => ∃ m', e = .returned (.tuple #[.pointer (some ⟨m', 0, none⟩), .int .i64 0]) ∧ Ev w (l ++ sysC pbs M.s d FF) w' (l ++ mirC pbs m' d FF M) := by
  have h1 := open_ok h ok (by rw [(snd_len hs).1, (snd_len hs).2]) (by rw [(snd_len hs).2]; omega) (snd_alive hs)
  rw [snd_open hs] at h1
  exact h1
end
theorem k_and16 (x : Int) : ∃ q : Nat, q ≤ 65535 ∧ bits .and .i64 x 65535 = q := by
  refine ⟨(BitVec.ofInt 64 x &&& BitVec.ofInt 64 65535).toNat, ?_, ?_⟩
  · rw [BitVec.toNat_and]
    exact Nat.le_trans Nat.and_le_right (by decide)
  · have h : (BitVec.ofInt 64 x &&& BitVec.ofInt 64 65535).toNat ≤ 65535 := by
      rw [BitVec.toNat_and]
      exact Nat.le_trans Nat.and_le_right (by decide)
    show IntKind.i64.wrap ((BitVec.ofInt 64 x &&& BitVec.ofInt 64 65535).toNat : Int) = _
    rw [IntKind.wrap_i64]
    omega
theorem k_fifth (x : Int) : ∃ k : Nat, k < 5 ∧ (bits .and .i64 x 65535).tmod 5 = k := by
  obtain ⟨q, hq, e⟩ := k_and16 x
  refine ⟨q % 5, Nat.mod_lt _ (by decide), ?_⟩
  rw [e]
  exact (Int.ofNat_tmod q 5).symm
theorem k_bit (x : Int) : bits .and .i64 x 1 = 0 ∨ bits .and .i64 x 1 = 1 := by
  have h : (BitVec.ofInt 64 x &&& BitVec.ofInt 64 1).toNat ≤ 1 := by
    rw [BitVec.toNat_and]
    exact Nat.le_trans Nat.and_le_right (by decide)
  have e : bits .and .i64 x 1 = ((BitVec.ofInt 64 x &&& BitVec.ofInt 64 1).toNat : Int) := by
    show IntKind.i64.wrap ((BitVec.ofInt 64 x &&& BitVec.ofInt 64 1).toNat : Int) = _
    rw [IntKind.wrap_i64]
    omega
  omega
end Go.Proofs.Ytjgagcpmoffldaa
