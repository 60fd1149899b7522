/- Layer 22: a builder beside what is held; Send, the plain part. -/
import Derived.Test.YtneoagelcjfanaaGreatDoorChC
namespace Go.Proofs.YtneoagelcjfanaaGreatDoor.chn
open Go Go.Xr Go.RowKit Go.Proofs.YtneoagelcjfanaaGreatDoor Go.Proofs.YtneoagelcjfanaaGreatDoor.rcd
set_option linter.unusedVariables false
set_option linter.unusedSimpArgs false
section
variable {w w' w0 w1 w2 : World} {b : Nat} {T : ByteArray} {S : List Nat} {rs rs1 : List Res}
/-- Nothing of a builder is touched. -/
theorem BD.same (h : BD w b T) (hs : ∀ k, b ≤ k → (∃ c e fz, w.heap[k]? = some (.cells c e fz)) → w'.heap[k]? = w.heap[k]?) (hz : w.heap.size ≤ w'.heap.size) : BD w' b T := by
  have one : ∀ p, Lib.BuilderAtF 69 5 b b p (Lib.byteCells T.data.toList) w → Lib.BuilderAtF 69 5 b b p (Lib.byteCells T.data.toList) w' := by
    rintro p ⟨hB, v, hb, hown, hne⟩
    refine ⟨hB, v, (hs b (Nat.le_refl _) ⟨_, _, _, hb⟩).trans hb, ⟨hown.1, ?_⟩, hne⟩
    rcases hown.2 with h2 | ⟨g, cap, cur, fz, hv, hbg, hg, h3⟩
    · exact .inl h2
    · exact .inr ⟨g, cap, cur, fz, hv, hbg, (hs g hbg ⟨_, _, _, hg⟩).trans hg, h3⟩
  rcases h with h | h
  · exact .inl (one _ h)
  · exact .inr (one _ h)
theorem BD.keep (h : BD w b T) (f : Fr S w w') (hS : ∀ x ∈ S, x < b) : BD w' b T :=
  h.same (fun k hk hc => f.block k (by obtain ⟨c, e, fz, hc⟩ := hc; exact (Array.getElem?_eq_some_iff.1 hc).1) (fun hx => by have := hS k hx; omega)) f.size
theorem BD.lt (h : BD w b T) : b < w.heap.size := by
  rcases h with h | h
  · exact h.lt
  · exact h.lt
theorem BD.made (w : World) : BD (w.alloc (.cells #[.pointer none, .slice none 0 0] 69)) w.heap.size ⟨#[]⟩ :=
  .inl ⟨Nat.le_refl _, .slice none 0 0, World.alloc_heap_new w _, World.ownsRowF_nil _ _ _ _, by simp [Value.ownBlock]⟩
/-- What is held lies below the builder: its calls leave it alone. -/
theorem Held.bf {ps : List Res} (h : Held w1 ps) (f : BF b w1 w2) (hf : ∀ x ∈ feetOf ps, x < b) : Held w2 ps :=
  held_same h fun k hk _ => f.1.block k (hf k hk)
theorem Fr.bf (h : Fr S w0 w1) (f : BF b w1 w2) (h0 : w0.heap.size ≤ b) : Fr S w0 w2 :=
  ⟨f.1.os.trans h.os, f.1.tape.trans h.tape, f.1.output.trans h.output, Nat.le_trans h.size f.1.size, fun k hk hn => (f.1.block k (by omega)).trans (h.block k hk hn), fun k hk => (h.plain k hk).same (f.1.block k (by have := hk.lt; omega))⟩
theorem Ev.bf (a : Ev w0 rs w1 rs1) (f : BF b w1 w2) (h0 : w0.heap.size ≤ b) (hf : ∀ x ∈ feetOf rs1, x < b) : Ev w0 rs w2 rs1 :=
  ⟨Held.bf a.held f hf, Fr.bf a.fr f h0, a.low⟩
end
/-- Of a text the k-th piece. -/
def chunk (t : ByteArray) (k : Nat) : ByteArray := t.extract (8192 * k) (min (8192 * (k + 1)) t.size)
/-- What is left ahead of it. -/
def leftT (t : ByteArray) (k : Nat) : ByteArray := t.extract (8192 * k) t.size
def u32S (n : Nat) : ByteArray := ⟨(leN n 4).toArray⟩
/-- One record on the wire. -/
def oneR (K : CH) (ns : UInt64) (c : ByteArray) : ByteArray := u32S (clsN c.size + 40) ++ recS K.co K.mo K.lo ns c
/-- So many records on the wire. -/
def wireK (K : CH) (ns : UInt64) (t : ByteArray) : Nat → ByteArray
  | 0 => ⟨#[]⟩
  | k + 1 => wireK K ns t k ++ oneR K (ns + UInt64.ofNat k) (chunk t k)
def pcs (t : ByteArray) : Nat := (t.size + 8191) / 8192
def sendS (K : CH) (ns : UInt64) (t : ByteArray) : ByteArray := wireK K ns t (pcs t)
theorem emp {a : ByteArray} (h : a.size = 0) : a = ⟨#[]⟩ := ByteArray.ext (Array.eq_empty_of_size_eq_zero h)
theorem leftT_0 (t : ByteArray) : leftT t 0 = t := by simp [leftT]
theorem leftT_size (t : ByteArray) (k : Nat) : (leftT t k).size = t.size - 8192 * k := by simp [leftT, ByteArray.size_extract]
theorem leftT_end (t : ByteArray) (k : Nat) (h : t.size ≤ 8192 * k) : leftT t k = ⟨#[]⟩ := by
  have e : (leftT t k).size = 0 := by rw [leftT_size]; omega
  exact ByteArray.ext (Array.eq_empty_of_size_eq_zero e)
theorem ext_ext (t : ByteArray) (a b c d : Nat) : (t.extract a b).extract c d = t.extract (a + c) (min (a + d) b) := by
  apply ByteArray.ext
  simp [ByteArray.data_extract, Array.extract_extract]
theorem chunk_left (t : ByteArray) (k : Nat) : (leftT t k).extract 0 (min (leftT t k).size 8192) = chunk t k := by
  unfold chunk
  rw [leftT_size]
  unfold leftT
  rw [ext_ext]
  by_cases h : 8192 * k ≤ t.size
  · congr 1
    omega
  · have e1 : (t.extract (8192 * k + 0) (min (8192 * k + min (t.size - 8192 * k) 8192) t.size)).size = 0 := by rw [ByteArray.size_extract]; omega
    have e2 : (t.extract (8192 * k) (min (8192 * (k + 1)) t.size)).size = 0 := by rw [ByteArray.size_extract]; omega
    rw [emp e1, emp e2]
theorem left_left (t : ByteArray) (k : Nat) : (leftT t k).extract (min (leftT t k).size 8192) (leftT t k).size = leftT t (k + 1) := by
  rw [leftT_size]
  unfold leftT
  rw [ext_ext]
  by_cases h : 8192 * (k + 1) ≤ t.size
  · congr 1 <;> omega
  · have e1 : (t.extract (8192 * k + min (t.size - 8192 * k) 8192) (min (8192 * k + (t.size - 8192 * k)) t.size)).size = 0 := by rw [ByteArray.size_extract]; omega
    have e2 : (t.extract (8192 * (k + 1)) t.size).size = 0 := by rw [ByteArray.size_extract]; omega
    rw [emp e1, emp e2]
theorem chunk_size (t : ByteArray) (k : Nat) : (chunk t k).size ≤ 8192 := by
  unfold chunk
  rw [ByteArray.size_extract]
  omega
theorem oneR_size (K : CH) (ns : UInt64) (c : ByteArray) (h : c.size ≤ 8192) : (oneR K ns c).size = clsN c.size + 44 := by
  unfold oneR
  rw [ByteArray.size_append, recS_size _ _ _ _ _ h]
  show 4 + _ = _
  omega
theorem wireK_size (K : CH) (ns : UInt64) (t : ByteArray) (k : Nat) : (wireK K ns t k).size ≤ k * 16428 := by
  induction k with
  | zero => exact Nat.le_refl _
  | succ k ih =>
    show (wireK K ns t k ++ oneR K (ns + UInt64.ofNat k) (chunk t k)).size ≤ _
    rw [ByteArray.size_append, oneR_size _ _ _ (chunk_size t k)]
    have := (clsN_le (chunk t k).size).2
    omega
/-- How long a string is. -/
def strSz : Value → Nat
  | .string x => x.size
  | _ => 0
theorem toNat32c (q : Nat) (h : q < 4294967296) : (⟨(leN (UInt32.ofNat q).toNat 4).toArray⟩ : ByteArray) = u32S q := by
  rw [UInt32.toNat_ofNat_of_lt' h]
  rfl
end Go.Proofs.YtneoagelcjfanaaGreatDoor.chn
