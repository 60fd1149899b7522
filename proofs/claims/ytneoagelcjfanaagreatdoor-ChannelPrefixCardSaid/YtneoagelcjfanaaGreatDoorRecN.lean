/- Layer 21, record: the statements' keys. -/
import Derived.Test.YtneoagelcjfanaaGreatDoorRecM
import Derived.Test.YtneoagelcjfanaaGreatDoorThree
namespace Go.Proofs.YtneoagelcjfanaaGreatDoor.rcd
open Go Go.Xr Go.RowKit
set_option linter.unusedVariables false
set_option linter.unusedSimpArgs false
attribute [local go_sem] and_u8_c
def z31L : List UInt8 := List.replicate 31 0
def kmS (x : UInt8) : ByteArray := (⟨z31L.toArray⟩ : ByteArray) ++ (⟨[x &&& c8 3].toArray⟩ : ByteArray)
theorem kmS_size (x : UInt8) : (kmS x).size = 32 := by
  unfold kmS
  rw [ByteArray.size_append]
  rfl
def recsS : ByteArray := ⟨#[114, 101, 99, 111, 114, 100, 115]⟩
def kC (x : UInt8) : ByteArray := keyC (kmS x) recsS
def kM (x : UInt8) : ByteArray := keyM (kmS x) recsS
theorem k_sizes (x : UInt8) : (kC x).size = 16 ∧ (kM x).size = 32 := ⟨keyC_size _ _, keyM_size _ _⟩
theorem k_may (x : UInt8) : mayS (kC x) (kM x) = true := by simp [mayS, k_sizes x]
set_option maxRecDepth 20000 in
theorem keyZ : ∃ i, Tryz.prog.info? 45 = some i ∧ i.zero = some (.agg #[.string ⟨#[]⟩, .string ⟨#[]⟩]) := ⟨_, rfl, rfl⟩
set_option maxRecDepth 20000 in
theorem keyAT : AggT Tryz.prog 45 2 := ⟨_, Tryz.underlying45, rfl, rfl⟩

def O6 (N : Nat) (w' : World) : Prop := Xr.Own w' 1 (.slice (some ⟨N, 0, none⟩) 31 31) 31 (bv z31L) (some N)
def O10 (x : UInt8) (N : Nat) (w' : World) : Prop := Xr.Own w' 1 (.slice (some ⟨N, 0, none⟩) 1 1) 1 (bv [x &&& c8 3]) (some N)
theorem O6.on {N : Nat} {w w' : World} {L : List Nat} (h : O6 N w) (f : Fr L w w') (hN : N ∉ L) : O6 N w' := Xr.Own.keep h f (by simpa using hN)
theorem O10.on {x : UInt8} {N : Nat} {w w' : World} {L : List Nat} (h : O10 x N w) (f : Fr L w w') (hN : N ∉ L) : O10 x N w' := Xr.Own.keep h f (by simpa using hN)
theorem O6.at {N : Nat} {w : World} (h : O6 N w) : N < w.heap.size := Xr.Own.lt h N rfl
theorem O10.at {x : UInt8} {N : Nat} {w : World} (h : O10 x N w) : N < w.heap.size := Xr.Own.lt h N rfl
end Go.Proofs.YtneoagelcjfanaaGreatDoor.rcd
