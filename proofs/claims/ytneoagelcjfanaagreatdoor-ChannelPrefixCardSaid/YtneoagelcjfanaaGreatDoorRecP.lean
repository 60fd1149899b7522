/- Layer 21, record: the row of records that the statements seal. -/
import Derived.Test.YtneoagelcjfanaaGreatDoorRecO
import Derived.Test.YtneoagelcjfanaaGreatDoorAppR
import Derived.Test.YtneoagelcjfanaaGreatDoorThree
namespace Go.Xr
open Go
set_option linter.unusedVariables false
def fitB (t : ByteArray) : Bool := decide (t.size ≤ 8192)
def fitS (l : List ByteArray) : List ByteArray := l.filter fitB
theorem fitS_take (l : List ByteArray) (i : Nat) (h : i < l.length) : fitS (l.take (i + 1)) = fitS (l.take i) ++ (if fitB (l[i]'h) then [l[i]'h] else []) := by
  unfold fitS
  rw [List.take_succ_eq_append_getElem h, List.filter_append]
  congr 1
  by_cases hf : fitB l[i] = true <;> simp [hf]
theorem fitS_le (l : List ByteArray) : (fitS l).length ≤ l.length := List.length_filter_le _ _
theorem fitS_mem {l : List ByteArray} {t : ByteArray} (h : t ∈ fitS l) : t.size ≤ 8192 := by
  unfold fitS at h
  have := (List.mem_filter.1 h).2
  simpa [fitB] using this
end Go.Xr
namespace Go.Proofs.YtneoagelcjfanaaGreatDoor.rcd
open Go Go.Xr Go.RowKit
set_option linter.unusedVariables false
set_option linter.unusedSimpArgs false
def wayS : ByteArray := ⟨#[119, 97, 121]⟩
def recsOf (C M lab : ByteArray) (ts : List ByteArray) : List ByteArray := ts.mapIdx fun i t => recS C M lab (UInt64.ofNat i) t
theorem recsOf_len (C M lab : ByteArray) (ts : List ByteArray) : (recsOf C M lab ts).length = ts.length := by simp [recsOf]
theorem recsOf_snoc (C M lab : ByteArray) (ts : List ByteArray) (t : ByteArray) : recsOf C M lab (ts ++ [t]) = recsOf C M lab ts ++ [recS C M lab (UInt64.ofNat ts.length) t] := by
  simp [recsOf, List.mapIdx_append]
theorem recsOf_get (C M lab : ByteArray) (ts : List ByteArray) (i : Nat) (h : i < ts.length) : (recsOf C M lab ts)[i]? = some (recS C M lab (UInt64.ofNat i) ts[i]) := by
  simp [recsOf, List.getElem?_mapIdx, h]
/-- The row of the statements. -/
def madeS (l : List ByteArray) : List ByteArray := recsOf (kC 0) (kM 0) wayS (fitS l)
theorem madeS_len (l : List ByteArray) : (madeS l).length = (fitS l).length := recsOf_len _ _ _ _
theorem madeS_size (l : List ByteArray) : ∀ r ∈ madeS l, r.size ≤ 16424 := by
  intro r hr
  obtain ⟨i, hi, rfl⟩ := List.mem_iff_getElem.1 hr
  have hi2 : i < (fitS l).length := by rw [← madeS_len]; exact hi
  have h1 := recsOf_get (kC 0) (kM 0) wayS (fitS l) i hi2
  have h2 : (madeS l)[i]? = some (madeS l)[i] := List.getElem?_eq_getElem hi
  have h3 : (madeS l)[i] = recS (kC 0) (kM 0) wayS (UInt64.ofNat i) (fitS l)[i] := Option.some.inj (h2.symm.trans h1)
  have h4 : ((fitS l)[i]).size ≤ 8192 := fitS_mem (List.getElem_mem _)
  rw [h3, recS_size _ _ _ _ _ h4]
  have := clsN_le ((fitS l)[i]).size
  omega
set_option maxRecDepth 20000 in
theorem infS9 : ∃ i, Tryz.prog.info? 9 = some i ∧ i.zero = some (.string ⟨#[]⟩) ∧ i.size = 1 ∧ i.bytes = 16 := ⟨_, rfl, rfl, rfl, rfl⟩
theorem cv_iu (w : World) (m : Nat) (h : m < 18446744073709551616) : (convert 3 22 (.int .i64 (m : Int))).run Tryz.prog w = .ok (W64 (UInt64.ofNat m)) w := by
  have e : Value.int .u64 (IntKind.u64.wrap (m : Int)) = W64 (UInt64.ofNat m) := by
    rw [val_u64, UInt64.toNat_ofNat', Nat.mod_eq_of_lt (by omega)]
    congr 1
    simp [IntKind.wrap, IntKind.bits, IntKind.signed]
    omega
  simp only [convert, Sem.run_bind, run_underlying Tryz.underlying3, run_underlying Tryz.underlying22, Result.andThen_ok, Conv.intToInt, e, Sem.run_pure]

end Go.Proofs.YtneoagelcjfanaaGreatDoor.rcd
