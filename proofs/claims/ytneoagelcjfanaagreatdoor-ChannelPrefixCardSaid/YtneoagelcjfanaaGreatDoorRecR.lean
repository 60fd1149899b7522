/- Layer 21, record: turns, as they come in. -/
import Derived.Test.YtneoagelcjfanaaGreatDoorRecQ
import Derived.Test.YtneoagelcjfanaaGreatDoorGArgs
namespace Go.Xr
open Go Go.RowKit
set_option linter.unusedVariables false
section
variable {P : Program} {ops : Array Oper} {S : World → Prop}
/-- A load of one cell, guarded. -/
theorem quiet_load_1W {a : Act} {o : Oper} {rest : List Oper} {Q' : Act → Prop} (hg : Region.wanted o (yielded ops a.tmps) = true) (ty : TypeId) (x : Operand) (ho : o.op = .load ty x) {b off : Nat} (hx : a.eval x = .pointer (some ⟨b, off, none⟩)) (v : Value)
    (hv : ∀ w, S w → w.cell? ⟨b, off, none⟩ = some v) (d : TypeDesc) (hu : P.underlying ty = some d) (hd : aggDesc d = false)
    (h : wpQuiet P ops S Q' rest (a.put o.dst v)) : wpQuiet P ops S Q' (o :: rest) a := by
  refine wpQuiet_step fun K hK => ?_
  rw [if_pos hg]
  refine ⟨v, fun w hC => ?_, hK _ h⟩
  unfold Oper.quietAt execOp
  simp only [ho, hx, Instr.loadAt, Instr.sureAddr, Sem.run_bind, Sem.run_pure, Result.andThen_ok, run_load_one w ty d hu hd (hv w hC)]
  exact ⟨rfl, rfl⟩
end
theorem rc_at {w : World} {la : Option Addr} {n lc i : Nat} {l : List ByteArray} {B : Option Nat} (h : Rc w 1 (.slice la n lc) n (l.map .string) B) (hi : i < n) :
    ∃ lb off, la = some ⟨lb, off, none⟩ ∧ B = some lb ∧ lb < w.heap.size ∧ ∃ (h : i < l.length), w.cell? ⟨lb, off + i, none⟩ = some (.string l[i]) := by
  have hn : l.length = n := by have := h.1; simpa using this
  obtain ⟨b, off, c, hB, hv, h1, h2, h3, h4⟩ := h.some (by omega)
  obtain ⟨rfl, rfl⟩ : la = some ⟨b, off, none⟩ ∧ lc = c := by simpa using hv
  refine ⟨b, off, rfl, hB, h3, by omega, ?_⟩
  rw [h4 i (by simp; omega), List.getElem?_map, List.getElem?_eq_getElem (by omega)]
  rfl
end Go.Xr
namespace Go.Proofs.YtneoagelcjfanaaGreatDoor.rcd
open Go Go.Xr Go.RowKit Go.ChangeShapes Go.WideShapes Go.Deep
set_option linter.unusedVariables false
set_option linter.unusedSimpArgs false
structure TurnD where
  Do : Int
  N : Int
  At : Int
  By : UInt8
  Text : ByteArray
instance : Inhabited TurnD := ⟨⟨0, 0, 0, 0, ⟨#[]⟩⟩⟩
def tnc (t : TurnD) : List Value := [.int .i64 t.Do, .int .i64 t.N, .int .i64 t.At, bt t.By, .string t.Text]
structure TnOk (t : TurnD) : Prop where
  n1 : -9223372036854775808 ≤ t.N
  n2 : t.N ≤ 9223372036854775807
  a1 : -9223372036854775808 ≤ t.At
  a2 : t.At ≤ 9223372036854775807
  x : t.Text.size ≤ 9223372036854775807
theorem tnc_len (a : TurnD) : (tnc a).length = 5 := rfl
theorem i64_of {n : Int} (h : (Lit.int .i64 n).wf = true) : -9223372036854775808 ≤ n ∧ n ≤ 9223372036854775807 := by
  have h1 : IntKind.i64.min ≤ n ∧ n ≤ IntKind.i64.max := by simpa [Lit.wf] using h
  have h2 : IntKind.i64.min = -9223372036854775808 := by decide
  have h3 : IntKind.i64.max = 9223372036854775807 := by decide
  omega
theorem turn_at {w : World} {ua : Option Addr} {n uc i : Nat} {l : List TurnD} {B : Option Nat} (h : Rc w 5 (.slice ua n uc) n (l.flatMap tnc) B) (hn : l.length = n) (hi : i < n) :
    ∃ b off, ua = some ⟨b, off, none⟩ ∧ ∃ (h : i < l.length), ∀ j, j < 5 → w.cell? ⟨b, off + i * 5 + j, none⟩ = (tnc l[i])[j]? := by
  obtain ⟨b, off, c, hB, hv, h1, h2, h3, h4⟩ := h.some (by omega)
  obtain ⟨rfl, rfl⟩ : ua = some ⟨b, off, none⟩ ∧ uc = c := by simpa using hv
  refine ⟨b, off, rfl, by omega, fun j hj => ?_⟩
  rw [← flat_get tnc 5 tnc_len l i j (by omega) hj, Nat.add_assoc]
  exact h4 _ (by rw [Go.Xr.flat_len tnc 5 tnc_len]; omega)
end Go.Proofs.YtneoagelcjfanaaGreatDoor.rcd
