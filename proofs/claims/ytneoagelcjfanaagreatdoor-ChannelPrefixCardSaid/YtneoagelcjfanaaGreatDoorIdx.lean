/- An array's element, of an array that is a value. -/
import Derived.Test.YtneoagelcjfanaaGreatDoorThree
namespace Go.Xr
open Go Go.RowKit
set_option linter.unusedVariables false
set_option linter.unusedSimpArgs false
section
variable {P : Program} {ops : Array Oper} {S : World → Prop}
/-- An element of one cell of an array that is a value. -/
theorem run_index_one (t e : TypeId) (d : TypeDesc) (n : Nat) (ht : P.underlying t = some (.array n e)) (hu : P.underlying e = some d) (hd : aggDesc d = false) (hs : (P.info? e).map (·.size) = some 1) (vs : List Value) (k : IntKind) (i : Nat) (v : Value) (hi : i < n) (hv : vs[i]? = some v) (w : World) :
    (Instr.index t (.agg vs.toArray) (.int k (i : Int))).run P w = .ok v w := by
  have hagg : (isAgg e).run P w = .ok false w := by
    unfold isAgg
    rw [Sem.run_bind, run_underlying hu w]
    cases d <;> simp_all [aggDesc]
  have hsz : (sizeOf e).run P w = .ok 1 w := by
    cases hq : P.info? e with
    | none => simp [hq] at hs
    | some inf =>
      have : inf.size = 1 := by simpa [hq] using hs
      simp [sizeOf, typeInfo, hq, this]
  have hlt : (0 : Int) ≤ (i : Int) ∧ (i : Int) < (n : Int) := ⟨by omega, by omega⟩
  have hp : (part e vs.toArray ((i : Int).toNat * 1)).run P w = .ok v w := by
    simp [part, Sem.run_bind, hagg, hv]
  unfold Instr.index
  simp only [Sem.run_bind, asIntOf, Sem.run_pure, Result.andThen_ok, run_underlying ht, if_pos hlt, hsz, hp]
theorem wpList_index_one {Q : Exit → Act → World → Prop} {w : World} {a : Act} {o : Oper} {rest : List Oper} (hg : o.guard = none) (t : TypeId) (x y : Operand) (ho : o.op = .index t x y) (e : TypeId) (d : TypeDesc) (n : Nat) (ht : P.underlying t = some (.array n e)) (hu : P.underlying e = some d) (hd : aggDesc d = false) (hs : (P.info? e).map (·.size) = some 1)
    (vs : List Value) (hx : a.eval x = .agg vs.toArray) (k : IntKind) (i : Nat) (j : Int) (hy : a.eval y = .int k j) (hj : j = (i : Int)) (v : Value) (hi : i < n) (hv : vs[i]? = some v)
    (h : wpList P ops Q rest (a.put o.dst v) w) : wpList P ops Q (o :: rest) a w := by
  subst hj
  refine wpList_plain hg fun _ hK => ?_
  unfold Oper.wp execOp
  simp only [ho, hx, hy, Sem.run_bind, run_index_one t e d n ht hu hd hs vs k i v hi hv w, Result.andThen_ok, Sem.run_pure]
  exact hK _ _ h
end
end Go.Xr
