/- The greater of two integers, in a region that draws its order. -/
import Derived.Test.YtflapddkeeiieaaThree
namespace Go.Xr
open Go Go.RowKit
set_option linter.unusedVariables false
set_option linter.unusedSimpArgs false
section
variable {P : Program} {ops : Array Oper} {S : World → Prop}
theorem quiet_max_v {a : Act} {o : Oper} {rest : List Oper} {Q' : Act → Prop} (hg : Region.wanted o (yielded ops a.tmps) = true) (t : TypeId) (x y : Operand) (ho : o.op = .call { callee := .builtin .max, args := #[x, y], argTypes := #[t, t] }) (k : IntKind) (m n r : Int) (hx : a.eval x = .int k m) (hy : a.eval y = .int k n) (hr : (if n > m then n else m) = r)
    (h : wpQuiet P ops S Q' rest (a.put o.dst (.int k r))) : wpQuiet P ops S Q' (o :: rest) a := by
  refine wpQuiet_step fun K hK => ?_
  rw [if_pos hg]
  refine ⟨_, fun w hC => ?_, hK _ h⟩
  subst hr
  unfold Oper.quietAt execOp
  simp [ho, resolve, invoke, builtin, Builtin.max_, Builtin.max2, List.map_toArray, List.map_cons, List.map_nil, hx, hy, Sem.run_bind, Sem.run_pure, Result.andThen_ok]
  exact ⟨rfl, rfl⟩
theorem quiet_min_v {a : Act} {o : Oper} {rest : List Oper} {Q' : Act → Prop} (hg : Region.wanted o (yielded ops a.tmps) = true) (t : TypeId) (x y : Operand) (ho : o.op = .call { callee := .builtin .min, args := #[x, y], argTypes := #[t, t] }) (k : IntKind) (m n r : Int) (hx : a.eval x = .int k m) (hy : a.eval y = .int k n) (hr : (if n < m then n else m) = r)
    (h : wpQuiet P ops S Q' rest (a.put o.dst (.int k r))) : wpQuiet P ops S Q' (o :: rest) a := by
  refine wpQuiet_step fun K hK => ?_
  rw [if_pos hg]
  refine ⟨_, fun w hC => ?_, hK _ h⟩
  subst hr
  unfold Oper.quietAt execOp
  simp [ho, resolve, invoke, builtin, Builtin.min_, Builtin.min2, List.map_toArray, List.map_cons, List.map_nil, hx, hy, Sem.run_bind, Sem.run_pure, Result.andThen_ok]
  exact ⟨rfl, rfl⟩
end
end Go.Xr
