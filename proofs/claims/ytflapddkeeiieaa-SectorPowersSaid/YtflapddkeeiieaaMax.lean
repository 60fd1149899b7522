/- The greater of two integers, in a region that draws its order. -/
import Derived.Test.YtflapddkeeiieaaThree
namespace Go.Xr
open Go Go.RowKit
set_option linter.unusedVariables false
set_option linter.unusedSimpArgs false
section
variable {P : Program} {ops : Array Oper} {S : World → Prop}
theorem quiet_max_v {a : Act} {o : Oper} {rest : List Oper} {Q' : Act → Prop} (hg : Region.wanted o (yielded ops a.tmps) = true) (t : TypeId) (x y : Operand) (ho : o.op = .call { callee := .builtin .max, args := #[x, y], argTypes := #[t, t] }) (k : IntKind) (m n r : Int) (hx : a.eval x = .int k m) (hy : a.eval y = .int k n) (hr : (if n > m then n else m) = r)
    (h : wpQuiet P ops S Q' rest (a.put o.dst (.int k r))) : wpQuiet P ops S Q' (o :: rest) a := by
  refine wpQuiet_step fun K hK => ?_
  rw [if_pos hg]
  refine ⟨_, fun w hC => ?_, hK _ h⟩
  subst hr
  unfold Oper.quietAt execOp
  simp [ho, resolve, invoke, builtin, Builtin.max_, Builtin.max2, List.map_toArray, List.map_cons, List.map_nil, hx, hy, Sem.run_bind, Sem.run_pure, Result.andThen_ok]
  exact ⟨rfl, rfl⟩
theorem quiet_min_v {a : Act} {o : Oper} {rest : List Oper} {Q' : Act → Prop} (hg : Region.wanted o (yielded ops a.tmps) = true) (t : TypeId) (x y : Operand) (ho : o.op = .call { callee := .builtin .min, args := #[x, y], argTypes := #[t, t] }) (k : IntKind) (m n r : Int) (hx : a.eval x = .int k m) (hy : a.eval y = .int k n) (hr : (if n < m then n else m) = r)
    (h : wpQuiet P ops S Q' rest (a.put o.dst (.int k r))) : wpQuiet P ops S Q' (o :: rest) a := by
  refine wpQuiet_step fun K hK => ?_
  rw [if_pos hg]
  refine ⟨_, fun w hC => ?_, hK _ h⟩
  subst hr
  unfold Oper.quietAt execOp
  simp [ho, resolve, invoke, builtin, Builtin.min_, Builtin.min2, List.map_toArray, List.map_cons, List.map_nil, hx, hy, Sem.run_bind, Sem.run_pure, Result.andThen_ok]
  exact ⟨rfl, rfl⟩
/-- A load of an aggregate of which each cell is known, in every world of the class. -/
theorem quiet_load_cells {a : Act} {o : Oper} {rest : List Oper} {Q' : Act → Prop} (hg : Region.wanted o (yielded ops a.tmps) = true) (ty : TypeId) (x : Operand) (ho : o.op = .load ty x) {b off : Nat} (hx : a.eval x = .pointer (some ⟨b, off, none⟩)) (vs : List Value) {n : Nat} (hT : AggT P ty n) (hn : vs.length = n)
    (hc : ∀ w, S w → ∀ j, j < n → w.cell? ⟨b, off + j, none⟩ = vs[j]?)
    (h : wpQuiet P ops S Q' rest (a.put o.dst (.agg vs.toArray))) : wpQuiet P ops S Q' (o :: rest) a := by
  obtain ⟨d, hu, hd, hs⟩ := hT
  refine wpQuiet_step fun K hK => ?_
  rw [if_pos hg]
  refine ⟨.agg vs.toArray, fun w hC => ?_, hK _ h⟩
  have hl := run_loadCells_list (P := P) w ⟨b, off, none⟩ vs (fun j u hu => by
    have hj : j < n := by rw [← hn]; exact (List.getElem?_eq_some_iff.1 hu).1
    have e : (⟨b, off, none⟩ : Addr).add j = ⟨b, off + j, none⟩ := by unfold Addr.add; split <;> simp_all
    rw [e, hc w hC j hj, hu])
  have hagg : (isAgg ty).run P w = .ok true w := by
    unfold isAgg
    rw [Sem.run_bind, run_underlying hu w]
    cases d <;> simp_all [aggDesc]
  have hlv : (loadVar ty ⟨b, off, none⟩).run P w = .ok (.agg vs.toArray) w := by
    cases hq : P.info? ty with
    | none => simp [hq] at hs
    | some i =>
      have hs' : i.size = vs.length := by rw [hn]; simpa [hq] using hs
      simp [loadVar, Sem.run_bind, hagg, sizeOf, typeInfo, hq, hs', hl]
  unfold Oper.quietAt execOp
  simp only [ho, hx, Instr.loadAt, Instr.sureAddr, Sem.run_bind, Sem.run_pure, Result.andThen_ok, hlv]
  exact ⟨rfl, rfl⟩
end
end Go.Xr
