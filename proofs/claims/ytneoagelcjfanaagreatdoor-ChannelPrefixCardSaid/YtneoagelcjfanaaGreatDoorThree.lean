/- A region that draws its order: three that may come next; a stronger S half way. -/
import Derived.Test.YtneoagelcjfanaaGreatDoorGCore
namespace Go.Xr
open Go
set_option linter.unusedVariables false
section
variable {P : Program} {ops : Array Oper} {Q : Exit → Act → World → Prop} {S S' : World → Prop} {last : Bool} {qs : List Nat}
theorem wpAnyD_more (hS : ∀ w, S' w → S w) : ∀ (fuel : Nat) (listed : Array Bool) (a : Act) (w : World), wpAnyD P ops Q S' last qs fuel listed a w → wpAnyD P ops Q S last qs fuel listed a w
  | 0, _, _, _, h => h
  | fuel + 1, _, _, _, h => ⟨h.1, fun i hi => wpOp_mono (fun a' w' h' => ⟨h'.1, h'.2.1.imp id (hS w'), wpAnyD_more hS fuel _ a' w' h'.2.2⟩) (h.2 i hi)⟩
/-- What was made half way may be told of from there on. -/
theorem WD.more (S' : World → Prop) {done : List Nat} {a : Act} {w : World} (hS : ∀ w, S' w → S w) (h : WD P ops Q S' last qs done a w) : WD P ops Q S last qs done a w :=
  fun hc => wpAnyD_more hS _ _ _ _ (h hc)
theorem WD.eff3 {done : List Nat} {a : Act} {w : World} (i j l : Nat) (hB : readyB ops done [i, j, l] = true)
    (h1 : wpList P ops (AfterD P ops Q S last qs done i w) (pick ops.toList [i]) a w) (h2 : wpList P ops (AfterD P ops Q S last qs done j w) (pick ops.toList [j]) a w) (h3 : wpList P ops (AfterD P ops Q S last qs done l w) (pick ops.toList [l]) a w) : WD P ops Q S last qs done a w :=
  WD.effs [i, j, l] hB (by simp) (fun k hk => by
    simp only [List.mem_cons, List.not_mem_nil, or_false] at hk
    rcases hk with rfl | rfl | rfl
    · exact h1
    · exact h2
    · exact h3)
/-- The length of a slice. -/
theorem quiet_len_v {a : Act} {o : Oper} {rest : List Oper} {Q' : Act → Prop} (hg : Region.wanted o (yielded ops a.tmps) = true) (t : TypeId) (x : Operand) (ho : o.op = .call { callee := .builtin .len, args := #[x], argTypes := #[t] }) {e : TypeId} (ht : P.underlying t = some (.slice e)) {p : Option Addr} {n c : Nat} (hx : a.eval x = .slice p n c)
    (h : wpQuiet P ops S Q' rest (a.put o.dst (.int .i64 (n : Int)))) : wpQuiet P ops S Q' (o :: rest) a := by
  refine wpQuiet_step fun K hK => ?_
  rw [if_pos hg]
  refine ⟨_, fun w hC => ?_, hK _ h⟩
  unfold Oper.quietAt execOp
  simp [ho, resolve, invoke, builtin, Builtin.len_, run_underlying ht, goInt, List.map_toArray, List.map_cons, List.map_nil, hx, Sem.run_bind, Sem.run_pure, Result.andThen_ok]
  exact ⟨rfl, rfl⟩
end
end Go.Xr
