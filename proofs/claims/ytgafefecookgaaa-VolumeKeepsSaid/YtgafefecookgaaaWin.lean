/- s[l:k:k] of a row that is read; in a round, too. -/
import Derived.Test.YtgafefecookgaaaGCore
import Derived.Test.YtgafefecookgaaaGRf
namespace Go.Xr
open Go Go.RowKit
set_option linter.unusedVariables false
/-- s[l:k:k] of a row. -/
def winV (ad : Option Addr) (l k : Nat) : Value := .slice (if k = l then ad else ad.map (·.add (l * 1))) (k - l) (k - l)
section
variable {P : Program} {w : World}
theorem wpListIn_slice_v {F : Fence} {m : Nat} {ops : Array Oper} {Q : Exit → Act → World → Prop} {a : Act} {rest : List Oper} {o : Oper} (hg : o.guard = none) (t : TypeId) (x : Operand) (lo hi mx : Option Operand) (ho : o.op = .slice t x lo hi mx) (xv : Value) (hx : a.eval x = xv) (lv hv mv : Option Value) (hlo : lo.map a.eval = lv) (hhi : hi.map a.eval = hv) (hmx : mx.map a.eval = mv) (v : Value)
    (hr : (Instr.sliceAt t xv lv hv mv).run P w = .ok v w) (h : wpListIn F m P ops Q rest (a.put o.dst v) w) : wpListIn F m P ops Q (o :: rest) a w := by
  refine wpListIn_plain hg fun K hK => ?_
  unfold Oper.wpIn
  refine ⟨by simp [Oper.about, ho], ?_⟩
  rw [Oper.semAt_plain F _ _ (by rw [ho]; intro c hc'; cases hc')]
  unfold execOp
  simp only [ho, hx, hlo, hhi, hmx, Sem.run_bind, Sem.run_pure, Result.andThen_ok, hr]
  exact hK _ _ h
theorem run_winV (t e : TypeId) (ht : P.underlying t = some (.slice e)) (hs : (P.info? e).map (·.size) = some 1) (ad : Option Addr) (n c l k : Nat) (h1 : l ≤ k) (h2 : k ≤ c) (w0 : World) (kl kh km : IntKind) :
    (Instr.sliceAt t (.slice ad n c) (some (.int kl (l : Int))) (some (.int kh (k : Int))) (some (.int km (k : Int)))).run P w0 = .ok (winV ad l k) w0 := by
  cases hq : P.info? e with
  | none => simp [hq] at hs
  | some i =>
    have hs1 : i.size = 1 := by simpa [hq] using hs
    have h3 : (l : Int) ≤ (k : Int) := by omega
    have h4 : (0 : Int) ≤ (l : Int) := by omega
    have h5 : (k : Int) ≤ (c : Int) := by omega
    have h7 : (0 : Int) ≤ (k : Int) := by omega
    simp [Instr.sliceAt, Instr.slice, run_underlying ht, Instr.sliceBounds, run_sliceBound, h3, h4, h5, h7, sizeOf, typeInfo, hq, hs1, winV]
theorem rc_winV {ad : Option Addr} {n c : Nat} {xs : List Value} {B : Option Nat} (hr : Rc w 1 (.slice ad n c) n xs B) (l k : Nat) (h1 : l ≤ k) (h2 : k ≤ n) : Rc w 1 (winV ad l k) (k - l) ((xs.drop l).take (k - l)) B := by
  obtain ⟨hl, hB, ad', c', hv, hc, hm, h6⟩ := hr
  obtain ⟨rfl, rfl⟩ : ad = ad' ∧ c = c' := by simpa using hv
  refine ⟨by rw [List.length_take, List.length_drop, hl]; omega, hB, _, _, rfl, by omega, by omega, fun hk0 => ?_⟩
  obtain ⟨b, off, hB', ha, hcs⟩ := h6 (by omega)
  refine ⟨b, off + l, hB', ?_, fun j hj => ?_⟩
  · rw [if_neg (by omega), ha, Option.map_some, Nat.mul_one]
    refine congrArg some ?_
    unfold Addr.add
    split <;> simp_all
  · rw [List.length_take, List.length_drop] at hj
    rw [List.getElem?_take, if_pos (by omega), List.getElem?_drop, Nat.add_assoc, hcs (l + j) (by omega)]
end
end Go.Xr
