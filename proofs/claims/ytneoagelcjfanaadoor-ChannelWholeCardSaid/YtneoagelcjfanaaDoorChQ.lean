/- Layer 22: a row of short numbers, read. -/
import Derived.Test.YtneoagelcjfanaaDoorChannelWhole
import Derived.Test.YtneoagelcjfanaaDoorGArgs
namespace Go.Proofs.YtneoagelcjfanaaDoor.chn
open Go Go.Xr Go.RowKit Go.ChangeShapes Go.WideShapes Go.ChangeAt Go.Deep
set_option linter.unusedVariables false
set_option linter.unusedSimpArgs false
theorem cu16_of {n : Int} (h : (Lit.int .u16 n).wf = true) : 0 ≤ n ∧ n ≤ 65535 := by
  have h1 : IntKind.u16.min ≤ n ∧ n ≤ IntKind.u16.max := by simpa [Lit.wf] using h
  have h2 : IntKind.u16.min = 0 := by decide
  have h3 : IntKind.u16.max = 65535 := by decide
  omega
open Go.ChangeShapes Go.WideShapes Go.Deep in
theorem copen_u16s {H : Type} {enc : TypeId × Value → H} {P : Program} {w : World} {base : Nat} {spare : Nat → Bool} {held : Bool} {t e : TypeId} (ht : P.underlying t = some (.slice e)) (he : P.underlying e = some (.int .u16)) (hC : P.cellsOf e = 1) {fuel : Nat} {cs : List Value} {x : DataW H × List MemPlace} (h : DataW.trod enc P w base spare held fuel t cs = some x) :
    ∃ (v : Value) (l : List Int) (B : Option Nat), cs = [v] ∧ Rc w 1 v l.length (l.map (.int .u16)) B ∧ (∀ x ∈ l, 0 ≤ x ∧ x ≤ 65535) ∧ l.length ≤ maxLen := by
  obtain ⟨v, l, B, h1, h2, h4, h3⟩ := open_rows (α := Int) (fun a => [.int .u16 a]) (fun x => 0 ≤ x ∧ x ≤ 65535) 1 (by decide) (fun _ => rfl) ht hC (fun n cs x hx => by
    obtain ⟨b, hb, _, hw⟩ := DataW.trod_int he hx
    exact ⟨_, hb, cu16_of hw⟩) h
  rw [flat_one] at h2
  exact ⟨v, l, B, h1, h2, h4, h3⟩
end Go.Proofs.YtneoagelcjfanaaDoor.chn
