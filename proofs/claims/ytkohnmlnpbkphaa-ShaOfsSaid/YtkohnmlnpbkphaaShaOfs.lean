/- Layer 1: ShaOfs, the walk. -/
import Derived.Test.YtkohnmlnpbkphaaShaI
namespace Go.Proofs.Ytkohnmlnpbkphaa
open Go Go.Xr Go.RowKit
set_option linter.unusedVariables false
set_option linter.unusedSimpArgs false

theorem ofs_walk {w : World} (s : ByteArray) (hs : s.size ≤ 9223372036854775807) : Calls Try.prog 3 #[.string s] w fun e w' => e = .returned (.bool true) ∧ Fr [] w w' := by
  by_cases h : s.size ≤ 16384
  · have h1 := fun w0 : World => of_any (w := w0) s (by omega)
    have h2 := fun w0 : World => rof_any (w := w0) s (by omega)
    have H1 := hid h1
    have H2 := hid h2
    clear h1 h2
    go_enter Try.func3, Try.ntmps3
    go_wp2_with fail
    refine (H1.out _).mono ?_
    rintro e w1 ⟨rfl, f1⟩
    go_wp2_with fail
    refine (H2.out _).mono ?_
    rintro e w2 ⟨rfl, f2⟩
    go_wp2_with fail
    refine alive_any.mono ?_
    rintro e w3 ⟨rfl, f3⟩
    go_wp2_with fail
    go_ret
    exact ⟨rfl, (f1.trans' f2).trans' f3⟩
  · go_enter Try.func3, Try.ntmps3
    go_wp2_with fail
    refine alive_any.mono ?_
    rintro e w3 ⟨rfl, f3⟩
    go_wp2_with fail
    go_ret
    exact ⟨rfl, f3⟩
end Go.Proofs.Ytkohnmlnpbkphaa
