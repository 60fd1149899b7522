/- Layer 22: ChannelNone, the walk. -/
import Derived.Test.YtneoagelcjfanaaDoorChN
namespace Go.Proofs.YtneoagelcjfanaaDoor.chn
open Go Go.Xr Go.RowKit Go.Proofs.YtneoagelcjfanaaDoor Go.Proofs.YtneoagelcjfanaaDoor.rcd
set_option linter.unusedVariables false
set_option linter.unusedSimpArgs false
set_option maxRecDepth 20000 in
set_option maxHeartbeats 1000000 in
theorem cnone_walk {w : World} (tb : TB w) (s : ByteArray) : Calls Tryd.prog 4 #[.string s] w fun e w' => e = .returned (.bool true) ∧ Fr [] w w' := by
  have HW := hid fun (w1 : World) (f : Fr [] w w1) => cworks_any (tb.keep f)
  have HC := hid fun w0 : World => rclass_any (w := w0) 0 (by decide) (by decide)
  rw [show clsI 0 = 64 from by decide] at HC
  clear tb
  cases hb : decide (65536 < (s.size : Int))
  case true =>
    go_enter Tryd.func4, Tryd.ntmps4
    go_wp2_with fail
    refine (HW.out _ (Fr.refl [] w)).mono ?_
    rintro e w1 ⟨rfl, f1⟩
    go_wp2_with fail
    go_ret
    exact ⟨rfl, f1⟩
  case false =>
    go_enter Tryd.func4, Tryd.ntmps4
    go_wp2_with (first
      | (go_at_call 10; refine (csend_nil _ s).mono ?_; rintro e w1 ⟨rfl, hw⟩; subst hw)
      | (go_at_call 11; refine (ctake_nil _ s).mono ?_; rintro e w2 ⟨rfl, f2⟩)
      | (go_at_call 12; refine (cclosed_nil _).mono ?_; rintro e w3 ⟨rfl, hw⟩; subst hw)
      | (go_at_call 13; refine (cwaits_nil _).mono ?_; rintro e w4 ⟨rfl, hw⟩; subst hw)
      | (go_at_call 14; refine (HC.out _).mono ?_; rintro e w5 ⟨rfl, f5⟩)
      | (go_at_call 6; refine (HW.out _ (f2.trans' f5)).mono ?_; rintro e w6 ⟨rfl, f6⟩))
    go_ret
    exact ⟨rfl, (f2.trans' f5).trans' f6⟩
end Go.Proofs.YtneoagelcjfanaaDoor.chn
