/- Layer 7: MirrorNil, the walk. -/
import Derived.Test.YtjgagcpmoffldaaGMirD
namespace Go.Proofs.Ytjgagcpmoffldaa
open Go Go.Xr Go.RowKit
set_option linter.unusedVariables false
set_option linter.unusedSimpArgs false
set_option maxRecDepth 20000 in
set_option maxHeartbeats 4000000 in
theorem mirrorNil_walk {w : World} (i : Int) (s : ByteArray) : Calls Try.prog 3 #[.int .i64 i, .string s] w fun e w' => e = .returned (.bool true) ∧ Fr [] w w' := by
  have HA := hid malive_any
  go_enter Try.func3, Try.ntmps3
  go_wp2_with fail
  refine (newp_ok 4 (by decide) (by decide)).mono ?_
  rintro e w1 ⟨d, F, rfl, r1, p1, f1, g1⟩
  have HM := hid (make_bad (c := 1) (by decide) (two_nilR r1))
  have HO := hid fun (w2 : World) (v : Value) => open_bad (c := 1) (by decide) (two_nilL w2 v)
  have F1 := hid f1
  clear r1 p1 f1 g1
  go_wp2_with (first
    | (go_at_call 6; refine HM.out.mono ?_; rintro e w2 ⟨rfl, hw⟩; subst hw; clear HM)
    | (go_at_call 7; refine (HO.out _ _).mono ?_; rintro e w3 ⟨rfl, hw⟩; subst hw; clear HO)
    | (go_at_call 8; refine (mread_nil _ _).mono ?_; rintro e w4 ⟨rfl, hw⟩; subst hw)
    | (go_at_call 9; refine (mother_nil _ _).mono ?_; rintro e w5 ⟨rfl, hw⟩; subst hw)
    | (go_at_call 10; refine (mresync_nil _).mono ?_; rintro e w6 ⟨rfl, hw⟩; subst hw)
    | (go_at_call 11; refine (mcur_nil _).mono ?_; rintro e w7 ⟨rfl, hw⟩; subst hw)
    | (go_at_call 12; refine (mwrite_nil _ _ _).mono ?_; rintro e w8 ⟨rfl, f8⟩; have F8 := hid (F1.out.trans' f8); clear f8)
    | (go_at_call 13; refine (mflush_nil _).mono ?_; rintro e w9 ⟨rfl, hw⟩; subst hw)
    | (go_at_call 14; refine (mlen_nil _).mono ?_; rintro e w10 ⟨rfl, hw⟩; subst hw)
    | (go_at_call 15; refine (mgen_nil _).mono ?_; rintro e w11 ⟨rfl, hw⟩; subst hw)
    | (go_at_call 16; refine (HA.out _).mono ?_; rintro e w12 ⟨rfl, f12⟩))
  go_ret
  exact ⟨rfl, F8.out.trans' f12⟩
end Go.Proofs.Ytjgagcpmoffldaa
