/- Layer 4: SealNil, the walk. -/
import Derived.Test.YtjffhlhpapjnnaaGSeal
namespace Go.Proofs.Ytjffhlhpapjnnaa
open Go Go.Xr Go.RowKit Go.Proofs.Ytjffhlhpapjnnaa.aes
set_option linter.unusedVariables false
set_option linter.unusedSimpArgs false

set_option maxRecDepth 20000 in
theorem next_nil {w : World} : Calls Try.prog 23 #[.pointer none] w fun e w' => e = .returned (.tuple #[.int .u64 0, .int .i64 1]) ∧ w = w' := by
  go_enter Try.func23, Try.ntmps23
  go_wp2_with fail
  go_ret2
  exact ⟨rfl, rfl⟩
set_option maxRecDepth 20000 in
theorem nseal_nil {w : World} (c m label s : ByteArray) : Calls Try.prog 24 #[.pointer none, .agg #[.string c, .string m], .string label, .string s] w fun e w' => e = .returned (.tuple #[.string ⟨#[]⟩, .int .i64 1]) ∧ Fr [] w w' := by
  go_enter Try.func24, Try.ntmps24
  go_wp2_with (refine wpList_box rfl _ _ rfl [.string c, .string m] rfl ?_; intro w1 f1 hlt1 hb1; have k0 := hb1.cell 0; have k1 := hb1.cell 1; simp only [World.size_alloc, World.size_drew, Act.put, List.setIfInBounds_toArray, List.set_cons_succ, List.set_cons_zero])
  go_ret2
  exact ⟨rfl, f1⟩
set_option maxRecDepth 20000 in
theorem used_nil {w : World} : Calls Try.prog 25 #[.pointer none] w fun e w' => e = .returned (.int .u64 0) ∧ w = w' := by
  go_enter Try.func25, Try.ntmps25
  go_wp2_with fail
  go_ret
  exact ⟨rfl, rfl⟩

set_option maxRecDepth 20000 in
set_option maxHeartbeats 1000000 in
theorem nil_walk {w : World} (c m s : ByteArray) : Calls Try.prog 8 #[.agg #[.string c, .string m], .string s] w fun e w' => e = .returned (.bool true) ∧ Fr [] w w' := by
  go_enter Try.func8, Try.ntmps8
  go_wp2_with (refine wpList_box rfl _ _ rfl [.string c, .string m] rfl ?_; intro w1 f1 hlt1 hb1; have k0 := hb1.cell 0; have k1 := hb1.cell 1; simp only [World.size_alloc, World.size_drew, Act.put, List.setIfInBounds_toArray, List.set_cons_succ, List.set_cons_zero])
  refine next_nil.mono ?_
  rintro e w2 ⟨rfl, rfl⟩
  go_wp2_with fail
  refine (nseal_nil c m s s).mono ?_
  rintro e w2 ⟨rfl, f2⟩
  go_wp2_with fail
  refine used_nil.mono ?_
  rintro e w3 ⟨rfl, rfl⟩
  go_wp2_with fail
  refine alive_any.mono ?_
  rintro e w4 ⟨rfl, f4⟩
  go_wp2_with fail
  go_ret
  exact ⟨rfl, (f1.trans' f2).trans' f4⟩
end Go.Proofs.Ytjffhlhpapjnnaa
