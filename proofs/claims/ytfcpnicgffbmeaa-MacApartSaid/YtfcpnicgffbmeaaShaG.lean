/- Layer 1, sha: the digest of a text. -/
import Derived.Test.YtfcpnicgffbmeaaShaF
namespace Go.Proofs.Ytfcpnicgffbmeaa
open Go Go.Xr Go.RowKit
set_option linter.unusedVariables false
set_option linter.unusedSimpArgs false

/-- The digest, as a text. -/
def shaS (s : ByteArray) : ByteArray := ⟨(shaL s.data.toList).toArray⟩
theorem shaS_size (s : ByteArray) : (shaS s).size = 32 := by
  unfold shaS
  rw [size_mk']
  exact shaL_len _

theorem of_any {w : World} (s : ByteArray) (hs : s.size < 1099511627776) :
    Calls Try.prog 21 #[.string s] w fun e w' => e = .returned (.string (shaS s)) ∧ Fr [] w w' := by
  have hbl := hid (bytes_len s)
  go_enter Try.func21, Try.ntmps21
  go_wp2_with fail
  refine new_any.mono ?_
  rintro e w1 ⟨hb, rfl, hr1, hlt, f1⟩
  go_wp2_with fail
  refine (add_any hr1 s (by simp; omega)).mono ?_
  rintro e w2 ⟨rfl, hr2, f2⟩
  rw [List.nil_append] at hr2
  go_wp2_with fail
  refine (sum_any hr2 (by rw [hbl.out]; exact hs)).mono ?_
  rintro e w3 ⟨rfl, f3⟩
  go_wp2_with fail
  go_ret
  exact ⟨rfl, (f1.trans f2 (fun x hx => .inr (by simp at hx; omega))).trans' f3⟩
end Go.Proofs.Ytfcpnicgffbmeaa
