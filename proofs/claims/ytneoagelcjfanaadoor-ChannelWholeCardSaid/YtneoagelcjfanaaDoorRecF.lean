/- Layer 21, record: a padded text read, the document's. -/
import Derived.Test.YtneoagelcjfanaaDoorRecE
namespace Go.Proofs.YtneoagelcjfanaaDoor.rcd
open Go Go.Xr Go.RowKit
set_option linter.unusedVariables false
set_option linter.unusedSimpArgs false

theorem cv8_64s (w : World) (a : UInt8) : (convert 5 24 (bt a)).run Tryd.prog w = .ok (W64 a.toUInt64) w := conv_u8_u64 w _ _ a Tryd.underlying5 Tryd.underlying24 rfl
attribute [local go_sem] or_u64 shl_u64 cv8_64s neq_u8_c neg8

end Go.Proofs.YtneoagelcjfanaaDoor.rcd
