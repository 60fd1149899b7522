/-
  No cell of these rows narrows 'for every input' (looked for: loops, veiled, ifaces, maps, wideKeys, modest, calm, conditions, laid).
  DERIVED. THE GIVEN ROWS OF THIS SEAT. 4 by the template 'for every input the law returns true; each argument reads behind the call as it read before'; 0 by the template 'total and deterministic' (their statements: YtfcpnicgffbmeaaTotals.lean).
  GIVEN WITH THE SEED: the statements are not yours to turn. If you find one false, say at which input.
  Laid BY PROGRAM, IN A SANDBOX (cutbox-rows.mjs): the forced cells as the released guide's own fill.sh prints them over the translation 0dfb59f447f97dd2… (all of the seat's roots in one cut). By AI agents, Wed Nov 11 2026. No macro, syntax, notation, axiom, sorry.
-/
import Derived.Test.YtfcpnicgffbmeaaChecked
import GoSem.Claim
import GoSem.ClaimJoined
import GoSem.ClaimMapViews
import Derived.JoinedTies
import Derived.KernelRfl
namespace Go.Proofs.Ytfcpnicgffbmeaa
/- THE CELL 'sum', in the pinned program and in every row, IS THE sha256 OF THE DUMP (.gsa) THAT YtfcpnicgffbmeaaProg.lean LOADS. Nothing in Lean hashes anything: it is a label: what it is worth is what the hold of that sum in a sandbox is worth. -/
noncomputable def Try.pinned : Pinned := { name := "ytfcpnicgffbmeaa", sum := "0dfb59f447f97dd2f2d6eeff5644ef0f2c8c65aa87610f5d2541b30f8ff1349b", checked := Try.checked }
namespace Rows
def none {H : Type} : Left H := { results := [], args := [] }

/-- 'cofferlaw02.MacOfs': WHATEVER THE INPUT: true; the input reads as it did. -/
def macOfsSpec : ChangeSpec := { name := "macOfs", fn := fun _ => fun
  | [d1, d2, d3] => { results := [.lit (.bool true)], args := [d1, d2, d3] }
  | _ => none }
def macOfsRow : OpenClaim := { program := "ytfcpnicgffbmeaa", sum := "0dfb59f447f97dd2f2d6eeff5644ef0f2c8c65aa87610f5d2541b30f8ff1349b", func := "coffer/cofferlaw02.MacOfs", spec := "macOfs", unfollowed := true, recurses := true, apart := false }
def MacOfsSaid : Prop := macOfsRow.holds Try.pinned (OpenSpec.ofChange macOfsSpec)

/-- ITS FALSE NEIGHBOUR: 'it returns false'. Refute it at one input. -/
def macOfsWrong : ChangeSpec := { name := "macOfs", fn := fun _ => fun
  | [d1, d2, d3] => { results := [.lit (.bool false)], args := [d1, d2, d3] }
  | _ => none }
def MacOfsWrongFalsely : Prop := macOfsRow.holds Try.pinned (OpenSpec.ofChange macOfsWrong)

/-- 'cofferlaw02.MacKeys': WHATEVER THE INPUT: true; the input reads as it did. -/
def macKeysSpec : ChangeSpec := { name := "macKeys", fn := fun _ => fun
  | [d1, d2, d3, d4] => { results := [.lit (.bool true)], args := [d1, d2, d3, d4] }
  | _ => none }
def macKeysRow : OpenClaim := { program := "ytfcpnicgffbmeaa", sum := "0dfb59f447f97dd2f2d6eeff5644ef0f2c8c65aa87610f5d2541b30f8ff1349b", func := "coffer/cofferlaw02.MacKeys", spec := "macKeys", unfollowed := true, recurses := true, apart := false }
def MacKeysSaid : Prop := macKeysRow.holds Try.pinned (OpenSpec.ofChange macKeysSpec)

/-- ITS FALSE NEIGHBOUR: 'it returns false'. Refute it at one input. -/
def macKeysWrong : ChangeSpec := { name := "macKeys", fn := fun _ => fun
  | [d1, d2, d3, d4] => { results := [.lit (.bool false)], args := [d1, d2, d3, d4] }
  | _ => none }
def MacKeysWrongFalsely : Prop := macKeysRow.holds Try.pinned (OpenSpec.ofChange macKeysWrong)

/-- 'cofferlaw02.MacApart': WHATEVER THE INPUT: true; the input reads as it did. -/
def macApartSpec : ChangeSpec := { name := "macApart", fn := fun _ => fun
  | [d1, d2, d3, d4, d5] => { results := [.lit (.bool true)], args := [d1, d2, d3, d4, d5] }
  | _ => none }
def macApartRow : OpenClaim := { program := "ytfcpnicgffbmeaa", sum := "0dfb59f447f97dd2f2d6eeff5644ef0f2c8c65aa87610f5d2541b30f8ff1349b", func := "coffer/cofferlaw02.MacApart", spec := "macApart", unfollowed := true, recurses := true, apart := false }
def MacApartSaid : Prop := macApartRow.holds Try.pinned (OpenSpec.ofChange macApartSpec)

/-- ITS FALSE NEIGHBOUR: 'it returns false'. Refute it at one input. -/
def macApartWrong : ChangeSpec := { name := "macApart", fn := fun _ => fun
  | [d1, d2, d3, d4, d5] => { results := [.lit (.bool false)], args := [d1, d2, d3, d4, d5] }
  | _ => none }
def MacApartWrongFalsely : Prop := macApartRow.holds Try.pinned (OpenSpec.ofChange macApartWrong)

/-- 'cofferlaw02.MacIs': WHATEVER THE INPUT: true; the input reads as it did. -/
def macIsSpec : ChangeSpec := { name := "macIs", fn := fun _ => fun
  | [d1, d2, d3] => { results := [.lit (.bool true)], args := [d1, d2, d3] }
  | _ => none }
def macIsRow : OpenClaim := { program := "ytfcpnicgffbmeaa", sum := "0dfb59f447f97dd2f2d6eeff5644ef0f2c8c65aa87610f5d2541b30f8ff1349b", func := "coffer/cofferlaw02.MacIs", spec := "macIs", unfollowed := true, recurses := true, apart := false }
def MacIsSaid : Prop := macIsRow.holds Try.pinned (OpenSpec.ofChange macIsSpec)

/-- ITS FALSE NEIGHBOUR: 'it returns false'. Refute it at one input. -/
def macIsWrong : ChangeSpec := { name := "macIs", fn := fun _ => fun
  | [d1, d2, d3] => { results := [.lit (.bool false)], args := [d1, d2, d3] }
  | _ => none }
def MacIsWrongFalsely : Prop := macIsRow.holds Try.pinned (OpenSpec.ofChange macIsWrong)

/- THE SECOND FORM. 'bulk': how many values and letters a reading holds, each counted each time it is reached (what is shared counts as often as it is met; a slice's spare places count too). A statement '..UptoSaid' is the law's where the arguments, and the package variables that the reading takes, are together of bulk at most 1048576: NARROWER than '..Said'. Prove '..Said' where nothing that the law and all that it calls make is longer than what came in: it says more and counts as full. Else prove '..UptoSaid'. A law counts once. -/
mutual
def uptoBulk {H : Type} : DataW H → Nat
  | .lit (.string bytes) => bytes.length + 1
  | .lit _ => 1
  | .nil => 1
  | .ptr d => uptoBulk d + 1
  | .slice elems spare => uptoBulkAll elems + uptoBulkAll spare + 1
  | .agg parts => uptoBulkAll parts + 1
  | .iface _ d => uptoBulk d + 1
  | .map entries => uptoBulkEntries entries + 1
  | .held _ => 1
def uptoBulkAll {H : Type} : List (DataW H) → Nat
  | [] => 0
  | d :: r => uptoBulk d + uptoBulkAll r
def uptoBulkEntries {H : Type} : List (Lit × DataW H) → Nat
  | [] => 0
  | x :: r => uptoBulkEntry x + uptoBulkEntries r
def uptoBulkEntry {H : Type} : Lit × DataW H → Nat
  | (.string bytes, d) => bytes.length + uptoBulk d + 1
  | (_, d) => uptoBulk d + 1
 end
def uptoSmall : (H : Type) → List (DataW H) → Bool := fun _ ds => decide (uptoBulkAll ds ≤ 1048576)
def OpenSpec.upto (s : _root_.Go.ChangeSpec) : _root_.Go.OpenSpec := { _root_.Go.OpenSpec.ofChange s with cond := some uptoSmall }

/-- 'cofferlaw02.MacOfs', WHERE WHAT IT READS IS OF BULK AT MOST 1048576: true; the input reads as it did. -/
def macOfsUptoRow : OpenClaim := { program := "ytfcpnicgffbmeaa", sum := "0dfb59f447f97dd2f2d6eeff5644ef0f2c8c65aa87610f5d2541b30f8ff1349b", func := "coffer/cofferlaw02.MacOfs", spec := "macOfs", unfollowed := true, recurses := true, apart := false, narrowed := true }
def MacOfsUptoSaid : Prop := macOfsUptoRow.holds Try.pinned (OpenSpec.upto macOfsSpec)

/-- 'cofferlaw02.MacKeys', WHERE WHAT IT READS IS OF BULK AT MOST 1048576: true; the input reads as it did. -/
def macKeysUptoRow : OpenClaim := { program := "ytfcpnicgffbmeaa", sum := "0dfb59f447f97dd2f2d6eeff5644ef0f2c8c65aa87610f5d2541b30f8ff1349b", func := "coffer/cofferlaw02.MacKeys", spec := "macKeys", unfollowed := true, recurses := true, apart := false, narrowed := true }
def MacKeysUptoSaid : Prop := macKeysUptoRow.holds Try.pinned (OpenSpec.upto macKeysSpec)

/-- 'cofferlaw02.MacApart', WHERE WHAT IT READS IS OF BULK AT MOST 1048576: true; the input reads as it did. -/
def macApartUptoRow : OpenClaim := { program := "ytfcpnicgffbmeaa", sum := "0dfb59f447f97dd2f2d6eeff5644ef0f2c8c65aa87610f5d2541b30f8ff1349b", func := "coffer/cofferlaw02.MacApart", spec := "macApart", unfollowed := true, recurses := true, apart := false, narrowed := true }
def MacApartUptoSaid : Prop := macApartUptoRow.holds Try.pinned (OpenSpec.upto macApartSpec)

/-- 'cofferlaw02.MacIs', WHERE WHAT IT READS IS OF BULK AT MOST 1048576: true; the input reads as it did. -/
def macIsUptoRow : OpenClaim := { program := "ytfcpnicgffbmeaa", sum := "0dfb59f447f97dd2f2d6eeff5644ef0f2c8c65aa87610f5d2541b30f8ff1349b", func := "coffer/cofferlaw02.MacIs", spec := "macIs", unfollowed := true, recurses := true, apart := false, narrowed := true }
def MacIsUptoSaid : Prop := macIsUptoRow.holds Try.pinned (OpenSpec.upto macIsSpec)

end Rows
end Go.Proofs.Ytfcpnicgffbmeaa
