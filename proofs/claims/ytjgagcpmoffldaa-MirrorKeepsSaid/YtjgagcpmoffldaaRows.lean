/-
  No cell of these rows narrows 'for every input' (looked for: loops, veiled, ifaces, maps, wideKeys, modest, calm, conditions, laid).
  DERIVED. THE GIVEN ROWS OF THIS SEAT. 2 by the template 'for every input the law returns true; each argument reads behind the call as it read before'; 0 by the template 'total and deterministic' (their statements: YtjgagcpmoffldaaTotals.lean).
  GIVEN WITH THE SEED: the statements are not yours to turn. If you find one false, say at which input.
  Laid BY PROGRAM, IN A SANDBOX (cutbox-rows.mjs): the forced cells as the released guide's own fill.sh prints them over the translation de4b3a3325ea4b74… (all of the seat's roots in one cut). By AI agents, Wed Nov 11 2026. No macro, syntax, notation, axiom, sorry.
-/
import Derived.Test.YtjgagcpmoffldaaChecked
import GoSem.Claim
import GoSem.ClaimJoined
import GoSem.ClaimMapViews
import Derived.JoinedTies
import Derived.KernelRfl
namespace Go.Proofs.Ytjgagcpmoffldaa
/- THE CELL 'sum', in the pinned program and in every row, IS THE sha256 OF THE DUMP (.gsa) THAT YtjgagcpmoffldaaProg.lean LOADS. Nothing in Lean hashes anything: it is a label: what it is worth is what the hold of that sum in a sandbox is worth. -/
noncomputable def Try.pinned : Pinned := { name := "ytjgagcpmoffldaa", sum := "de4b3a3325ea4b7421a85d92190b1a78c512a9a43e485a3f0da6cd3f097c80d9", checked := Try.checked }
namespace Rows
def none {H : Type} : Left H := { results := [], args := [] }

/-- 'cofferlaw07.MirrorNil': WHATEVER THE INPUT: true; the input reads as it did. -/
def mirrorNilSpec : ChangeSpec := { name := "mirrorNil", fn := fun _ => fun
  | [d1, d2] => { results := [.lit (.bool true)], args := [d1, d2] }
  | _ => none }
def mirrorNilRow : OpenClaim := { program := "ytjgagcpmoffldaa", sum := "de4b3a3325ea4b7421a85d92190b1a78c512a9a43e485a3f0da6cd3f097c80d9", func := "coffer/cofferlaw07.MirrorNil", spec := "mirrorNil", inPlace := ["internal/abi.NoEscape", "internal/bytealg.MakeNoZero"], unfollowed := true, recurses := true, apart := false }
def MirrorNilSaid : Prop := mirrorNilRow.holds Try.pinned (OpenSpec.ofChange mirrorNilSpec)

/-- ITS FALSE NEIGHBOUR: 'it returns false'. Refute it at one input. -/
def mirrorNilWrong : ChangeSpec := { name := "mirrorNil", fn := fun _ => fun
  | [d1, d2] => { results := [.lit (.bool false)], args := [d1, d2] }
  | _ => none }
def MirrorNilWrongFalsely : Prop := mirrorNilRow.holds Try.pinned (OpenSpec.ofChange mirrorNilWrong)

/-- 'cofferlaw07.MirrorKeeps': WHATEVER THE INPUT: true; the input reads as it did. -/
def mirrorKeepsSpec : ChangeSpec := { name := "mirrorKeeps", fn := fun _ => fun
  | [d] => { results := [.lit (.bool true)], args := [d] }
  | _ => none }
def mirrorKeepsRow : OpenClaim := { program := "ytjgagcpmoffldaa", sum := "de4b3a3325ea4b7421a85d92190b1a78c512a9a43e485a3f0da6cd3f097c80d9", func := "coffer/cofferlaw07.MirrorKeeps", spec := "mirrorKeeps", inPlace := ["internal/abi.NoEscape", "internal/bytealg.MakeNoZero"], unfollowed := true, recurses := true, apart := false }
def MirrorKeepsSaid : Prop := mirrorKeepsRow.holds Try.pinned (OpenSpec.ofChange mirrorKeepsSpec)

/-- ITS FALSE NEIGHBOUR: 'it returns false'. Refute it at one input. -/
def mirrorKeepsWrong : ChangeSpec := { name := "mirrorKeeps", fn := fun _ => fun
  | [d] => { results := [.lit (.bool false)], args := [d] }
  | _ => none }
def MirrorKeepsWrongFalsely : Prop := mirrorKeepsRow.holds Try.pinned (OpenSpec.ofChange mirrorKeepsWrong)

/- THE SECOND FORM. 'bulk': how many values and letters a reading holds, each counted each time it is reached (what is shared counts as often as it is met; a slice's spare places count too). A statement '..UptoSaid' is the law's where the arguments, and the package variables that the reading takes, are together of bulk at most 1048576: NARROWER than '..Said'. Prove '..Said' where nothing that the law and all that it calls make is longer than what came in: it says more and counts as full. Else prove '..UptoSaid'. A law counts once. -/
mutual
def uptoBulk {H : Type} : DataW H → Nat
  | .lit (.string bytes) => bytes.length + 1
  | .lit _ => 1
  | .nil => 1
  | .ptr d => uptoBulk d + 1
  | .slice elems spare => uptoBulkAll elems + uptoBulkAll spare + 1
  | .agg parts => uptoBulkAll parts + 1
  | .iface _ d => uptoBulk d + 1
  | .map entries => uptoBulkEntries entries + 1
  | .held _ => 1
def uptoBulkAll {H : Type} : List (DataW H) → Nat
  | [] => 0
  | d :: r => uptoBulk d + uptoBulkAll r
def uptoBulkEntries {H : Type} : List (Lit × DataW H) → Nat
  | [] => 0
  | x :: r => uptoBulkEntry x + uptoBulkEntries r
def uptoBulkEntry {H : Type} : Lit × DataW H → Nat
  | (.string bytes, d) => bytes.length + uptoBulk d + 1
  | (_, d) => uptoBulk d + 1
 end
def uptoSmall : (H : Type) → List (DataW H) → Bool := fun _ ds => decide (uptoBulkAll ds ≤ 1048576)
def OpenSpec.upto (s : _root_.Go.ChangeSpec) : _root_.Go.OpenSpec := { _root_.Go.OpenSpec.ofChange s with cond := some uptoSmall }

/-- 'cofferlaw07.MirrorNil', WHERE WHAT IT READS IS OF BULK AT MOST 1048576: true; the input reads as it did. -/
def mirrorNilUptoRow : OpenClaim := { program := "ytjgagcpmoffldaa", sum := "de4b3a3325ea4b7421a85d92190b1a78c512a9a43e485a3f0da6cd3f097c80d9", func := "coffer/cofferlaw07.MirrorNil", spec := "mirrorNil", inPlace := ["internal/abi.NoEscape", "internal/bytealg.MakeNoZero"], unfollowed := true, recurses := true, apart := false, narrowed := true }
def MirrorNilUptoSaid : Prop := mirrorNilUptoRow.holds Try.pinned (OpenSpec.upto mirrorNilSpec)

/-- 'cofferlaw07.MirrorKeeps', WHERE WHAT IT READS IS OF BULK AT MOST 1048576: true; the input reads as it did. -/
def mirrorKeepsUptoRow : OpenClaim := { program := "ytjgagcpmoffldaa", sum := "de4b3a3325ea4b7421a85d92190b1a78c512a9a43e485a3f0da6cd3f097c80d9", func := "coffer/cofferlaw07.MirrorKeeps", spec := "mirrorKeeps", inPlace := ["internal/abi.NoEscape", "internal/bytealg.MakeNoZero"], unfollowed := true, recurses := true, apart := false, narrowed := true }
def MirrorKeepsUptoSaid : Prop := mirrorKeepsUptoRow.holds Try.pinned (OpenSpec.upto mirrorKeepsSpec)

end Rows
end Go.Proofs.Ytjgagcpmoffldaa
