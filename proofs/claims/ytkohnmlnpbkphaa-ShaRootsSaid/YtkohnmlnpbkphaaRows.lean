/-
  No cell of these rows narrows 'for every input' (looked for: loops, veiled, ifaces, maps, wideKeys, modest, calm, conditions, laid).
  DERIVED. THE GIVEN ROWS OF THIS SEAT. 7 by the template 'for every input the law returns true; each argument reads behind the call as it read before'; 0 by the template 'total and deterministic' (their statements: YtkohnmlnpbkphaaTotals.lean).
  GIVEN WITH THE SEED: the statements are not yours to turn. If you find one false, say at which input.
  Laid BY PROGRAM, IN A SANDBOX (cutbox-rows.mjs): the forced cells as the released guide's own fill.sh prints them over the translation 319364287966463e… (all of the seat's roots in one cut). By AI agents, Wed Nov 11 2026. No macro, syntax, notation, axiom, sorry.
-/
import Derived.Test.YtkohnmlnpbkphaaChecked
import GoSem.Claim
import GoSem.ClaimJoined
import GoSem.ClaimMapViews
import Derived.JoinedTies
import Derived.KernelRfl
namespace Go.Proofs.Ytkohnmlnpbkphaa
/- THE CELL 'sum', in the pinned program and in every row, IS THE sha256 OF THE DUMP (.gsa) THAT YtkohnmlnpbkphaaProg.lean LOADS. Nothing in Lean hashes anything: it is a label: what it is worth is what the hold of that sum in a sandbox is worth. -/
noncomputable def Try.pinned : Pinned := { name := "ytkohnmlnpbkphaa", sum := "319364287966463e37684a1910f2bf95bbb15331e5e9eda7753a5e01dce5db76", checked := Try.checked }
namespace Rows
def none {H : Type} : Left H := { results := [], args := [] }

/-- 'cofferlaw01.ShaOfs': WHATEVER THE INPUT: true; the input reads as it did. -/
def shaOfsSpec : ChangeSpec := { name := "shaOfs", fn := fun _ => fun
  | [d] => { results := [.lit (.bool true)], args := [d] }
  | _ => none }
def shaOfsRow : OpenClaim := { program := "ytkohnmlnpbkphaa", sum := "319364287966463e37684a1910f2bf95bbb15331e5e9eda7753a5e01dce5db76", func := "coffer/cofferlaw01.ShaOfs", spec := "shaOfs", unfollowed := true, recurses := true, apart := false }
def ShaOfsSaid : Prop := shaOfsRow.holds Try.pinned (OpenSpec.ofChange shaOfsSpec)

/-- ITS FALSE NEIGHBOUR: 'it returns false'. Refute it at one input. -/
def shaOfsWrong : ChangeSpec := { name := "shaOfs", fn := fun _ => fun
  | [d] => { results := [.lit (.bool false)], args := [d] }
  | _ => none }
def ShaOfsWrongFalsely : Prop := shaOfsRow.holds Try.pinned (OpenSpec.ofChange shaOfsWrong)

/-- 'cofferlaw01.ShaRoots': WHATEVER THE INPUT: true; the input reads as it did. -/
def shaRootsSpec : ChangeSpec := { name := "shaRoots", fn := fun _ => fun
  | [d1, d2, d3] => { results := [.lit (.bool true)], args := [d1, d2, d3] }
  | _ => none }
def shaRootsRow : OpenClaim := { program := "ytkohnmlnpbkphaa", sum := "319364287966463e37684a1910f2bf95bbb15331e5e9eda7753a5e01dce5db76", func := "coffer/cofferlaw01.ShaRoots", spec := "shaRoots", unfollowed := true, recurses := true, apart := false }
def ShaRootsSaid : Prop := shaRootsRow.holds Try.pinned (OpenSpec.ofChange shaRootsSpec)

/-- ITS FALSE NEIGHBOUR: 'it returns false'. Refute it at one input. -/
def shaRootsWrong : ChangeSpec := { name := "shaRoots", fn := fun _ => fun
  | [d1, d2, d3] => { results := [.lit (.bool false)], args := [d1, d2, d3] }
  | _ => none }
def ShaRootsWrongFalsely : Prop := shaRootsRow.holds Try.pinned (OpenSpec.ofChange shaRootsWrong)

/-- 'cofferlaw01.ShaTexts': WHATEVER THE INPUT: true; the input reads as it did. -/
def shaTextsSpec : ChangeSpec := { name := "shaTexts", fn := fun _ => fun
  | [d1, d2] => { results := [.lit (.bool true)], args := [d1, d2] }
  | _ => none }
def shaTextsRow : OpenClaim := { program := "ytkohnmlnpbkphaa", sum := "319364287966463e37684a1910f2bf95bbb15331e5e9eda7753a5e01dce5db76", func := "coffer/cofferlaw01.ShaTexts", spec := "shaTexts", unfollowed := true, recurses := true, apart := false }
def ShaTextsSaid : Prop := shaTextsRow.holds Try.pinned (OpenSpec.ofChange shaTextsSpec)

/-- ITS FALSE NEIGHBOUR: 'it returns false'. Refute it at one input. -/
def shaTextsWrong : ChangeSpec := { name := "shaTexts", fn := fun _ => fun
  | [d1, d2] => { results := [.lit (.bool false)], args := [d1, d2] }
  | _ => none }
def ShaTextsWrongFalsely : Prop := shaTextsRow.holds Try.pinned (OpenSpec.ofChange shaTextsWrong)

/-- 'cofferlaw01.ShaPieces': WHATEVER THE INPUT: true; the input reads as it did. -/
def shaPiecesSpec : ChangeSpec := { name := "shaPieces", fn := fun _ => fun
  | [d1, d2] => { results := [.lit (.bool true)], args := [d1, d2] }
  | _ => none }
def shaPiecesRow : OpenClaim := { program := "ytkohnmlnpbkphaa", sum := "319364287966463e37684a1910f2bf95bbb15331e5e9eda7753a5e01dce5db76", func := "coffer/cofferlaw01.ShaPieces", spec := "shaPieces", unfollowed := true, recurses := true, apart := false }
def ShaPiecesSaid : Prop := shaPiecesRow.holds Try.pinned (OpenSpec.ofChange shaPiecesSpec)

/-- ITS FALSE NEIGHBOUR: 'it returns false'. Refute it at one input. -/
def shaPiecesWrong : ChangeSpec := { name := "shaPieces", fn := fun _ => fun
  | [d1, d2] => { results := [.lit (.bool false)], args := [d1, d2] }
  | _ => none }
def ShaPiecesWrongFalsely : Prop := shaPiecesRow.holds Try.pinned (OpenSpec.ofChange shaPiecesWrong)

/-- 'cofferlaw01.ShaFull': WHATEVER THE INPUT: true; the input reads as it did. -/
def shaFullSpec : ChangeSpec := { name := "shaFull", fn := fun _ => fun
  | [d] => { results := [.lit (.bool true)], args := [d] }
  | _ => none }
def shaFullRow : OpenClaim := { program := "ytkohnmlnpbkphaa", sum := "319364287966463e37684a1910f2bf95bbb15331e5e9eda7753a5e01dce5db76", func := "coffer/cofferlaw01.ShaFull", spec := "shaFull", unfollowed := true, recurses := true, apart := false }
def ShaFullSaid : Prop := shaFullRow.holds Try.pinned (OpenSpec.ofChange shaFullSpec)

/-- ITS FALSE NEIGHBOUR: 'it returns false'. Refute it at one input. -/
def shaFullWrong : ChangeSpec := { name := "shaFull", fn := fun _ => fun
  | [d] => { results := [.lit (.bool false)], args := [d] }
  | _ => none }
def ShaFullWrongFalsely : Prop := shaFullRow.holds Try.pinned (OpenSpec.ofChange shaFullWrong)

/-- 'cofferlaw01.ShaBooks': WHATEVER THE INPUT: true; the input reads as it did. -/
def shaBooksSpec : ChangeSpec := { name := "shaBooks", fn := fun _ => fun
  | [d] => { results := [.lit (.bool true)], args := [d] }
  | _ => none }
def shaBooksRow : OpenClaim := { program := "ytkohnmlnpbkphaa", sum := "319364287966463e37684a1910f2bf95bbb15331e5e9eda7753a5e01dce5db76", func := "coffer/cofferlaw01.ShaBooks", spec := "shaBooks", unfollowed := true, recurses := true, apart := false }
def ShaBooksSaid : Prop := shaBooksRow.holds Try.pinned (OpenSpec.ofChange shaBooksSpec)

/-- ITS FALSE NEIGHBOUR: 'it returns false'. Refute it at one input. -/
def shaBooksWrong : ChangeSpec := { name := "shaBooks", fn := fun _ => fun
  | [d] => { results := [.lit (.bool false)], args := [d] }
  | _ => none }
def ShaBooksWrongFalsely : Prop := shaBooksRow.holds Try.pinned (OpenSpec.ofChange shaBooksWrong)

/-- 'cofferlaw01.ShaNil': WHATEVER THE INPUT: true; the input reads as it did. -/
def shaNilSpec : ChangeSpec := { name := "shaNil", fn := fun _ => fun
  | [d] => { results := [.lit (.bool true)], args := [d] }
  | _ => none }
def shaNilRow : OpenClaim := { program := "ytkohnmlnpbkphaa", sum := "319364287966463e37684a1910f2bf95bbb15331e5e9eda7753a5e01dce5db76", func := "coffer/cofferlaw01.ShaNil", spec := "shaNil", unfollowed := true, recurses := true, apart := false }
def ShaNilSaid : Prop := shaNilRow.holds Try.pinned (OpenSpec.ofChange shaNilSpec)

/-- ITS FALSE NEIGHBOUR: 'it returns false'. Refute it at one input. -/
def shaNilWrong : ChangeSpec := { name := "shaNil", fn := fun _ => fun
  | [d] => { results := [.lit (.bool false)], args := [d] }
  | _ => none }
def ShaNilWrongFalsely : Prop := shaNilRow.holds Try.pinned (OpenSpec.ofChange shaNilWrong)

/- THE SECOND FORM. 'bulk': how many values and letters a reading holds, each counted each time it is reached (what is shared counts as often as it is met; a slice's spare places count too). A statement '..UptoSaid' is the law's where the arguments, and the package variables that the reading takes, are together of bulk at most 1048576: NARROWER than '..Said'. Prove '..Said' where nothing that the law and all that it calls make is longer than what came in: it says more and counts as full. Else prove '..UptoSaid'. A law counts once. -/
mutual
def uptoBulk {H : Type} : DataW H → Nat
  | .lit (.string bytes) => bytes.length + 1
  | .lit _ => 1
  | .nil => 1
  | .ptr d => uptoBulk d + 1
  | .slice elems spare => uptoBulkAll elems + uptoBulkAll spare + 1
  | .agg parts => uptoBulkAll parts + 1
  | .iface _ d => uptoBulk d + 1
  | .map entries => uptoBulkEntries entries + 1
  | .held _ => 1
def uptoBulkAll {H : Type} : List (DataW H) → Nat
  | [] => 0
  | d :: r => uptoBulk d + uptoBulkAll r
def uptoBulkEntries {H : Type} : List (Lit × DataW H) → Nat
  | [] => 0
  | x :: r => uptoBulkEntry x + uptoBulkEntries r
def uptoBulkEntry {H : Type} : Lit × DataW H → Nat
  | (.string bytes, d) => bytes.length + uptoBulk d + 1
  | (_, d) => uptoBulk d + 1
 end
def uptoSmall : (H : Type) → List (DataW H) → Bool := fun _ ds => decide (uptoBulkAll ds ≤ 1048576)
def OpenSpec.upto (s : _root_.Go.ChangeSpec) : _root_.Go.OpenSpec := { _root_.Go.OpenSpec.ofChange s with cond := some uptoSmall }

/-- 'cofferlaw01.ShaOfs', WHERE WHAT IT READS IS OF BULK AT MOST 1048576: true; the input reads as it did. -/
def shaOfsUptoRow : OpenClaim := { program := "ytkohnmlnpbkphaa", sum := "319364287966463e37684a1910f2bf95bbb15331e5e9eda7753a5e01dce5db76", func := "coffer/cofferlaw01.ShaOfs", spec := "shaOfs", unfollowed := true, recurses := true, apart := false, narrowed := true }
def ShaOfsUptoSaid : Prop := shaOfsUptoRow.holds Try.pinned (OpenSpec.upto shaOfsSpec)

/-- 'cofferlaw01.ShaRoots', WHERE WHAT IT READS IS OF BULK AT MOST 1048576: true; the input reads as it did. -/
def shaRootsUptoRow : OpenClaim := { program := "ytkohnmlnpbkphaa", sum := "319364287966463e37684a1910f2bf95bbb15331e5e9eda7753a5e01dce5db76", func := "coffer/cofferlaw01.ShaRoots", spec := "shaRoots", unfollowed := true, recurses := true, apart := false, narrowed := true }
def ShaRootsUptoSaid : Prop := shaRootsUptoRow.holds Try.pinned (OpenSpec.upto shaRootsSpec)

/-- 'cofferlaw01.ShaTexts', WHERE WHAT IT READS IS OF BULK AT MOST 1048576: true; the input reads as it did. -/
def shaTextsUptoRow : OpenClaim := { program := "ytkohnmlnpbkphaa", sum := "319364287966463e37684a1910f2bf95bbb15331e5e9eda7753a5e01dce5db76", func := "coffer/cofferlaw01.ShaTexts", spec := "shaTexts", unfollowed := true, recurses := true, apart := false, narrowed := true }
def ShaTextsUptoSaid : Prop := shaTextsUptoRow.holds Try.pinned (OpenSpec.upto shaTextsSpec)

/-- 'cofferlaw01.ShaPieces', WHERE WHAT IT READS IS OF BULK AT MOST 1048576: true; the input reads as it did. -/
def shaPiecesUptoRow : OpenClaim := { program := "ytkohnmlnpbkphaa", sum := "319364287966463e37684a1910f2bf95bbb15331e5e9eda7753a5e01dce5db76", func := "coffer/cofferlaw01.ShaPieces", spec := "shaPieces", unfollowed := true, recurses := true, apart := false, narrowed := true }
def ShaPiecesUptoSaid : Prop := shaPiecesUptoRow.holds Try.pinned (OpenSpec.upto shaPiecesSpec)

/-- 'cofferlaw01.ShaFull', WHERE WHAT IT READS IS OF BULK AT MOST 1048576: true; the input reads as it did. -/
def shaFullUptoRow : OpenClaim := { program := "ytkohnmlnpbkphaa", sum := "319364287966463e37684a1910f2bf95bbb15331e5e9eda7753a5e01dce5db76", func := "coffer/cofferlaw01.ShaFull", spec := "shaFull", unfollowed := true, recurses := true, apart := false, narrowed := true }
def ShaFullUptoSaid : Prop := shaFullUptoRow.holds Try.pinned (OpenSpec.upto shaFullSpec)

/-- 'cofferlaw01.ShaBooks', WHERE WHAT IT READS IS OF BULK AT MOST 1048576: true; the input reads as it did. -/
def shaBooksUptoRow : OpenClaim := { program := "ytkohnmlnpbkphaa", sum := "319364287966463e37684a1910f2bf95bbb15331e5e9eda7753a5e01dce5db76", func := "coffer/cofferlaw01.ShaBooks", spec := "shaBooks", unfollowed := true, recurses := true, apart := false, narrowed := true }
def ShaBooksUptoSaid : Prop := shaBooksUptoRow.holds Try.pinned (OpenSpec.upto shaBooksSpec)

/-- 'cofferlaw01.ShaNil', WHERE WHAT IT READS IS OF BULK AT MOST 1048576: true; the input reads as it did. -/
def shaNilUptoRow : OpenClaim := { program := "ytkohnmlnpbkphaa", sum := "319364287966463e37684a1910f2bf95bbb15331e5e9eda7753a5e01dce5db76", func := "coffer/cofferlaw01.ShaNil", spec := "shaNil", unfollowed := true, recurses := true, apart := false, narrowed := true }
def ShaNilUptoSaid : Prop := shaNilUptoRow.holds Try.pinned (OpenSpec.upto shaNilSpec)

end Rows
end Go.Proofs.Ytkohnmlnpbkphaa
