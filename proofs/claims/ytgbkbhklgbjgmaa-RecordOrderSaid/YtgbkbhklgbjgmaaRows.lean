/-
  No cell of these rows narrows 'for every input' (looked for: loops, veiled, ifaces, maps, wideKeys, modest, calm, conditions, laid).
  DERIVED. THE GIVEN ROWS OF THIS SEAT. 5 by the template 'for every input the law returns true; each argument reads behind the call as it read before'; 0 by the template 'total and deterministic' (their statements: YtgbkbhklgbjgmaaTotals.lean).
  GIVEN WITH THE SEED: the statements are not yours to turn. If you find one false, say at which input.
  Laid BY PROGRAM, IN A SANDBOX (cutbox-rows.mjs): the forced cells as the released guide's own fill.sh prints them over the translation 7992bcf0f22f9829… (all of the seat's roots in one cut). By AI agents, Wed Nov 11 2026. No macro, syntax, notation, axiom, sorry.
-/
import Derived.Test.YtgbkbhklgbjgmaaChecked
import GoSem.Claim
import GoSem.ClaimJoined
import GoSem.ClaimMapViews
import Derived.JoinedTies
import Derived.KernelRfl
namespace Go.Proofs.Ytgbkbhklgbjgmaa
/- THE CELL 'sum', in the pinned program and in every row, IS THE sha256 OF THE DUMP (.gsa) THAT YtgbkbhklgbjgmaaProg.lean LOADS. Nothing in Lean hashes anything: it is a label: what it is worth is what the hold of that sum in a sandbox is worth. -/
noncomputable def Try.pinned : Pinned := { name := "ytgbkbhklgbjgmaa", sum := "7992bcf0f22f982992f83a8bf8c1aebf716769ce6995d3df7861957549f6ff05", checked := Try.checked }
namespace Rows
def none {H : Type} : Left H := { results := [], args := [] }

/-- 'cofferlaw21.RecordSeals': WHATEVER THE INPUT: true; the input reads as it did. -/
def recordSealsSpec : ChangeSpec := { name := "recordSeals", fn := fun _ => fun
  | [d1, d2, d3, d4] => { results := [.lit (.bool true)], args := [d1, d2, d3, d4] }
  | _ => none }
def recordSealsRow : OpenClaim := { program := "ytgbkbhklgbjgmaa", sum := "7992bcf0f22f982992f83a8bf8c1aebf716769ce6995d3df7861957549f6ff05", func := "coffer/cofferlaw21.RecordSeals", spec := "recordSeals", unfollowed := true, recurses := true, apart := false }
def RecordSealsSaid : Prop := recordSealsRow.holds Try.pinned (OpenSpec.ofChange recordSealsSpec)

/-- ITS FALSE NEIGHBOUR: 'it returns false'. Refute it at one input. -/
def recordSealsWrong : ChangeSpec := { name := "recordSeals", fn := fun _ => fun
  | [d1, d2, d3, d4] => { results := [.lit (.bool false)], args := [d1, d2, d3, d4] }
  | _ => none }
def RecordSealsWrongFalsely : Prop := recordSealsRow.holds Try.pinned (OpenSpec.ofChange recordSealsWrong)

/-- 'cofferlaw21.RecordOpens': WHATEVER THE INPUT: true; the input reads as it did. -/
def recordOpensSpec : ChangeSpec := { name := "recordOpens", fn := fun _ => fun
  | [d1, d2, d3, d4] => { results := [.lit (.bool true)], args := [d1, d2, d3, d4] }
  | _ => none }
def recordOpensRow : OpenClaim := { program := "ytgbkbhklgbjgmaa", sum := "7992bcf0f22f982992f83a8bf8c1aebf716769ce6995d3df7861957549f6ff05", func := "coffer/cofferlaw21.RecordOpens", spec := "recordOpens", unfollowed := true, recurses := true, apart := false }
def RecordOpensSaid : Prop := recordOpensRow.holds Try.pinned (OpenSpec.ofChange recordOpensSpec)

/-- ITS FALSE NEIGHBOUR: 'it returns false'. Refute it at one input. -/
def recordOpensWrong : ChangeSpec := { name := "recordOpens", fn := fun _ => fun
  | [d1, d2, d3, d4] => { results := [.lit (.bool false)], args := [d1, d2, d3, d4] }
  | _ => none }
def RecordOpensWrongFalsely : Prop := recordOpensRow.holds Try.pinned (OpenSpec.ofChange recordOpensWrong)

/-- 'cofferlaw21.RecordOrder': WHATEVER THE INPUT: true; the input reads as it did. -/
def recordOrderSpec : ChangeSpec := { name := "recordOrder", fn := fun _ => fun
  | [d1, d2] => { results := [.lit (.bool true)], args := [d1, d2] }
  | _ => none }
def recordOrderRow : OpenClaim := { program := "ytgbkbhklgbjgmaa", sum := "7992bcf0f22f982992f83a8bf8c1aebf716769ce6995d3df7861957549f6ff05", func := "coffer/cofferlaw21.RecordOrder", spec := "recordOrder", unfollowed := true, recurses := true, apart := false }
def RecordOrderSaid : Prop := recordOrderRow.holds Try.pinned (OpenSpec.ofChange recordOrderSpec)

/-- ITS FALSE NEIGHBOUR: 'it returns false'. Refute it at one input. -/
def recordOrderWrong : ChangeSpec := { name := "recordOrder", fn := fun _ => fun
  | [d1, d2] => { results := [.lit (.bool false)], args := [d1, d2] }
  | _ => none }
def RecordOrderWrongFalsely : Prop := recordOrderRow.holds Try.pinned (OpenSpec.ofChange recordOrderWrong)

/-- 'cofferlaw21.RecordSizes': WHATEVER THE INPUT: true; the input reads as it did. -/
def recordSizesSpec : ChangeSpec := { name := "recordSizes", fn := fun _ => fun
  | [d1, d2] => { results := [.lit (.bool true)], args := [d1, d2] }
  | _ => none }
def recordSizesRow : OpenClaim := { program := "ytgbkbhklgbjgmaa", sum := "7992bcf0f22f982992f83a8bf8c1aebf716769ce6995d3df7861957549f6ff05", func := "coffer/cofferlaw21.RecordSizes", spec := "recordSizes", unfollowed := true, recurses := true, apart := false }
def RecordSizesSaid : Prop := recordSizesRow.holds Try.pinned (OpenSpec.ofChange recordSizesSpec)

/-- ITS FALSE NEIGHBOUR: 'it returns false'. Refute it at one input. -/
def recordSizesWrong : ChangeSpec := { name := "recordSizes", fn := fun _ => fun
  | [d1, d2] => { results := [.lit (.bool false)], args := [d1, d2] }
  | _ => none }
def RecordSizesWrongFalsely : Prop := recordSizesRow.holds Try.pinned (OpenSpec.ofChange recordSizesWrong)

/-- 'cofferlaw21.RecordNone': WHATEVER THE INPUT: true; the input reads as it did. -/
def recordNoneSpec : ChangeSpec := { name := "recordNone", fn := fun _ => fun
  | [d] => { results := [.lit (.bool true)], args := [d] }
  | _ => none }
def recordNoneRow : OpenClaim := { program := "ytgbkbhklgbjgmaa", sum := "7992bcf0f22f982992f83a8bf8c1aebf716769ce6995d3df7861957549f6ff05", func := "coffer/cofferlaw21.RecordNone", spec := "recordNone", unfollowed := true, recurses := true, apart := false }
def RecordNoneSaid : Prop := recordNoneRow.holds Try.pinned (OpenSpec.ofChange recordNoneSpec)

/-- ITS FALSE NEIGHBOUR: 'it returns false'. Refute it at one input. -/
def recordNoneWrong : ChangeSpec := { name := "recordNone", fn := fun _ => fun
  | [d] => { results := [.lit (.bool false)], args := [d] }
  | _ => none }
def RecordNoneWrongFalsely : Prop := recordNoneRow.holds Try.pinned (OpenSpec.ofChange recordNoneWrong)

/- THE SECOND FORM. 'bulk': how many values and letters a reading holds, each counted each time it is reached (what is shared counts as often as it is met; a slice's spare places count too). A statement '..UptoSaid' is the law's where the arguments, and the package variables that the reading takes, are together of bulk at most 1048576: NARROWER than '..Said'. Prove '..Said' where nothing that the law and all that it calls make is longer than what came in: it says more and counts as full. Else prove '..UptoSaid'. A law counts once. -/
mutual
def uptoBulk {H : Type} : DataW H → Nat
  | .lit (.string bytes) => bytes.length + 1
  | .lit _ => 1
  | .nil => 1
  | .ptr d => uptoBulk d + 1
  | .slice elems spare => uptoBulkAll elems + uptoBulkAll spare + 1
  | .agg parts => uptoBulkAll parts + 1
  | .iface _ d => uptoBulk d + 1
  | .map entries => uptoBulkEntries entries + 1
  | .held _ => 1
def uptoBulkAll {H : Type} : List (DataW H) → Nat
  | [] => 0
  | d :: r => uptoBulk d + uptoBulkAll r
def uptoBulkEntries {H : Type} : List (Lit × DataW H) → Nat
  | [] => 0
  | x :: r => uptoBulkEntry x + uptoBulkEntries r
def uptoBulkEntry {H : Type} : Lit × DataW H → Nat
  | (.string bytes, d) => bytes.length + uptoBulk d + 1
  | (_, d) => uptoBulk d + 1
 end
def uptoSmall : (H : Type) → List (DataW H) → Bool := fun _ ds => decide (uptoBulkAll ds ≤ 1048576)
def OpenSpec.upto (s : _root_.Go.ChangeSpec) : _root_.Go.OpenSpec := { _root_.Go.OpenSpec.ofChange s with cond := some uptoSmall }

/-- 'cofferlaw21.RecordSeals', WHERE WHAT IT READS IS OF BULK AT MOST 1048576: true; the input reads as it did. -/
def recordSealsUptoRow : OpenClaim := { program := "ytgbkbhklgbjgmaa", sum := "7992bcf0f22f982992f83a8bf8c1aebf716769ce6995d3df7861957549f6ff05", func := "coffer/cofferlaw21.RecordSeals", spec := "recordSeals", unfollowed := true, recurses := true, apart := false, narrowed := true }
def RecordSealsUptoSaid : Prop := recordSealsUptoRow.holds Try.pinned (OpenSpec.upto recordSealsSpec)

/-- 'cofferlaw21.RecordOpens', WHERE WHAT IT READS IS OF BULK AT MOST 1048576: true; the input reads as it did. -/
def recordOpensUptoRow : OpenClaim := { program := "ytgbkbhklgbjgmaa", sum := "7992bcf0f22f982992f83a8bf8c1aebf716769ce6995d3df7861957549f6ff05", func := "coffer/cofferlaw21.RecordOpens", spec := "recordOpens", unfollowed := true, recurses := true, apart := false, narrowed := true }
def RecordOpensUptoSaid : Prop := recordOpensUptoRow.holds Try.pinned (OpenSpec.upto recordOpensSpec)

/-- 'cofferlaw21.RecordOrder', WHERE WHAT IT READS IS OF BULK AT MOST 1048576: true; the input reads as it did. -/
def recordOrderUptoRow : OpenClaim := { program := "ytgbkbhklgbjgmaa", sum := "7992bcf0f22f982992f83a8bf8c1aebf716769ce6995d3df7861957549f6ff05", func := "coffer/cofferlaw21.RecordOrder", spec := "recordOrder", unfollowed := true, recurses := true, apart := false, narrowed := true }
def RecordOrderUptoSaid : Prop := recordOrderUptoRow.holds Try.pinned (OpenSpec.upto recordOrderSpec)

/-- 'cofferlaw21.RecordSizes', WHERE WHAT IT READS IS OF BULK AT MOST 1048576: true; the input reads as it did. -/
def recordSizesUptoRow : OpenClaim := { program := "ytgbkbhklgbjgmaa", sum := "7992bcf0f22f982992f83a8bf8c1aebf716769ce6995d3df7861957549f6ff05", func := "coffer/cofferlaw21.RecordSizes", spec := "recordSizes", unfollowed := true, recurses := true, apart := false, narrowed := true }
def RecordSizesUptoSaid : Prop := recordSizesUptoRow.holds Try.pinned (OpenSpec.upto recordSizesSpec)

/-- 'cofferlaw21.RecordNone', WHERE WHAT IT READS IS OF BULK AT MOST 1048576: true; the input reads as it did. -/
def recordNoneUptoRow : OpenClaim := { program := "ytgbkbhklgbjgmaa", sum := "7992bcf0f22f982992f83a8bf8c1aebf716769ce6995d3df7861957549f6ff05", func := "coffer/cofferlaw21.RecordNone", spec := "recordNone", unfollowed := true, recurses := true, apart := false, narrowed := true }
def RecordNoneUptoSaid : Prop := recordNoneUptoRow.holds Try.pinned (OpenSpec.upto recordNoneSpec)

end Rows
end Go.Proofs.Ytgbkbhklgbjgmaa
