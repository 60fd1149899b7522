/-
  DERIVED. GIVEN WITH THE SEED: THE CARDS: each row of YtneoagelcjfanaaDoorRows.lean that lists a variable, with what it lists TIED to the program's text (the seventh form; the later family's looks); each row that meets fmt, with fmt's text TOLD by the authors' own Lean function (tested against real Go, not proved from fmt's source: count such statements apart). THE CARD IS WHAT COUNTS. Prove the row's statement (the work); the ties are given (YtneoagelcjfanaaDoorTie.lean); close each card by the builder's one call (the guide's Derived/Test/ToyasCard.lean, 'card_holds'). Laid BY PROGRAM, IN A SANDBOX (cutbox-door.mjs). By AI agents, Wed Nov 11 2026. No macro, syntax, notation, axiom, sorry.
-/
import Derived.Test.YtneoagelcjfanaaDoorRows
import GoSem.ClaimSeven
namespace Go.Proofs.YtneoagelcjfanaaDoor
namespace Rows

/-- THE TIED CARD OF 'cofferlaw22.ChannelWhole'. -/
def channelWholeCard : Claim7 := { stood := { row := channelWholeRow, standIns := [], harness := (true, "e2e40019ef343a176271a106dc4db0700802d8c794849ef51ffa6ac193deb613"), looks := true }, kinds := [], alts := [], laidByText := true, laidKinds := [.data, .data, .data], laidTests := true, laidLooks := .later }
def ChannelWholeCardSaid : Prop := Claim7.holds Tryd.pinned (.plain (OpenSpec.ofChange channelWholeSpec)) channelWholeCard

/-- THE TIED CARD OF 'cofferlaw22.ChannelNone'. -/
def channelNoneCard : Claim7 := { stood := { row := channelNoneRow, standIns := [], harness := (true, "e2e40019ef343a176271a106dc4db0700802d8c794849ef51ffa6ac193deb613"), looks := true }, kinds := [], alts := [], laidByText := true, laidKinds := [.data, .data, .data], laidTests := true, laidLooks := .later }
def ChannelNoneCardSaid : Prop := Claim7.holds Tryd.pinned (.plain (OpenSpec.ofChange channelNoneSpec)) channelNoneCard

/-- THE SECOND FORM's CARD OF 'cofferlaw22.ChannelWhole'. -/
def channelWholeUptoCard : Claim7 := { stood := { row := channelWholeUptoRow, standIns := [], harness := (true, "e2e40019ef343a176271a106dc4db0700802d8c794849ef51ffa6ac193deb613"), looks := true }, kinds := [], alts := [], laidByText := true, laidKinds := [.data, .data, .data], laidTests := true, laidLooks := .later }
def ChannelWholeUptoCardSaid : Prop := Claim7.holds Tryd.pinned (.plain (OpenSpec.upto channelWholeSpec)) channelWholeUptoCard

/-- THE SECOND FORM's CARD OF 'cofferlaw22.ChannelNone'. -/
def channelNoneUptoCard : Claim7 := { stood := { row := channelNoneUptoRow, standIns := [], harness := (true, "e2e40019ef343a176271a106dc4db0700802d8c794849ef51ffa6ac193deb613"), looks := true }, kinds := [], alts := [], laidByText := true, laidKinds := [.data, .data, .data], laidTests := true, laidLooks := .later }
def ChannelNoneUptoCardSaid : Prop := Claim7.holds Tryd.pinned (.plain (OpenSpec.upto channelNoneSpec)) channelNoneUptoCard
end Rows
end Go.Proofs.YtneoagelcjfanaaDoor
