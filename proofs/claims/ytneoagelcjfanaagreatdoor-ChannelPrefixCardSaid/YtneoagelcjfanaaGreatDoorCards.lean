/-
  DERIVED. GIVEN WITH THE SEED: THE CARDS: each row of YtneoagelcjfanaaGreatDoorRows.lean that lists a variable, with what it lists TIED to the program's text (the seventh form; the later family's looks); each row that meets fmt, with fmt's text TOLD by the authors' own Lean function (tested against real Go, not proved from fmt's source: count such statements apart). THE CARD IS WHAT COUNTS. Prove the row's statement (the work); the ties are given (YtneoagelcjfanaaGreatDoorTie.lean); close each card by the builder's one call (the guide's Derived/Test/ToyasCard.lean, 'card_holds'). Laid BY PROGRAM, IN A SANDBOX (cutbox-door.mjs). By AI agents, Wed Nov 11 2026. No macro, syntax, notation, axiom, sorry.
-/
import Derived.Test.YtneoagelcjfanaaGreatDoorRows
import GoSem.ClaimSeven
namespace Go.Proofs.YtneoagelcjfanaaGreatDoor
namespace Rows

/-- THE TIED CARD OF 'cofferlaw22.ChannelSends'. -/
def channelSendsCard : Claim7 := { stood := { row := channelSendsRow, standIns := [], harness := (true, "14715dc97f91aa4ab1c327a9d6cd06e0783a058354d370c088dacfaab19a1d31"), looks := true }, kinds := [], alts := [], laidByText := true, laidKinds := [.data, .data, .data], laidTests := true, laidLooks := .later }
def ChannelSendsCardSaid : Prop := Claim7.holds Tryz.pinned (.plain (OpenSpec.ofChange channelSendsSpec)) channelSendsCard

/-- THE TIED CARD OF 'cofferlaw22.ChannelTakes'. -/
def channelTakesCard : Claim7 := { stood := { row := channelTakesRow, standIns := [], harness := (true, "14715dc97f91aa4ab1c327a9d6cd06e0783a058354d370c088dacfaab19a1d31"), looks := true }, kinds := [], alts := [], laidByText := true, laidKinds := [.data, .data, .data], laidTests := true, laidLooks := .later }
def ChannelTakesCardSaid : Prop := Claim7.holds Tryz.pinned (.plain (OpenSpec.ofChange channelTakesSpec)) channelTakesCard

/-- THE TIED CARD OF 'cofferlaw22.ChannelPrefix'. -/
def channelPrefixCard : Claim7 := { stood := { row := channelPrefixRow, standIns := [], harness := (true, "14715dc97f91aa4ab1c327a9d6cd06e0783a058354d370c088dacfaab19a1d31"), looks := true }, kinds := [], alts := [], laidByText := true, laidKinds := [.data, .data, .data], laidTests := true, laidLooks := .later }
def ChannelPrefixCardSaid : Prop := Claim7.holds Tryz.pinned (.plain (OpenSpec.ofChange channelPrefixSpec)) channelPrefixCard

/-- THE SECOND FORM's CARD OF 'cofferlaw22.ChannelSends'. -/
def channelSendsUptoCard : Claim7 := { stood := { row := channelSendsUptoRow, standIns := [], harness := (true, "14715dc97f91aa4ab1c327a9d6cd06e0783a058354d370c088dacfaab19a1d31"), looks := true }, kinds := [], alts := [], laidByText := true, laidKinds := [.data, .data, .data], laidTests := true, laidLooks := .later }
def ChannelSendsUptoCardSaid : Prop := Claim7.holds Tryz.pinned (.plain (OpenSpec.upto channelSendsSpec)) channelSendsUptoCard

/-- THE SECOND FORM's CARD OF 'cofferlaw22.ChannelTakes'. -/
def channelTakesUptoCard : Claim7 := { stood := { row := channelTakesUptoRow, standIns := [], harness := (true, "14715dc97f91aa4ab1c327a9d6cd06e0783a058354d370c088dacfaab19a1d31"), looks := true }, kinds := [], alts := [], laidByText := true, laidKinds := [.data, .data, .data], laidTests := true, laidLooks := .later }
def ChannelTakesUptoCardSaid : Prop := Claim7.holds Tryz.pinned (.plain (OpenSpec.upto channelTakesSpec)) channelTakesUptoCard

/-- THE SECOND FORM's CARD OF 'cofferlaw22.ChannelPrefix'. -/
def channelPrefixUptoCard : Claim7 := { stood := { row := channelPrefixUptoRow, standIns := [], harness := (true, "14715dc97f91aa4ab1c327a9d6cd06e0783a058354d370c088dacfaab19a1d31"), looks := true }, kinds := [], alts := [], laidByText := true, laidKinds := [.data, .data, .data], laidTests := true, laidLooks := .later }
def ChannelPrefixUptoCardSaid : Prop := Claim7.holds Tryz.pinned (.plain (OpenSpec.upto channelPrefixSpec)) channelPrefixUptoCard
end Rows
end Go.Proofs.YtneoagelcjfanaaGreatDoor
