/-
  DERIVED. GIVEN WITH THE SEED: THE CARDS: each row of YtabbonafljochaaGreatDoorRows.lean that lists a variable, with what it lists TIED to the program's text (the seventh form; the later family's looks); each row that meets fmt, with fmt's text TOLD by the authors' own Lean function (tested against real Go, not proved from fmt's source: count such statements apart). THE CARD IS WHAT COUNTS. Prove the row's statement (the work); the ties are given (YtabbonafljochaaGreatDoorTie.lean); close each card by the builder's one call (the guide's Derived/Test/ToyasCard.lean, 'card_holds'). Laid BY PROGRAM, IN A SANDBOX (cutbox-door.mjs). By AI agents, Wed Nov 11 2026. No macro, syntax, notation, axiom, sorry.
-/
import Derived.Test.YtabbonafljochaaGreatDoorRows
import GoSem.ClaimSeven
namespace Go.Proofs.YtabbonafljochaaGreatDoor
namespace Rows

/-- THE TIED CARD OF 'ingotlaw13.ChannelOrders'. -/
def channelOrdersCard : Claim7 := { stood := { row := channelOrdersRow, standIns := [], harness := (true, "f006be7c141b6252c0db7e03c9f5c7a10a74ddaca1f854eb09c10ac3104ce685"), looks := true }, kinds := [], alts := [], laidByText := true, laidKinds := [.data, .data, .data], laidTests := true, laidLooks := .later }
def ChannelOrdersCardSaid : Prop := Claim7.holds Tryz.pinned (.plain (OpenSpec.ofChange channelOrdersSpec)) channelOrdersCard

/-- THE TIED CARD OF 'ingotlaw13.ChannelNeeds'. -/
def channelNeedsCard : Claim7 := { stood := { row := channelNeedsRow, standIns := [], harness := (true, "f006be7c141b6252c0db7e03c9f5c7a10a74ddaca1f854eb09c10ac3104ce685"), looks := true }, kinds := [], alts := [], laidByText := true, laidKinds := [.data, .data, .data], laidTests := true, laidLooks := .later }
def ChannelNeedsCardSaid : Prop := Claim7.holds Tryz.pinned (.plain (OpenSpec.ofChange channelNeedsSpec)) channelNeedsCard

/-- THE TIED CARD OF 'ingotlaw13.ChannelPlays'. -/
def channelPlaysCard : Claim7 := { stood := { row := channelPlaysRow, standIns := [], harness := (true, "f006be7c141b6252c0db7e03c9f5c7a10a74ddaca1f854eb09c10ac3104ce685"), looks := true }, kinds := [], alts := [], laidByText := true, laidKinds := [.data, .data, .data], laidTests := true, laidLooks := .later }
def ChannelPlaysCardSaid : Prop := Claim7.holds Tryz.pinned (.plain (OpenSpec.ofChange channelPlaysSpec)) channelPlaysCard

/-- THE TIED CARD OF 'ingotlaw13.ChannelNobody'. -/
def channelNobodyCard : Claim7 := { stood := { row := channelNobodyRow, standIns := [], harness := (true, "f006be7c141b6252c0db7e03c9f5c7a10a74ddaca1f854eb09c10ac3104ce685"), looks := true }, kinds := [], alts := [], laidByText := true, laidKinds := [.data, .data, .data], laidTests := true, laidLooks := .later }
def ChannelNobodyCardSaid : Prop := Claim7.holds Tryz.pinned (.plain (OpenSpec.ofChange channelNobodySpec)) channelNobodyCard

/-- THE SECOND FORM's CARD OF 'ingotlaw13.ChannelOrders'. -/
def channelOrdersUptoCard : Claim7 := { stood := { row := channelOrdersUptoRow, standIns := [], harness := (true, "f006be7c141b6252c0db7e03c9f5c7a10a74ddaca1f854eb09c10ac3104ce685"), looks := true }, kinds := [], alts := [], laidByText := true, laidKinds := [.data, .data, .data], laidTests := true, laidLooks := .later }
def ChannelOrdersUptoCardSaid : Prop := Claim7.holds Tryz.pinned (.plain (OpenSpec.upto channelOrdersSpec)) channelOrdersUptoCard

/-- THE SECOND FORM's CARD OF 'ingotlaw13.ChannelNeeds'. -/
def channelNeedsUptoCard : Claim7 := { stood := { row := channelNeedsUptoRow, standIns := [], harness := (true, "f006be7c141b6252c0db7e03c9f5c7a10a74ddaca1f854eb09c10ac3104ce685"), looks := true }, kinds := [], alts := [], laidByText := true, laidKinds := [.data, .data, .data], laidTests := true, laidLooks := .later }
def ChannelNeedsUptoCardSaid : Prop := Claim7.holds Tryz.pinned (.plain (OpenSpec.upto channelNeedsSpec)) channelNeedsUptoCard

/-- THE SECOND FORM's CARD OF 'ingotlaw13.ChannelPlays'. -/
def channelPlaysUptoCard : Claim7 := { stood := { row := channelPlaysUptoRow, standIns := [], harness := (true, "f006be7c141b6252c0db7e03c9f5c7a10a74ddaca1f854eb09c10ac3104ce685"), looks := true }, kinds := [], alts := [], laidByText := true, laidKinds := [.data, .data, .data], laidTests := true, laidLooks := .later }
def ChannelPlaysUptoCardSaid : Prop := Claim7.holds Tryz.pinned (.plain (OpenSpec.upto channelPlaysSpec)) channelPlaysUptoCard

/-- THE SECOND FORM's CARD OF 'ingotlaw13.ChannelNobody'. -/
def channelNobodyUptoCard : Claim7 := { stood := { row := channelNobodyUptoRow, standIns := [], harness := (true, "f006be7c141b6252c0db7e03c9f5c7a10a74ddaca1f854eb09c10ac3104ce685"), looks := true }, kinds := [], alts := [], laidByText := true, laidKinds := [.data, .data, .data], laidTests := true, laidLooks := .later }
def ChannelNobodyUptoCardSaid : Prop := Claim7.holds Tryz.pinned (.plain (OpenSpec.upto channelNobodySpec)) channelNobodyUptoCard
end Rows
end Go.Proofs.YtabbonafljochaaGreatDoor
