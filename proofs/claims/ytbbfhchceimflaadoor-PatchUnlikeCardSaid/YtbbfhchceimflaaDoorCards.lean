/-
  DERIVED. GIVEN WITH THE SEED: THE CARDS: each row of YtbbfhchceimflaaDoorRows.lean that lists a variable, with what it lists TIED to the program's text (the seventh form; the later family's looks); each row that meets fmt, with fmt's text TOLD by the authors' own Lean function (tested against real Go, not proved from fmt's source: count such statements apart). THE CARD IS WHAT COUNTS. Prove the row's statement (the work); the ties are given (YtbbfhchceimflaaDoorTie.lean); close each card by the builder's one call (the guide's Derived/Test/ToyasCard.lean, 'card_holds'). Laid BY PROGRAM, IN A SANDBOX (cutbox-door.mjs). By AI agents, Wed Nov 11 2026. No macro, syntax, notation, axiom, sorry.
-/
import Derived.Test.YtbbfhchceimflaaDoorRows
import GoSem.ClaimSeven
namespace Go.Proofs.YtbbfhchceimflaaDoor
namespace Rows

/-- THE TIED CARD OF 'ingotlaw10.PatchUnlike'. -/
def patchUnlikeCard : Claim7 := { stood := { row := patchUnlikeRow, standIns := [], harness := (true, "ec4f9c3de84905b3e10a50518a712e5e93aeda8d65cc0e9b97279e4e94fe9b93"), looks := false }, kinds := [], alts := [], laidByText := true, laidKinds := [.data], laidTests := true, laidLooks := .later }
def PatchUnlikeCardSaid : Prop := Claim7.holds Tryd.pinned (.plain (OpenSpec.ofChange patchUnlikeSpec)) patchUnlikeCard

/-- THE TIED CARD OF 'ingotlaw10.PatchEncodes'. -/
def patchEncodesCard : Claim7 := { stood := { row := patchEncodesRow, standIns := [], harness := (true, "ec4f9c3de84905b3e10a50518a712e5e93aeda8d65cc0e9b97279e4e94fe9b93"), looks := false }, kinds := [], alts := [], laidByText := true, laidKinds := [.data, .data], laidTests := true, laidLooks := .later }
def PatchEncodesCardSaid : Prop := Claim7.holds Tryd.pinned (.plain (OpenSpec.ofChange patchEncodesSpec)) patchEncodesCard

/-- THE TIED CARD OF 'ingotlaw10.PatchDecodes'. -/
def patchDecodesCard : Claim7 := { stood := { row := patchDecodesRow, standIns := [], harness := (true, "ec4f9c3de84905b3e10a50518a712e5e93aeda8d65cc0e9b97279e4e94fe9b93"), looks := false }, kinds := [], alts := [], laidByText := true, laidKinds := [.data], laidTests := true, laidLooks := .later }
def PatchDecodesCardSaid : Prop := Claim7.holds Tryd.pinned (.plain (OpenSpec.ofChange patchDecodesSpec)) patchDecodesCard

/-- THE TIED CARD OF 'ingotlaw10.PatchCut'. -/
def patchCutCard : Claim7 := { stood := { row := patchCutRow, standIns := [], harness := (true, "ec4f9c3de84905b3e10a50518a712e5e93aeda8d65cc0e9b97279e4e94fe9b93"), looks := false }, kinds := [], alts := [], laidByText := true, laidKinds := [.data], laidTests := true, laidLooks := .later }
def PatchCutCardSaid : Prop := Claim7.holds Tryd.pinned (.plain (OpenSpec.ofChange patchCutSpec)) patchCutCard

/-- THE TIED CARD OF 'ingotlaw10.PatchBack'. -/
def patchBackCard : Claim7 := { stood := { row := patchBackRow, standIns := [], harness := (true, "ec4f9c3de84905b3e10a50518a712e5e93aeda8d65cc0e9b97279e4e94fe9b93"), looks := false }, kinds := [], alts := [], laidByText := true, laidKinds := [.data, .data], laidTests := true, laidLooks := .later }
def PatchBackCardSaid : Prop := Claim7.holds Tryd.pinned (.plain (OpenSpec.ofChange patchBackSpec)) patchBackCard

/-- THE TIED CARD OF 'ingotlaw10.PatchChecks'. -/
def patchChecksCard : Claim7 := { stood := { row := patchChecksRow, standIns := [], harness := (true, "ec4f9c3de84905b3e10a50518a712e5e93aeda8d65cc0e9b97279e4e94fe9b93"), looks := false }, kinds := [], alts := [], laidByText := true, laidKinds := [.data], laidTests := true, laidLooks := .later }
def PatchChecksCardSaid : Prop := Claim7.holds Tryd.pinned (.plain (OpenSpec.ofChange patchChecksSpec)) patchChecksCard

/-- THE SECOND FORM's CARD OF 'ingotlaw10.PatchUnlike'. -/
def patchUnlikeUptoCard : Claim7 := { stood := { row := patchUnlikeUptoRow, standIns := [], harness := (true, "ec4f9c3de84905b3e10a50518a712e5e93aeda8d65cc0e9b97279e4e94fe9b93"), looks := false }, kinds := [], alts := [], laidByText := true, laidKinds := [.data], laidTests := true, laidLooks := .later }
def PatchUnlikeUptoCardSaid : Prop := Claim7.holds Tryd.pinned (.plain (OpenSpec.upto patchUnlikeSpec)) patchUnlikeUptoCard

/-- THE SECOND FORM's CARD OF 'ingotlaw10.PatchEncodes'. -/
def patchEncodesUptoCard : Claim7 := { stood := { row := patchEncodesUptoRow, standIns := [], harness := (true, "ec4f9c3de84905b3e10a50518a712e5e93aeda8d65cc0e9b97279e4e94fe9b93"), looks := false }, kinds := [], alts := [], laidByText := true, laidKinds := [.data, .data], laidTests := true, laidLooks := .later }
def PatchEncodesUptoCardSaid : Prop := Claim7.holds Tryd.pinned (.plain (OpenSpec.upto patchEncodesSpec)) patchEncodesUptoCard

/-- THE SECOND FORM's CARD OF 'ingotlaw10.PatchDecodes'. -/
def patchDecodesUptoCard : Claim7 := { stood := { row := patchDecodesUptoRow, standIns := [], harness := (true, "ec4f9c3de84905b3e10a50518a712e5e93aeda8d65cc0e9b97279e4e94fe9b93"), looks := false }, kinds := [], alts := [], laidByText := true, laidKinds := [.data], laidTests := true, laidLooks := .later }
def PatchDecodesUptoCardSaid : Prop := Claim7.holds Tryd.pinned (.plain (OpenSpec.upto patchDecodesSpec)) patchDecodesUptoCard

/-- THE SECOND FORM's CARD OF 'ingotlaw10.PatchCut'. -/
def patchCutUptoCard : Claim7 := { stood := { row := patchCutUptoRow, standIns := [], harness := (true, "ec4f9c3de84905b3e10a50518a712e5e93aeda8d65cc0e9b97279e4e94fe9b93"), looks := false }, kinds := [], alts := [], laidByText := true, laidKinds := [.data], laidTests := true, laidLooks := .later }
def PatchCutUptoCardSaid : Prop := Claim7.holds Tryd.pinned (.plain (OpenSpec.upto patchCutSpec)) patchCutUptoCard

/-- THE SECOND FORM's CARD OF 'ingotlaw10.PatchBack'. -/
def patchBackUptoCard : Claim7 := { stood := { row := patchBackUptoRow, standIns := [], harness := (true, "ec4f9c3de84905b3e10a50518a712e5e93aeda8d65cc0e9b97279e4e94fe9b93"), looks := false }, kinds := [], alts := [], laidByText := true, laidKinds := [.data, .data], laidTests := true, laidLooks := .later }
def PatchBackUptoCardSaid : Prop := Claim7.holds Tryd.pinned (.plain (OpenSpec.upto patchBackSpec)) patchBackUptoCard

/-- THE SECOND FORM's CARD OF 'ingotlaw10.PatchChecks'. -/
def patchChecksUptoCard : Claim7 := { stood := { row := patchChecksUptoRow, standIns := [], harness := (true, "ec4f9c3de84905b3e10a50518a712e5e93aeda8d65cc0e9b97279e4e94fe9b93"), looks := false }, kinds := [], alts := [], laidByText := true, laidKinds := [.data], laidTests := true, laidLooks := .later }
def PatchChecksUptoCardSaid : Prop := Claim7.holds Tryd.pinned (.plain (OpenSpec.upto patchChecksSpec)) patchChecksUptoCard
end Rows
end Go.Proofs.YtbbfhchceimflaaDoor
