/-
  DERIVED. GIVEN WITH THE SEED: THE CARDS: each row of YtfiiemjbbmdlnaaGreatDoorRows.lean that lists a variable, with what it lists TIED to the program's text (the seventh form; the later family's looks); each row that meets fmt, with fmt's text TOLD by the authors' own Lean function (tested against real Go, not proved from fmt's source: count such statements apart). THE CARD IS WHAT COUNTS. Prove the row's statement (the work); the ties are given (YtfiiemjbbmdlnaaGreatDoorTie.lean); close each card by the builder's one call (the guide's Derived/Test/ToyasCard.lean, 'card_holds'). Laid BY PROGRAM, IN A SANDBOX (cutbox-door.mjs). By AI agents, Wed Nov 11 2026. No macro, syntax, notation, axiom, sorry.
-/
import Derived.Test.YtfiiemjbbmdlnaaGreatDoorRows
import GoSem.ClaimSeven
namespace Go.Proofs.YtfiiemjbbmdlnaaGreatDoor
namespace Rows

/-- THE TIED CARD OF 'taprootlaw26.ServiceKnown'. -/
def serviceKnownCard : Claim7 := { stood := { row := serviceKnownRow, standIns := [], harness := (true, "b38bb8c731cb3168519b8f32436e33f87361fba06a16520a4e0c1957bc92b06c"), looks := true }, kinds := [], alts := [], laidByText := true, laidKinds := [.data, .data, .data, .handle, .sentinel, .sentinel], laidTests := true, laidLooks := .later }
def ServiceKnownCardSaid : Prop := Claim7.holds Tryz.pinned (.plain (OpenSpec.ofChange serviceKnownSpec)) serviceKnownCard

/-- THE SECOND FORM's CARD OF 'taprootlaw26.ServiceKnown'. -/
def serviceKnownUptoCard : Claim7 := { stood := { row := serviceKnownUptoRow, standIns := [], harness := (true, "b38bb8c731cb3168519b8f32436e33f87361fba06a16520a4e0c1957bc92b06c"), looks := true }, kinds := [], alts := [], laidByText := true, laidKinds := [.data, .data, .data, .handle, .sentinel, .sentinel], laidTests := true, laidLooks := .later }
def ServiceKnownUptoCardSaid : Prop := Claim7.holds Tryz.pinned (.plain (OpenSpec.upto serviceKnownSpec)) serviceKnownUptoCard
end Rows
end Go.Proofs.YtfiiemjbbmdlnaaGreatDoor
