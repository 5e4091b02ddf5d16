/-
  DERIVED. GIVEN WITH THE SEED: THE CARDS: each row of YtnenknghinpliaaGreatDoorRows.lean that lists a variable, with what it lists TIED to the program's text (the seventh form; the later family's looks); each row that meets fmt, with fmt's text TOLD by the authors' own Lean function (tested against real Go, not proved from fmt's source: count such statements apart). THE CARD IS WHAT COUNTS. Prove the row's statement (the work); the ties are given (YtnenknghinpliaaGreatDoorTie.lean); close each card by the builder's one call (the guide's Derived/Test/ToyasCard.lean, 'card_holds'). Laid BY PROGRAM, IN A SANDBOX (cutbox-door.mjs). By AI agents, Wed Nov 11 2026. No macro, syntax, notation, axiom, sorry.
-/
import Derived.Test.YtnenknghinpliaaGreatDoorRows
import GoSem.ClaimSeven
namespace Go.Proofs.YtnenknghinpliaaGreatDoor
namespace Rows

/-- THE TIED CARD OF 'taprootlaw27.ScriptOnes'. -/
def scriptOnesCard : Claim7 := { stood := { row := scriptOnesRow, standIns := [], harness := (true, "d78f629c601f2e095aae78a12abd1849bd1c88769ee85193baeb00b6c5f713d6"), looks := true }, kinds := [], alts := [], laidByText := true, laidKinds := [.data, .data, .data, .pinned, .data, .sentinel, .sentinel, .handle], laidTests := true, laidLooks := .later }
def ScriptOnesCardSaid : Prop := Claim7.holds Tryz.pinned (.plain (OpenSpec.ofChange scriptOnesSpec)) scriptOnesCard

/-- THE SECOND FORM's CARD OF 'taprootlaw27.ScriptOnes'. -/
def scriptOnesUptoCard : Claim7 := { stood := { row := scriptOnesUptoRow, standIns := [], harness := (true, "d78f629c601f2e095aae78a12abd1849bd1c88769ee85193baeb00b6c5f713d6"), looks := true }, kinds := [], alts := [], laidByText := true, laidKinds := [.data, .data, .data, .pinned, .data, .sentinel, .sentinel, .handle], laidTests := true, laidLooks := .later }
def ScriptOnesUptoCardSaid : Prop := Claim7.holds Tryz.pinned (.plain (OpenSpec.upto scriptOnesSpec)) scriptOnesUptoCard
end Rows
end Go.Proofs.YtnenknghinpliaaGreatDoor
