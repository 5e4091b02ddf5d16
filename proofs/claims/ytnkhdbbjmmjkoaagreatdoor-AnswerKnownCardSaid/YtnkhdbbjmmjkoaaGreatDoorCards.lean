/-
  DERIVED. GIVEN WITH THE SEED: THE CARDS: each row of YtnkhdbbjmmjkoaaGreatDoorRows.lean that lists a variable, with what it lists TIED to the program's text (the seventh form; the later family's looks); each row that meets fmt, with fmt's text TOLD by the authors' own Lean function (tested against real Go, not proved from fmt's source: count such statements apart). THE CARD IS WHAT COUNTS. Prove the row's statement (the work); the ties are given (YtnkhdbbjmmjkoaaGreatDoorTie.lean); close each card by the builder's one call (the guide's Derived/Test/ToyasCard.lean, 'card_holds'). Laid BY PROGRAM, IN A SANDBOX (cutbox-door.mjs). By AI agents, Wed Nov 11 2026. No macro, syntax, notation, axiom, sorry.
-/
import Derived.Test.YtnkhdbbjmmjkoaaGreatDoorRows
import GoSem.ClaimSeven
namespace Go.Proofs.YtnkhdbbjmmjkoaaGreatDoor
namespace Rows

/-- THE TIED CARD OF 'taprootlaw24.AnswerKnown'. -/
def answerKnownCard : Claim7 := { stood := { row := answerKnownRow, standIns := [], harness := (true, "5a4e86efd56406a96a1fa131abde7fa046a3230c84ae5c81d157cd41034a911d"), looks := true }, kinds := [], alts := [], laidByText := true, laidKinds := [.handle], laidTests := true, laidLooks := .later }
def AnswerKnownCardSaid : Prop := Claim7.holds Tryz.pinned (.plain (OpenSpec.ofChange answerKnownSpec)) answerKnownCard

/-- THE SECOND FORM's CARD OF 'taprootlaw24.AnswerKnown'. -/
def answerKnownUptoCard : Claim7 := { stood := { row := answerKnownUptoRow, standIns := [], harness := (true, "5a4e86efd56406a96a1fa131abde7fa046a3230c84ae5c81d157cd41034a911d"), looks := true }, kinds := [], alts := [], laidByText := true, laidKinds := [.handle], laidTests := true, laidLooks := .later }
def AnswerKnownUptoCardSaid : Prop := Claim7.holds Tryz.pinned (.plain (OpenSpec.upto answerKnownSpec)) answerKnownUptoCard
end Rows
end Go.Proofs.YtnkhdbbjmmjkoaaGreatDoor
