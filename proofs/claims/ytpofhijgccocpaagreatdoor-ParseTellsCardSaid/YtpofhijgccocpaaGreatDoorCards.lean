/-
  DERIVED. GIVEN WITH THE SEED: THE CARDS: each row of YtpofhijgccocpaaGreatDoorRows.lean that lists a variable, with what it lists TIED to the program's text (the seventh form; the later family's looks); each row that meets fmt, with fmt's text TOLD by the authors' own Lean function (tested against real Go, not proved from fmt's source: count such statements apart). THE CARD IS WHAT COUNTS. Prove the row's statement (the work); the ties are given (YtpofhijgccocpaaGreatDoorTie.lean); close each card by the builder's one call (the guide's Derived/Test/ToyasCard.lean, 'card_holds'). Laid BY PROGRAM, IN A SANDBOX (cutbox-door.mjs). By AI agents, Wed Nov 11 2026. No macro, syntax, notation, axiom, sorry.
-/
import Derived.Test.YtpofhijgccocpaaGreatDoorRows
import GoSem.ClaimSeven
namespace Go.Proofs.YtpofhijgccocpaaGreatDoor
namespace Rows

/-- THE TIED CARD OF 'taprootlaw18.ParseRight'. -/
def parseRightCard : Claim7 := { stood := { row := parseRightRow, standIns := [], harness := (true, "1b0312a560a28740f6bc3a66ccfda22c4faeb7abc3348b5de0729736b9f502ea"), looks := true }, kinds := [], alts := [], laidByText := true, laidKinds := [.data, .data, .data, .sentinel, .sentinel], laidTests := true, laidLooks := .later }
def ParseRightCardSaid : Prop := Claim7.holds Tryz.pinned (.plain (OpenSpec.ofChange parseRightSpec)) parseRightCard

/-- THE TIED CARD OF 'taprootlaw19.RewriteTells'. -/
def rewriteTellsCard : Claim7 := { stood := { row := rewriteTellsRow, standIns := [], harness := (true, "1b0312a560a28740f6bc3a66ccfda22c4faeb7abc3348b5de0729736b9f502ea"), looks := true }, kinds := [], alts := [], laidByText := true, laidKinds := [.data, .data, .data, .sentinel, .sentinel], laidTests := true, laidLooks := .later }
def RewriteTellsCardSaid : Prop := Claim7.holds Tryz.pinned (.plain (OpenSpec.ofChange rewriteTellsSpec)) rewriteTellsCard

/-- THE TIED CARD OF 'taprootlaw19.RewriteMeans'. -/
def rewriteMeansCard : Claim7 := { stood := { row := rewriteMeansRow, standIns := [], harness := (true, "1b0312a560a28740f6bc3a66ccfda22c4faeb7abc3348b5de0729736b9f502ea"), looks := true }, kinds := [], alts := [], laidByText := true, laidKinds := [.data, .data, .data, .sentinel, .sentinel], laidTests := true, laidLooks := .later }
def RewriteMeansCardSaid : Prop := Claim7.holds Tryz.pinned (.plain (OpenSpec.ofChange rewriteMeansSpec)) rewriteMeansCard

/-- THE TIED CARD OF 'taprootlaw19.RewriteNames'. -/
def rewriteNamesCard : Claim7 := { stood := { row := rewriteNamesRow, standIns := [], harness := (true, "1b0312a560a28740f6bc3a66ccfda22c4faeb7abc3348b5de0729736b9f502ea"), looks := true }, kinds := [], alts := [], laidByText := true, laidKinds := [.data, .data, .data, .sentinel, .sentinel], laidTests := true, laidLooks := .later }
def RewriteNamesCardSaid : Prop := Claim7.holds Tryz.pinned (.plain (OpenSpec.ofChange rewriteNamesSpec)) rewriteNamesCard

/-- THE TIED CARD OF 'taprootlaw18.ParseDeep'. -/
def parseDeepCard : Claim7 := { stood := { row := parseDeepRow, standIns := [], harness := (true, "1b0312a560a28740f6bc3a66ccfda22c4faeb7abc3348b5de0729736b9f502ea"), looks := true }, kinds := [], alts := [], laidByText := true, laidKinds := [.data, .data, .data, .handle, .sentinel, .sentinel], laidTests := true, laidLooks := .later }
def ParseDeepCardSaid : Prop := Claim7.holds Tryz.pinned (.plain (OpenSpec.ofChange parseDeepSpec)) parseDeepCard

/-- THE TIED CARD OF 'taprootlaw18.ParseTells'. -/
def parseTellsCard : Claim7 := { stood := { row := parseTellsRow, standIns := [], harness := (true, "1b0312a560a28740f6bc3a66ccfda22c4faeb7abc3348b5de0729736b9f502ea"), looks := true }, kinds := [], alts := [], laidByText := true, laidKinds := [.data, .data, .data, .handle, .sentinel, .sentinel], laidTests := true, laidLooks := .later }
def ParseTellsCardSaid : Prop := Claim7.holds Tryz.pinned (.plain (OpenSpec.ofChange parseTellsSpec)) parseTellsCard

/-- THE SECOND FORM's CARD OF 'taprootlaw18.ParseRight'. -/
def parseRightUptoCard : Claim7 := { stood := { row := parseRightUptoRow, standIns := [], harness := (true, "1b0312a560a28740f6bc3a66ccfda22c4faeb7abc3348b5de0729736b9f502ea"), looks := true }, kinds := [], alts := [], laidByText := true, laidKinds := [.data, .data, .data, .sentinel, .sentinel], laidTests := true, laidLooks := .later }
def ParseRightUptoCardSaid : Prop := Claim7.holds Tryz.pinned (.plain (OpenSpec.upto parseRightSpec)) parseRightUptoCard

/-- THE SECOND FORM's CARD OF 'taprootlaw19.RewriteTells'. -/
def rewriteTellsUptoCard : Claim7 := { stood := { row := rewriteTellsUptoRow, standIns := [], harness := (true, "1b0312a560a28740f6bc3a66ccfda22c4faeb7abc3348b5de0729736b9f502ea"), looks := true }, kinds := [], alts := [], laidByText := true, laidKinds := [.data, .data, .data, .sentinel, .sentinel], laidTests := true, laidLooks := .later }
def RewriteTellsUptoCardSaid : Prop := Claim7.holds Tryz.pinned (.plain (OpenSpec.upto rewriteTellsSpec)) rewriteTellsUptoCard

/-- THE SECOND FORM's CARD OF 'taprootlaw19.RewriteMeans'. -/
def rewriteMeansUptoCard : Claim7 := { stood := { row := rewriteMeansUptoRow, standIns := [], harness := (true, "1b0312a560a28740f6bc3a66ccfda22c4faeb7abc3348b5de0729736b9f502ea"), looks := true }, kinds := [], alts := [], laidByText := true, laidKinds := [.data, .data, .data, .sentinel, .sentinel], laidTests := true, laidLooks := .later }
def RewriteMeansUptoCardSaid : Prop := Claim7.holds Tryz.pinned (.plain (OpenSpec.upto rewriteMeansSpec)) rewriteMeansUptoCard

/-- THE SECOND FORM's CARD OF 'taprootlaw19.RewriteNames'. -/
def rewriteNamesUptoCard : Claim7 := { stood := { row := rewriteNamesUptoRow, standIns := [], harness := (true, "1b0312a560a28740f6bc3a66ccfda22c4faeb7abc3348b5de0729736b9f502ea"), looks := true }, kinds := [], alts := [], laidByText := true, laidKinds := [.data, .data, .data, .sentinel, .sentinel], laidTests := true, laidLooks := .later }
def RewriteNamesUptoCardSaid : Prop := Claim7.holds Tryz.pinned (.plain (OpenSpec.upto rewriteNamesSpec)) rewriteNamesUptoCard

/-- THE SECOND FORM's CARD OF 'taprootlaw18.ParseDeep'. -/
def parseDeepUptoCard : Claim7 := { stood := { row := parseDeepUptoRow, standIns := [], harness := (true, "1b0312a560a28740f6bc3a66ccfda22c4faeb7abc3348b5de0729736b9f502ea"), looks := true }, kinds := [], alts := [], laidByText := true, laidKinds := [.data, .data, .data, .handle, .sentinel, .sentinel], laidTests := true, laidLooks := .later }
def ParseDeepUptoCardSaid : Prop := Claim7.holds Tryz.pinned (.plain (OpenSpec.upto parseDeepSpec)) parseDeepUptoCard

/-- THE SECOND FORM's CARD OF 'taprootlaw18.ParseTells'. -/
def parseTellsUptoCard : Claim7 := { stood := { row := parseTellsUptoRow, standIns := [], harness := (true, "1b0312a560a28740f6bc3a66ccfda22c4faeb7abc3348b5de0729736b9f502ea"), looks := true }, kinds := [], alts := [], laidByText := true, laidKinds := [.data, .data, .data, .handle, .sentinel, .sentinel], laidTests := true, laidLooks := .later }
def ParseTellsUptoCardSaid : Prop := Claim7.holds Tryz.pinned (.plain (OpenSpec.upto parseTellsSpec)) parseTellsUptoCard
end Rows
end Go.Proofs.YtpofhijgccocpaaGreatDoor
