/-
  DERIVED. GIVEN WITH THE SEED: THE CARDS: each row of YtihjokkmkdhhpaaDoorRows.lean that lists a variable, with what it lists TIED to the program's text (the seventh form; the later family's looks); each row that meets fmt, with fmt's text TOLD by the authors' own Lean function (tested against real Go, not proved from fmt's source: count such statements apart). THE CARD IS WHAT COUNTS. Prove the row's statement (the work); the ties are given (YtihjokkmkdhhpaaDoorTie.lean); close each card by the builder's one call (the guide's Derived/Test/ToyasCard.lean, 'card_holds'). Laid BY PROGRAM, IN A SANDBOX (cutbox-door.mjs). By AI agents, Wed Nov 11 2026. No macro, syntax, notation, axiom, sorry.
-/
import Derived.Test.YtihjokkmkdhhpaaDoorRows
import GoSem.ClaimSeven
namespace Go.Proofs.YtihjokkmkdhhpaaDoor
namespace Rows

/-- THE TIED CARD OF 'taprootlaw3.OopsLayers'. -/
def oopsLayersCard : Claim7 := { stood := { row := oopsLayersRow, standIns := [], harness := (true, "372272556f00137adcc3558d051e743cb6a1d6b685a432bc09fff3d2086ad48d"), looks := true }, kinds := [], alts := [], laidByText := true, laidKinds := [.handle], laidTests := true, laidLooks := .later }
def OopsLayersCardSaid : Prop := Claim7.holds Tryd.pinned (.plain (OpenSpec.ofChange oopsLayersSpec)) oopsLayersCard

/-- THE TIED CARD OF 'taprootlaw3.OopsOutermost'. -/
def oopsOutermostCard : Claim7 := { stood := { row := oopsOutermostRow, standIns := [], harness := (true, "372272556f00137adcc3558d051e743cb6a1d6b685a432bc09fff3d2086ad48d"), looks := true }, kinds := [], alts := [], laidByText := true, laidKinds := [.handle], laidTests := true, laidLooks := .later }
def OopsOutermostCardSaid : Prop := Claim7.holds Tryd.pinned (.plain (OpenSpec.ofChange oopsOutermostSpec)) oopsOutermostCard

/-- THE TIED CARD OF 'taprootlaw3.OopsChains'. -/
def oopsChainsCard : Claim7 := { stood := { row := oopsChainsRow, standIns := [], harness := (true, "372272556f00137adcc3558d051e743cb6a1d6b685a432bc09fff3d2086ad48d"), looks := true }, kinds := [], alts := [], laidByText := true, laidKinds := [.handle], laidTests := true, laidLooks := .later }
def OopsChainsCardSaid : Prop := Claim7.holds Tryd.pinned (.plain (OpenSpec.ofChange oopsChainsSpec)) oopsChainsCard

/-- THE TIED CARD OF 'taprootlaw3.OopsKnown'. -/
def oopsKnownCard : Claim7 := { stood := { row := oopsKnownRow, standIns := [], harness := (true, "372272556f00137adcc3558d051e743cb6a1d6b685a432bc09fff3d2086ad48d"), looks := true }, kinds := [], alts := [], laidByText := true, laidKinds := [.handle], laidTests := true, laidLooks := .later }
def OopsKnownCardSaid : Prop := Claim7.holds Tryd.pinned (.plain (OpenSpec.ofChange oopsKnownSpec)) oopsKnownCard

/-- THE SECOND FORM's CARD OF 'taprootlaw3.OopsLayers'. -/
def oopsLayersUptoCard : Claim7 := { stood := { row := oopsLayersUptoRow, standIns := [], harness := (true, "372272556f00137adcc3558d051e743cb6a1d6b685a432bc09fff3d2086ad48d"), looks := true }, kinds := [], alts := [], laidByText := true, laidKinds := [.handle], laidTests := true, laidLooks := .later }
def OopsLayersUptoCardSaid : Prop := Claim7.holds Tryd.pinned (.plain (OpenSpec.upto oopsLayersSpec)) oopsLayersUptoCard

/-- THE SECOND FORM's CARD OF 'taprootlaw3.OopsOutermost'. -/
def oopsOutermostUptoCard : Claim7 := { stood := { row := oopsOutermostUptoRow, standIns := [], harness := (true, "372272556f00137adcc3558d051e743cb6a1d6b685a432bc09fff3d2086ad48d"), looks := true }, kinds := [], alts := [], laidByText := true, laidKinds := [.handle], laidTests := true, laidLooks := .later }
def OopsOutermostUptoCardSaid : Prop := Claim7.holds Tryd.pinned (.plain (OpenSpec.upto oopsOutermostSpec)) oopsOutermostUptoCard

/-- THE SECOND FORM's CARD OF 'taprootlaw3.OopsChains'. -/
def oopsChainsUptoCard : Claim7 := { stood := { row := oopsChainsUptoRow, standIns := [], harness := (true, "372272556f00137adcc3558d051e743cb6a1d6b685a432bc09fff3d2086ad48d"), looks := true }, kinds := [], alts := [], laidByText := true, laidKinds := [.handle], laidTests := true, laidLooks := .later }
def OopsChainsUptoCardSaid : Prop := Claim7.holds Tryd.pinned (.plain (OpenSpec.upto oopsChainsSpec)) oopsChainsUptoCard

/-- THE SECOND FORM's CARD OF 'taprootlaw3.OopsKnown'. -/
def oopsKnownUptoCard : Claim7 := { stood := { row := oopsKnownUptoRow, standIns := [], harness := (true, "372272556f00137adcc3558d051e743cb6a1d6b685a432bc09fff3d2086ad48d"), looks := true }, kinds := [], alts := [], laidByText := true, laidKinds := [.handle], laidTests := true, laidLooks := .later }
def OopsKnownUptoCardSaid : Prop := Claim7.holds Tryd.pinned (.plain (OpenSpec.upto oopsKnownSpec)) oopsKnownUptoCard
end Rows
end Go.Proofs.YtihjokkmkdhhpaaDoor
