/-
  DERIVED. GIVEN WITH THE SEED: THE CARDS: each row of YtopjaflclkdamaaDoorRows.lean that lists a variable, with what it lists TIED to the program's text (the seventh form; the later family's looks); each row that meets fmt, with fmt's text TOLD by the authors' own Lean function (tested against real Go, not proved from fmt's source: count such statements apart). THE CARD IS WHAT COUNTS. Prove the row's statement (the work); the ties are given (YtopjaflclkdamaaDoorTie.lean); close each card by the builder's one call (the guide's Derived/Test/ToyasCard.lean, 'card_holds'). Laid BY PROGRAM, IN A SANDBOX (cutbox-door.mjs). By AI agents, Wed Nov 11 2026. No macro, syntax, notation, axiom, sorry.
-/
import Derived.Test.YtopjaflclkdamaaDoorRows
import GoSem.ClaimSeven
namespace Go.Proofs.YtopjaflclkdamaaDoor
namespace Rows

/-- THE TIED CARD OF 'packtrainkeep.FrameOnly'. -/
def frameOnlyCard : Claim7 := { stood := { row := frameOnlyRow, standIns := [], harness := (true, "b7663baa4e535e17f620d486a2efe22265427cd35a6efadbce613061acfa1e66"), looks := true }, kinds := [], alts := [], laidByText := true, laidKinds := [.handle], laidTests := true, laidLooks := .later }
def FrameOnlyCardSaid : Prop := Claim7.holds Tryd.pinned (.plain (OpenSpec.ofChange frameOnlySpec)) frameOnlyCard

/-- THE TIED CARD OF 'packtrainkeep.FrameSmall'. -/
def frameSmallCard : Claim7 := { stood := { row := frameSmallRow, standIns := [], harness := (true, "b7663baa4e535e17f620d486a2efe22265427cd35a6efadbce613061acfa1e66"), looks := true }, kinds := [], alts := [], laidByText := true, laidKinds := [.handle], laidTests := true, laidLooks := .later }
def FrameSmallCardSaid : Prop := Claim7.holds Tryd.pinned (.plain (OpenSpec.ofChange frameSmallSpec)) frameSmallCard

/-- THE TIED CARD OF 'packtrainkeep.FrameCut'. -/
def frameCutCard : Claim7 := { stood := { row := frameCutRow, standIns := [], harness := (true, "b7663baa4e535e17f620d486a2efe22265427cd35a6efadbce613061acfa1e66"), looks := true }, kinds := [], alts := [], laidByText := true, laidKinds := [.handle], laidTests := true, laidLooks := .later }
def FrameCutCardSaid : Prop := Claim7.holds Tryd.pinned (.plain (OpenSpec.ofChange frameCutSpec)) frameCutCard

/-- THE TIED CARD OF 'packtrainkeep.FrameStored'. -/
def frameStoredCard : Claim7 := { stood := { row := frameStoredRow, standIns := [], harness := (true, "b7663baa4e535e17f620d486a2efe22265427cd35a6efadbce613061acfa1e66"), looks := true }, kinds := [], alts := [], laidByText := true, laidKinds := [.handle], laidTests := true, laidLooks := .later }
def FrameStoredCardSaid : Prop := Claim7.holds Tryd.pinned (.plain (OpenSpec.ofChange frameStoredSpec)) frameStoredCard

/-- THE TIED CARD OF 'packtrainkeep.FrameVersions'. -/
def frameVersionsCard : Claim7 := { stood := { row := frameVersionsRow, standIns := [], harness := (true, "b7663baa4e535e17f620d486a2efe22265427cd35a6efadbce613061acfa1e66"), looks := true }, kinds := [], alts := [], laidByText := true, laidKinds := [.handle], laidTests := true, laidLooks := .later }
def FrameVersionsCardSaid : Prop := Claim7.holds Tryd.pinned (.plain (OpenSpec.ofChange frameVersionsSpec)) frameVersionsCard

/-- THE TIED CARD OF 'packtrainkeep.FrameInside'. -/
def frameInsideCard : Claim7 := { stood := { row := frameInsideRow, standIns := [], harness := (true, "b7663baa4e535e17f620d486a2efe22265427cd35a6efadbce613061acfa1e66"), looks := true }, kinds := [], alts := [], laidByText := true, laidKinds := [.handle], laidTests := true, laidLooks := .later }
def FrameInsideCardSaid : Prop := Claim7.holds Tryd.pinned (.plain (OpenSpec.ofChange frameInsideSpec)) frameInsideCard

/-- THE SECOND FORM's CARD OF 'packtrainkeep.FrameOnly'. -/
def frameOnlyUptoCard : Claim7 := { stood := { row := frameOnlyUptoRow, standIns := [], harness := (true, "b7663baa4e535e17f620d486a2efe22265427cd35a6efadbce613061acfa1e66"), looks := true }, kinds := [], alts := [], laidByText := true, laidKinds := [.handle], laidTests := true, laidLooks := .later }
def FrameOnlyUptoCardSaid : Prop := Claim7.holds Tryd.pinned (.plain (OpenSpec.upto frameOnlySpec)) frameOnlyUptoCard

/-- THE SECOND FORM's CARD OF 'packtrainkeep.FrameSmall'. -/
def frameSmallUptoCard : Claim7 := { stood := { row := frameSmallUptoRow, standIns := [], harness := (true, "b7663baa4e535e17f620d486a2efe22265427cd35a6efadbce613061acfa1e66"), looks := true }, kinds := [], alts := [], laidByText := true, laidKinds := [.handle], laidTests := true, laidLooks := .later }
def FrameSmallUptoCardSaid : Prop := Claim7.holds Tryd.pinned (.plain (OpenSpec.upto frameSmallSpec)) frameSmallUptoCard

/-- THE SECOND FORM's CARD OF 'packtrainkeep.FrameCut'. -/
def frameCutUptoCard : Claim7 := { stood := { row := frameCutUptoRow, standIns := [], harness := (true, "b7663baa4e535e17f620d486a2efe22265427cd35a6efadbce613061acfa1e66"), looks := true }, kinds := [], alts := [], laidByText := true, laidKinds := [.handle], laidTests := true, laidLooks := .later }
def FrameCutUptoCardSaid : Prop := Claim7.holds Tryd.pinned (.plain (OpenSpec.upto frameCutSpec)) frameCutUptoCard

/-- THE SECOND FORM's CARD OF 'packtrainkeep.FrameStored'. -/
def frameStoredUptoCard : Claim7 := { stood := { row := frameStoredUptoRow, standIns := [], harness := (true, "b7663baa4e535e17f620d486a2efe22265427cd35a6efadbce613061acfa1e66"), looks := true }, kinds := [], alts := [], laidByText := true, laidKinds := [.handle], laidTests := true, laidLooks := .later }
def FrameStoredUptoCardSaid : Prop := Claim7.holds Tryd.pinned (.plain (OpenSpec.upto frameStoredSpec)) frameStoredUptoCard

/-- THE SECOND FORM's CARD OF 'packtrainkeep.FrameVersions'. -/
def frameVersionsUptoCard : Claim7 := { stood := { row := frameVersionsUptoRow, standIns := [], harness := (true, "b7663baa4e535e17f620d486a2efe22265427cd35a6efadbce613061acfa1e66"), looks := true }, kinds := [], alts := [], laidByText := true, laidKinds := [.handle], laidTests := true, laidLooks := .later }
def FrameVersionsUptoCardSaid : Prop := Claim7.holds Tryd.pinned (.plain (OpenSpec.upto frameVersionsSpec)) frameVersionsUptoCard

/-- THE SECOND FORM's CARD OF 'packtrainkeep.FrameInside'. -/
def frameInsideUptoCard : Claim7 := { stood := { row := frameInsideUptoRow, standIns := [], harness := (true, "b7663baa4e535e17f620d486a2efe22265427cd35a6efadbce613061acfa1e66"), looks := true }, kinds := [], alts := [], laidByText := true, laidKinds := [.handle], laidTests := true, laidLooks := .later }
def FrameInsideUptoCardSaid : Prop := Claim7.holds Tryd.pinned (.plain (OpenSpec.upto frameInsideSpec)) frameInsideUptoCard
end Rows
end Go.Proofs.YtopjaflclkdamaaDoor
