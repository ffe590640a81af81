/-
  DERIVED. GIVEN WITH THE SEED: THE CARDS: each row of YtdeepahaggkipaaDoorRows.lean that lists a variable, with what it lists TIED to the program's text (the seventh form; the later family's looks); each row that meets fmt, with fmt's text TOLD by the authors' own Lean function (tested against real Go, not proved from fmt's source: count such statements apart). THE CARD IS WHAT COUNTS. Prove the row's statement (the work); the ties are given (YtdeepahaggkipaaDoorTie.lean); close each card by the builder's one call (the guide's Derived/Test/ToyasCard.lean, 'card_holds'). Laid BY PROGRAM, IN A SANDBOX (cutbox-door.mjs). By AI agents, Wed Nov 11 2026. No macro, syntax, notation, axiom, sorry.
-/
import Derived.Test.YtdeepahaggkipaaDoorRows
import GoSem.ClaimSeven
namespace Go.Proofs.YtdeepahaggkipaaDoor
namespace Rows

/-- THE TIED CARD OF 'packtrainkeep.FrameBack'. -/
def frameBackCard : Claim7 := { stood := { row := frameBackRow, standIns := [], harness := (true, "e8b6be4d395cdf7deefae27f54d3231e096f4f680aacf999857122227c420c63"), looks := true }, kinds := [], alts := [], laidByText := true, laidKinds := [.handle], laidTests := true, laidLooks := .later }
def FrameBackCardSaid : Prop := Claim7.holds Tryd.pinned (.plain (OpenSpec.ofChange frameBackSpec)) frameBackCard

/-- THE TIED CARD OF 'packtrainkeep.FrameCut'. -/
def frameCutCard : Claim7 := { stood := { row := frameCutRow, standIns := [], harness := (true, "e8b6be4d395cdf7deefae27f54d3231e096f4f680aacf999857122227c420c63"), looks := true }, kinds := [], alts := [], laidByText := true, laidKinds := [.handle], laidTests := true, laidLooks := .later }
def FrameCutCardSaid : Prop := Claim7.holds Tryd.pinned (.plain (OpenSpec.ofChange frameCutSpec)) frameCutCard

/-- THE TIED CARD OF 'packtrainkeep.FrameStored'. -/
def frameStoredCard : Claim7 := { stood := { row := frameStoredRow, standIns := [], harness := (true, "e8b6be4d395cdf7deefae27f54d3231e096f4f680aacf999857122227c420c63"), looks := true }, kinds := [], alts := [], laidByText := true, laidKinds := [.handle], laidTests := true, laidLooks := .later }
def FrameStoredCardSaid : Prop := Claim7.holds Tryd.pinned (.plain (OpenSpec.ofChange frameStoredSpec)) frameStoredCard

/-- THE TIED CARD OF 'packtrainkeep.FrameTurned'. -/
def frameTurnedCard : Claim7 := { stood := { row := frameTurnedRow, standIns := [], harness := (true, "e8b6be4d395cdf7deefae27f54d3231e096f4f680aacf999857122227c420c63"), looks := true }, kinds := [], alts := [], laidByText := true, laidKinds := [.handle], laidTests := true, laidLooks := .later }
def FrameTurnedCardSaid : Prop := Claim7.holds Tryd.pinned (.plain (OpenSpec.ofChange frameTurnedSpec)) frameTurnedCard

/-- THE TIED CARD OF 'packtrainkeep.OldApart'. -/
def oldApartCard : Claim7 := { stood := { row := oldApartRow, standIns := [], harness := (true, "e8b6be4d395cdf7deefae27f54d3231e096f4f680aacf999857122227c420c63"), looks := true }, kinds := [], alts := [], laidByText := true, laidKinds := [.handle], laidTests := true, laidLooks := .later }
def OldApartCardSaid : Prop := Claim7.holds Tryd.pinned (.plain (OpenSpec.ofChange oldApartSpec)) oldApartCard

/-- THE TIED CARD OF 'packtrainkeep.OldLift'. -/
def oldLiftCard : Claim7 := { stood := { row := oldLiftRow, standIns := [], harness := (true, "e8b6be4d395cdf7deefae27f54d3231e096f4f680aacf999857122227c420c63"), looks := true }, kinds := [], alts := [], laidByText := true, laidKinds := [.handle], laidTests := true, laidLooks := .later }
def OldLiftCardSaid : Prop := Claim7.holds Tryd.pinned (.plain (OpenSpec.ofChange oldLiftSpec)) oldLiftCard

/-- THE TIED CARD OF 'packtrainkeep.OldOnly'. -/
def oldOnlyCard : Claim7 := { stood := { row := oldOnlyRow, standIns := [], harness := (true, "e8b6be4d395cdf7deefae27f54d3231e096f4f680aacf999857122227c420c63"), looks := true }, kinds := [], alts := [], laidByText := true, laidKinds := [.handle], laidTests := true, laidLooks := .later }
def OldOnlyCardSaid : Prop := Claim7.holds Tryd.pinned (.plain (OpenSpec.ofChange oldOnlySpec)) oldOnlyCard

/-- THE SECOND FORM's CARD OF 'packtrainkeep.FrameBack'. -/
def frameBackUptoCard : Claim7 := { stood := { row := frameBackUptoRow, standIns := [], harness := (true, "e8b6be4d395cdf7deefae27f54d3231e096f4f680aacf999857122227c420c63"), looks := true }, kinds := [], alts := [], laidByText := true, laidKinds := [.handle], laidTests := true, laidLooks := .later }
def FrameBackUptoCardSaid : Prop := Claim7.holds Tryd.pinned (.plain (OpenSpec.upto frameBackSpec)) frameBackUptoCard

/-- THE SECOND FORM's CARD OF 'packtrainkeep.FrameCut'. -/
def frameCutUptoCard : Claim7 := { stood := { row := frameCutUptoRow, standIns := [], harness := (true, "e8b6be4d395cdf7deefae27f54d3231e096f4f680aacf999857122227c420c63"), looks := true }, kinds := [], alts := [], laidByText := true, laidKinds := [.handle], laidTests := true, laidLooks := .later }
def FrameCutUptoCardSaid : Prop := Claim7.holds Tryd.pinned (.plain (OpenSpec.upto frameCutSpec)) frameCutUptoCard

/-- THE SECOND FORM's CARD OF 'packtrainkeep.FrameStored'. -/
def frameStoredUptoCard : Claim7 := { stood := { row := frameStoredUptoRow, standIns := [], harness := (true, "e8b6be4d395cdf7deefae27f54d3231e096f4f680aacf999857122227c420c63"), looks := true }, kinds := [], alts := [], laidByText := true, laidKinds := [.handle], laidTests := true, laidLooks := .later }
def FrameStoredUptoCardSaid : Prop := Claim7.holds Tryd.pinned (.plain (OpenSpec.upto frameStoredSpec)) frameStoredUptoCard

/-- THE SECOND FORM's CARD OF 'packtrainkeep.FrameTurned'. -/
def frameTurnedUptoCard : Claim7 := { stood := { row := frameTurnedUptoRow, standIns := [], harness := (true, "e8b6be4d395cdf7deefae27f54d3231e096f4f680aacf999857122227c420c63"), looks := true }, kinds := [], alts := [], laidByText := true, laidKinds := [.handle], laidTests := true, laidLooks := .later }
def FrameTurnedUptoCardSaid : Prop := Claim7.holds Tryd.pinned (.plain (OpenSpec.upto frameTurnedSpec)) frameTurnedUptoCard

/-- THE SECOND FORM's CARD OF 'packtrainkeep.OldApart'. -/
def oldApartUptoCard : Claim7 := { stood := { row := oldApartUptoRow, standIns := [], harness := (true, "e8b6be4d395cdf7deefae27f54d3231e096f4f680aacf999857122227c420c63"), looks := true }, kinds := [], alts := [], laidByText := true, laidKinds := [.handle], laidTests := true, laidLooks := .later }
def OldApartUptoCardSaid : Prop := Claim7.holds Tryd.pinned (.plain (OpenSpec.upto oldApartSpec)) oldApartUptoCard

/-- THE SECOND FORM's CARD OF 'packtrainkeep.OldLift'. -/
def oldLiftUptoCard : Claim7 := { stood := { row := oldLiftUptoRow, standIns := [], harness := (true, "e8b6be4d395cdf7deefae27f54d3231e096f4f680aacf999857122227c420c63"), looks := true }, kinds := [], alts := [], laidByText := true, laidKinds := [.handle], laidTests := true, laidLooks := .later }
def OldLiftUptoCardSaid : Prop := Claim7.holds Tryd.pinned (.plain (OpenSpec.upto oldLiftSpec)) oldLiftUptoCard

/-- THE SECOND FORM's CARD OF 'packtrainkeep.OldOnly'. -/
def oldOnlyUptoCard : Claim7 := { stood := { row := oldOnlyUptoRow, standIns := [], harness := (true, "e8b6be4d395cdf7deefae27f54d3231e096f4f680aacf999857122227c420c63"), looks := true }, kinds := [], alts := [], laidByText := true, laidKinds := [.handle], laidTests := true, laidLooks := .later }
def OldOnlyUptoCardSaid : Prop := Claim7.holds Tryd.pinned (.plain (OpenSpec.upto oldOnlySpec)) oldOnlyUptoCard
end Rows
end Go.Proofs.YtdeepahaggkipaaDoor
