/-
  DERIVED. GIVEN WITH THE SEED: THE CARDS: each row of YtdbpiabcpjgblaaGreatDoorRows.lean that lists a variable, with what it lists TIED to the program's text (the seventh form; the later family's looks); each row that meets fmt, with fmt's text TOLD by the authors' own Lean function (tested against real Go, not proved from fmt's source: count such statements apart). THE CARD IS WHAT COUNTS. Prove the row's statement (the work); the ties are given (YtdbpiabcpjgblaaGreatDoorTie.lean); close each card by the builder's one call (the guide's Derived/Test/ToyasCard.lean, 'card_holds'). Laid BY PROGRAM, IN A SANDBOX (cutbox-door.mjs). By AI agents, Wed Nov 11 2026. No macro, syntax, notation, axiom, sorry.
-/
import Derived.Test.YtdbpiabcpjgblaaGreatDoorRows
import GoSem.ClaimSeven
namespace Go.Proofs.YtdbpiabcpjgblaaGreatDoor
namespace Rows

/-- THE TIED CARD OF 'packtrainkeep.BatchTaken'. -/
def batchTakenCard : Claim7 := { stood := { row := batchTakenRow, standIns := [], harness := (true, "cd0e530f2091ff93e4a9540bff5b84e1104bef413afd08475ddcd5f11a029779"), looks := true }, kinds := [], alts := [], laidByText := true, laidKinds := [.handle], laidTests := true, laidLooks := .later }
def BatchTakenCardSaid : Prop := Claim7.holds Tryz.pinned (.plain (OpenSpec.ofChange batchTakenSpec)) batchTakenCard

/-- THE TIED CARD OF 'packtrainkeep.LogOrder'. -/
def logOrderCard : Claim7 := { stood := { row := logOrderRow, standIns := [], harness := (true, "cd0e530f2091ff93e4a9540bff5b84e1104bef413afd08475ddcd5f11a029779"), looks := true }, kinds := [], alts := [], laidByText := true, laidKinds := [.handle], laidTests := true, laidLooks := .later }
def LogOrderCardSaid : Prop := Claim7.holds Tryz.pinned (.plain (OpenSpec.ofChange logOrderSpec)) logOrderCard

/-- THE TIED CARD OF 'packtrainkeep.LogOnce'. -/
def logOnceCard : Claim7 := { stood := { row := logOnceRow, standIns := [], harness := (true, "cd0e530f2091ff93e4a9540bff5b84e1104bef413afd08475ddcd5f11a029779"), looks := true }, kinds := [], alts := [], laidByText := true, laidKinds := [.handle], laidTests := true, laidLooks := .later }
def LogOnceCardSaid : Prop := Claim7.holds Tryz.pinned (.plain (OpenSpec.ofChange logOnceSpec)) logOnceCard

/-- THE TIED CARD OF 'packtrainkeep.LogSince'. -/
def logSinceCard : Claim7 := { stood := { row := logSinceRow, standIns := [], harness := (true, "cd0e530f2091ff93e4a9540bff5b84e1104bef413afd08475ddcd5f11a029779"), looks := true }, kinds := [], alts := [], laidByText := true, laidKinds := [.handle], laidTests := true, laidLooks := .later }
def LogSinceCardSaid : Prop := Claim7.holds Tryz.pinned (.plain (OpenSpec.ofChange logSinceSpec)) logSinceCard

/-- THE TIED CARD OF 'packtrainkeep.LogLocal'. -/
def logLocalCard : Claim7 := { stood := { row := logLocalRow, standIns := [], harness := (true, "cd0e530f2091ff93e4a9540bff5b84e1104bef413afd08475ddcd5f11a029779"), looks := true }, kinds := [], alts := [], laidByText := true, laidKinds := [.handle], laidTests := true, laidLooks := .later }
def LogLocalCardSaid : Prop := Claim7.holds Tryz.pinned (.plain (OpenSpec.ofChange logLocalSpec)) logLocalCard

/-- THE TIED CARD OF 'packtrainkeep.LogGaps'. -/
def logGapsCard : Claim7 := { stood := { row := logGapsRow, standIns := [], harness := (true, "cd0e530f2091ff93e4a9540bff5b84e1104bef413afd08475ddcd5f11a029779"), looks := true }, kinds := [], alts := [], laidByText := true, laidKinds := [.handle], laidTests := true, laidLooks := .later }
def LogGapsCardSaid : Prop := Claim7.holds Tryz.pinned (.plain (OpenSpec.ofChange logGapsSpec)) logGapsCard

/-- THE TIED CARD OF 'packtrainkeep.LogCells'. -/
def logCellsCard : Claim7 := { stood := { row := logCellsRow, standIns := [], harness := (true, "cd0e530f2091ff93e4a9540bff5b84e1104bef413afd08475ddcd5f11a029779"), looks := true }, kinds := [], alts := [], laidByText := true, laidKinds := [.handle], laidTests := true, laidLooks := .later }
def LogCellsCardSaid : Prop := Claim7.holds Tryz.pinned (.plain (OpenSpec.ofChange logCellsSpec)) logCellsCard

/-- THE TIED CARD OF 'packtrainkeep.LogMeets'. -/
def logMeetsCard : Claim7 := { stood := { row := logMeetsRow, standIns := [], harness := (true, "cd0e530f2091ff93e4a9540bff5b84e1104bef413afd08475ddcd5f11a029779"), looks := true }, kinds := [], alts := [], laidByText := true, laidKinds := [.handle], laidTests := true, laidLooks := .later }
def LogMeetsCardSaid : Prop := Claim7.holds Tryz.pinned (.plain (OpenSpec.ofChange logMeetsSpec)) logMeetsCard

/-- THE TIED CARD OF 'packtrainkeep.LogAll'. -/
def logAllCard : Claim7 := { stood := { row := logAllRow, standIns := [], harness := (true, "cd0e530f2091ff93e4a9540bff5b84e1104bef413afd08475ddcd5f11a029779"), looks := true }, kinds := [], alts := [], laidByText := true, laidKinds := [.handle], laidTests := true, laidLooks := .later }
def LogAllCardSaid : Prop := Claim7.holds Tryz.pinned (.plain (OpenSpec.ofChange logAllSpec)) logAllCard

/-- THE SECOND FORM's CARD OF 'packtrainkeep.BatchTaken'. -/
def batchTakenUptoCard : Claim7 := { stood := { row := batchTakenUptoRow, standIns := [], harness := (true, "cd0e530f2091ff93e4a9540bff5b84e1104bef413afd08475ddcd5f11a029779"), looks := true }, kinds := [], alts := [], laidByText := true, laidKinds := [.handle], laidTests := true, laidLooks := .later }
def BatchTakenUptoCardSaid : Prop := Claim7.holds Tryz.pinned (.plain (OpenSpec.upto batchTakenSpec)) batchTakenUptoCard

/-- THE SECOND FORM's CARD OF 'packtrainkeep.LogOrder'. -/
def logOrderUptoCard : Claim7 := { stood := { row := logOrderUptoRow, standIns := [], harness := (true, "cd0e530f2091ff93e4a9540bff5b84e1104bef413afd08475ddcd5f11a029779"), looks := true }, kinds := [], alts := [], laidByText := true, laidKinds := [.handle], laidTests := true, laidLooks := .later }
def LogOrderUptoCardSaid : Prop := Claim7.holds Tryz.pinned (.plain (OpenSpec.upto logOrderSpec)) logOrderUptoCard

/-- THE SECOND FORM's CARD OF 'packtrainkeep.LogOnce'. -/
def logOnceUptoCard : Claim7 := { stood := { row := logOnceUptoRow, standIns := [], harness := (true, "cd0e530f2091ff93e4a9540bff5b84e1104bef413afd08475ddcd5f11a029779"), looks := true }, kinds := [], alts := [], laidByText := true, laidKinds := [.handle], laidTests := true, laidLooks := .later }
def LogOnceUptoCardSaid : Prop := Claim7.holds Tryz.pinned (.plain (OpenSpec.upto logOnceSpec)) logOnceUptoCard

/-- THE SECOND FORM's CARD OF 'packtrainkeep.LogSince'. -/
def logSinceUptoCard : Claim7 := { stood := { row := logSinceUptoRow, standIns := [], harness := (true, "cd0e530f2091ff93e4a9540bff5b84e1104bef413afd08475ddcd5f11a029779"), looks := true }, kinds := [], alts := [], laidByText := true, laidKinds := [.handle], laidTests := true, laidLooks := .later }
def LogSinceUptoCardSaid : Prop := Claim7.holds Tryz.pinned (.plain (OpenSpec.upto logSinceSpec)) logSinceUptoCard

/-- THE SECOND FORM's CARD OF 'packtrainkeep.LogLocal'. -/
def logLocalUptoCard : Claim7 := { stood := { row := logLocalUptoRow, standIns := [], harness := (true, "cd0e530f2091ff93e4a9540bff5b84e1104bef413afd08475ddcd5f11a029779"), looks := true }, kinds := [], alts := [], laidByText := true, laidKinds := [.handle], laidTests := true, laidLooks := .later }
def LogLocalUptoCardSaid : Prop := Claim7.holds Tryz.pinned (.plain (OpenSpec.upto logLocalSpec)) logLocalUptoCard

/-- THE SECOND FORM's CARD OF 'packtrainkeep.LogGaps'. -/
def logGapsUptoCard : Claim7 := { stood := { row := logGapsUptoRow, standIns := [], harness := (true, "cd0e530f2091ff93e4a9540bff5b84e1104bef413afd08475ddcd5f11a029779"), looks := true }, kinds := [], alts := [], laidByText := true, laidKinds := [.handle], laidTests := true, laidLooks := .later }
def LogGapsUptoCardSaid : Prop := Claim7.holds Tryz.pinned (.plain (OpenSpec.upto logGapsSpec)) logGapsUptoCard

/-- THE SECOND FORM's CARD OF 'packtrainkeep.LogCells'. -/
def logCellsUptoCard : Claim7 := { stood := { row := logCellsUptoRow, standIns := [], harness := (true, "cd0e530f2091ff93e4a9540bff5b84e1104bef413afd08475ddcd5f11a029779"), looks := true }, kinds := [], alts := [], laidByText := true, laidKinds := [.handle], laidTests := true, laidLooks := .later }
def LogCellsUptoCardSaid : Prop := Claim7.holds Tryz.pinned (.plain (OpenSpec.upto logCellsSpec)) logCellsUptoCard

/-- THE SECOND FORM's CARD OF 'packtrainkeep.LogMeets'. -/
def logMeetsUptoCard : Claim7 := { stood := { row := logMeetsUptoRow, standIns := [], harness := (true, "cd0e530f2091ff93e4a9540bff5b84e1104bef413afd08475ddcd5f11a029779"), looks := true }, kinds := [], alts := [], laidByText := true, laidKinds := [.handle], laidTests := true, laidLooks := .later }
def LogMeetsUptoCardSaid : Prop := Claim7.holds Tryz.pinned (.plain (OpenSpec.upto logMeetsSpec)) logMeetsUptoCard

/-- THE SECOND FORM's CARD OF 'packtrainkeep.LogAll'. -/
def logAllUptoCard : Claim7 := { stood := { row := logAllUptoRow, standIns := [], harness := (true, "cd0e530f2091ff93e4a9540bff5b84e1104bef413afd08475ddcd5f11a029779"), looks := true }, kinds := [], alts := [], laidByText := true, laidKinds := [.handle], laidTests := true, laidLooks := .later }
def LogAllUptoCardSaid : Prop := Claim7.holds Tryz.pinned (.plain (OpenSpec.upto logAllSpec)) logAllUptoCard
end Rows
end Go.Proofs.YtdbpiabcpjgblaaGreatDoor
