/-
  DERIVED. GIVEN WITH THE SEED: THE CARDS: each row of YtognjohloobliaaGreatDoorRows.lean that lists a variable, with what it lists TIED to the program's text (the seventh form; the later family's looks); each row that meets fmt, with fmt's text TOLD by the authors' own Lean function (tested against real Go, not proved from fmt's source: count such statements apart). THE CARD IS WHAT COUNTS. Prove the row's statement (the work); the ties are given (YtognjohloobliaaGreatDoorTie.lean); close each card by the builder's one call (the guide's Derived/Test/ToyasCard.lean, 'card_holds'). Laid BY PROGRAM, IN A SANDBOX (cutbox-door.mjs). By AI agents, Wed Nov 11 2026. No macro, syntax, notation, axiom, sorry.
-/
import Derived.Test.YtognjohloobliaaGreatDoorRows
import GoSem.ClaimSeven
namespace Go.Proofs.YtognjohloobliaaGreatDoor
namespace Rows

/-- THE TIED CARD OF 'packtrainkeep.BatchTaken'. -/
def batchTakenCard : Claim7 := { stood := { row := batchTakenRow, standIns := [], harness := (true, "3ea5050ece5f1baee9ceaebc232718a7589358c309c73e91de30445a00fa7622"), looks := true }, kinds := [], alts := [], laidByText := true, laidKinds := [.handle], laidTests := true, laidLooks := .later }
def BatchTakenCardSaid : Prop := Claim7.holds Tryz.pinned (.plain (OpenSpec.ofChange batchTakenSpec)) batchTakenCard

/-- THE TIED CARD OF 'packtrainkeep.LogOrder'. -/
def logOrderCard : Claim7 := { stood := { row := logOrderRow, standIns := [], harness := (true, "3ea5050ece5f1baee9ceaebc232718a7589358c309c73e91de30445a00fa7622"), looks := true }, kinds := [], alts := [], laidByText := true, laidKinds := [.handle], laidTests := true, laidLooks := .later }
def LogOrderCardSaid : Prop := Claim7.holds Tryz.pinned (.plain (OpenSpec.ofChange logOrderSpec)) logOrderCard

/-- THE TIED CARD OF 'packtrainkeep.LogSince'. -/
def logSinceCard : Claim7 := { stood := { row := logSinceRow, standIns := [], harness := (true, "3ea5050ece5f1baee9ceaebc232718a7589358c309c73e91de30445a00fa7622"), looks := true }, kinds := [], alts := [], laidByText := true, laidKinds := [.handle], laidTests := true, laidLooks := .later }
def LogSinceCardSaid : Prop := Claim7.holds Tryz.pinned (.plain (OpenSpec.ofChange logSinceSpec)) logSinceCard

/-- THE TIED CARD OF 'packtrainkeep.LogLocal'. -/
def logLocalCard : Claim7 := { stood := { row := logLocalRow, standIns := [], harness := (true, "3ea5050ece5f1baee9ceaebc232718a7589358c309c73e91de30445a00fa7622"), looks := true }, kinds := [], alts := [], laidByText := true, laidKinds := [.handle], laidTests := true, laidLooks := .later }
def LogLocalCardSaid : Prop := Claim7.holds Tryz.pinned (.plain (OpenSpec.ofChange logLocalSpec)) logLocalCard

/-- THE SECOND FORM's CARD OF 'packtrainkeep.BatchTaken'. -/
def batchTakenUptoCard : Claim7 := { stood := { row := batchTakenUptoRow, standIns := [], harness := (true, "3ea5050ece5f1baee9ceaebc232718a7589358c309c73e91de30445a00fa7622"), looks := true }, kinds := [], alts := [], laidByText := true, laidKinds := [.handle], laidTests := true, laidLooks := .later }
def BatchTakenUptoCardSaid : Prop := Claim7.holds Tryz.pinned (.plain (OpenSpec.upto batchTakenSpec)) batchTakenUptoCard

/-- THE SECOND FORM's CARD OF 'packtrainkeep.LogOrder'. -/
def logOrderUptoCard : Claim7 := { stood := { row := logOrderUptoRow, standIns := [], harness := (true, "3ea5050ece5f1baee9ceaebc232718a7589358c309c73e91de30445a00fa7622"), looks := true }, kinds := [], alts := [], laidByText := true, laidKinds := [.handle], laidTests := true, laidLooks := .later }
def LogOrderUptoCardSaid : Prop := Claim7.holds Tryz.pinned (.plain (OpenSpec.upto logOrderSpec)) logOrderUptoCard

/-- THE SECOND FORM's CARD OF 'packtrainkeep.LogSince'. -/
def logSinceUptoCard : Claim7 := { stood := { row := logSinceUptoRow, standIns := [], harness := (true, "3ea5050ece5f1baee9ceaebc232718a7589358c309c73e91de30445a00fa7622"), looks := true }, kinds := [], alts := [], laidByText := true, laidKinds := [.handle], laidTests := true, laidLooks := .later }
def LogSinceUptoCardSaid : Prop := Claim7.holds Tryz.pinned (.plain (OpenSpec.upto logSinceSpec)) logSinceUptoCard

/-- THE SECOND FORM's CARD OF 'packtrainkeep.LogLocal'. -/
def logLocalUptoCard : Claim7 := { stood := { row := logLocalUptoRow, standIns := [], harness := (true, "3ea5050ece5f1baee9ceaebc232718a7589358c309c73e91de30445a00fa7622"), looks := true }, kinds := [], alts := [], laidByText := true, laidKinds := [.handle], laidTests := true, laidLooks := .later }
def LogLocalUptoCardSaid : Prop := Claim7.holds Tryz.pinned (.plain (OpenSpec.upto logLocalSpec)) logLocalUptoCard
end Rows
end Go.Proofs.YtognjohloobliaaGreatDoor
