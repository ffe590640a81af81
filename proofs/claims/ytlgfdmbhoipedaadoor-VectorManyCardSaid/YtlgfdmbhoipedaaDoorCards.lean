/-
  DERIVED. GIVEN WITH THE SEED: THE CARDS: each row of YtlgfdmbhoipedaaDoorRows.lean that lists a variable, with what it lists TIED to the program's text (the seventh form; the later family's looks); each row that meets fmt, with fmt's text TOLD by the authors' own Lean function (tested against real Go, not proved from fmt's source: count such statements apart). THE CARD IS WHAT COUNTS. Prove the row's statement (the work); the ties are given (YtlgfdmbhoipedaaDoorTie.lean); close each card by the builder's one call (the guide's Derived/Test/ToyasCard.lean, 'card_holds'). Laid BY PROGRAM, IN A SANDBOX (cutbox-door.mjs). By AI agents, Wed Nov 11 2026. No macro, syntax, notation, axiom, sorry.
-/
import Derived.Test.YtlgfdmbhoipedaaDoorRows
import GoSem.ClaimSeven
namespace Go.Proofs.YtlgfdmbhoipedaaDoor
namespace Rows

/-- THE TIED CARD OF 'packtrainkeep.KeysBack'. -/
def keysBackCard : Claim7 := { stood := { row := keysBackRow, standIns := [], harness := (true, "a7bcdec25ccf8d915b8af61df817de4809410c86bdc2ae915beab75f5e146480"), looks := true }, kinds := [], alts := [], laidByText := true, laidKinds := [.handle], laidTests := true, laidLooks := .later }
def KeysBackCardSaid : Prop := Claim7.holds Tryd.pinned (.plain (OpenSpec.ofChange keysBackSpec)) keysBackCard

/-- THE TIED CARD OF 'packtrainkeep.KeysOnly'. -/
def keysOnlyCard : Claim7 := { stood := { row := keysOnlyRow, standIns := [], harness := (true, "a7bcdec25ccf8d915b8af61df817de4809410c86bdc2ae915beab75f5e146480"), looks := true }, kinds := [], alts := [], laidByText := true, laidKinds := [.handle], laidTests := true, laidLooks := .later }
def KeysOnlyCardSaid : Prop := Claim7.holds Tryd.pinned (.plain (OpenSpec.ofChange keysOnlySpec)) keysOnlyCard

/-- THE TIED CARD OF 'packtrainkeep.KeysNumbers'. -/
def keysNumbersCard : Claim7 := { stood := { row := keysNumbersRow, standIns := [], harness := (true, "a7bcdec25ccf8d915b8af61df817de4809410c86bdc2ae915beab75f5e146480"), looks := true }, kinds := [], alts := [], laidByText := true, laidKinds := [.handle], laidTests := true, laidLooks := .later }
def KeysNumbersCardSaid : Prop := Claim7.holds Tryd.pinned (.plain (OpenSpec.ofChange keysNumbersSpec)) keysNumbersCard

/-- THE TIED CARD OF 'packtrainkeep.KeysFew'. -/
def keysFewCard : Claim7 := { stood := { row := keysFewRow, standIns := [], harness := (true, "a7bcdec25ccf8d915b8af61df817de4809410c86bdc2ae915beab75f5e146480"), looks := true }, kinds := [], alts := [], laidByText := true, laidKinds := [.handle], laidTests := true, laidLooks := .later }
def KeysFewCardSaid : Prop := Claim7.holds Tryd.pinned (.plain (OpenSpec.ofChange keysFewSpec)) keysFewCard

/-- THE TIED CARD OF 'packtrainkeep.VectorSame'. -/
def vectorSameCard : Claim7 := { stood := { row := vectorSameRow, standIns := [], harness := (true, "a7bcdec25ccf8d915b8af61df817de4809410c86bdc2ae915beab75f5e146480"), looks := true }, kinds := [], alts := [], laidByText := true, laidKinds := [.handle], laidTests := true, laidLooks := .later }
def VectorSameCardSaid : Prop := Claim7.holds Tryd.pinned (.plain (OpenSpec.ofChange vectorSameSpec)) vectorSameCard

/-- THE TIED CARD OF 'packtrainkeep.VectorLeast'. -/
def vectorLeastCard : Claim7 := { stood := { row := vectorLeastRow, standIns := [], harness := (true, "a7bcdec25ccf8d915b8af61df817de4809410c86bdc2ae915beab75f5e146480"), looks := true }, kinds := [], alts := [], laidByText := true, laidKinds := [.handle], laidTests := true, laidLooks := .later }
def VectorLeastCardSaid : Prop := Claim7.holds Tryd.pinned (.plain (OpenSpec.ofChange vectorLeastSpec)) vectorLeastCard

/-- THE TIED CARD OF 'packtrainkeep.VectorOrder'. -/
def vectorOrderCard : Claim7 := { stood := { row := vectorOrderRow, standIns := [], harness := (true, "a7bcdec25ccf8d915b8af61df817de4809410c86bdc2ae915beab75f5e146480"), looks := true }, kinds := [], alts := [], laidByText := true, laidKinds := [.handle], laidTests := true, laidLooks := .later }
def VectorOrderCardSaid : Prop := Claim7.holds Tryd.pinned (.plain (OpenSpec.ofChange vectorOrderSpec)) vectorOrderCard

/-- THE TIED CARD OF 'packtrainkeep.VectorTimes'. -/
def vectorTimesCard : Claim7 := { stood := { row := vectorTimesRow, standIns := [], harness := (true, "a7bcdec25ccf8d915b8af61df817de4809410c86bdc2ae915beab75f5e146480"), looks := true }, kinds := [], alts := [], laidByText := true, laidKinds := [.handle], laidTests := true, laidLooks := .later }
def VectorTimesCardSaid : Prop := Claim7.holds Tryd.pinned (.plain (OpenSpec.ofChange vectorTimesSpec)) vectorTimesCard

/-- THE TIED CARD OF 'packtrainkeep.VectorMany'. -/
def vectorManyCard : Claim7 := { stood := { row := vectorManyRow, standIns := [], harness := (true, "a7bcdec25ccf8d915b8af61df817de4809410c86bdc2ae915beab75f5e146480"), looks := true }, kinds := [], alts := [], laidByText := true, laidKinds := [.handle], laidTests := true, laidLooks := .later }
def VectorManyCardSaid : Prop := Claim7.holds Tryd.pinned (.plain (OpenSpec.ofChange vectorManySpec)) vectorManyCard

/-- THE TIED CARD OF 'packtrainkeep.VectorRuns'. -/
def vectorRunsCard : Claim7 := { stood := { row := vectorRunsRow, standIns := [], harness := (true, "a7bcdec25ccf8d915b8af61df817de4809410c86bdc2ae915beab75f5e146480"), looks := true }, kinds := [], alts := [], laidByText := true, laidKinds := [.handle], laidTests := true, laidLooks := .later }
def VectorRunsCardSaid : Prop := Claim7.holds Tryd.pinned (.plain (OpenSpec.ofChange vectorRunsSpec)) vectorRunsCard

/-- THE TIED CARD OF 'packtrainkeep.VectorBack'. -/
def vectorBackCard : Claim7 := { stood := { row := vectorBackRow, standIns := [], harness := (true, "a7bcdec25ccf8d915b8af61df817de4809410c86bdc2ae915beab75f5e146480"), looks := true }, kinds := [], alts := [], laidByText := true, laidKinds := [.handle], laidTests := true, laidLooks := .later }
def VectorBackCardSaid : Prop := Claim7.holds Tryd.pinned (.plain (OpenSpec.ofChange vectorBackSpec)) vectorBackCard

/-- THE TIED CARD OF 'packtrainkeep.VectorOnly'. -/
def vectorOnlyCard : Claim7 := { stood := { row := vectorOnlyRow, standIns := [], harness := (true, "a7bcdec25ccf8d915b8af61df817de4809410c86bdc2ae915beab75f5e146480"), looks := true }, kinds := [], alts := [], laidByText := true, laidKinds := [.handle], laidTests := true, laidLooks := .later }
def VectorOnlyCardSaid : Prop := Claim7.holds Tryd.pinned (.plain (OpenSpec.ofChange vectorOnlySpec)) vectorOnlyCard

/-- THE SECOND FORM's CARD OF 'packtrainkeep.KeysBack'. -/
def keysBackUptoCard : Claim7 := { stood := { row := keysBackUptoRow, standIns := [], harness := (true, "a7bcdec25ccf8d915b8af61df817de4809410c86bdc2ae915beab75f5e146480"), looks := true }, kinds := [], alts := [], laidByText := true, laidKinds := [.handle], laidTests := true, laidLooks := .later }
def KeysBackUptoCardSaid : Prop := Claim7.holds Tryd.pinned (.plain (OpenSpec.upto keysBackSpec)) keysBackUptoCard

/-- THE SECOND FORM's CARD OF 'packtrainkeep.KeysOnly'. -/
def keysOnlyUptoCard : Claim7 := { stood := { row := keysOnlyUptoRow, standIns := [], harness := (true, "a7bcdec25ccf8d915b8af61df817de4809410c86bdc2ae915beab75f5e146480"), looks := true }, kinds := [], alts := [], laidByText := true, laidKinds := [.handle], laidTests := true, laidLooks := .later }
def KeysOnlyUptoCardSaid : Prop := Claim7.holds Tryd.pinned (.plain (OpenSpec.upto keysOnlySpec)) keysOnlyUptoCard

/-- THE SECOND FORM's CARD OF 'packtrainkeep.KeysNumbers'. -/
def keysNumbersUptoCard : Claim7 := { stood := { row := keysNumbersUptoRow, standIns := [], harness := (true, "a7bcdec25ccf8d915b8af61df817de4809410c86bdc2ae915beab75f5e146480"), looks := true }, kinds := [], alts := [], laidByText := true, laidKinds := [.handle], laidTests := true, laidLooks := .later }
def KeysNumbersUptoCardSaid : Prop := Claim7.holds Tryd.pinned (.plain (OpenSpec.upto keysNumbersSpec)) keysNumbersUptoCard

/-- THE SECOND FORM's CARD OF 'packtrainkeep.KeysFew'. -/
def keysFewUptoCard : Claim7 := { stood := { row := keysFewUptoRow, standIns := [], harness := (true, "a7bcdec25ccf8d915b8af61df817de4809410c86bdc2ae915beab75f5e146480"), looks := true }, kinds := [], alts := [], laidByText := true, laidKinds := [.handle], laidTests := true, laidLooks := .later }
def KeysFewUptoCardSaid : Prop := Claim7.holds Tryd.pinned (.plain (OpenSpec.upto keysFewSpec)) keysFewUptoCard

/-- THE SECOND FORM's CARD OF 'packtrainkeep.VectorSame'. -/
def vectorSameUptoCard : Claim7 := { stood := { row := vectorSameUptoRow, standIns := [], harness := (true, "a7bcdec25ccf8d915b8af61df817de4809410c86bdc2ae915beab75f5e146480"), looks := true }, kinds := [], alts := [], laidByText := true, laidKinds := [.handle], laidTests := true, laidLooks := .later }
def VectorSameUptoCardSaid : Prop := Claim7.holds Tryd.pinned (.plain (OpenSpec.upto vectorSameSpec)) vectorSameUptoCard

/-- THE SECOND FORM's CARD OF 'packtrainkeep.VectorLeast'. -/
def vectorLeastUptoCard : Claim7 := { stood := { row := vectorLeastUptoRow, standIns := [], harness := (true, "a7bcdec25ccf8d915b8af61df817de4809410c86bdc2ae915beab75f5e146480"), looks := true }, kinds := [], alts := [], laidByText := true, laidKinds := [.handle], laidTests := true, laidLooks := .later }
def VectorLeastUptoCardSaid : Prop := Claim7.holds Tryd.pinned (.plain (OpenSpec.upto vectorLeastSpec)) vectorLeastUptoCard

/-- THE SECOND FORM's CARD OF 'packtrainkeep.VectorOrder'. -/
def vectorOrderUptoCard : Claim7 := { stood := { row := vectorOrderUptoRow, standIns := [], harness := (true, "a7bcdec25ccf8d915b8af61df817de4809410c86bdc2ae915beab75f5e146480"), looks := true }, kinds := [], alts := [], laidByText := true, laidKinds := [.handle], laidTests := true, laidLooks := .later }
def VectorOrderUptoCardSaid : Prop := Claim7.holds Tryd.pinned (.plain (OpenSpec.upto vectorOrderSpec)) vectorOrderUptoCard

/-- THE SECOND FORM's CARD OF 'packtrainkeep.VectorTimes'. -/
def vectorTimesUptoCard : Claim7 := { stood := { row := vectorTimesUptoRow, standIns := [], harness := (true, "a7bcdec25ccf8d915b8af61df817de4809410c86bdc2ae915beab75f5e146480"), looks := true }, kinds := [], alts := [], laidByText := true, laidKinds := [.handle], laidTests := true, laidLooks := .later }
def VectorTimesUptoCardSaid : Prop := Claim7.holds Tryd.pinned (.plain (OpenSpec.upto vectorTimesSpec)) vectorTimesUptoCard

/-- THE SECOND FORM's CARD OF 'packtrainkeep.VectorMany'. -/
def vectorManyUptoCard : Claim7 := { stood := { row := vectorManyUptoRow, standIns := [], harness := (true, "a7bcdec25ccf8d915b8af61df817de4809410c86bdc2ae915beab75f5e146480"), looks := true }, kinds := [], alts := [], laidByText := true, laidKinds := [.handle], laidTests := true, laidLooks := .later }
def VectorManyUptoCardSaid : Prop := Claim7.holds Tryd.pinned (.plain (OpenSpec.upto vectorManySpec)) vectorManyUptoCard

/-- THE SECOND FORM's CARD OF 'packtrainkeep.VectorRuns'. -/
def vectorRunsUptoCard : Claim7 := { stood := { row := vectorRunsUptoRow, standIns := [], harness := (true, "a7bcdec25ccf8d915b8af61df817de4809410c86bdc2ae915beab75f5e146480"), looks := true }, kinds := [], alts := [], laidByText := true, laidKinds := [.handle], laidTests := true, laidLooks := .later }
def VectorRunsUptoCardSaid : Prop := Claim7.holds Tryd.pinned (.plain (OpenSpec.upto vectorRunsSpec)) vectorRunsUptoCard

/-- THE SECOND FORM's CARD OF 'packtrainkeep.VectorBack'. -/
def vectorBackUptoCard : Claim7 := { stood := { row := vectorBackUptoRow, standIns := [], harness := (true, "a7bcdec25ccf8d915b8af61df817de4809410c86bdc2ae915beab75f5e146480"), looks := true }, kinds := [], alts := [], laidByText := true, laidKinds := [.handle], laidTests := true, laidLooks := .later }
def VectorBackUptoCardSaid : Prop := Claim7.holds Tryd.pinned (.plain (OpenSpec.upto vectorBackSpec)) vectorBackUptoCard

/-- THE SECOND FORM's CARD OF 'packtrainkeep.VectorOnly'. -/
def vectorOnlyUptoCard : Claim7 := { stood := { row := vectorOnlyUptoRow, standIns := [], harness := (true, "a7bcdec25ccf8d915b8af61df817de4809410c86bdc2ae915beab75f5e146480"), looks := true }, kinds := [], alts := [], laidByText := true, laidKinds := [.handle], laidTests := true, laidLooks := .later }
def VectorOnlyUptoCardSaid : Prop := Claim7.holds Tryd.pinned (.plain (OpenSpec.upto vectorOnlySpec)) vectorOnlyUptoCard
end Rows
end Go.Proofs.YtlgfdmbhoipedaaDoor
