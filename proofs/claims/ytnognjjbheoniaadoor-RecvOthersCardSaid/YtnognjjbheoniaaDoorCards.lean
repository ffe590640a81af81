/-
  DERIVED. GIVEN WITH THE SEED: THE CARDS: each row of YtnognjjbheoniaaDoorRows.lean that lists a variable, with what it lists TIED to the program's text (the seventh form; the later family's looks); each row that meets fmt, with fmt's text TOLD by the authors' own Lean function (tested against real Go, not proved from fmt's source: count such statements apart). THE CARD IS WHAT COUNTS. Prove the row's statement (the work); the ties are given (YtnognjjbheoniaaDoorTie.lean); close each card by the builder's one call (the guide's Derived/Test/ToyasCard.lean, 'card_holds'). Laid BY PROGRAM, IN A SANDBOX (cutbox-door.mjs). By AI agents, Wed Nov 11 2026. No macro, syntax, notation, axiom, sorry.
-/
import Derived.Test.YtnognjjbheoniaaDoorRows
import GoSem.ClaimSeven
namespace Go.Proofs.YtnognjjbheoniaaDoor
namespace Rows

/-- THE TIED CARD OF 'packtrainkeep.KeysBack'. -/
def keysBackCard : Claim7 := { stood := { row := keysBackRow, standIns := [], harness := (true, "8b520cdf5ba385bf08aff839a0664fe48bd35146e2e83be8181053fa03a099c8"), looks := true }, kinds := [], alts := [], laidByText := true, laidKinds := [.handle], laidTests := true, laidLooks := .later }
def KeysBackCardSaid : Prop := Claim7.holds Tryd.pinned (.plain (OpenSpec.ofChange keysBackSpec)) keysBackCard

/-- THE TIED CARD OF 'packtrainkeep.KeysOnly'. -/
def keysOnlyCard : Claim7 := { stood := { row := keysOnlyRow, standIns := [], harness := (true, "8b520cdf5ba385bf08aff839a0664fe48bd35146e2e83be8181053fa03a099c8"), looks := true }, kinds := [], alts := [], laidByText := true, laidKinds := [.handle], laidTests := true, laidLooks := .later }
def KeysOnlyCardSaid : Prop := Claim7.holds Tryd.pinned (.plain (OpenSpec.ofChange keysOnlySpec)) keysOnlyCard

/-- THE TIED CARD OF 'packtrainkeep.KeysNumbers'. -/
def keysNumbersCard : Claim7 := { stood := { row := keysNumbersRow, standIns := [], harness := (true, "8b520cdf5ba385bf08aff839a0664fe48bd35146e2e83be8181053fa03a099c8"), looks := true }, kinds := [], alts := [], laidByText := true, laidKinds := [.handle], laidTests := true, laidLooks := .later }
def KeysNumbersCardSaid : Prop := Claim7.holds Tryd.pinned (.plain (OpenSpec.ofChange keysNumbersSpec)) keysNumbersCard

/-- THE TIED CARD OF 'packtrainkeep.KeysFew'. -/
def keysFewCard : Claim7 := { stood := { row := keysFewRow, standIns := [], harness := (true, "8b520cdf5ba385bf08aff839a0664fe48bd35146e2e83be8181053fa03a099c8"), looks := true }, kinds := [], alts := [], laidByText := true, laidKinds := [.handle], laidTests := true, laidLooks := .later }
def KeysFewCardSaid : Prop := Claim7.holds Tryd.pinned (.plain (OpenSpec.ofChange keysFewSpec)) keysFewCard

/-- THE TIED CARD OF 'packtrainkeep.LzSmall'. -/
def lzSmallCard : Claim7 := { stood := { row := lzSmallRow, standIns := [], harness := (true, "8b520cdf5ba385bf08aff839a0664fe48bd35146e2e83be8181053fa03a099c8"), looks := true }, kinds := [], alts := [], laidByText := true, laidKinds := [.handle], laidTests := true, laidLooks := .later }
def LzSmallCardSaid : Prop := Claim7.holds Tryd.pinned (.plain (OpenSpec.ofChange lzSmallSpec)) lzSmallCard

/-- THE TIED CARD OF 'packtrainkeep.RecvAll'. -/
def recvAllCard : Claim7 := { stood := { row := recvAllRow, standIns := [], harness := (true, "8b520cdf5ba385bf08aff839a0664fe48bd35146e2e83be8181053fa03a099c8"), looks := true }, kinds := [], alts := [], laidByText := true, laidKinds := [.handle], laidTests := true, laidLooks := .later }
def RecvAllCardSaid : Prop := Claim7.holds Tryd.pinned (.plain (OpenSpec.ofChange recvAllSpec)) recvAllCard

/-- THE TIED CARD OF 'packtrainkeep.RecvOthers'. -/
def recvOthersCard : Claim7 := { stood := { row := recvOthersRow, standIns := [], harness := (true, "8b520cdf5ba385bf08aff839a0664fe48bd35146e2e83be8181053fa03a099c8"), looks := true }, kinds := [], alts := [], laidByText := true, laidKinds := [.handle], laidTests := true, laidLooks := .later }
def RecvOthersCardSaid : Prop := Claim7.holds Tryd.pinned (.plain (OpenSpec.ofChange recvOthersSpec)) recvOthersCard

/-- THE TIED CARD OF 'packtrainkeep.RecvMixed'. -/
def recvMixedCard : Claim7 := { stood := { row := recvMixedRow, standIns := [], harness := (true, "8b520cdf5ba385bf08aff839a0664fe48bd35146e2e83be8181053fa03a099c8"), looks := true }, kinds := [], alts := [], laidByText := true, laidKinds := [.handle], laidTests := true, laidLooks := .later }
def RecvMixedCardSaid : Prop := Claim7.holds Tryd.pinned (.plain (OpenSpec.ofChange recvMixedSpec)) recvMixedCard

/-- THE TIED CARD OF 'packtrainkeep.RecvForgets'. -/
def recvForgetsCard : Claim7 := { stood := { row := recvForgetsRow, standIns := [], harness := (true, "8b520cdf5ba385bf08aff839a0664fe48bd35146e2e83be8181053fa03a099c8"), looks := true }, kinds := [], alts := [], laidByText := true, laidKinds := [.handle], laidTests := true, laidLooks := .later }
def RecvForgetsCardSaid : Prop := Claim7.holds Tryd.pinned (.plain (OpenSpec.ofChange recvForgetsSpec)) recvForgetsCard

/-- THE SECOND FORM's CARD OF 'packtrainkeep.KeysBack'. -/
def keysBackUptoCard : Claim7 := { stood := { row := keysBackUptoRow, standIns := [], harness := (true, "8b520cdf5ba385bf08aff839a0664fe48bd35146e2e83be8181053fa03a099c8"), looks := true }, kinds := [], alts := [], laidByText := true, laidKinds := [.handle], laidTests := true, laidLooks := .later }
def KeysBackUptoCardSaid : Prop := Claim7.holds Tryd.pinned (.plain (OpenSpec.upto keysBackSpec)) keysBackUptoCard

/-- THE SECOND FORM's CARD OF 'packtrainkeep.KeysOnly'. -/
def keysOnlyUptoCard : Claim7 := { stood := { row := keysOnlyUptoRow, standIns := [], harness := (true, "8b520cdf5ba385bf08aff839a0664fe48bd35146e2e83be8181053fa03a099c8"), looks := true }, kinds := [], alts := [], laidByText := true, laidKinds := [.handle], laidTests := true, laidLooks := .later }
def KeysOnlyUptoCardSaid : Prop := Claim7.holds Tryd.pinned (.plain (OpenSpec.upto keysOnlySpec)) keysOnlyUptoCard

/-- THE SECOND FORM's CARD OF 'packtrainkeep.KeysNumbers'. -/
def keysNumbersUptoCard : Claim7 := { stood := { row := keysNumbersUptoRow, standIns := [], harness := (true, "8b520cdf5ba385bf08aff839a0664fe48bd35146e2e83be8181053fa03a099c8"), looks := true }, kinds := [], alts := [], laidByText := true, laidKinds := [.handle], laidTests := true, laidLooks := .later }
def KeysNumbersUptoCardSaid : Prop := Claim7.holds Tryd.pinned (.plain (OpenSpec.upto keysNumbersSpec)) keysNumbersUptoCard

/-- THE SECOND FORM's CARD OF 'packtrainkeep.KeysFew'. -/
def keysFewUptoCard : Claim7 := { stood := { row := keysFewUptoRow, standIns := [], harness := (true, "8b520cdf5ba385bf08aff839a0664fe48bd35146e2e83be8181053fa03a099c8"), looks := true }, kinds := [], alts := [], laidByText := true, laidKinds := [.handle], laidTests := true, laidLooks := .later }
def KeysFewUptoCardSaid : Prop := Claim7.holds Tryd.pinned (.plain (OpenSpec.upto keysFewSpec)) keysFewUptoCard

/-- THE SECOND FORM's CARD OF 'packtrainkeep.LzSmall'. -/
def lzSmallUptoCard : Claim7 := { stood := { row := lzSmallUptoRow, standIns := [], harness := (true, "8b520cdf5ba385bf08aff839a0664fe48bd35146e2e83be8181053fa03a099c8"), looks := true }, kinds := [], alts := [], laidByText := true, laidKinds := [.handle], laidTests := true, laidLooks := .later }
def LzSmallUptoCardSaid : Prop := Claim7.holds Tryd.pinned (.plain (OpenSpec.upto lzSmallSpec)) lzSmallUptoCard

/-- THE SECOND FORM's CARD OF 'packtrainkeep.RecvAll'. -/
def recvAllUptoCard : Claim7 := { stood := { row := recvAllUptoRow, standIns := [], harness := (true, "8b520cdf5ba385bf08aff839a0664fe48bd35146e2e83be8181053fa03a099c8"), looks := true }, kinds := [], alts := [], laidByText := true, laidKinds := [.handle], laidTests := true, laidLooks := .later }
def RecvAllUptoCardSaid : Prop := Claim7.holds Tryd.pinned (.plain (OpenSpec.upto recvAllSpec)) recvAllUptoCard

/-- THE SECOND FORM's CARD OF 'packtrainkeep.RecvOthers'. -/
def recvOthersUptoCard : Claim7 := { stood := { row := recvOthersUptoRow, standIns := [], harness := (true, "8b520cdf5ba385bf08aff839a0664fe48bd35146e2e83be8181053fa03a099c8"), looks := true }, kinds := [], alts := [], laidByText := true, laidKinds := [.handle], laidTests := true, laidLooks := .later }
def RecvOthersUptoCardSaid : Prop := Claim7.holds Tryd.pinned (.plain (OpenSpec.upto recvOthersSpec)) recvOthersUptoCard

/-- THE SECOND FORM's CARD OF 'packtrainkeep.RecvMixed'. -/
def recvMixedUptoCard : Claim7 := { stood := { row := recvMixedUptoRow, standIns := [], harness := (true, "8b520cdf5ba385bf08aff839a0664fe48bd35146e2e83be8181053fa03a099c8"), looks := true }, kinds := [], alts := [], laidByText := true, laidKinds := [.handle], laidTests := true, laidLooks := .later }
def RecvMixedUptoCardSaid : Prop := Claim7.holds Tryd.pinned (.plain (OpenSpec.upto recvMixedSpec)) recvMixedUptoCard

/-- THE SECOND FORM's CARD OF 'packtrainkeep.RecvForgets'. -/
def recvForgetsUptoCard : Claim7 := { stood := { row := recvForgetsUptoRow, standIns := [], harness := (true, "8b520cdf5ba385bf08aff839a0664fe48bd35146e2e83be8181053fa03a099c8"), looks := true }, kinds := [], alts := [], laidByText := true, laidKinds := [.handle], laidTests := true, laidLooks := .later }
def RecvForgetsUptoCardSaid : Prop := Claim7.holds Tryd.pinned (.plain (OpenSpec.upto recvForgetsSpec)) recvForgetsUptoCard
end Rows
end Go.Proofs.YtnognjjbheoniaaDoor
