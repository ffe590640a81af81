/-
  DERIVED. GIVEN WITH THE SEED: THE CARDS: each row of YtdpdnkjpjoccmaaDoorRows.lean that lists a variable, with what it lists TIED to the program's text (the seventh form; the later family's looks); each row that meets fmt, with fmt's text TOLD by the authors' own Lean function (tested against real Go, not proved from fmt's source: count such statements apart). THE CARD IS WHAT COUNTS. Prove the row's statement (the work); the ties are given (YtdpdnkjpjoccmaaDoorTie.lean); close each card by the builder's one call (the guide's Derived/Test/ToyasCard.lean, 'card_holds'). Laid BY PROGRAM, IN A SANDBOX (cutbox-door.mjs). By AI agents, Wed Nov 11 2026. No macro, syntax, notation, axiom, sorry.
-/
import Derived.Test.YtdpdnkjpjoccmaaDoorRows
import GoSem.ClaimSeven
namespace Go.Proofs.YtdpdnkjpjoccmaaDoor
namespace Rows

/-- THE TIED CARD OF 'packtrainkeep.RecvAll'. -/
def recvAllCard : Claim7 := { stood := { row := recvAllRow, standIns := [], harness := (true, "36636115b28a90df69e824b9bfc47f7f2dcb4be39ebdb244ace0aa1cecc0b3c3"), looks := true }, kinds := [], alts := [], laidByText := true, laidKinds := [.handle], laidTests := true, laidLooks := .later }
def RecvAllCardSaid : Prop := Claim7.holds Tryd.pinned (.plain (OpenSpec.ofChange recvAllSpec)) recvAllCard

/-- THE TIED CARD OF 'packtrainkeep.RecvMixed'. -/
def recvMixedCard : Claim7 := { stood := { row := recvMixedRow, standIns := [], harness := (true, "36636115b28a90df69e824b9bfc47f7f2dcb4be39ebdb244ace0aa1cecc0b3c3"), looks := true }, kinds := [], alts := [], laidByText := true, laidKinds := [.handle], laidTests := true, laidLooks := .later }
def RecvMixedCardSaid : Prop := Claim7.holds Tryd.pinned (.plain (OpenSpec.ofChange recvMixedSpec)) recvMixedCard

/-- THE TIED CARD OF 'packtrainkeep.RecvMarks'. -/
def recvMarksCard : Claim7 := { stood := { row := recvMarksRow, standIns := [], harness := (true, "36636115b28a90df69e824b9bfc47f7f2dcb4be39ebdb244ace0aa1cecc0b3c3"), looks := true }, kinds := [], alts := [], laidByText := true, laidKinds := [.handle], laidTests := true, laidLooks := .later }
def RecvMarksCardSaid : Prop := Claim7.holds Tryd.pinned (.plain (OpenSpec.ofChange recvMarksSpec)) recvMarksCard

/-- THE TIED CARD OF 'packtrainkeep.LinkHolds'. -/
def linkHoldsCard : Claim7 := { stood := { row := linkHoldsRow, standIns := [], harness := (true, "36636115b28a90df69e824b9bfc47f7f2dcb4be39ebdb244ace0aa1cecc0b3c3"), looks := true }, kinds := [], alts := [], laidByText := true, laidKinds := [.handle], laidTests := true, laidLooks := .later }
def LinkHoldsCardSaid : Prop := Claim7.holds Tryd.pinned (.plain (OpenSpec.ofChange linkHoldsSpec)) linkHoldsCard

/-- THE TIED CARD OF 'packtrainkeep.BatchParts'. -/
def batchPartsCard : Claim7 := { stood := { row := batchPartsRow, standIns := [], harness := (true, "36636115b28a90df69e824b9bfc47f7f2dcb4be39ebdb244ace0aa1cecc0b3c3"), looks := true }, kinds := [], alts := [], laidByText := true, laidKinds := [.handle], laidTests := true, laidLooks := .later }
def BatchPartsCardSaid : Prop := Claim7.holds Tryd.pinned (.plain (OpenSpec.ofChange batchPartsSpec)) batchPartsCard

/-- THE TIED CARD OF 'packtrainkeep.BatchLess'. -/
def batchLessCard : Claim7 := { stood := { row := batchLessRow, standIns := [], harness := (true, "36636115b28a90df69e824b9bfc47f7f2dcb4be39ebdb244ace0aa1cecc0b3c3"), looks := true }, kinds := [], alts := [], laidByText := true, laidKinds := [.handle], laidTests := true, laidLooks := .later }
def BatchLessCardSaid : Prop := Claim7.holds Tryd.pinned (.plain (OpenSpec.ofChange batchLessSpec)) batchLessCard

/-- THE SECOND FORM's CARD OF 'packtrainkeep.RecvAll'. -/
def recvAllUptoCard : Claim7 := { stood := { row := recvAllUptoRow, standIns := [], harness := (true, "36636115b28a90df69e824b9bfc47f7f2dcb4be39ebdb244ace0aa1cecc0b3c3"), looks := true }, kinds := [], alts := [], laidByText := true, laidKinds := [.handle], laidTests := true, laidLooks := .later }
def RecvAllUptoCardSaid : Prop := Claim7.holds Tryd.pinned (.plain (OpenSpec.upto recvAllSpec)) recvAllUptoCard

/-- THE SECOND FORM's CARD OF 'packtrainkeep.RecvMixed'. -/
def recvMixedUptoCard : Claim7 := { stood := { row := recvMixedUptoRow, standIns := [], harness := (true, "36636115b28a90df69e824b9bfc47f7f2dcb4be39ebdb244ace0aa1cecc0b3c3"), looks := true }, kinds := [], alts := [], laidByText := true, laidKinds := [.handle], laidTests := true, laidLooks := .later }
def RecvMixedUptoCardSaid : Prop := Claim7.holds Tryd.pinned (.plain (OpenSpec.upto recvMixedSpec)) recvMixedUptoCard

/-- THE SECOND FORM's CARD OF 'packtrainkeep.RecvMarks'. -/
def recvMarksUptoCard : Claim7 := { stood := { row := recvMarksUptoRow, standIns := [], harness := (true, "36636115b28a90df69e824b9bfc47f7f2dcb4be39ebdb244ace0aa1cecc0b3c3"), looks := true }, kinds := [], alts := [], laidByText := true, laidKinds := [.handle], laidTests := true, laidLooks := .later }
def RecvMarksUptoCardSaid : Prop := Claim7.holds Tryd.pinned (.plain (OpenSpec.upto recvMarksSpec)) recvMarksUptoCard

/-- THE SECOND FORM's CARD OF 'packtrainkeep.LinkHolds'. -/
def linkHoldsUptoCard : Claim7 := { stood := { row := linkHoldsUptoRow, standIns := [], harness := (true, "36636115b28a90df69e824b9bfc47f7f2dcb4be39ebdb244ace0aa1cecc0b3c3"), looks := true }, kinds := [], alts := [], laidByText := true, laidKinds := [.handle], laidTests := true, laidLooks := .later }
def LinkHoldsUptoCardSaid : Prop := Claim7.holds Tryd.pinned (.plain (OpenSpec.upto linkHoldsSpec)) linkHoldsUptoCard

/-- THE SECOND FORM's CARD OF 'packtrainkeep.BatchParts'. -/
def batchPartsUptoCard : Claim7 := { stood := { row := batchPartsUptoRow, standIns := [], harness := (true, "36636115b28a90df69e824b9bfc47f7f2dcb4be39ebdb244ace0aa1cecc0b3c3"), looks := true }, kinds := [], alts := [], laidByText := true, laidKinds := [.handle], laidTests := true, laidLooks := .later }
def BatchPartsUptoCardSaid : Prop := Claim7.holds Tryd.pinned (.plain (OpenSpec.upto batchPartsSpec)) batchPartsUptoCard

/-- THE SECOND FORM's CARD OF 'packtrainkeep.BatchLess'. -/
def batchLessUptoCard : Claim7 := { stood := { row := batchLessUptoRow, standIns := [], harness := (true, "36636115b28a90df69e824b9bfc47f7f2dcb4be39ebdb244ace0aa1cecc0b3c3"), looks := true }, kinds := [], alts := [], laidByText := true, laidKinds := [.handle], laidTests := true, laidLooks := .later }
def BatchLessUptoCardSaid : Prop := Claim7.holds Tryd.pinned (.plain (OpenSpec.upto batchLessSpec)) batchLessUptoCard
end Rows
end Go.Proofs.YtdpdnkjpjoccmaaDoor
