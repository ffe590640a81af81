/-
  DERIVED. GIVEN WITH THE SEED: THE CARDS: each row of YtonblpcbpfhlmaaDoorRows.lean that lists a variable, with what it lists TIED to the program's text (the seventh form; the later family's looks); each row that meets fmt, with fmt's text TOLD by the authors' own Lean function (tested against real Go, not proved from fmt's source: count such statements apart). THE CARD IS WHAT COUNTS. Prove the row's statement (the work); the ties are given (YtonblpcbpfhlmaaDoorTie.lean); close each card by the builder's one call (the guide's Derived/Test/ToyasCard.lean, 'card_holds'). Laid BY PROGRAM, IN A SANDBOX (cutbox-door.mjs). By AI agents, Wed Nov 11 2026. No macro, syntax, notation, axiom, sorry.
-/
import Derived.Test.YtonblpcbpfhlmaaDoorRows
import GoSem.ClaimSeven
namespace Go.Proofs.YtonblpcbpfhlmaaDoor
namespace Rows

/-- THE TIED CARD OF 'packtrainkeep.WriteBack'. -/
def writeBackCard : Claim7 := { stood := { row := writeBackRow, standIns := [], harness := (true, "00bfa02f7c0f3a300744f3acdd87e3b9091fd8c5b80ef630f42aefbd429f912c"), looks := true }, kinds := [], alts := [], laidByText := true, laidKinds := [.handle], laidTests := true, laidLooks := .later }
def WriteBackCardSaid : Prop := Claim7.holds Tryd.pinned (.plain (OpenSpec.ofChange writeBackSpec)) writeBackCard

/-- THE TIED CARD OF 'packtrainkeep.WriteOnly'. -/
def writeOnlyCard : Claim7 := { stood := { row := writeOnlyRow, standIns := [], harness := (true, "00bfa02f7c0f3a300744f3acdd87e3b9091fd8c5b80ef630f42aefbd429f912c"), looks := true }, kinds := [], alts := [], laidByText := true, laidKinds := [.handle], laidTests := true, laidLooks := .later }
def WriteOnlyCardSaid : Prop := Claim7.holds Tryd.pinned (.plain (OpenSpec.ofChange writeOnlySpec)) writeOnlyCard

/-- THE TIED CARD OF 'packtrainkeep.WriteKinds'. -/
def writeKindsCard : Claim7 := { stood := { row := writeKindsRow, standIns := [], harness := (true, "00bfa02f7c0f3a300744f3acdd87e3b9091fd8c5b80ef630f42aefbd429f912c"), looks := true }, kinds := [], alts := [], laidByText := true, laidKinds := [.handle], laidTests := true, laidLooks := .later }
def WriteKindsCardSaid : Prop := Claim7.holds Tryd.pinned (.plain (OpenSpec.ofChange writeKindsSpec)) writeKindsCard

/-- THE TIED CARD OF 'packtrainkeep.BatchSame'. -/
def batchSameCard : Claim7 := { stood := { row := batchSameRow, standIns := [], harness := (true, "00bfa02f7c0f3a300744f3acdd87e3b9091fd8c5b80ef630f42aefbd429f912c"), looks := true }, kinds := [], alts := [], laidByText := true, laidKinds := [.handle], laidTests := true, laidLooks := .later }
def BatchSameCardSaid : Prop := Claim7.holds Tryd.pinned (.plain (OpenSpec.ofChange batchSameSpec)) batchSameCard

/-- THE TIED CARD OF 'packtrainkeep.IdentParts'. -/
def identPartsCard : Claim7 := { stood := { row := identPartsRow, standIns := [], harness := (true, "00bfa02f7c0f3a300744f3acdd87e3b9091fd8c5b80ef630f42aefbd429f912c"), looks := true }, kinds := [], alts := [], laidByText := true, laidKinds := [.handle], laidTests := true, laidLooks := .later }
def IdentPartsCardSaid : Prop := Claim7.holds Tryd.pinned (.plain (OpenSpec.ofChange identPartsSpec)) identPartsCard

/-- THE TIED CARD OF 'packtrainkeep.BatchWide'. -/
def batchWideCard : Claim7 := { stood := { row := batchWideRow, standIns := [], harness := (true, "00bfa02f7c0f3a300744f3acdd87e3b9091fd8c5b80ef630f42aefbd429f912c"), looks := true }, kinds := [], alts := [], laidByText := true, laidKinds := [.handle], laidTests := true, laidLooks := .later }
def BatchWideCardSaid : Prop := Claim7.holds Tryd.pinned (.plain (OpenSpec.ofChange batchWideSpec)) batchWideCard

/-- THE TIED CARD OF 'packtrainkeep.BatchParts'. -/
def batchPartsCard : Claim7 := { stood := { row := batchPartsRow, standIns := [], harness := (true, "00bfa02f7c0f3a300744f3acdd87e3b9091fd8c5b80ef630f42aefbd429f912c"), looks := true }, kinds := [], alts := [], laidByText := true, laidKinds := [.handle], laidTests := true, laidLooks := .later }
def BatchPartsCardSaid : Prop := Claim7.holds Tryd.pinned (.plain (OpenSpec.ofChange batchPartsSpec)) batchPartsCard

/-- THE TIED CARD OF 'packtrainkeep.BatchLess'. -/
def batchLessCard : Claim7 := { stood := { row := batchLessRow, standIns := [], harness := (true, "00bfa02f7c0f3a300744f3acdd87e3b9091fd8c5b80ef630f42aefbd429f912c"), looks := true }, kinds := [], alts := [], laidByText := true, laidKinds := [.handle], laidTests := true, laidLooks := .later }
def BatchLessCardSaid : Prop := Claim7.holds Tryd.pinned (.plain (OpenSpec.ofChange batchLessSpec)) batchLessCard

/-- THE SECOND FORM's CARD OF 'packtrainkeep.WriteBack'. -/
def writeBackUptoCard : Claim7 := { stood := { row := writeBackUptoRow, standIns := [], harness := (true, "00bfa02f7c0f3a300744f3acdd87e3b9091fd8c5b80ef630f42aefbd429f912c"), looks := true }, kinds := [], alts := [], laidByText := true, laidKinds := [.handle], laidTests := true, laidLooks := .later }
def WriteBackUptoCardSaid : Prop := Claim7.holds Tryd.pinned (.plain (OpenSpec.upto writeBackSpec)) writeBackUptoCard

/-- THE SECOND FORM's CARD OF 'packtrainkeep.WriteOnly'. -/
def writeOnlyUptoCard : Claim7 := { stood := { row := writeOnlyUptoRow, standIns := [], harness := (true, "00bfa02f7c0f3a300744f3acdd87e3b9091fd8c5b80ef630f42aefbd429f912c"), looks := true }, kinds := [], alts := [], laidByText := true, laidKinds := [.handle], laidTests := true, laidLooks := .later }
def WriteOnlyUptoCardSaid : Prop := Claim7.holds Tryd.pinned (.plain (OpenSpec.upto writeOnlySpec)) writeOnlyUptoCard

/-- THE SECOND FORM's CARD OF 'packtrainkeep.WriteKinds'. -/
def writeKindsUptoCard : Claim7 := { stood := { row := writeKindsUptoRow, standIns := [], harness := (true, "00bfa02f7c0f3a300744f3acdd87e3b9091fd8c5b80ef630f42aefbd429f912c"), looks := true }, kinds := [], alts := [], laidByText := true, laidKinds := [.handle], laidTests := true, laidLooks := .later }
def WriteKindsUptoCardSaid : Prop := Claim7.holds Tryd.pinned (.plain (OpenSpec.upto writeKindsSpec)) writeKindsUptoCard

/-- THE SECOND FORM's CARD OF 'packtrainkeep.BatchSame'. -/
def batchSameUptoCard : Claim7 := { stood := { row := batchSameUptoRow, standIns := [], harness := (true, "00bfa02f7c0f3a300744f3acdd87e3b9091fd8c5b80ef630f42aefbd429f912c"), looks := true }, kinds := [], alts := [], laidByText := true, laidKinds := [.handle], laidTests := true, laidLooks := .later }
def BatchSameUptoCardSaid : Prop := Claim7.holds Tryd.pinned (.plain (OpenSpec.upto batchSameSpec)) batchSameUptoCard

/-- THE SECOND FORM's CARD OF 'packtrainkeep.IdentParts'. -/
def identPartsUptoCard : Claim7 := { stood := { row := identPartsUptoRow, standIns := [], harness := (true, "00bfa02f7c0f3a300744f3acdd87e3b9091fd8c5b80ef630f42aefbd429f912c"), looks := true }, kinds := [], alts := [], laidByText := true, laidKinds := [.handle], laidTests := true, laidLooks := .later }
def IdentPartsUptoCardSaid : Prop := Claim7.holds Tryd.pinned (.plain (OpenSpec.upto identPartsSpec)) identPartsUptoCard

/-- THE SECOND FORM's CARD OF 'packtrainkeep.BatchWide'. -/
def batchWideUptoCard : Claim7 := { stood := { row := batchWideUptoRow, standIns := [], harness := (true, "00bfa02f7c0f3a300744f3acdd87e3b9091fd8c5b80ef630f42aefbd429f912c"), looks := true }, kinds := [], alts := [], laidByText := true, laidKinds := [.handle], laidTests := true, laidLooks := .later }
def BatchWideUptoCardSaid : Prop := Claim7.holds Tryd.pinned (.plain (OpenSpec.upto batchWideSpec)) batchWideUptoCard

/-- THE SECOND FORM's CARD OF 'packtrainkeep.BatchParts'. -/
def batchPartsUptoCard : Claim7 := { stood := { row := batchPartsUptoRow, standIns := [], harness := (true, "00bfa02f7c0f3a300744f3acdd87e3b9091fd8c5b80ef630f42aefbd429f912c"), looks := true }, kinds := [], alts := [], laidByText := true, laidKinds := [.handle], laidTests := true, laidLooks := .later }
def BatchPartsUptoCardSaid : Prop := Claim7.holds Tryd.pinned (.plain (OpenSpec.upto batchPartsSpec)) batchPartsUptoCard

/-- THE SECOND FORM's CARD OF 'packtrainkeep.BatchLess'. -/
def batchLessUptoCard : Claim7 := { stood := { row := batchLessUptoRow, standIns := [], harness := (true, "00bfa02f7c0f3a300744f3acdd87e3b9091fd8c5b80ef630f42aefbd429f912c"), looks := true }, kinds := [], alts := [], laidByText := true, laidKinds := [.handle], laidTests := true, laidLooks := .later }
def BatchLessUptoCardSaid : Prop := Claim7.holds Tryd.pinned (.plain (OpenSpec.upto batchLessSpec)) batchLessUptoCard
end Rows
end Go.Proofs.YtonblpcbpfhlmaaDoor
