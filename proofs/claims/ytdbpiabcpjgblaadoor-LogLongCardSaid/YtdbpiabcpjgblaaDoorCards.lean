/-
  DERIVED. GIVEN WITH THE SEED: THE CARDS: each row of YtdbpiabcpjgblaaDoorRows.lean that lists a variable, with what it lists TIED to the program's text (the seventh form; the later family's looks); each row that meets fmt, with fmt's text TOLD by the authors' own Lean function (tested against real Go, not proved from fmt's source: count such statements apart). THE CARD IS WHAT COUNTS. Prove the row's statement (the work); the ties are given (YtdbpiabcpjgblaaDoorTie.lean); close each card by the builder's one call (the guide's Derived/Test/ToyasCard.lean, 'card_holds'). Laid BY PROGRAM, IN A SANDBOX (cutbox-door.mjs). By AI agents, Wed Nov 11 2026. No macro, syntax, notation, axiom, sorry.
-/
import Derived.Test.YtdbpiabcpjgblaaDoorRows
import GoSem.ClaimSeven
namespace Go.Proofs.YtdbpiabcpjgblaaDoor
namespace Rows

/-- THE TIED CARD OF 'packtrainkeep.LogTwo'. -/
def logTwoCard : Claim7 := { stood := { row := logTwoRow, standIns := [], harness := (true, "32eea2a124e6b3e8ea4580d15eb4b071379f28534d2079f7e0a5f401e087115a"), looks := true }, kinds := [], alts := [], laidByText := true, laidKinds := [.handle], laidTests := true, laidLooks := .later }
def LogTwoCardSaid : Prop := Claim7.holds Tryd.pinned (.plain (OpenSpec.ofChange logTwoSpec)) logTwoCard

/-- THE TIED CARD OF 'packtrainkeep.LogFull'. -/
def logFullCard : Claim7 := { stood := { row := logFullRow, standIns := [], harness := (true, "32eea2a124e6b3e8ea4580d15eb4b071379f28534d2079f7e0a5f401e087115a"), looks := true }, kinds := [], alts := [], laidByText := true, laidKinds := [.handle], laidTests := true, laidLooks := .later }
def LogFullCardSaid : Prop := Claim7.holds Tryd.pinned (.plain (OpenSpec.ofChange logFullSpec)) logFullCard

/-- THE TIED CARD OF 'packtrainkeep.LogLong'. -/
def logLongCard : Claim7 := { stood := { row := logLongRow, standIns := [], harness := (true, "32eea2a124e6b3e8ea4580d15eb4b071379f28534d2079f7e0a5f401e087115a"), looks := true }, kinds := [], alts := [], laidByText := true, laidKinds := [.handle], laidTests := true, laidLooks := .later }
def LogLongCardSaid : Prop := Claim7.holds Tryd.pinned (.plain (OpenSpec.ofChange logLongSpec)) logLongCard

/-- THE SECOND FORM's CARD OF 'packtrainkeep.LogTwo'. -/
def logTwoUptoCard : Claim7 := { stood := { row := logTwoUptoRow, standIns := [], harness := (true, "32eea2a124e6b3e8ea4580d15eb4b071379f28534d2079f7e0a5f401e087115a"), looks := true }, kinds := [], alts := [], laidByText := true, laidKinds := [.handle], laidTests := true, laidLooks := .later }
def LogTwoUptoCardSaid : Prop := Claim7.holds Tryd.pinned (.plain (OpenSpec.upto logTwoSpec)) logTwoUptoCard

/-- THE SECOND FORM's CARD OF 'packtrainkeep.LogFull'. -/
def logFullUptoCard : Claim7 := { stood := { row := logFullUptoRow, standIns := [], harness := (true, "32eea2a124e6b3e8ea4580d15eb4b071379f28534d2079f7e0a5f401e087115a"), looks := true }, kinds := [], alts := [], laidByText := true, laidKinds := [.handle], laidTests := true, laidLooks := .later }
def LogFullUptoCardSaid : Prop := Claim7.holds Tryd.pinned (.plain (OpenSpec.upto logFullSpec)) logFullUptoCard

/-- THE SECOND FORM's CARD OF 'packtrainkeep.LogLong'. -/
def logLongUptoCard : Claim7 := { stood := { row := logLongUptoRow, standIns := [], harness := (true, "32eea2a124e6b3e8ea4580d15eb4b071379f28534d2079f7e0a5f401e087115a"), looks := true }, kinds := [], alts := [], laidByText := true, laidKinds := [.handle], laidTests := true, laidLooks := .later }
def LogLongUptoCardSaid : Prop := Claim7.holds Tryd.pinned (.plain (OpenSpec.upto logLongSpec)) logLongUptoCard
end Rows
end Go.Proofs.YtdbpiabcpjgblaaDoor
