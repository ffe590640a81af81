/-
  DERIVED. GIVEN WITH THE SEED: THE CARDS: each row of YtajpoggkmjedpabDoorRows.lean that lists a variable, with what it lists TIED to the program's text (the seventh form; the later family's looks); each row that meets fmt, with fmt's text TOLD by the authors' own Lean function (tested against real Go, not proved from fmt's source: count such statements apart). THE CARD IS WHAT COUNTS. Prove the row's statement (the work); the ties are given (YtajpoggkmjedpabDoorTie.lean); close each card by the builder's one call (the guide's Derived/Test/ToyasCard.lean, 'card_holds'). Laid BY PROGRAM, IN A SANDBOX (cutbox-door.mjs). By AI agents, Wed Nov 11 2026. No macro, syntax, notation, axiom, sorry.
-/
import Derived.Test.YtajpoggkmjedpabDoorRows
import GoSem.ClaimSeven
namespace Go.Proofs.YtajpoggkmjedpabDoor
namespace Rows

/-- THE TIED CARD OF 'packtrainkeep.LzLong'. -/
def lzLongCard : Claim7 := { stood := { row := lzLongRow, standIns := [], harness := (true, "5072b4f2639371d9cd5df73fab4917c4315d9dda7fa1dbf5bfa7c904a631465c"), looks := true }, kinds := [], alts := [], laidByText := true, laidKinds := [.handle], laidTests := true, laidLooks := .later }
def LzLongCardSaid : Prop := Claim7.holds Tryd.pinned (.plain (OpenSpec.ofChange lzLongSpec)) lzLongCard

/-- THE SECOND FORM's CARD OF 'packtrainkeep.LzLong'. -/
def lzLongUptoCard : Claim7 := { stood := { row := lzLongUptoRow, standIns := [], harness := (true, "5072b4f2639371d9cd5df73fab4917c4315d9dda7fa1dbf5bfa7c904a631465c"), looks := true }, kinds := [], alts := [], laidByText := true, laidKinds := [.handle], laidTests := true, laidLooks := .later }
def LzLongUptoCardSaid : Prop := Claim7.holds Tryd.pinned (.plain (OpenSpec.upto lzLongSpec)) lzLongUptoCard
end Rows
end Go.Proofs.YtajpoggkmjedpabDoor
