/-
  DERIVED. GIVEN WITH THE SEED: THE CARDS: each row of YtnfdcdnoipbjkaaDoorRows.lean that lists a variable, with what it lists TIED to the program's text (the seventh form; the later family's looks); each row that meets fmt, with fmt's text TOLD by the authors' own Lean function (tested against real Go, not proved from fmt's source: count such statements apart). THE CARD IS WHAT COUNTS. Prove the row's statement (the work); the ties are given (YtnfdcdnoipbjkaaDoorTie.lean); close each card by the builder's one call (the guide's Derived/Test/ToyasCard.lean, 'card_holds'). Laid BY PROGRAM, IN A SANDBOX (cutbox-door.mjs). By AI agents, Wed Nov 11 2026. No macro, syntax, notation, axiom, sorry.
-/
import Derived.Test.YtnfdcdnoipbjkaaDoorRows
import GoSem.ClaimSeven
namespace Go.Proofs.YtnfdcdnoipbjkaaDoor
namespace Rows

/-- THE TIED CARD OF 'packtrainkeep.VaryBack'. -/
def varyBackCard : Claim7 := { stood := { row := varyBackRow, standIns := [], harness := (true, "125f151987404c26c1447da8e0ff937ae11d39c4be0fb7fa5ec2034b647b4247"), looks := true }, kinds := [], alts := [], laidByText := true, laidKinds := [.handle], laidTests := true, laidLooks := .later }
def VaryBackCardSaid : Prop := Claim7.holds Tryd.pinned (.plain (OpenSpec.ofChange varyBackSpec)) varyBackCard

/-- THE TIED CARD OF 'packtrainkeep.VaryOnly'. -/
def varyOnlyCard : Claim7 := { stood := { row := varyOnlyRow, standIns := [], harness := (true, "125f151987404c26c1447da8e0ff937ae11d39c4be0fb7fa5ec2034b647b4247"), looks := true }, kinds := [], alts := [], laidByText := true, laidKinds := [.handle], laidTests := true, laidLooks := .later }
def VaryOnlyCardSaid : Prop := Claim7.holds Tryd.pinned (.plain (OpenSpec.ofChange varyOnlySpec)) varyOnlyCard

/-- THE TIED CARD OF 'packtrainkeep.VaryLong'. -/
def varyLongCard : Claim7 := { stood := { row := varyLongRow, standIns := [], harness := (true, "125f151987404c26c1447da8e0ff937ae11d39c4be0fb7fa5ec2034b647b4247"), looks := true }, kinds := [], alts := [], laidByText := true, laidKinds := [.handle], laidTests := true, laidLooks := .later }
def VaryLongCardSaid : Prop := Claim7.holds Tryd.pinned (.plain (OpenSpec.ofChange varyLongSpec)) varyLongCard

/-- THE TIED CARD OF 'packtrainkeep.VaryCut'. -/
def varyCutCard : Claim7 := { stood := { row := varyCutRow, standIns := [], harness := (true, "125f151987404c26c1447da8e0ff937ae11d39c4be0fb7fa5ec2034b647b4247"), looks := true }, kinds := [], alts := [], laidByText := true, laidKinds := [.handle], laidTests := true, laidLooks := .later }
def VaryCutCardSaid : Prop := Claim7.holds Tryd.pinned (.plain (OpenSpec.ofChange varyCutSpec)) varyCutCard

/-- THE TIED CARD OF 'packtrainkeep.VaryBoth'. -/
def varyBothCard : Claim7 := { stood := { row := varyBothRow, standIns := [], harness := (true, "125f151987404c26c1447da8e0ff937ae11d39c4be0fb7fa5ec2034b647b4247"), looks := true }, kinds := [], alts := [], laidByText := true, laidKinds := [.handle], laidTests := true, laidLooks := .later }
def VaryBothCardSaid : Prop := Claim7.holds Tryd.pinned (.plain (OpenSpec.ofChange varyBothSpec)) varyBothCard

/-- THE TIED CARD OF 'packtrainkeep.VaryOrder'. -/
def varyOrderCard : Claim7 := { stood := { row := varyOrderRow, standIns := [], harness := (true, "125f151987404c26c1447da8e0ff937ae11d39c4be0fb7fa5ec2034b647b4247"), looks := true }, kinds := [], alts := [], laidByText := true, laidKinds := [.handle], laidTests := true, laidLooks := .later }
def VaryOrderCardSaid : Prop := Claim7.holds Tryd.pinned (.plain (OpenSpec.ofChange varyOrderSpec)) varyOrderCard

/-- THE TIED CARD OF 'packtrainkeep.VaryMost'. -/
def varyMostCard : Claim7 := { stood := { row := varyMostRow, standIns := [], harness := (true, "125f151987404c26c1447da8e0ff937ae11d39c4be0fb7fa5ec2034b647b4247"), looks := true }, kinds := [], alts := [], laidByText := true, laidKinds := [.handle], laidTests := true, laidLooks := .later }
def VaryMostCardSaid : Prop := Claim7.holds Tryd.pinned (.plain (OpenSpec.ofChange varyMostSpec)) varyMostCard

/-- THE TIED CARD OF 'packtrainkeep.SpanOnly'. -/
def spanOnlyCard : Claim7 := { stood := { row := spanOnlyRow, standIns := [], harness := (true, "125f151987404c26c1447da8e0ff937ae11d39c4be0fb7fa5ec2034b647b4247"), looks := true }, kinds := [], alts := [], laidByText := true, laidKinds := [.handle], laidTests := true, laidLooks := .later }
def SpanOnlyCardSaid : Prop := Claim7.holds Tryd.pinned (.plain (OpenSpec.ofChange spanOnlySpec)) spanOnlyCard

/-- THE TIED CARD OF 'packtrainkeep.SpanCut'. -/
def spanCutCard : Claim7 := { stood := { row := spanCutRow, standIns := [], harness := (true, "125f151987404c26c1447da8e0ff937ae11d39c4be0fb7fa5ec2034b647b4247"), looks := true }, kinds := [], alts := [], laidByText := true, laidKinds := [.handle], laidTests := true, laidLooks := .later }
def SpanCutCardSaid : Prop := Claim7.holds Tryd.pinned (.plain (OpenSpec.ofChange spanCutSpec)) spanCutCard

/-- THE TIED CARD OF 'packtrainkeep.SpanLong'. -/
def spanLongCard : Claim7 := { stood := { row := spanLongRow, standIns := [], harness := (true, "125f151987404c26c1447da8e0ff937ae11d39c4be0fb7fa5ec2034b647b4247"), looks := true }, kinds := [], alts := [], laidByText := true, laidKinds := [.handle], laidTests := true, laidLooks := .later }
def SpanLongCardSaid : Prop := Claim7.holds Tryd.pinned (.plain (OpenSpec.ofChange spanLongSpec)) spanLongCard

/-- THE TIED CARD OF 'packtrainkeep.SpanBack'. -/
def spanBackCard : Claim7 := { stood := { row := spanBackRow, standIns := [], harness := (true, "125f151987404c26c1447da8e0ff937ae11d39c4be0fb7fa5ec2034b647b4247"), looks := true }, kinds := [], alts := [], laidByText := true, laidKinds := [.handle], laidTests := true, laidLooks := .later }
def SpanBackCardSaid : Prop := Claim7.holds Tryd.pinned (.plain (OpenSpec.ofChange spanBackSpec)) spanBackCard

/-- THE SECOND FORM's CARD OF 'packtrainkeep.VaryBack'. -/
def varyBackUptoCard : Claim7 := { stood := { row := varyBackUptoRow, standIns := [], harness := (true, "125f151987404c26c1447da8e0ff937ae11d39c4be0fb7fa5ec2034b647b4247"), looks := true }, kinds := [], alts := [], laidByText := true, laidKinds := [.handle], laidTests := true, laidLooks := .later }
def VaryBackUptoCardSaid : Prop := Claim7.holds Tryd.pinned (.plain (OpenSpec.upto varyBackSpec)) varyBackUptoCard

/-- THE SECOND FORM's CARD OF 'packtrainkeep.VaryOnly'. -/
def varyOnlyUptoCard : Claim7 := { stood := { row := varyOnlyUptoRow, standIns := [], harness := (true, "125f151987404c26c1447da8e0ff937ae11d39c4be0fb7fa5ec2034b647b4247"), looks := true }, kinds := [], alts := [], laidByText := true, laidKinds := [.handle], laidTests := true, laidLooks := .later }
def VaryOnlyUptoCardSaid : Prop := Claim7.holds Tryd.pinned (.plain (OpenSpec.upto varyOnlySpec)) varyOnlyUptoCard

/-- THE SECOND FORM's CARD OF 'packtrainkeep.VaryLong'. -/
def varyLongUptoCard : Claim7 := { stood := { row := varyLongUptoRow, standIns := [], harness := (true, "125f151987404c26c1447da8e0ff937ae11d39c4be0fb7fa5ec2034b647b4247"), looks := true }, kinds := [], alts := [], laidByText := true, laidKinds := [.handle], laidTests := true, laidLooks := .later }
def VaryLongUptoCardSaid : Prop := Claim7.holds Tryd.pinned (.plain (OpenSpec.upto varyLongSpec)) varyLongUptoCard

/-- THE SECOND FORM's CARD OF 'packtrainkeep.VaryCut'. -/
def varyCutUptoCard : Claim7 := { stood := { row := varyCutUptoRow, standIns := [], harness := (true, "125f151987404c26c1447da8e0ff937ae11d39c4be0fb7fa5ec2034b647b4247"), looks := true }, kinds := [], alts := [], laidByText := true, laidKinds := [.handle], laidTests := true, laidLooks := .later }
def VaryCutUptoCardSaid : Prop := Claim7.holds Tryd.pinned (.plain (OpenSpec.upto varyCutSpec)) varyCutUptoCard

/-- THE SECOND FORM's CARD OF 'packtrainkeep.VaryBoth'. -/
def varyBothUptoCard : Claim7 := { stood := { row := varyBothUptoRow, standIns := [], harness := (true, "125f151987404c26c1447da8e0ff937ae11d39c4be0fb7fa5ec2034b647b4247"), looks := true }, kinds := [], alts := [], laidByText := true, laidKinds := [.handle], laidTests := true, laidLooks := .later }
def VaryBothUptoCardSaid : Prop := Claim7.holds Tryd.pinned (.plain (OpenSpec.upto varyBothSpec)) varyBothUptoCard

/-- THE SECOND FORM's CARD OF 'packtrainkeep.VaryOrder'. -/
def varyOrderUptoCard : Claim7 := { stood := { row := varyOrderUptoRow, standIns := [], harness := (true, "125f151987404c26c1447da8e0ff937ae11d39c4be0fb7fa5ec2034b647b4247"), looks := true }, kinds := [], alts := [], laidByText := true, laidKinds := [.handle], laidTests := true, laidLooks := .later }
def VaryOrderUptoCardSaid : Prop := Claim7.holds Tryd.pinned (.plain (OpenSpec.upto varyOrderSpec)) varyOrderUptoCard

/-- THE SECOND FORM's CARD OF 'packtrainkeep.VaryMost'. -/
def varyMostUptoCard : Claim7 := { stood := { row := varyMostUptoRow, standIns := [], harness := (true, "125f151987404c26c1447da8e0ff937ae11d39c4be0fb7fa5ec2034b647b4247"), looks := true }, kinds := [], alts := [], laidByText := true, laidKinds := [.handle], laidTests := true, laidLooks := .later }
def VaryMostUptoCardSaid : Prop := Claim7.holds Tryd.pinned (.plain (OpenSpec.upto varyMostSpec)) varyMostUptoCard

/-- THE SECOND FORM's CARD OF 'packtrainkeep.SpanOnly'. -/
def spanOnlyUptoCard : Claim7 := { stood := { row := spanOnlyUptoRow, standIns := [], harness := (true, "125f151987404c26c1447da8e0ff937ae11d39c4be0fb7fa5ec2034b647b4247"), looks := true }, kinds := [], alts := [], laidByText := true, laidKinds := [.handle], laidTests := true, laidLooks := .later }
def SpanOnlyUptoCardSaid : Prop := Claim7.holds Tryd.pinned (.plain (OpenSpec.upto spanOnlySpec)) spanOnlyUptoCard

/-- THE SECOND FORM's CARD OF 'packtrainkeep.SpanCut'. -/
def spanCutUptoCard : Claim7 := { stood := { row := spanCutUptoRow, standIns := [], harness := (true, "125f151987404c26c1447da8e0ff937ae11d39c4be0fb7fa5ec2034b647b4247"), looks := true }, kinds := [], alts := [], laidByText := true, laidKinds := [.handle], laidTests := true, laidLooks := .later }
def SpanCutUptoCardSaid : Prop := Claim7.holds Tryd.pinned (.plain (OpenSpec.upto spanCutSpec)) spanCutUptoCard

/-- THE SECOND FORM's CARD OF 'packtrainkeep.SpanLong'. -/
def spanLongUptoCard : Claim7 := { stood := { row := spanLongUptoRow, standIns := [], harness := (true, "125f151987404c26c1447da8e0ff937ae11d39c4be0fb7fa5ec2034b647b4247"), looks := true }, kinds := [], alts := [], laidByText := true, laidKinds := [.handle], laidTests := true, laidLooks := .later }
def SpanLongUptoCardSaid : Prop := Claim7.holds Tryd.pinned (.plain (OpenSpec.upto spanLongSpec)) spanLongUptoCard

/-- THE SECOND FORM's CARD OF 'packtrainkeep.SpanBack'. -/
def spanBackUptoCard : Claim7 := { stood := { row := spanBackUptoRow, standIns := [], harness := (true, "125f151987404c26c1447da8e0ff937ae11d39c4be0fb7fa5ec2034b647b4247"), looks := true }, kinds := [], alts := [], laidByText := true, laidKinds := [.handle], laidTests := true, laidLooks := .later }
def SpanBackUptoCardSaid : Prop := Claim7.holds Tryd.pinned (.plain (OpenSpec.upto spanBackSpec)) spanBackUptoCard
end Rows
end Go.Proofs.YtnfdcdnoipbjkaaDoor
