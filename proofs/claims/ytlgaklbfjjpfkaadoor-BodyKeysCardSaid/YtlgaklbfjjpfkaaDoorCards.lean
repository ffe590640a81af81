/-
  DERIVED. GIVEN WITH THE SEED: THE CARDS: each row of YtlgaklbfjjpfkaaDoorRows.lean that lists a variable, with what it lists TIED to the program's text (the seventh form; the later family's looks); each row that meets fmt, with fmt's text TOLD by the authors' own Lean function (tested against real Go, not proved from fmt's source: count such statements apart). THE CARD IS WHAT COUNTS. Prove the row's statement (the work); the ties are given (YtlgaklbfjjpfkaaDoorTie.lean); close each card by the builder's one call (the guide's Derived/Test/ToyasCard.lean, 'card_holds'). Laid BY PROGRAM, IN A SANDBOX (cutbox-door.mjs). By AI agents, Wed Nov 11 2026. No macro, syntax, notation, axiom, sorry.
-/
import Derived.Test.YtlgaklbfjjpfkaaDoorRows
import GoSem.ClaimSeven
namespace Go.Proofs.YtlgaklbfjjpfkaaDoor
namespace Rows

/-- THE TIED CARD OF 'packtrainkeep.BodyBack'. -/
def bodyBackCard : Claim7 := { stood := { row := bodyBackRow, standIns := [], harness := (true, "6df7a84c6831d8b7c7cbfc82dc0c84bc361b6e5afe77f29a18e9f1cc6958dfca"), looks := true }, kinds := [], alts := [], laidByText := true, laidKinds := [.handle], laidTests := true, laidLooks := .later }
def BodyBackCardSaid : Prop := Claim7.holds Tryd.pinned (.plain (OpenSpec.ofChange bodyBackSpec)) bodyBackCard

/-- THE TIED CARD OF 'packtrainkeep.BodyOnly'. -/
def bodyOnlyCard : Claim7 := { stood := { row := bodyOnlyRow, standIns := [], harness := (true, "6df7a84c6831d8b7c7cbfc82dc0c84bc361b6e5afe77f29a18e9f1cc6958dfca"), looks := true }, kinds := [], alts := [], laidByText := true, laidKinds := [.handle], laidTests := true, laidLooks := .later }
def BodyOnlyCardSaid : Prop := Claim7.holds Tryd.pinned (.plain (OpenSpec.ofChange bodyOnlySpec)) bodyOnlyCard

/-- THE TIED CARD OF 'packtrainkeep.BodyCut'. -/
def bodyCutCard : Claim7 := { stood := { row := bodyCutRow, standIns := [], harness := (true, "6df7a84c6831d8b7c7cbfc82dc0c84bc361b6e5afe77f29a18e9f1cc6958dfca"), looks := true }, kinds := [], alts := [], laidByText := true, laidKinds := [.handle], laidTests := true, laidLooks := .later }
def BodyCutCardSaid : Prop := Claim7.holds Tryd.pinned (.plain (OpenSpec.ofChange bodyCutSpec)) bodyCutCard

/-- THE TIED CARD OF 'packtrainkeep.BodyKeys'. -/
def bodyKeysCard : Claim7 := { stood := { row := bodyKeysRow, standIns := [], harness := (true, "6df7a84c6831d8b7c7cbfc82dc0c84bc361b6e5afe77f29a18e9f1cc6958dfca"), looks := true }, kinds := [], alts := [], laidByText := true, laidKinds := [.handle], laidTests := true, laidLooks := .later }
def BodyKeysCardSaid : Prop := Claim7.holds Tryd.pinned (.plain (OpenSpec.ofChange bodyKeysSpec)) bodyKeysCard

/-- THE TIED CARD OF 'packtrainkeep.BodyHead'. -/
def bodyHeadCard : Claim7 := { stood := { row := bodyHeadRow, standIns := [], harness := (true, "6df7a84c6831d8b7c7cbfc82dc0c84bc361b6e5afe77f29a18e9f1cc6958dfca"), looks := true }, kinds := [], alts := [], laidByText := true, laidKinds := [.handle], laidTests := true, laidLooks := .later }
def BodyHeadCardSaid : Prop := Claim7.holds Tryd.pinned (.plain (OpenSpec.ofChange bodyHeadSpec)) bodyHeadCard

/-- THE TIED CARD OF 'packtrainkeep.BodyValues'. -/
def bodyValuesCard : Claim7 := { stood := { row := bodyValuesRow, standIns := [], harness := (true, "6df7a84c6831d8b7c7cbfc82dc0c84bc361b6e5afe77f29a18e9f1cc6958dfca"), looks := true }, kinds := [], alts := [], laidByText := true, laidKinds := [.handle], laidTests := true, laidLooks := .later }
def BodyValuesCardSaid : Prop := Claim7.holds Tryd.pinned (.plain (OpenSpec.ofChange bodyValuesSpec)) bodyValuesCard

/-- THE SECOND FORM's CARD OF 'packtrainkeep.BodyBack'. -/
def bodyBackUptoCard : Claim7 := { stood := { row := bodyBackUptoRow, standIns := [], harness := (true, "6df7a84c6831d8b7c7cbfc82dc0c84bc361b6e5afe77f29a18e9f1cc6958dfca"), looks := true }, kinds := [], alts := [], laidByText := true, laidKinds := [.handle], laidTests := true, laidLooks := .later }
def BodyBackUptoCardSaid : Prop := Claim7.holds Tryd.pinned (.plain (OpenSpec.upto bodyBackSpec)) bodyBackUptoCard

/-- THE SECOND FORM's CARD OF 'packtrainkeep.BodyOnly'. -/
def bodyOnlyUptoCard : Claim7 := { stood := { row := bodyOnlyUptoRow, standIns := [], harness := (true, "6df7a84c6831d8b7c7cbfc82dc0c84bc361b6e5afe77f29a18e9f1cc6958dfca"), looks := true }, kinds := [], alts := [], laidByText := true, laidKinds := [.handle], laidTests := true, laidLooks := .later }
def BodyOnlyUptoCardSaid : Prop := Claim7.holds Tryd.pinned (.plain (OpenSpec.upto bodyOnlySpec)) bodyOnlyUptoCard

/-- THE SECOND FORM's CARD OF 'packtrainkeep.BodyCut'. -/
def bodyCutUptoCard : Claim7 := { stood := { row := bodyCutUptoRow, standIns := [], harness := (true, "6df7a84c6831d8b7c7cbfc82dc0c84bc361b6e5afe77f29a18e9f1cc6958dfca"), looks := true }, kinds := [], alts := [], laidByText := true, laidKinds := [.handle], laidTests := true, laidLooks := .later }
def BodyCutUptoCardSaid : Prop := Claim7.holds Tryd.pinned (.plain (OpenSpec.upto bodyCutSpec)) bodyCutUptoCard

/-- THE SECOND FORM's CARD OF 'packtrainkeep.BodyKeys'. -/
def bodyKeysUptoCard : Claim7 := { stood := { row := bodyKeysUptoRow, standIns := [], harness := (true, "6df7a84c6831d8b7c7cbfc82dc0c84bc361b6e5afe77f29a18e9f1cc6958dfca"), looks := true }, kinds := [], alts := [], laidByText := true, laidKinds := [.handle], laidTests := true, laidLooks := .later }
def BodyKeysUptoCardSaid : Prop := Claim7.holds Tryd.pinned (.plain (OpenSpec.upto bodyKeysSpec)) bodyKeysUptoCard

/-- THE SECOND FORM's CARD OF 'packtrainkeep.BodyHead'. -/
def bodyHeadUptoCard : Claim7 := { stood := { row := bodyHeadUptoRow, standIns := [], harness := (true, "6df7a84c6831d8b7c7cbfc82dc0c84bc361b6e5afe77f29a18e9f1cc6958dfca"), looks := true }, kinds := [], alts := [], laidByText := true, laidKinds := [.handle], laidTests := true, laidLooks := .later }
def BodyHeadUptoCardSaid : Prop := Claim7.holds Tryd.pinned (.plain (OpenSpec.upto bodyHeadSpec)) bodyHeadUptoCard

/-- THE SECOND FORM's CARD OF 'packtrainkeep.BodyValues'. -/
def bodyValuesUptoCard : Claim7 := { stood := { row := bodyValuesUptoRow, standIns := [], harness := (true, "6df7a84c6831d8b7c7cbfc82dc0c84bc361b6e5afe77f29a18e9f1cc6958dfca"), looks := true }, kinds := [], alts := [], laidByText := true, laidKinds := [.handle], laidTests := true, laidLooks := .later }
def BodyValuesUptoCardSaid : Prop := Claim7.holds Tryd.pinned (.plain (OpenSpec.upto bodyValuesSpec)) bodyValuesUptoCard
end Rows
end Go.Proofs.YtlgaklbfjjpfkaaDoor
