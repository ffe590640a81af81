/-
  DERIVED. GIVEN WITH THE SEED: THE CARDS: each row of YtajpoggkmjedpaaDoorRows.lean that lists a variable, with what it lists TIED to the program's text (the seventh form; the later family's looks); each row that meets fmt, with fmt's text TOLD by the authors' own Lean function (tested against real Go, not proved from fmt's source: count such statements apart). THE CARD IS WHAT COUNTS. Prove the row's statement (the work); the ties are given (YtajpoggkmjedpaaDoorTie.lean); close each card by the builder's one call (the guide's Derived/Test/ToyasCard.lean, 'card_holds'). Laid BY PROGRAM, IN A SANDBOX (cutbox-door.mjs). By AI agents, Wed Nov 11 2026. No macro, syntax, notation, axiom, sorry.
-/
import Derived.Test.YtajpoggkmjedpaaDoorRows
import GoSem.ClaimSeven
namespace Go.Proofs.YtajpoggkmjedpaaDoor
namespace Rows

/-- THE TIED CARD OF 'packtrainkeep.SpanBack'. -/
def spanBackCard : Claim7 := { stood := { row := spanBackRow, standIns := [], harness := (true, "85a7193be044d16f24ee1bbf5574c7d41df179e77c4af8e196b2ddfbc172171f"), looks := true }, kinds := [], alts := [], laidByText := true, laidKinds := [.handle], laidTests := true, laidLooks := .later }
def SpanBackCardSaid : Prop := Claim7.holds Tryd.pinned (.plain (OpenSpec.ofChange spanBackSpec)) spanBackCard

/-- THE TIED CARD OF 'packtrainkeep.VectorBack'. -/
def vectorBackCard : Claim7 := { stood := { row := vectorBackRow, standIns := [], harness := (true, "85a7193be044d16f24ee1bbf5574c7d41df179e77c4af8e196b2ddfbc172171f"), looks := true }, kinds := [], alts := [], laidByText := true, laidKinds := [.handle], laidTests := true, laidLooks := .later }
def VectorBackCardSaid : Prop := Claim7.holds Tryd.pinned (.plain (OpenSpec.ofChange vectorBackSpec)) vectorBackCard

/-- THE TIED CARD OF 'packtrainkeep.VectorOnly'. -/
def vectorOnlyCard : Claim7 := { stood := { row := vectorOnlyRow, standIns := [], harness := (true, "85a7193be044d16f24ee1bbf5574c7d41df179e77c4af8e196b2ddfbc172171f"), looks := true }, kinds := [], alts := [], laidByText := true, laidKinds := [.handle], laidTests := true, laidLooks := .later }
def VectorOnlyCardSaid : Prop := Claim7.holds Tryd.pinned (.plain (OpenSpec.ofChange vectorOnlySpec)) vectorOnlyCard

/-- THE TIED CARD OF 'packtrainkeep.LzTokens'. -/
def lzTokensCard : Claim7 := { stood := { row := lzTokensRow, standIns := [], harness := (true, "85a7193be044d16f24ee1bbf5574c7d41df179e77c4af8e196b2ddfbc172171f"), looks := true }, kinds := [], alts := [], laidByText := true, laidKinds := [.handle], laidTests := true, laidLooks := .later }
def LzTokensCardSaid : Prop := Claim7.holds Tryd.pinned (.plain (OpenSpec.ofChange lzTokensSpec)) lzTokensCard

/-- THE TIED CARD OF 'packtrainkeep.LzBack'. -/
def lzBackCard : Claim7 := { stood := { row := lzBackRow, standIns := [], harness := (true, "85a7193be044d16f24ee1bbf5574c7d41df179e77c4af8e196b2ddfbc172171f"), looks := true }, kinds := [], alts := [], laidByText := true, laidKinds := [.handle], laidTests := true, laidLooks := .later }
def LzBackCardSaid : Prop := Claim7.holds Tryd.pinned (.plain (OpenSpec.ofChange lzBackSpec)) lzBackCard

/-- THE TIED CARD OF 'packtrainkeep.LzJoins'. -/
def lzJoinsCard : Claim7 := { stood := { row := lzJoinsRow, standIns := [], harness := (true, "85a7193be044d16f24ee1bbf5574c7d41df179e77c4af8e196b2ddfbc172171f"), looks := true }, kinds := [], alts := [], laidByText := true, laidKinds := [.handle], laidTests := true, laidLooks := .later }
def LzJoinsCardSaid : Prop := Claim7.holds Tryd.pinned (.plain (OpenSpec.ofChange lzJoinsSpec)) lzJoinsCard

/-- THE SECOND FORM's CARD OF 'packtrainkeep.SpanBack'. -/
def spanBackUptoCard : Claim7 := { stood := { row := spanBackUptoRow, standIns := [], harness := (true, "85a7193be044d16f24ee1bbf5574c7d41df179e77c4af8e196b2ddfbc172171f"), looks := true }, kinds := [], alts := [], laidByText := true, laidKinds := [.handle], laidTests := true, laidLooks := .later }
def SpanBackUptoCardSaid : Prop := Claim7.holds Tryd.pinned (.plain (OpenSpec.upto spanBackSpec)) spanBackUptoCard

/-- THE SECOND FORM's CARD OF 'packtrainkeep.VectorBack'. -/
def vectorBackUptoCard : Claim7 := { stood := { row := vectorBackUptoRow, standIns := [], harness := (true, "85a7193be044d16f24ee1bbf5574c7d41df179e77c4af8e196b2ddfbc172171f"), looks := true }, kinds := [], alts := [], laidByText := true, laidKinds := [.handle], laidTests := true, laidLooks := .later }
def VectorBackUptoCardSaid : Prop := Claim7.holds Tryd.pinned (.plain (OpenSpec.upto vectorBackSpec)) vectorBackUptoCard

/-- THE SECOND FORM's CARD OF 'packtrainkeep.VectorOnly'. -/
def vectorOnlyUptoCard : Claim7 := { stood := { row := vectorOnlyUptoRow, standIns := [], harness := (true, "85a7193be044d16f24ee1bbf5574c7d41df179e77c4af8e196b2ddfbc172171f"), looks := true }, kinds := [], alts := [], laidByText := true, laidKinds := [.handle], laidTests := true, laidLooks := .later }
def VectorOnlyUptoCardSaid : Prop := Claim7.holds Tryd.pinned (.plain (OpenSpec.upto vectorOnlySpec)) vectorOnlyUptoCard

/-- THE SECOND FORM's CARD OF 'packtrainkeep.LzTokens'. -/
def lzTokensUptoCard : Claim7 := { stood := { row := lzTokensUptoRow, standIns := [], harness := (true, "85a7193be044d16f24ee1bbf5574c7d41df179e77c4af8e196b2ddfbc172171f"), looks := true }, kinds := [], alts := [], laidByText := true, laidKinds := [.handle], laidTests := true, laidLooks := .later }
def LzTokensUptoCardSaid : Prop := Claim7.holds Tryd.pinned (.plain (OpenSpec.upto lzTokensSpec)) lzTokensUptoCard

/-- THE SECOND FORM's CARD OF 'packtrainkeep.LzBack'. -/
def lzBackUptoCard : Claim7 := { stood := { row := lzBackUptoRow, standIns := [], harness := (true, "85a7193be044d16f24ee1bbf5574c7d41df179e77c4af8e196b2ddfbc172171f"), looks := true }, kinds := [], alts := [], laidByText := true, laidKinds := [.handle], laidTests := true, laidLooks := .later }
def LzBackUptoCardSaid : Prop := Claim7.holds Tryd.pinned (.plain (OpenSpec.upto lzBackSpec)) lzBackUptoCard

/-- THE SECOND FORM's CARD OF 'packtrainkeep.LzJoins'. -/
def lzJoinsUptoCard : Claim7 := { stood := { row := lzJoinsUptoRow, standIns := [], harness := (true, "85a7193be044d16f24ee1bbf5574c7d41df179e77c4af8e196b2ddfbc172171f"), looks := true }, kinds := [], alts := [], laidByText := true, laidKinds := [.handle], laidTests := true, laidLooks := .later }
def LzJoinsUptoCardSaid : Prop := Claim7.holds Tryd.pinned (.plain (OpenSpec.upto lzJoinsSpec)) lzJoinsUptoCard
end Rows
end Go.Proofs.YtajpoggkmjedpaaDoor
