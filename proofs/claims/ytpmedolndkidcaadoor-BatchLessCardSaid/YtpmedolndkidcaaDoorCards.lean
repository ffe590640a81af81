/-
  DERIVED. GIVEN WITH THE SEED: THE CARDS: each row of YtpmedolndkidcaaDoorRows.lean that lists a variable, with what it lists TIED to the program's text (the seventh form; the later family's looks); each row that meets fmt, with fmt's text TOLD by the authors' own Lean function (tested against real Go, not proved from fmt's source: count such statements apart). THE CARD IS WHAT COUNTS. Prove the row's statement (the work); the ties are given (YtpmedolndkidcaaDoorTie.lean); close each card by the builder's one call (the guide's Derived/Test/ToyasCard.lean, 'card_holds'). Laid BY PROGRAM, IN A SANDBOX (cutbox-door.mjs). By AI agents, Wed Nov 11 2026. No macro, syntax, notation, axiom, sorry.
-/
import Derived.Test.YtpmedolndkidcaaDoorRows
import GoSem.ClaimSeven
namespace Go.Proofs.YtpmedolndkidcaaDoor
namespace Rows

/-- THE TIED CARD OF 'packtrainkeep.StoreLast'. -/
def storeLastCard : Claim7 := { stood := { row := storeLastRow, standIns := [], harness := (true, "aed1c6f682a24c2c1cd4e017719b150146e0ce43afa362ab2093202944ddc77d"), looks := true }, kinds := [], alts := [], laidByText := true, laidKinds := [.handle], laidTests := true, laidLooks := .later }
def StoreLastCardSaid : Prop := Claim7.holds Tryd.pinned (.plain (OpenSpec.ofChange storeLastSpec)) storeLastCard

/-- THE TIED CARD OF 'packtrainkeep.StoreSorted'. -/
def storeSortedCard : Claim7 := { stood := { row := storeSortedRow, standIns := [], harness := (true, "aed1c6f682a24c2c1cd4e017719b150146e0ce43afa362ab2093202944ddc77d"), looks := true }, kinds := [], alts := [], laidByText := true, laidKinds := [.handle], laidTests := true, laidLooks := .later }
def StoreSortedCardSaid : Prop := Claim7.holds Tryd.pinned (.plain (OpenSpec.ofChange storeSortedSpec)) storeSortedCard

/-- THE TIED CARD OF 'packtrainkeep.StoreSums'. -/
def storeSumsCard : Claim7 := { stood := { row := storeSumsRow, standIns := [], harness := (true, "aed1c6f682a24c2c1cd4e017719b150146e0ce43afa362ab2093202944ddc77d"), looks := true }, kinds := [], alts := [], laidByText := true, laidKinds := [.handle], laidTests := true, laidLooks := .later }
def StoreSumsCardSaid : Prop := Claim7.holds Tryd.pinned (.plain (OpenSpec.ofChange storeSumsSpec)) storeSumsCard

/-- THE TIED CARD OF 'packtrainkeep.StoreAgain'. -/
def storeAgainCard : Claim7 := { stood := { row := storeAgainRow, standIns := [], harness := (true, "aed1c6f682a24c2c1cd4e017719b150146e0ce43afa362ab2093202944ddc77d"), looks := true }, kinds := [], alts := [], laidByText := true, laidKinds := [.handle], laidTests := true, laidLooks := .later }
def StoreAgainCardSaid : Prop := Claim7.holds Tryd.pinned (.plain (OpenSpec.ofChange storeAgainSpec)) storeAgainCard

/-- THE TIED CARD OF 'packtrainkeep.StoreParts'. -/
def storePartsCard : Claim7 := { stood := { row := storePartsRow, standIns := [], harness := (true, "aed1c6f682a24c2c1cd4e017719b150146e0ce43afa362ab2093202944ddc77d"), looks := true }, kinds := [], alts := [], laidByText := true, laidKinds := [.handle], laidTests := true, laidLooks := .later }
def StorePartsCardSaid : Prop := Claim7.holds Tryd.pinned (.plain (OpenSpec.ofChange storePartsSpec)) storePartsCard

/-- THE TIED CARD OF 'packtrainkeep.StoreKeys'. -/
def storeKeysCard : Claim7 := { stood := { row := storeKeysRow, standIns := [], harness := (true, "aed1c6f682a24c2c1cd4e017719b150146e0ce43afa362ab2093202944ddc77d"), looks := true }, kinds := [], alts := [], laidByText := true, laidKinds := [.handle], laidTests := true, laidLooks := .later }
def StoreKeysCardSaid : Prop := Claim7.holds Tryd.pinned (.plain (OpenSpec.ofChange storeKeysSpec)) storeKeysCard

/-- THE TIED CARD OF 'packtrainkeep.StoreDrops'. -/
def storeDropsCard : Claim7 := { stood := { row := storeDropsRow, standIns := [], harness := (true, "aed1c6f682a24c2c1cd4e017719b150146e0ce43afa362ab2093202944ddc77d"), looks := true }, kinds := [], alts := [], laidByText := true, laidKinds := [.handle], laidTests := true, laidLooks := .later }
def StoreDropsCardSaid : Prop := Claim7.holds Tryd.pinned (.plain (OpenSpec.ofChange storeDropsSpec)) storeDropsCard

/-- THE TIED CARD OF 'packtrainkeep.StoreLists'. -/
def storeListsCard : Claim7 := { stood := { row := storeListsRow, standIns := [], harness := (true, "aed1c6f682a24c2c1cd4e017719b150146e0ce43afa362ab2093202944ddc77d"), looks := true }, kinds := [], alts := [], laidByText := true, laidKinds := [.handle], laidTests := true, laidLooks := .later }
def StoreListsCardSaid : Prop := Claim7.holds Tryd.pinned (.plain (OpenSpec.ofChange storeListsSpec)) storeListsCard

/-- THE TIED CARD OF 'packtrainkeep.BatchLess'. -/
def batchLessCard : Claim7 := { stood := { row := batchLessRow, standIns := [], harness := (true, "aed1c6f682a24c2c1cd4e017719b150146e0ce43afa362ab2093202944ddc77d"), looks := true }, kinds := [], alts := [], laidByText := true, laidKinds := [.handle], laidTests := true, laidLooks := .later }
def BatchLessCardSaid : Prop := Claim7.holds Tryd.pinned (.plain (OpenSpec.ofChange batchLessSpec)) batchLessCard

/-- THE TIED CARD OF 'packtrainkeep.LogTwo'. -/
def logTwoCard : Claim7 := { stood := { row := logTwoRow, standIns := [], harness := (true, "aed1c6f682a24c2c1cd4e017719b150146e0ce43afa362ab2093202944ddc77d"), looks := true }, kinds := [], alts := [], laidByText := true, laidKinds := [.handle], laidTests := true, laidLooks := .later }
def LogTwoCardSaid : Prop := Claim7.holds Tryd.pinned (.plain (OpenSpec.ofChange logTwoSpec)) logTwoCard

/-- THE TIED CARD OF 'packtrainkeep.LogFull'. -/
def logFullCard : Claim7 := { stood := { row := logFullRow, standIns := [], harness := (true, "aed1c6f682a24c2c1cd4e017719b150146e0ce43afa362ab2093202944ddc77d"), looks := true }, kinds := [], alts := [], laidByText := true, laidKinds := [.handle], laidTests := true, laidLooks := .later }
def LogFullCardSaid : Prop := Claim7.holds Tryd.pinned (.plain (OpenSpec.ofChange logFullSpec)) logFullCard

/-- THE TIED CARD OF 'packtrainkeep.LogLong'. -/
def logLongCard : Claim7 := { stood := { row := logLongRow, standIns := [], harness := (true, "aed1c6f682a24c2c1cd4e017719b150146e0ce43afa362ab2093202944ddc77d"), looks := true }, kinds := [], alts := [], laidByText := true, laidKinds := [.handle], laidTests := true, laidLooks := .later }
def LogLongCardSaid : Prop := Claim7.holds Tryd.pinned (.plain (OpenSpec.ofChange logLongSpec)) logLongCard

/-- THE SECOND FORM's CARD OF 'packtrainkeep.StoreLast'. -/
def storeLastUptoCard : Claim7 := { stood := { row := storeLastUptoRow, standIns := [], harness := (true, "aed1c6f682a24c2c1cd4e017719b150146e0ce43afa362ab2093202944ddc77d"), looks := true }, kinds := [], alts := [], laidByText := true, laidKinds := [.handle], laidTests := true, laidLooks := .later }
def StoreLastUptoCardSaid : Prop := Claim7.holds Tryd.pinned (.plain (OpenSpec.upto storeLastSpec)) storeLastUptoCard

/-- THE SECOND FORM's CARD OF 'packtrainkeep.StoreSorted'. -/
def storeSortedUptoCard : Claim7 := { stood := { row := storeSortedUptoRow, standIns := [], harness := (true, "aed1c6f682a24c2c1cd4e017719b150146e0ce43afa362ab2093202944ddc77d"), looks := true }, kinds := [], alts := [], laidByText := true, laidKinds := [.handle], laidTests := true, laidLooks := .later }
def StoreSortedUptoCardSaid : Prop := Claim7.holds Tryd.pinned (.plain (OpenSpec.upto storeSortedSpec)) storeSortedUptoCard

/-- THE SECOND FORM's CARD OF 'packtrainkeep.StoreSums'. -/
def storeSumsUptoCard : Claim7 := { stood := { row := storeSumsUptoRow, standIns := [], harness := (true, "aed1c6f682a24c2c1cd4e017719b150146e0ce43afa362ab2093202944ddc77d"), looks := true }, kinds := [], alts := [], laidByText := true, laidKinds := [.handle], laidTests := true, laidLooks := .later }
def StoreSumsUptoCardSaid : Prop := Claim7.holds Tryd.pinned (.plain (OpenSpec.upto storeSumsSpec)) storeSumsUptoCard

/-- THE SECOND FORM's CARD OF 'packtrainkeep.StoreAgain'. -/
def storeAgainUptoCard : Claim7 := { stood := { row := storeAgainUptoRow, standIns := [], harness := (true, "aed1c6f682a24c2c1cd4e017719b150146e0ce43afa362ab2093202944ddc77d"), looks := true }, kinds := [], alts := [], laidByText := true, laidKinds := [.handle], laidTests := true, laidLooks := .later }
def StoreAgainUptoCardSaid : Prop := Claim7.holds Tryd.pinned (.plain (OpenSpec.upto storeAgainSpec)) storeAgainUptoCard

/-- THE SECOND FORM's CARD OF 'packtrainkeep.StoreParts'. -/
def storePartsUptoCard : Claim7 := { stood := { row := storePartsUptoRow, standIns := [], harness := (true, "aed1c6f682a24c2c1cd4e017719b150146e0ce43afa362ab2093202944ddc77d"), looks := true }, kinds := [], alts := [], laidByText := true, laidKinds := [.handle], laidTests := true, laidLooks := .later }
def StorePartsUptoCardSaid : Prop := Claim7.holds Tryd.pinned (.plain (OpenSpec.upto storePartsSpec)) storePartsUptoCard

/-- THE SECOND FORM's CARD OF 'packtrainkeep.StoreKeys'. -/
def storeKeysUptoCard : Claim7 := { stood := { row := storeKeysUptoRow, standIns := [], harness := (true, "aed1c6f682a24c2c1cd4e017719b150146e0ce43afa362ab2093202944ddc77d"), looks := true }, kinds := [], alts := [], laidByText := true, laidKinds := [.handle], laidTests := true, laidLooks := .later }
def StoreKeysUptoCardSaid : Prop := Claim7.holds Tryd.pinned (.plain (OpenSpec.upto storeKeysSpec)) storeKeysUptoCard

/-- THE SECOND FORM's CARD OF 'packtrainkeep.StoreDrops'. -/
def storeDropsUptoCard : Claim7 := { stood := { row := storeDropsUptoRow, standIns := [], harness := (true, "aed1c6f682a24c2c1cd4e017719b150146e0ce43afa362ab2093202944ddc77d"), looks := true }, kinds := [], alts := [], laidByText := true, laidKinds := [.handle], laidTests := true, laidLooks := .later }
def StoreDropsUptoCardSaid : Prop := Claim7.holds Tryd.pinned (.plain (OpenSpec.upto storeDropsSpec)) storeDropsUptoCard

/-- THE SECOND FORM's CARD OF 'packtrainkeep.StoreLists'. -/
def storeListsUptoCard : Claim7 := { stood := { row := storeListsUptoRow, standIns := [], harness := (true, "aed1c6f682a24c2c1cd4e017719b150146e0ce43afa362ab2093202944ddc77d"), looks := true }, kinds := [], alts := [], laidByText := true, laidKinds := [.handle], laidTests := true, laidLooks := .later }
def StoreListsUptoCardSaid : Prop := Claim7.holds Tryd.pinned (.plain (OpenSpec.upto storeListsSpec)) storeListsUptoCard

/-- THE SECOND FORM's CARD OF 'packtrainkeep.BatchLess'. -/
def batchLessUptoCard : Claim7 := { stood := { row := batchLessUptoRow, standIns := [], harness := (true, "aed1c6f682a24c2c1cd4e017719b150146e0ce43afa362ab2093202944ddc77d"), looks := true }, kinds := [], alts := [], laidByText := true, laidKinds := [.handle], laidTests := true, laidLooks := .later }
def BatchLessUptoCardSaid : Prop := Claim7.holds Tryd.pinned (.plain (OpenSpec.upto batchLessSpec)) batchLessUptoCard

/-- THE SECOND FORM's CARD OF 'packtrainkeep.LogTwo'. -/
def logTwoUptoCard : Claim7 := { stood := { row := logTwoUptoRow, standIns := [], harness := (true, "aed1c6f682a24c2c1cd4e017719b150146e0ce43afa362ab2093202944ddc77d"), looks := true }, kinds := [], alts := [], laidByText := true, laidKinds := [.handle], laidTests := true, laidLooks := .later }
def LogTwoUptoCardSaid : Prop := Claim7.holds Tryd.pinned (.plain (OpenSpec.upto logTwoSpec)) logTwoUptoCard

/-- THE SECOND FORM's CARD OF 'packtrainkeep.LogFull'. -/
def logFullUptoCard : Claim7 := { stood := { row := logFullUptoRow, standIns := [], harness := (true, "aed1c6f682a24c2c1cd4e017719b150146e0ce43afa362ab2093202944ddc77d"), looks := true }, kinds := [], alts := [], laidByText := true, laidKinds := [.handle], laidTests := true, laidLooks := .later }
def LogFullUptoCardSaid : Prop := Claim7.holds Tryd.pinned (.plain (OpenSpec.upto logFullSpec)) logFullUptoCard

/-- THE SECOND FORM's CARD OF 'packtrainkeep.LogLong'. -/
def logLongUptoCard : Claim7 := { stood := { row := logLongUptoRow, standIns := [], harness := (true, "aed1c6f682a24c2c1cd4e017719b150146e0ce43afa362ab2093202944ddc77d"), looks := true }, kinds := [], alts := [], laidByText := true, laidKinds := [.handle], laidTests := true, laidLooks := .later }
def LogLongUptoCardSaid : Prop := Claim7.holds Tryd.pinned (.plain (OpenSpec.upto logLongSpec)) logLongUptoCard
end Rows
end Go.Proofs.YtpmedolndkidcaaDoor
