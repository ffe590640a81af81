/-
  NARROWER THAN 'FOR EVERY INPUT', by the rows' own cells (each row's printed sentence says how): StoreLast: laid · StoreSorted: laid · StoreSums: laid · StoreAgain: laid · StoreParts: laid · StoreKeys: laid · StoreDrops: laid · StoreLists: laid · BatchLess: laid · LogTwo: laid · LogFull: laid · LogLong: laid.
  DERIVED. THE GIVEN ROWS OF THIS SEAT. 12 by the template 'for every input the law returns true; each argument reads behind the call as it read before'; 0 by the template 'total and deterministic' (their statements: YtpmedolndkidcaaDoorTotals.lean).
  GIVEN WITH THE SEED: the statements are not yours to turn. If you find one false, say at which input.
  Laid BY PROGRAM, IN A SANDBOX (cutbox-rows.mjs): the forced cells as the released guide's own fill.sh prints them over the translation 2306cb02b6310551… (all of the seat's roots in one cut). By AI agents, Wed Nov 11 2026. No macro, syntax, notation, axiom, sorry.
-/
import Derived.Test.YtpmedolndkidcaaDoorChecked
import GoSem.Claim
import GoSem.ClaimJoined
import GoSem.ClaimMapViews
import Derived.JoinedTies
import Derived.KernelRfl
namespace Go.Proofs.YtpmedolndkidcaaDoor
/- THE CELL 'sum', in the pinned program and in every row, IS THE sha256 OF THE DUMP (.gsa) THAT YtpmedolndkidcaaDoorProg.lean LOADS. Nothing in Lean hashes anything: it is a label: what it is worth is what the hold of that sum in a sandbox is worth. -/
noncomputable def Tryd.pinned : Pinned := { name := "ytpmedolndkidcaadoor", sum := "2306cb02b631055110bd523632cf06ca31be53ce24f1ff20c92a3fd86ed889d2", checked := Tryd.checked }
namespace Rows
def none {H : Type} : Left H := { results := [], args := [] }

/- WHAT THE LISTED PACKAGE-LEVEL VARIABLES READ AS WHEN THE CALL BEGINS. Each datum BY PROGRAM (the guide's laid-datum.mjs) off the statement by which the dump's own 'gosem.cut.vars' lays the variable. In a bare row this is a premise. The card (YtpmedolndkidcaaDoorCards.lean) ties it to the program's text. -/
def laid_errors_errorType {H : Type} : DataW H := .iface "internal/reflectlite.rtype" (.agg [.ptr (.lit (.string [101, 114, 114, 111, 114]))])

/-- 'packtrainkeep.StoreLast': WHATEVER THE INPUT: true; the input reads as it did. -/
def storeLastSpec : ChangeSpec := { name := "storeLast", fn := fun _ => fun
  | [d] => { results := [.lit (.bool true)], args := [d] }
  | _ => none }
def storeLastRow : OpenClaim := { program := "ytpmedolndkidcaadoor", sum := "2306cb02b631055110bd523632cf06ca31be53ce24f1ff20c92a3fd86ed889d2", func := "packtrain/packtrainkeep.StoreLast", spec := "storeLast", inPlace := ["slices.overlaps[string]", "internal/reflectlite.ValueOf", "(internal/reflectlite.Value).Type", "(internal/reflectlite.Value).IsNil", "internal/reflectlite.TypeOf", "(internal/reflectlite.Value).Elem", "(internal/reflectlite.Value).Set", "internal/bytealg.abigen_runtime_cmpstring"], unfollowed := true, recurses := true, named := ["errors.errorType"], apart := false, laid := [("errors.errorType", laid_errors_errorType)] }
def StoreLastSaid : Prop := storeLastRow.holds Tryd.pinned (OpenSpec.ofChange storeLastSpec)

/-- ITS FALSE NEIGHBOUR: 'it returns false'. Refute it at one input. -/
def storeLastWrong : ChangeSpec := { name := "storeLast", fn := fun _ => fun
  | [d] => { results := [.lit (.bool false)], args := [d] }
  | _ => none }
def StoreLastWrongFalsely : Prop := storeLastRow.holds Tryd.pinned (OpenSpec.ofChange storeLastWrong)

/-- 'packtrainkeep.StoreSorted': WHATEVER THE INPUT: true; the input reads as it did. -/
def storeSortedSpec : ChangeSpec := { name := "storeSorted", fn := fun _ => fun
  | [d] => { results := [.lit (.bool true)], args := [d] }
  | _ => none }
def storeSortedRow : OpenClaim := { program := "ytpmedolndkidcaadoor", sum := "2306cb02b631055110bd523632cf06ca31be53ce24f1ff20c92a3fd86ed889d2", func := "packtrain/packtrainkeep.StoreSorted", spec := "storeSorted", inPlace := ["slices.overlaps[string]", "internal/reflectlite.ValueOf", "(internal/reflectlite.Value).Type", "(internal/reflectlite.Value).IsNil", "internal/reflectlite.TypeOf", "(internal/reflectlite.Value).Elem", "(internal/reflectlite.Value).Set", "internal/bytealg.abigen_runtime_cmpstring"], unfollowed := true, recurses := true, named := ["errors.errorType"], apart := false, laid := [("errors.errorType", laid_errors_errorType)] }
def StoreSortedSaid : Prop := storeSortedRow.holds Tryd.pinned (OpenSpec.ofChange storeSortedSpec)

/-- ITS FALSE NEIGHBOUR: 'it returns false'. Refute it at one input. -/
def storeSortedWrong : ChangeSpec := { name := "storeSorted", fn := fun _ => fun
  | [d] => { results := [.lit (.bool false)], args := [d] }
  | _ => none }
def StoreSortedWrongFalsely : Prop := storeSortedRow.holds Tryd.pinned (OpenSpec.ofChange storeSortedWrong)

/-- 'packtrainkeep.StoreSums': WHATEVER THE INPUT: true; the input reads as it did. -/
def storeSumsSpec : ChangeSpec := { name := "storeSums", fn := fun _ => fun
  | [d] => { results := [.lit (.bool true)], args := [d] }
  | _ => none }
def storeSumsRow : OpenClaim := { program := "ytpmedolndkidcaadoor", sum := "2306cb02b631055110bd523632cf06ca31be53ce24f1ff20c92a3fd86ed889d2", func := "packtrain/packtrainkeep.StoreSums", spec := "storeSums", inPlace := ["slices.overlaps[string]", "internal/reflectlite.ValueOf", "(internal/reflectlite.Value).Type", "(internal/reflectlite.Value).IsNil", "internal/reflectlite.TypeOf", "(internal/reflectlite.Value).Elem", "(internal/reflectlite.Value).Set", "internal/bytealg.abigen_runtime_cmpstring"], unfollowed := true, recurses := true, named := ["errors.errorType"], apart := false, laid := [("errors.errorType", laid_errors_errorType)] }
def StoreSumsSaid : Prop := storeSumsRow.holds Tryd.pinned (OpenSpec.ofChange storeSumsSpec)

/-- ITS FALSE NEIGHBOUR: 'it returns false'. Refute it at one input. -/
def storeSumsWrong : ChangeSpec := { name := "storeSums", fn := fun _ => fun
  | [d] => { results := [.lit (.bool false)], args := [d] }
  | _ => none }
def StoreSumsWrongFalsely : Prop := storeSumsRow.holds Tryd.pinned (OpenSpec.ofChange storeSumsWrong)

/-- 'packtrainkeep.StoreAgain': WHATEVER THE INPUT: true; the input reads as it did. -/
def storeAgainSpec : ChangeSpec := { name := "storeAgain", fn := fun _ => fun
  | [d1, d2] => { results := [.lit (.bool true)], args := [d1, d2] }
  | _ => none }
def storeAgainRow : OpenClaim := { program := "ytpmedolndkidcaadoor", sum := "2306cb02b631055110bd523632cf06ca31be53ce24f1ff20c92a3fd86ed889d2", func := "packtrain/packtrainkeep.StoreAgain", spec := "storeAgain", inPlace := ["slices.overlaps[string]", "internal/reflectlite.ValueOf", "(internal/reflectlite.Value).Type", "(internal/reflectlite.Value).IsNil", "internal/reflectlite.TypeOf", "(internal/reflectlite.Value).Elem", "(internal/reflectlite.Value).Set", "internal/bytealg.abigen_runtime_cmpstring", "slices.overlaps[packtrain/api.Write]"], unfollowed := true, recurses := true, named := ["errors.errorType"], apart := false, laid := [("errors.errorType", laid_errors_errorType)] }
def StoreAgainSaid : Prop := storeAgainRow.holds Tryd.pinned (OpenSpec.ofChange storeAgainSpec)

/-- ITS FALSE NEIGHBOUR: 'it returns false'. Refute it at one input. -/
def storeAgainWrong : ChangeSpec := { name := "storeAgain", fn := fun _ => fun
  | [d1, d2] => { results := [.lit (.bool false)], args := [d1, d2] }
  | _ => none }
def StoreAgainWrongFalsely : Prop := storeAgainRow.holds Tryd.pinned (OpenSpec.ofChange storeAgainWrong)

/-- 'packtrainkeep.StoreParts': WHATEVER THE INPUT: true; the input reads as it did. -/
def storePartsSpec : ChangeSpec := { name := "storeParts", fn := fun _ => fun
  | [d1, d2] => { results := [.lit (.bool true)], args := [d1, d2] }
  | _ => none }
def storePartsRow : OpenClaim := { program := "ytpmedolndkidcaadoor", sum := "2306cb02b631055110bd523632cf06ca31be53ce24f1ff20c92a3fd86ed889d2", func := "packtrain/packtrainkeep.StoreParts", spec := "storeParts", inPlace := ["slices.overlaps[string]", "internal/reflectlite.ValueOf", "(internal/reflectlite.Value).Type", "(internal/reflectlite.Value).IsNil", "internal/reflectlite.TypeOf", "(internal/reflectlite.Value).Elem", "(internal/reflectlite.Value).Set", "internal/bytealg.abigen_runtime_cmpstring"], unfollowed := true, recurses := true, named := ["errors.errorType"], apart := false, laid := [("errors.errorType", laid_errors_errorType)] }
def StorePartsSaid : Prop := storePartsRow.holds Tryd.pinned (OpenSpec.ofChange storePartsSpec)

/-- ITS FALSE NEIGHBOUR: 'it returns false'. Refute it at one input. -/
def storePartsWrong : ChangeSpec := { name := "storeParts", fn := fun _ => fun
  | [d1, d2] => { results := [.lit (.bool false)], args := [d1, d2] }
  | _ => none }
def StorePartsWrongFalsely : Prop := storePartsRow.holds Tryd.pinned (OpenSpec.ofChange storePartsWrong)

/-- 'packtrainkeep.StoreKeys': WHATEVER THE INPUT: true; the input reads as it did. -/
def storeKeysSpec : ChangeSpec := { name := "storeKeys", fn := fun _ => fun
  | [d1, d2] => { results := [.lit (.bool true)], args := [d1, d2] }
  | _ => none }
def storeKeysRow : OpenClaim := { program := "ytpmedolndkidcaadoor", sum := "2306cb02b631055110bd523632cf06ca31be53ce24f1ff20c92a3fd86ed889d2", func := "packtrain/packtrainkeep.StoreKeys", spec := "storeKeys", inPlace := ["slices.overlaps[string]", "internal/reflectlite.ValueOf", "(internal/reflectlite.Value).Type", "(internal/reflectlite.Value).IsNil", "internal/reflectlite.TypeOf", "(internal/reflectlite.Value).Elem", "(internal/reflectlite.Value).Set", "internal/bytealg.abigen_runtime_cmpstring"], unfollowed := true, recurses := true, named := ["errors.errorType"], apart := false, laid := [("errors.errorType", laid_errors_errorType)] }
def StoreKeysSaid : Prop := storeKeysRow.holds Tryd.pinned (OpenSpec.ofChange storeKeysSpec)

/-- ITS FALSE NEIGHBOUR: 'it returns false'. Refute it at one input. -/
def storeKeysWrong : ChangeSpec := { name := "storeKeys", fn := fun _ => fun
  | [d1, d2] => { results := [.lit (.bool false)], args := [d1, d2] }
  | _ => none }
def StoreKeysWrongFalsely : Prop := storeKeysRow.holds Tryd.pinned (OpenSpec.ofChange storeKeysWrong)

/-- 'packtrainkeep.StoreDrops': WHATEVER THE INPUT: true; the input reads as it did. -/
def storeDropsSpec : ChangeSpec := { name := "storeDrops", fn := fun _ => fun
  | [d1, d2, d3] => { results := [.lit (.bool true)], args := [d1, d2, d3] }
  | _ => none }
def storeDropsRow : OpenClaim := { program := "ytpmedolndkidcaadoor", sum := "2306cb02b631055110bd523632cf06ca31be53ce24f1ff20c92a3fd86ed889d2", func := "packtrain/packtrainkeep.StoreDrops", spec := "storeDrops", inPlace := ["slices.overlaps[string]", "internal/reflectlite.ValueOf", "(internal/reflectlite.Value).Type", "(internal/reflectlite.Value).IsNil", "internal/reflectlite.TypeOf", "(internal/reflectlite.Value).Elem", "(internal/reflectlite.Value).Set", "internal/bytealg.abigen_runtime_cmpstring"], unfollowed := true, recurses := true, named := ["errors.errorType"], apart := false, laid := [("errors.errorType", laid_errors_errorType)] }
def StoreDropsSaid : Prop := storeDropsRow.holds Tryd.pinned (OpenSpec.ofChange storeDropsSpec)

/-- ITS FALSE NEIGHBOUR: 'it returns false'. Refute it at one input. -/
def storeDropsWrong : ChangeSpec := { name := "storeDrops", fn := fun _ => fun
  | [d1, d2, d3] => { results := [.lit (.bool false)], args := [d1, d2, d3] }
  | _ => none }
def StoreDropsWrongFalsely : Prop := storeDropsRow.holds Tryd.pinned (OpenSpec.ofChange storeDropsWrong)

/-- 'packtrainkeep.StoreLists': WHATEVER THE INPUT: true; the input reads as it did. -/
def storeListsSpec : ChangeSpec := { name := "storeLists", fn := fun _ => fun
  | [d] => { results := [.lit (.bool true)], args := [d] }
  | _ => none }
def storeListsRow : OpenClaim := { program := "ytpmedolndkidcaadoor", sum := "2306cb02b631055110bd523632cf06ca31be53ce24f1ff20c92a3fd86ed889d2", func := "packtrain/packtrainkeep.StoreLists", spec := "storeLists", inPlace := ["slices.overlaps[string]", "internal/reflectlite.ValueOf", "(internal/reflectlite.Value).Type", "(internal/reflectlite.Value).IsNil", "internal/reflectlite.TypeOf", "(internal/reflectlite.Value).Elem", "(internal/reflectlite.Value).Set", "internal/bytealg.abigen_runtime_cmpstring"], unfollowed := true, recurses := true, named := ["errors.errorType"], apart := false, laid := [("errors.errorType", laid_errors_errorType)] }
def StoreListsSaid : Prop := storeListsRow.holds Tryd.pinned (OpenSpec.ofChange storeListsSpec)

/-- ITS FALSE NEIGHBOUR: 'it returns false'. Refute it at one input. -/
def storeListsWrong : ChangeSpec := { name := "storeLists", fn := fun _ => fun
  | [d] => { results := [.lit (.bool false)], args := [d] }
  | _ => none }
def StoreListsWrongFalsely : Prop := storeListsRow.holds Tryd.pinned (OpenSpec.ofChange storeListsWrong)

/-- 'packtrainkeep.BatchLess': WHATEVER THE INPUT: true; the input reads as it did. -/
def batchLessSpec : ChangeSpec := { name := "batchLess", fn := fun _ => fun
  | [d1, d2] => { results := [.lit (.bool true)], args := [d1, d2] }
  | _ => none }
def batchLessRow : OpenClaim := { program := "ytpmedolndkidcaadoor", sum := "2306cb02b631055110bd523632cf06ca31be53ce24f1ff20c92a3fd86ed889d2", func := "packtrain/packtrainkeep.BatchLess", spec := "batchLess", inPlace := ["internal/reflectlite.ValueOf", "(internal/reflectlite.Value).Type", "(internal/reflectlite.Value).IsNil", "internal/reflectlite.TypeOf", "(internal/reflectlite.Value).Elem", "(internal/reflectlite.Value).Set", "slices.overlaps[packtrain/api.Write]"], unfollowed := true, recurses := true, named := ["errors.errorType"], apart := false, laid := [("errors.errorType", laid_errors_errorType)] }
def BatchLessSaid : Prop := batchLessRow.holds Tryd.pinned (OpenSpec.ofChange batchLessSpec)

/-- ITS FALSE NEIGHBOUR: 'it returns false'. Refute it at one input. -/
def batchLessWrong : ChangeSpec := { name := "batchLess", fn := fun _ => fun
  | [d1, d2] => { results := [.lit (.bool false)], args := [d1, d2] }
  | _ => none }
def BatchLessWrongFalsely : Prop := batchLessRow.holds Tryd.pinned (OpenSpec.ofChange batchLessWrong)

/-- 'packtrainkeep.LogTwo': WHATEVER THE INPUT: true; the input reads as it did. -/
def logTwoSpec : ChangeSpec := { name := "logTwo", fn := fun _ => fun
  | [d1, d2] => { results := [.lit (.bool true)], args := [d1, d2] }
  | _ => none }
def logTwoRow : OpenClaim := { program := "ytpmedolndkidcaadoor", sum := "2306cb02b631055110bd523632cf06ca31be53ce24f1ff20c92a3fd86ed889d2", func := "packtrain/packtrainkeep.LogTwo", spec := "logTwo", inPlace := ["internal/reflectlite.ValueOf", "(internal/reflectlite.Value).Type", "(internal/reflectlite.Value).IsNil", "internal/reflectlite.TypeOf", "(internal/reflectlite.Value).Elem", "(internal/reflectlite.Value).Set", "slices.overlaps[packtrain/api.Write]", "slices.overlaps[string]", "internal/bytealg.abigen_runtime_cmpstring"], unfollowed := true, recurses := true, named := ["errors.errorType"], apart := false, laid := [("errors.errorType", laid_errors_errorType)] }
def LogTwoSaid : Prop := logTwoRow.holds Tryd.pinned (OpenSpec.ofChange logTwoSpec)

/-- ITS FALSE NEIGHBOUR: 'it returns false'. Refute it at one input. -/
def logTwoWrong : ChangeSpec := { name := "logTwo", fn := fun _ => fun
  | [d1, d2] => { results := [.lit (.bool false)], args := [d1, d2] }
  | _ => none }
def LogTwoWrongFalsely : Prop := logTwoRow.holds Tryd.pinned (OpenSpec.ofChange logTwoWrong)

/-- 'packtrainkeep.LogFull': WHATEVER THE INPUT: true; the input reads as it did. -/
def logFullSpec : ChangeSpec := { name := "logFull", fn := fun _ => fun
  | [d] => { results := [.lit (.bool true)], args := [d] }
  | _ => none }
def logFullRow : OpenClaim := { program := "ytpmedolndkidcaadoor", sum := "2306cb02b631055110bd523632cf06ca31be53ce24f1ff20c92a3fd86ed889d2", func := "packtrain/packtrainkeep.LogFull", spec := "logFull", inPlace := ["internal/reflectlite.ValueOf", "(internal/reflectlite.Value).Type", "(internal/reflectlite.Value).IsNil", "internal/reflectlite.TypeOf", "(internal/reflectlite.Value).Elem", "(internal/reflectlite.Value).Set", "slices.overlaps[packtrain/api.Write]", "slices.overlaps[string]", "internal/bytealg.abigen_runtime_cmpstring"], unfollowed := true, recurses := true, named := ["errors.errorType"], apart := false, laid := [("errors.errorType", laid_errors_errorType)] }
def LogFullSaid : Prop := logFullRow.holds Tryd.pinned (OpenSpec.ofChange logFullSpec)

/-- ITS FALSE NEIGHBOUR: 'it returns false'. Refute it at one input. -/
def logFullWrong : ChangeSpec := { name := "logFull", fn := fun _ => fun
  | [d] => { results := [.lit (.bool false)], args := [d] }
  | _ => none }
def LogFullWrongFalsely : Prop := logFullRow.holds Tryd.pinned (OpenSpec.ofChange logFullWrong)

/-- 'packtrainkeep.LogLong': WHATEVER THE INPUT: true; the input reads as it did. -/
def logLongSpec : ChangeSpec := { name := "logLong", fn := fun _ => fun
  | [d1, d2] => { results := [.lit (.bool true)], args := [d1, d2] }
  | _ => none }
def logLongRow : OpenClaim := { program := "ytpmedolndkidcaadoor", sum := "2306cb02b631055110bd523632cf06ca31be53ce24f1ff20c92a3fd86ed889d2", func := "packtrain/packtrainkeep.LogLong", spec := "logLong", inPlace := ["internal/reflectlite.ValueOf", "(internal/reflectlite.Value).Type", "(internal/reflectlite.Value).IsNil", "internal/reflectlite.TypeOf", "(internal/reflectlite.Value).Elem", "(internal/reflectlite.Value).Set", "slices.overlaps[packtrain/api.Write]", "slices.overlaps[string]", "internal/bytealg.abigen_runtime_cmpstring"], unfollowed := true, recurses := true, named := ["errors.errorType"], apart := false, laid := [("errors.errorType", laid_errors_errorType)] }
def LogLongSaid : Prop := logLongRow.holds Tryd.pinned (OpenSpec.ofChange logLongSpec)

/-- ITS FALSE NEIGHBOUR: 'it returns false'. Refute it at one input. -/
def logLongWrong : ChangeSpec := { name := "logLong", fn := fun _ => fun
  | [d1, d2] => { results := [.lit (.bool false)], args := [d1, d2] }
  | _ => none }
def LogLongWrongFalsely : Prop := logLongRow.holds Tryd.pinned (OpenSpec.ofChange logLongWrong)

/- THE SECOND FORM. 'bulk': how many values and letters a reading holds, each counted each time it is reached (what is shared counts as often as it is met; a slice's spare places count too). A statement '..UptoSaid' is the law's where the arguments, and the package variables that the reading takes, are together of bulk at most 1048576: NARROWER than '..Said'. Prove '..Said' where nothing that the law and all that it calls make is longer than what came in: it says more and counts as full. Else prove '..UptoSaid'. A law counts once. -/
mutual
def uptoBulk {H : Type} : DataW H → Nat
  | .lit (.string bytes) => bytes.length + 1
  | .lit _ => 1
  | .nil => 1
  | .ptr d => uptoBulk d + 1
  | .slice elems spare => uptoBulkAll elems + uptoBulkAll spare + 1
  | .agg parts => uptoBulkAll parts + 1
  | .iface _ d => uptoBulk d + 1
  | .map entries => uptoBulkEntries entries + 1
  | .held _ => 1
def uptoBulkAll {H : Type} : List (DataW H) → Nat
  | [] => 0
  | d :: r => uptoBulk d + uptoBulkAll r
def uptoBulkEntries {H : Type} : List (Lit × DataW H) → Nat
  | [] => 0
  | x :: r => uptoBulkEntry x + uptoBulkEntries r
def uptoBulkEntry {H : Type} : Lit × DataW H → Nat
  | (.string bytes, d) => bytes.length + uptoBulk d + 1
  | (_, d) => uptoBulk d + 1
 end
def uptoSmall : (H : Type) → List (DataW H) → Bool := fun _ ds => decide (uptoBulkAll ds ≤ 1048576)
def OpenSpec.upto (s : _root_.Go.ChangeSpec) : _root_.Go.OpenSpec := { _root_.Go.OpenSpec.ofChange s with cond := some uptoSmall }

/-- 'packtrainkeep.StoreLast', WHERE WHAT IT READS IS OF BULK AT MOST 1048576: true; the input reads as it did. -/
def storeLastUptoRow : OpenClaim := { program := "ytpmedolndkidcaadoor", sum := "2306cb02b631055110bd523632cf06ca31be53ce24f1ff20c92a3fd86ed889d2", func := "packtrain/packtrainkeep.StoreLast", spec := "storeLast", inPlace := ["slices.overlaps[string]", "internal/reflectlite.ValueOf", "(internal/reflectlite.Value).Type", "(internal/reflectlite.Value).IsNil", "internal/reflectlite.TypeOf", "(internal/reflectlite.Value).Elem", "(internal/reflectlite.Value).Set", "internal/bytealg.abigen_runtime_cmpstring"], unfollowed := true, recurses := true, named := ["errors.errorType"], apart := false, laid := [("errors.errorType", laid_errors_errorType)], narrowed := true }
def StoreLastUptoSaid : Prop := storeLastUptoRow.holds Tryd.pinned (OpenSpec.upto storeLastSpec)

/-- 'packtrainkeep.StoreSorted', WHERE WHAT IT READS IS OF BULK AT MOST 1048576: true; the input reads as it did. -/
def storeSortedUptoRow : OpenClaim := { program := "ytpmedolndkidcaadoor", sum := "2306cb02b631055110bd523632cf06ca31be53ce24f1ff20c92a3fd86ed889d2", func := "packtrain/packtrainkeep.StoreSorted", spec := "storeSorted", inPlace := ["slices.overlaps[string]", "internal/reflectlite.ValueOf", "(internal/reflectlite.Value).Type", "(internal/reflectlite.Value).IsNil", "internal/reflectlite.TypeOf", "(internal/reflectlite.Value).Elem", "(internal/reflectlite.Value).Set", "internal/bytealg.abigen_runtime_cmpstring"], unfollowed := true, recurses := true, named := ["errors.errorType"], apart := false, laid := [("errors.errorType", laid_errors_errorType)], narrowed := true }
def StoreSortedUptoSaid : Prop := storeSortedUptoRow.holds Tryd.pinned (OpenSpec.upto storeSortedSpec)

/-- 'packtrainkeep.StoreSums', WHERE WHAT IT READS IS OF BULK AT MOST 1048576: true; the input reads as it did. -/
def storeSumsUptoRow : OpenClaim := { program := "ytpmedolndkidcaadoor", sum := "2306cb02b631055110bd523632cf06ca31be53ce24f1ff20c92a3fd86ed889d2", func := "packtrain/packtrainkeep.StoreSums", spec := "storeSums", inPlace := ["slices.overlaps[string]", "internal/reflectlite.ValueOf", "(internal/reflectlite.Value).Type", "(internal/reflectlite.Value).IsNil", "internal/reflectlite.TypeOf", "(internal/reflectlite.Value).Elem", "(internal/reflectlite.Value).Set", "internal/bytealg.abigen_runtime_cmpstring"], unfollowed := true, recurses := true, named := ["errors.errorType"], apart := false, laid := [("errors.errorType", laid_errors_errorType)], narrowed := true }
def StoreSumsUptoSaid : Prop := storeSumsUptoRow.holds Tryd.pinned (OpenSpec.upto storeSumsSpec)

/-- 'packtrainkeep.StoreAgain', WHERE WHAT IT READS IS OF BULK AT MOST 1048576: true; the input reads as it did. -/
def storeAgainUptoRow : OpenClaim := { program := "ytpmedolndkidcaadoor", sum := "2306cb02b631055110bd523632cf06ca31be53ce24f1ff20c92a3fd86ed889d2", func := "packtrain/packtrainkeep.StoreAgain", spec := "storeAgain", inPlace := ["slices.overlaps[string]", "internal/reflectlite.ValueOf", "(internal/reflectlite.Value).Type", "(internal/reflectlite.Value).IsNil", "internal/reflectlite.TypeOf", "(internal/reflectlite.Value).Elem", "(internal/reflectlite.Value).Set", "internal/bytealg.abigen_runtime_cmpstring", "slices.overlaps[packtrain/api.Write]"], unfollowed := true, recurses := true, named := ["errors.errorType"], apart := false, laid := [("errors.errorType", laid_errors_errorType)], narrowed := true }
def StoreAgainUptoSaid : Prop := storeAgainUptoRow.holds Tryd.pinned (OpenSpec.upto storeAgainSpec)

/-- 'packtrainkeep.StoreParts', WHERE WHAT IT READS IS OF BULK AT MOST 1048576: true; the input reads as it did. -/
def storePartsUptoRow : OpenClaim := { program := "ytpmedolndkidcaadoor", sum := "2306cb02b631055110bd523632cf06ca31be53ce24f1ff20c92a3fd86ed889d2", func := "packtrain/packtrainkeep.StoreParts", spec := "storeParts", inPlace := ["slices.overlaps[string]", "internal/reflectlite.ValueOf", "(internal/reflectlite.Value).Type", "(internal/reflectlite.Value).IsNil", "internal/reflectlite.TypeOf", "(internal/reflectlite.Value).Elem", "(internal/reflectlite.Value).Set", "internal/bytealg.abigen_runtime_cmpstring"], unfollowed := true, recurses := true, named := ["errors.errorType"], apart := false, laid := [("errors.errorType", laid_errors_errorType)], narrowed := true }
def StorePartsUptoSaid : Prop := storePartsUptoRow.holds Tryd.pinned (OpenSpec.upto storePartsSpec)

/-- 'packtrainkeep.StoreKeys', WHERE WHAT IT READS IS OF BULK AT MOST 1048576: true; the input reads as it did. -/
def storeKeysUptoRow : OpenClaim := { program := "ytpmedolndkidcaadoor", sum := "2306cb02b631055110bd523632cf06ca31be53ce24f1ff20c92a3fd86ed889d2", func := "packtrain/packtrainkeep.StoreKeys", spec := "storeKeys", inPlace := ["slices.overlaps[string]", "internal/reflectlite.ValueOf", "(internal/reflectlite.Value).Type", "(internal/reflectlite.Value).IsNil", "internal/reflectlite.TypeOf", "(internal/reflectlite.Value).Elem", "(internal/reflectlite.Value).Set", "internal/bytealg.abigen_runtime_cmpstring"], unfollowed := true, recurses := true, named := ["errors.errorType"], apart := false, laid := [("errors.errorType", laid_errors_errorType)], narrowed := true }
def StoreKeysUptoSaid : Prop := storeKeysUptoRow.holds Tryd.pinned (OpenSpec.upto storeKeysSpec)

/-- 'packtrainkeep.StoreDrops', WHERE WHAT IT READS IS OF BULK AT MOST 1048576: true; the input reads as it did. -/
def storeDropsUptoRow : OpenClaim := { program := "ytpmedolndkidcaadoor", sum := "2306cb02b631055110bd523632cf06ca31be53ce24f1ff20c92a3fd86ed889d2", func := "packtrain/packtrainkeep.StoreDrops", spec := "storeDrops", inPlace := ["slices.overlaps[string]", "internal/reflectlite.ValueOf", "(internal/reflectlite.Value).Type", "(internal/reflectlite.Value).IsNil", "internal/reflectlite.TypeOf", "(internal/reflectlite.Value).Elem", "(internal/reflectlite.Value).Set", "internal/bytealg.abigen_runtime_cmpstring"], unfollowed := true, recurses := true, named := ["errors.errorType"], apart := false, laid := [("errors.errorType", laid_errors_errorType)], narrowed := true }
def StoreDropsUptoSaid : Prop := storeDropsUptoRow.holds Tryd.pinned (OpenSpec.upto storeDropsSpec)

/-- 'packtrainkeep.StoreLists', WHERE WHAT IT READS IS OF BULK AT MOST 1048576: true; the input reads as it did. -/
def storeListsUptoRow : OpenClaim := { program := "ytpmedolndkidcaadoor", sum := "2306cb02b631055110bd523632cf06ca31be53ce24f1ff20c92a3fd86ed889d2", func := "packtrain/packtrainkeep.StoreLists", spec := "storeLists", inPlace := ["slices.overlaps[string]", "internal/reflectlite.ValueOf", "(internal/reflectlite.Value).Type", "(internal/reflectlite.Value).IsNil", "internal/reflectlite.TypeOf", "(internal/reflectlite.Value).Elem", "(internal/reflectlite.Value).Set", "internal/bytealg.abigen_runtime_cmpstring"], unfollowed := true, recurses := true, named := ["errors.errorType"], apart := false, laid := [("errors.errorType", laid_errors_errorType)], narrowed := true }
def StoreListsUptoSaid : Prop := storeListsUptoRow.holds Tryd.pinned (OpenSpec.upto storeListsSpec)

/-- 'packtrainkeep.BatchLess', WHERE WHAT IT READS IS OF BULK AT MOST 1048576: true; the input reads as it did. -/
def batchLessUptoRow : OpenClaim := { program := "ytpmedolndkidcaadoor", sum := "2306cb02b631055110bd523632cf06ca31be53ce24f1ff20c92a3fd86ed889d2", func := "packtrain/packtrainkeep.BatchLess", spec := "batchLess", inPlace := ["internal/reflectlite.ValueOf", "(internal/reflectlite.Value).Type", "(internal/reflectlite.Value).IsNil", "internal/reflectlite.TypeOf", "(internal/reflectlite.Value).Elem", "(internal/reflectlite.Value).Set", "slices.overlaps[packtrain/api.Write]"], unfollowed := true, recurses := true, named := ["errors.errorType"], apart := false, laid := [("errors.errorType", laid_errors_errorType)], narrowed := true }
def BatchLessUptoSaid : Prop := batchLessUptoRow.holds Tryd.pinned (OpenSpec.upto batchLessSpec)

/-- 'packtrainkeep.LogTwo', WHERE WHAT IT READS IS OF BULK AT MOST 1048576: true; the input reads as it did. -/
def logTwoUptoRow : OpenClaim := { program := "ytpmedolndkidcaadoor", sum := "2306cb02b631055110bd523632cf06ca31be53ce24f1ff20c92a3fd86ed889d2", func := "packtrain/packtrainkeep.LogTwo", spec := "logTwo", inPlace := ["internal/reflectlite.ValueOf", "(internal/reflectlite.Value).Type", "(internal/reflectlite.Value).IsNil", "internal/reflectlite.TypeOf", "(internal/reflectlite.Value).Elem", "(internal/reflectlite.Value).Set", "slices.overlaps[packtrain/api.Write]", "slices.overlaps[string]", "internal/bytealg.abigen_runtime_cmpstring"], unfollowed := true, recurses := true, named := ["errors.errorType"], apart := false, laid := [("errors.errorType", laid_errors_errorType)], narrowed := true }
def LogTwoUptoSaid : Prop := logTwoUptoRow.holds Tryd.pinned (OpenSpec.upto logTwoSpec)

/-- 'packtrainkeep.LogFull', WHERE WHAT IT READS IS OF BULK AT MOST 1048576: true; the input reads as it did. -/
def logFullUptoRow : OpenClaim := { program := "ytpmedolndkidcaadoor", sum := "2306cb02b631055110bd523632cf06ca31be53ce24f1ff20c92a3fd86ed889d2", func := "packtrain/packtrainkeep.LogFull", spec := "logFull", inPlace := ["internal/reflectlite.ValueOf", "(internal/reflectlite.Value).Type", "(internal/reflectlite.Value).IsNil", "internal/reflectlite.TypeOf", "(internal/reflectlite.Value).Elem", "(internal/reflectlite.Value).Set", "slices.overlaps[packtrain/api.Write]", "slices.overlaps[string]", "internal/bytealg.abigen_runtime_cmpstring"], unfollowed := true, recurses := true, named := ["errors.errorType"], apart := false, laid := [("errors.errorType", laid_errors_errorType)], narrowed := true }
def LogFullUptoSaid : Prop := logFullUptoRow.holds Tryd.pinned (OpenSpec.upto logFullSpec)

/-- 'packtrainkeep.LogLong', WHERE WHAT IT READS IS OF BULK AT MOST 1048576: true; the input reads as it did. -/
def logLongUptoRow : OpenClaim := { program := "ytpmedolndkidcaadoor", sum := "2306cb02b631055110bd523632cf06ca31be53ce24f1ff20c92a3fd86ed889d2", func := "packtrain/packtrainkeep.LogLong", spec := "logLong", inPlace := ["internal/reflectlite.ValueOf", "(internal/reflectlite.Value).Type", "(internal/reflectlite.Value).IsNil", "internal/reflectlite.TypeOf", "(internal/reflectlite.Value).Elem", "(internal/reflectlite.Value).Set", "slices.overlaps[packtrain/api.Write]", "slices.overlaps[string]", "internal/bytealg.abigen_runtime_cmpstring"], unfollowed := true, recurses := true, named := ["errors.errorType"], apart := false, laid := [("errors.errorType", laid_errors_errorType)], narrowed := true }
def LogLongUptoSaid : Prop := logLongUptoRow.holds Tryd.pinned (OpenSpec.upto logLongSpec)

end Rows
end Go.Proofs.YtpmedolndkidcaaDoor
