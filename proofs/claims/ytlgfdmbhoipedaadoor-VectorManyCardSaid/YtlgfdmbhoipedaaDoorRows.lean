/-
  NARROWER THAN 'FOR EVERY INPUT', by the rows' own cells (each row's printed sentence says how): KeysBack: laid · KeysOnly: laid · KeysNumbers: laid · KeysFew: laid · VectorSame: laid · VectorLeast: laid · VectorOrder: laid · VectorTimes: laid · VectorMany: laid · VectorRuns: laid · VectorBack: laid · VectorOnly: laid.
  DERIVED. THE GIVEN ROWS OF THIS SEAT. 12 by the template 'for every input the law returns true; each argument reads behind the call as it read before'; 0 by the template 'total and deterministic' (their statements: YtlgfdmbhoipedaaDoorTotals.lean).
  GIVEN WITH THE SEED: the statements are not yours to turn. If you find one false, say at which input.
  Laid BY PROGRAM, IN A SANDBOX (cutbox-rows.mjs): the forced cells as the released guide's own fill.sh prints them over the translation b86e7d19cf78650d… (all of the seat's roots in one cut). By AI agents, Wed Nov 11 2026. No macro, syntax, notation, axiom, sorry.
-/
import Derived.Test.YtlgfdmbhoipedaaDoorChecked
import GoSem.Claim
import GoSem.ClaimJoined
import GoSem.ClaimMapViews
import Derived.JoinedTies
import Derived.KernelRfl
namespace Go.Proofs.YtlgfdmbhoipedaaDoor
/- THE CELL 'sum', in the pinned program and in every row, IS THE sha256 OF THE DUMP (.gsa) THAT YtlgfdmbhoipedaaDoorProg.lean LOADS. Nothing in Lean hashes anything: it is a label: what it is worth is what the hold of that sum in a sandbox is worth. -/
noncomputable def Tryd.pinned : Pinned := { name := "ytlgfdmbhoipedaadoor", sum := "b86e7d19cf78650d0faec1dc17adf524138a970617f4af60850b923a0e080949", checked := Tryd.checked }
namespace Rows
def none {H : Type} : Left H := { results := [], args := [] }

/- WHAT THE LISTED PACKAGE-LEVEL VARIABLES READ AS WHEN THE CALL BEGINS. Each datum BY PROGRAM (the guide's laid-datum.mjs) off the statement by which the dump's own 'gosem.cut.vars' lays the variable. In a bare row this is a premise. The card (YtlgfdmbhoipedaaDoorCards.lean) ties it to the program's text. -/
def laid_errors_errorType {H : Type} : DataW H := .iface "internal/reflectlite.rtype" (.agg [.ptr (.lit (.string [101, 114, 114, 111, 114]))])

/-- 'packtrainkeep.KeysBack': WHATEVER THE INPUT: true; the input reads as it did. -/
def keysBackSpec : ChangeSpec := { name := "keysBack", fn := fun _ => fun
  | [d] => { results := [.lit (.bool true)], args := [d] }
  | _ => none }
def keysBackRow : OpenClaim := { program := "ytlgfdmbhoipedaadoor", sum := "b86e7d19cf78650d0faec1dc17adf524138a970617f4af60850b923a0e080949", func := "packtrain/packtrainkeep.KeysBack", spec := "keysBack", inPlace := ["internal/reflectlite.ValueOf", "(internal/reflectlite.Value).Type", "(internal/reflectlite.Value).IsNil", "internal/reflectlite.TypeOf", "(internal/reflectlite.Value).Elem", "(internal/reflectlite.Value).Set"], unfollowed := true, recurses := true, named := ["errors.errorType"], apart := false, laid := [("errors.errorType", laid_errors_errorType)] }
def KeysBackSaid : Prop := keysBackRow.holds Tryd.pinned (OpenSpec.ofChange keysBackSpec)

/-- ITS FALSE NEIGHBOUR: 'it returns false'. Refute it at one input. -/
def keysBackWrong : ChangeSpec := { name := "keysBack", fn := fun _ => fun
  | [d] => { results := [.lit (.bool false)], args := [d] }
  | _ => none }
def KeysBackWrongFalsely : Prop := keysBackRow.holds Tryd.pinned (OpenSpec.ofChange keysBackWrong)

/-- 'packtrainkeep.KeysOnly': WHATEVER THE INPUT: true; the input reads as it did. -/
def keysOnlySpec : ChangeSpec := { name := "keysOnly", fn := fun _ => fun
  | [d1, d2] => { results := [.lit (.bool true)], args := [d1, d2] }
  | _ => none }
def keysOnlyRow : OpenClaim := { program := "ytlgfdmbhoipedaadoor", sum := "b86e7d19cf78650d0faec1dc17adf524138a970617f4af60850b923a0e080949", func := "packtrain/packtrainkeep.KeysOnly", spec := "keysOnly", inPlace := ["internal/reflectlite.ValueOf", "(internal/reflectlite.Value).Type", "(internal/reflectlite.Value).IsNil", "internal/reflectlite.TypeOf", "(internal/reflectlite.Value).Elem", "(internal/reflectlite.Value).Set"], unfollowed := true, recurses := true, named := ["errors.errorType"], apart := false, laid := [("errors.errorType", laid_errors_errorType)] }
def KeysOnlySaid : Prop := keysOnlyRow.holds Tryd.pinned (OpenSpec.ofChange keysOnlySpec)

/-- ITS FALSE NEIGHBOUR: 'it returns false'. Refute it at one input. -/
def keysOnlyWrong : ChangeSpec := { name := "keysOnly", fn := fun _ => fun
  | [d1, d2] => { results := [.lit (.bool false)], args := [d1, d2] }
  | _ => none }
def KeysOnlyWrongFalsely : Prop := keysOnlyRow.holds Tryd.pinned (OpenSpec.ofChange keysOnlyWrong)

/-- 'packtrainkeep.KeysNumbers': WHATEVER THE INPUT: true; the input reads as it did. -/
def keysNumbersSpec : ChangeSpec := { name := "keysNumbers", fn := fun _ => fun
  | [d] => { results := [.lit (.bool true)], args := [d] }
  | _ => none }
def keysNumbersRow : OpenClaim := { program := "ytlgfdmbhoipedaadoor", sum := "b86e7d19cf78650d0faec1dc17adf524138a970617f4af60850b923a0e080949", func := "packtrain/packtrainkeep.KeysNumbers", spec := "keysNumbers", inPlace := ["internal/reflectlite.ValueOf", "(internal/reflectlite.Value).Type", "(internal/reflectlite.Value).IsNil", "internal/reflectlite.TypeOf", "(internal/reflectlite.Value).Elem", "(internal/reflectlite.Value).Set"], unfollowed := true, recurses := true, named := ["errors.errorType"], apart := false, laid := [("errors.errorType", laid_errors_errorType)] }
def KeysNumbersSaid : Prop := keysNumbersRow.holds Tryd.pinned (OpenSpec.ofChange keysNumbersSpec)

/-- ITS FALSE NEIGHBOUR: 'it returns false'. Refute it at one input. -/
def keysNumbersWrong : ChangeSpec := { name := "keysNumbers", fn := fun _ => fun
  | [d] => { results := [.lit (.bool false)], args := [d] }
  | _ => none }
def KeysNumbersWrongFalsely : Prop := keysNumbersRow.holds Tryd.pinned (OpenSpec.ofChange keysNumbersWrong)

/-- 'packtrainkeep.KeysFew': WHATEVER THE INPUT: true; the input reads as it did. -/
def keysFewSpec : ChangeSpec := { name := "keysFew", fn := fun _ => fun
  | [d1, d2] => { results := [.lit (.bool true)], args := [d1, d2] }
  | _ => none }
def keysFewRow : OpenClaim := { program := "ytlgfdmbhoipedaadoor", sum := "b86e7d19cf78650d0faec1dc17adf524138a970617f4af60850b923a0e080949", func := "packtrain/packtrainkeep.KeysFew", spec := "keysFew", inPlace := ["internal/reflectlite.ValueOf", "(internal/reflectlite.Value).Type", "(internal/reflectlite.Value).IsNil", "internal/reflectlite.TypeOf", "(internal/reflectlite.Value).Elem", "(internal/reflectlite.Value).Set"], unfollowed := true, recurses := true, named := ["errors.errorType"], apart := false, laid := [("errors.errorType", laid_errors_errorType)] }
def KeysFewSaid : Prop := keysFewRow.holds Tryd.pinned (OpenSpec.ofChange keysFewSpec)

/-- ITS FALSE NEIGHBOUR: 'it returns false'. Refute it at one input. -/
def keysFewWrong : ChangeSpec := { name := "keysFew", fn := fun _ => fun
  | [d1, d2] => { results := [.lit (.bool false)], args := [d1, d2] }
  | _ => none }
def KeysFewWrongFalsely : Prop := keysFewRow.holds Tryd.pinned (OpenSpec.ofChange keysFewWrong)

/-- 'packtrainkeep.VectorSame': WHATEVER THE INPUT: true; the input reads as it did. -/
def vectorSameSpec : ChangeSpec := { name := "vectorSame", fn := fun _ => fun
  | [d1, d2, d3] => { results := [.lit (.bool true)], args := [d1, d2, d3] }
  | _ => none }
def vectorSameRow : OpenClaim := { program := "ytlgfdmbhoipedaadoor", sum := "b86e7d19cf78650d0faec1dc17adf524138a970617f4af60850b923a0e080949", func := "packtrain/packtrainkeep.VectorSame", spec := "vectorSame", inPlace := ["internal/reflectlite.ValueOf", "(internal/reflectlite.Value).Type", "(internal/reflectlite.Value).IsNil", "internal/reflectlite.TypeOf", "(internal/reflectlite.Value).Elem", "(internal/reflectlite.Value).Set"], unfollowed := true, recurses := true, named := ["errors.errorType"], apart := false, laid := [("errors.errorType", laid_errors_errorType)] }
def VectorSameSaid : Prop := vectorSameRow.holds Tryd.pinned (OpenSpec.ofChange vectorSameSpec)

/-- ITS FALSE NEIGHBOUR: 'it returns false'. Refute it at one input. -/
def vectorSameWrong : ChangeSpec := { name := "vectorSame", fn := fun _ => fun
  | [d1, d2, d3] => { results := [.lit (.bool false)], args := [d1, d2, d3] }
  | _ => none }
def VectorSameWrongFalsely : Prop := vectorSameRow.holds Tryd.pinned (OpenSpec.ofChange vectorSameWrong)

/-- 'packtrainkeep.VectorLeast': WHATEVER THE INPUT: true; the input reads as it did. -/
def vectorLeastSpec : ChangeSpec := { name := "vectorLeast", fn := fun _ => fun
  | [d1, d2, d3] => { results := [.lit (.bool true)], args := [d1, d2, d3] }
  | _ => none }
def vectorLeastRow : OpenClaim := { program := "ytlgfdmbhoipedaadoor", sum := "b86e7d19cf78650d0faec1dc17adf524138a970617f4af60850b923a0e080949", func := "packtrain/packtrainkeep.VectorLeast", spec := "vectorLeast", inPlace := ["internal/reflectlite.ValueOf", "(internal/reflectlite.Value).Type", "(internal/reflectlite.Value).IsNil", "internal/reflectlite.TypeOf", "(internal/reflectlite.Value).Elem", "(internal/reflectlite.Value).Set"], unfollowed := true, recurses := true, named := ["errors.errorType"], apart := false, laid := [("errors.errorType", laid_errors_errorType)] }
def VectorLeastSaid : Prop := vectorLeastRow.holds Tryd.pinned (OpenSpec.ofChange vectorLeastSpec)

/-- ITS FALSE NEIGHBOUR: 'it returns false'. Refute it at one input. -/
def vectorLeastWrong : ChangeSpec := { name := "vectorLeast", fn := fun _ => fun
  | [d1, d2, d3] => { results := [.lit (.bool false)], args := [d1, d2, d3] }
  | _ => none }
def VectorLeastWrongFalsely : Prop := vectorLeastRow.holds Tryd.pinned (OpenSpec.ofChange vectorLeastWrong)

/-- 'packtrainkeep.VectorOrder': WHATEVER THE INPUT: true; the input reads as it did. -/
def vectorOrderSpec : ChangeSpec := { name := "vectorOrder", fn := fun _ => fun
  | [d1, d2, d3] => { results := [.lit (.bool true)], args := [d1, d2, d3] }
  | _ => none }
def vectorOrderRow : OpenClaim := { program := "ytlgfdmbhoipedaadoor", sum := "b86e7d19cf78650d0faec1dc17adf524138a970617f4af60850b923a0e080949", func := "packtrain/packtrainkeep.VectorOrder", spec := "vectorOrder", inPlace := ["internal/reflectlite.ValueOf", "(internal/reflectlite.Value).Type", "(internal/reflectlite.Value).IsNil", "internal/reflectlite.TypeOf", "(internal/reflectlite.Value).Elem", "(internal/reflectlite.Value).Set"], unfollowed := true, recurses := true, named := ["errors.errorType"], apart := false, laid := [("errors.errorType", laid_errors_errorType)] }
def VectorOrderSaid : Prop := vectorOrderRow.holds Tryd.pinned (OpenSpec.ofChange vectorOrderSpec)

/-- ITS FALSE NEIGHBOUR: 'it returns false'. Refute it at one input. -/
def vectorOrderWrong : ChangeSpec := { name := "vectorOrder", fn := fun _ => fun
  | [d1, d2, d3] => { results := [.lit (.bool false)], args := [d1, d2, d3] }
  | _ => none }
def VectorOrderWrongFalsely : Prop := vectorOrderRow.holds Tryd.pinned (OpenSpec.ofChange vectorOrderWrong)

/-- 'packtrainkeep.VectorTimes': WHATEVER THE INPUT: true; the input reads as it did. -/
def vectorTimesSpec : ChangeSpec := { name := "vectorTimes", fn := fun _ => fun
  | [d1, d2, d3] => { results := [.lit (.bool true)], args := [d1, d2, d3] }
  | _ => none }
def vectorTimesRow : OpenClaim := { program := "ytlgfdmbhoipedaadoor", sum := "b86e7d19cf78650d0faec1dc17adf524138a970617f4af60850b923a0e080949", func := "packtrain/packtrainkeep.VectorTimes", spec := "vectorTimes", inPlace := ["internal/reflectlite.ValueOf", "(internal/reflectlite.Value).Type", "(internal/reflectlite.Value).IsNil", "internal/reflectlite.TypeOf", "(internal/reflectlite.Value).Elem", "(internal/reflectlite.Value).Set"], unfollowed := true, recurses := true, named := ["errors.errorType"], apart := false, laid := [("errors.errorType", laid_errors_errorType)] }
def VectorTimesSaid : Prop := vectorTimesRow.holds Tryd.pinned (OpenSpec.ofChange vectorTimesSpec)

/-- ITS FALSE NEIGHBOUR: 'it returns false'. Refute it at one input. -/
def vectorTimesWrong : ChangeSpec := { name := "vectorTimes", fn := fun _ => fun
  | [d1, d2, d3] => { results := [.lit (.bool false)], args := [d1, d2, d3] }
  | _ => none }
def VectorTimesWrongFalsely : Prop := vectorTimesRow.holds Tryd.pinned (OpenSpec.ofChange vectorTimesWrong)

/-- 'packtrainkeep.VectorMany': WHATEVER THE INPUT: true; the input reads as it did. -/
def vectorManySpec : ChangeSpec := { name := "vectorMany", fn := fun _ => fun
  | [d1, d2] => { results := [.lit (.bool true)], args := [d1, d2] }
  | _ => none }
def vectorManyRow : OpenClaim := { program := "ytlgfdmbhoipedaadoor", sum := "b86e7d19cf78650d0faec1dc17adf524138a970617f4af60850b923a0e080949", func := "packtrain/packtrainkeep.VectorMany", spec := "vectorMany", inPlace := ["internal/reflectlite.ValueOf", "(internal/reflectlite.Value).Type", "(internal/reflectlite.Value).IsNil", "internal/reflectlite.TypeOf", "(internal/reflectlite.Value).Elem", "(internal/reflectlite.Value).Set"], unfollowed := true, recurses := true, named := ["errors.errorType"], apart := false, laid := [("errors.errorType", laid_errors_errorType)] }
def VectorManySaid : Prop := vectorManyRow.holds Tryd.pinned (OpenSpec.ofChange vectorManySpec)

/-- ITS FALSE NEIGHBOUR: 'it returns false'. Refute it at one input. -/
def vectorManyWrong : ChangeSpec := { name := "vectorMany", fn := fun _ => fun
  | [d1, d2] => { results := [.lit (.bool false)], args := [d1, d2] }
  | _ => none }
def VectorManyWrongFalsely : Prop := vectorManyRow.holds Tryd.pinned (OpenSpec.ofChange vectorManyWrong)

/-- 'packtrainkeep.VectorRuns': WHATEVER THE INPUT: true; the input reads as it did. -/
def vectorRunsSpec : ChangeSpec := { name := "vectorRuns", fn := fun _ => fun
  | [d1, d2, d3] => { results := [.lit (.bool true)], args := [d1, d2, d3] }
  | _ => none }
def vectorRunsRow : OpenClaim := { program := "ytlgfdmbhoipedaadoor", sum := "b86e7d19cf78650d0faec1dc17adf524138a970617f4af60850b923a0e080949", func := "packtrain/packtrainkeep.VectorRuns", spec := "vectorRuns", inPlace := ["internal/reflectlite.ValueOf", "(internal/reflectlite.Value).Type", "(internal/reflectlite.Value).IsNil", "internal/reflectlite.TypeOf", "(internal/reflectlite.Value).Elem", "(internal/reflectlite.Value).Set"], unfollowed := true, recurses := true, named := ["errors.errorType"], apart := false, laid := [("errors.errorType", laid_errors_errorType)] }
def VectorRunsSaid : Prop := vectorRunsRow.holds Tryd.pinned (OpenSpec.ofChange vectorRunsSpec)

/-- ITS FALSE NEIGHBOUR: 'it returns false'. Refute it at one input. -/
def vectorRunsWrong : ChangeSpec := { name := "vectorRuns", fn := fun _ => fun
  | [d1, d2, d3] => { results := [.lit (.bool false)], args := [d1, d2, d3] }
  | _ => none }
def VectorRunsWrongFalsely : Prop := vectorRunsRow.holds Tryd.pinned (OpenSpec.ofChange vectorRunsWrong)

/-- 'packtrainkeep.VectorBack': WHATEVER THE INPUT: true; the input reads as it did. -/
def vectorBackSpec : ChangeSpec := { name := "vectorBack", fn := fun _ => fun
  | [d1, d2] => { results := [.lit (.bool true)], args := [d1, d2] }
  | _ => none }
def vectorBackRow : OpenClaim := { program := "ytlgfdmbhoipedaadoor", sum := "b86e7d19cf78650d0faec1dc17adf524138a970617f4af60850b923a0e080949", func := "packtrain/packtrainkeep.VectorBack", spec := "vectorBack", inPlace := ["internal/reflectlite.ValueOf", "(internal/reflectlite.Value).Type", "(internal/reflectlite.Value).IsNil", "internal/reflectlite.TypeOf", "(internal/reflectlite.Value).Elem", "(internal/reflectlite.Value).Set"], unfollowed := true, recurses := true, named := ["errors.errorType"], apart := false, laid := [("errors.errorType", laid_errors_errorType)] }
def VectorBackSaid : Prop := vectorBackRow.holds Tryd.pinned (OpenSpec.ofChange vectorBackSpec)

/-- ITS FALSE NEIGHBOUR: 'it returns false'. Refute it at one input. -/
def vectorBackWrong : ChangeSpec := { name := "vectorBack", fn := fun _ => fun
  | [d1, d2] => { results := [.lit (.bool false)], args := [d1, d2] }
  | _ => none }
def VectorBackWrongFalsely : Prop := vectorBackRow.holds Tryd.pinned (OpenSpec.ofChange vectorBackWrong)

/-- 'packtrainkeep.VectorOnly': WHATEVER THE INPUT: true; the input reads as it did. -/
def vectorOnlySpec : ChangeSpec := { name := "vectorOnly", fn := fun _ => fun
  | [d] => { results := [.lit (.bool true)], args := [d] }
  | _ => none }
def vectorOnlyRow : OpenClaim := { program := "ytlgfdmbhoipedaadoor", sum := "b86e7d19cf78650d0faec1dc17adf524138a970617f4af60850b923a0e080949", func := "packtrain/packtrainkeep.VectorOnly", spec := "vectorOnly", inPlace := ["internal/reflectlite.ValueOf", "(internal/reflectlite.Value).Type", "(internal/reflectlite.Value).IsNil", "internal/reflectlite.TypeOf", "(internal/reflectlite.Value).Elem", "(internal/reflectlite.Value).Set"], unfollowed := true, recurses := true, named := ["errors.errorType"], apart := false, laid := [("errors.errorType", laid_errors_errorType)] }
def VectorOnlySaid : Prop := vectorOnlyRow.holds Tryd.pinned (OpenSpec.ofChange vectorOnlySpec)

/-- ITS FALSE NEIGHBOUR: 'it returns false'. Refute it at one input. -/
def vectorOnlyWrong : ChangeSpec := { name := "vectorOnly", fn := fun _ => fun
  | [d] => { results := [.lit (.bool false)], args := [d] }
  | _ => none }
def VectorOnlyWrongFalsely : Prop := vectorOnlyRow.holds Tryd.pinned (OpenSpec.ofChange vectorOnlyWrong)

/- THE SECOND FORM. 'bulk': how many values and letters a reading holds, each counted each time it is reached (what is shared counts as often as it is met; a slice's spare places count too). A statement '..UptoSaid' is the law's where the arguments, and the package variables that the reading takes, are together of bulk at most 1048576: NARROWER than '..Said'. Prove '..Said' where nothing that the law and all that it calls make is longer than what came in: it says more and counts as full. Else prove '..UptoSaid'. A law counts once. -/
mutual
def uptoBulk {H : Type} : DataW H → Nat
  | .lit (.string bytes) => bytes.length + 1
  | .lit _ => 1
  | .nil => 1
  | .ptr d => uptoBulk d + 1
  | .slice elems spare => uptoBulkAll elems + uptoBulkAll spare + 1
  | .agg parts => uptoBulkAll parts + 1
  | .iface _ d => uptoBulk d + 1
  | .map entries => uptoBulkEntries entries + 1
  | .held _ => 1
def uptoBulkAll {H : Type} : List (DataW H) → Nat
  | [] => 0
  | d :: r => uptoBulk d + uptoBulkAll r
def uptoBulkEntries {H : Type} : List (Lit × DataW H) → Nat
  | [] => 0
  | x :: r => uptoBulkEntry x + uptoBulkEntries r
def uptoBulkEntry {H : Type} : Lit × DataW H → Nat
  | (.string bytes, d) => bytes.length + uptoBulk d + 1
  | (_, d) => uptoBulk d + 1
 end
def uptoSmall : (H : Type) → List (DataW H) → Bool := fun _ ds => decide (uptoBulkAll ds ≤ 1048576)
def OpenSpec.upto (s : _root_.Go.ChangeSpec) : _root_.Go.OpenSpec := { _root_.Go.OpenSpec.ofChange s with cond := some uptoSmall }

/-- 'packtrainkeep.KeysBack', WHERE WHAT IT READS IS OF BULK AT MOST 1048576: true; the input reads as it did. -/
def keysBackUptoRow : OpenClaim := { program := "ytlgfdmbhoipedaadoor", sum := "b86e7d19cf78650d0faec1dc17adf524138a970617f4af60850b923a0e080949", func := "packtrain/packtrainkeep.KeysBack", spec := "keysBack", inPlace := ["internal/reflectlite.ValueOf", "(internal/reflectlite.Value).Type", "(internal/reflectlite.Value).IsNil", "internal/reflectlite.TypeOf", "(internal/reflectlite.Value).Elem", "(internal/reflectlite.Value).Set"], unfollowed := true, recurses := true, named := ["errors.errorType"], apart := false, laid := [("errors.errorType", laid_errors_errorType)], narrowed := true }
def KeysBackUptoSaid : Prop := keysBackUptoRow.holds Tryd.pinned (OpenSpec.upto keysBackSpec)

/-- 'packtrainkeep.KeysOnly', WHERE WHAT IT READS IS OF BULK AT MOST 1048576: true; the input reads as it did. -/
def keysOnlyUptoRow : OpenClaim := { program := "ytlgfdmbhoipedaadoor", sum := "b86e7d19cf78650d0faec1dc17adf524138a970617f4af60850b923a0e080949", func := "packtrain/packtrainkeep.KeysOnly", spec := "keysOnly", inPlace := ["internal/reflectlite.ValueOf", "(internal/reflectlite.Value).Type", "(internal/reflectlite.Value).IsNil", "internal/reflectlite.TypeOf", "(internal/reflectlite.Value).Elem", "(internal/reflectlite.Value).Set"], unfollowed := true, recurses := true, named := ["errors.errorType"], apart := false, laid := [("errors.errorType", laid_errors_errorType)], narrowed := true }
def KeysOnlyUptoSaid : Prop := keysOnlyUptoRow.holds Tryd.pinned (OpenSpec.upto keysOnlySpec)

/-- 'packtrainkeep.KeysNumbers', WHERE WHAT IT READS IS OF BULK AT MOST 1048576: true; the input reads as it did. -/
def keysNumbersUptoRow : OpenClaim := { program := "ytlgfdmbhoipedaadoor", sum := "b86e7d19cf78650d0faec1dc17adf524138a970617f4af60850b923a0e080949", func := "packtrain/packtrainkeep.KeysNumbers", spec := "keysNumbers", inPlace := ["internal/reflectlite.ValueOf", "(internal/reflectlite.Value).Type", "(internal/reflectlite.Value).IsNil", "internal/reflectlite.TypeOf", "(internal/reflectlite.Value).Elem", "(internal/reflectlite.Value).Set"], unfollowed := true, recurses := true, named := ["errors.errorType"], apart := false, laid := [("errors.errorType", laid_errors_errorType)], narrowed := true }
def KeysNumbersUptoSaid : Prop := keysNumbersUptoRow.holds Tryd.pinned (OpenSpec.upto keysNumbersSpec)

/-- 'packtrainkeep.KeysFew', WHERE WHAT IT READS IS OF BULK AT MOST 1048576: true; the input reads as it did. -/
def keysFewUptoRow : OpenClaim := { program := "ytlgfdmbhoipedaadoor", sum := "b86e7d19cf78650d0faec1dc17adf524138a970617f4af60850b923a0e080949", func := "packtrain/packtrainkeep.KeysFew", spec := "keysFew", inPlace := ["internal/reflectlite.ValueOf", "(internal/reflectlite.Value).Type", "(internal/reflectlite.Value).IsNil", "internal/reflectlite.TypeOf", "(internal/reflectlite.Value).Elem", "(internal/reflectlite.Value).Set"], unfollowed := true, recurses := true, named := ["errors.errorType"], apart := false, laid := [("errors.errorType", laid_errors_errorType)], narrowed := true }
def KeysFewUptoSaid : Prop := keysFewUptoRow.holds Tryd.pinned (OpenSpec.upto keysFewSpec)

/-- 'packtrainkeep.VectorSame', WHERE WHAT IT READS IS OF BULK AT MOST 1048576: true; the input reads as it did. -/
def vectorSameUptoRow : OpenClaim := { program := "ytlgfdmbhoipedaadoor", sum := "b86e7d19cf78650d0faec1dc17adf524138a970617f4af60850b923a0e080949", func := "packtrain/packtrainkeep.VectorSame", spec := "vectorSame", inPlace := ["internal/reflectlite.ValueOf", "(internal/reflectlite.Value).Type", "(internal/reflectlite.Value).IsNil", "internal/reflectlite.TypeOf", "(internal/reflectlite.Value).Elem", "(internal/reflectlite.Value).Set"], unfollowed := true, recurses := true, named := ["errors.errorType"], apart := false, laid := [("errors.errorType", laid_errors_errorType)], narrowed := true }
def VectorSameUptoSaid : Prop := vectorSameUptoRow.holds Tryd.pinned (OpenSpec.upto vectorSameSpec)

/-- 'packtrainkeep.VectorLeast', WHERE WHAT IT READS IS OF BULK AT MOST 1048576: true; the input reads as it did. -/
def vectorLeastUptoRow : OpenClaim := { program := "ytlgfdmbhoipedaadoor", sum := "b86e7d19cf78650d0faec1dc17adf524138a970617f4af60850b923a0e080949", func := "packtrain/packtrainkeep.VectorLeast", spec := "vectorLeast", inPlace := ["internal/reflectlite.ValueOf", "(internal/reflectlite.Value).Type", "(internal/reflectlite.Value).IsNil", "internal/reflectlite.TypeOf", "(internal/reflectlite.Value).Elem", "(internal/reflectlite.Value).Set"], unfollowed := true, recurses := true, named := ["errors.errorType"], apart := false, laid := [("errors.errorType", laid_errors_errorType)], narrowed := true }
def VectorLeastUptoSaid : Prop := vectorLeastUptoRow.holds Tryd.pinned (OpenSpec.upto vectorLeastSpec)

/-- 'packtrainkeep.VectorOrder', WHERE WHAT IT READS IS OF BULK AT MOST 1048576: true; the input reads as it did. -/
def vectorOrderUptoRow : OpenClaim := { program := "ytlgfdmbhoipedaadoor", sum := "b86e7d19cf78650d0faec1dc17adf524138a970617f4af60850b923a0e080949", func := "packtrain/packtrainkeep.VectorOrder", spec := "vectorOrder", inPlace := ["internal/reflectlite.ValueOf", "(internal/reflectlite.Value).Type", "(internal/reflectlite.Value).IsNil", "internal/reflectlite.TypeOf", "(internal/reflectlite.Value).Elem", "(internal/reflectlite.Value).Set"], unfollowed := true, recurses := true, named := ["errors.errorType"], apart := false, laid := [("errors.errorType", laid_errors_errorType)], narrowed := true }
def VectorOrderUptoSaid : Prop := vectorOrderUptoRow.holds Tryd.pinned (OpenSpec.upto vectorOrderSpec)

/-- 'packtrainkeep.VectorTimes', WHERE WHAT IT READS IS OF BULK AT MOST 1048576: true; the input reads as it did. -/
def vectorTimesUptoRow : OpenClaim := { program := "ytlgfdmbhoipedaadoor", sum := "b86e7d19cf78650d0faec1dc17adf524138a970617f4af60850b923a0e080949", func := "packtrain/packtrainkeep.VectorTimes", spec := "vectorTimes", inPlace := ["internal/reflectlite.ValueOf", "(internal/reflectlite.Value).Type", "(internal/reflectlite.Value).IsNil", "internal/reflectlite.TypeOf", "(internal/reflectlite.Value).Elem", "(internal/reflectlite.Value).Set"], unfollowed := true, recurses := true, named := ["errors.errorType"], apart := false, laid := [("errors.errorType", laid_errors_errorType)], narrowed := true }
def VectorTimesUptoSaid : Prop := vectorTimesUptoRow.holds Tryd.pinned (OpenSpec.upto vectorTimesSpec)

/-- 'packtrainkeep.VectorMany', WHERE WHAT IT READS IS OF BULK AT MOST 1048576: true; the input reads as it did. -/
def vectorManyUptoRow : OpenClaim := { program := "ytlgfdmbhoipedaadoor", sum := "b86e7d19cf78650d0faec1dc17adf524138a970617f4af60850b923a0e080949", func := "packtrain/packtrainkeep.VectorMany", spec := "vectorMany", inPlace := ["internal/reflectlite.ValueOf", "(internal/reflectlite.Value).Type", "(internal/reflectlite.Value).IsNil", "internal/reflectlite.TypeOf", "(internal/reflectlite.Value).Elem", "(internal/reflectlite.Value).Set"], unfollowed := true, recurses := true, named := ["errors.errorType"], apart := false, laid := [("errors.errorType", laid_errors_errorType)], narrowed := true }
def VectorManyUptoSaid : Prop := vectorManyUptoRow.holds Tryd.pinned (OpenSpec.upto vectorManySpec)

/-- 'packtrainkeep.VectorRuns', WHERE WHAT IT READS IS OF BULK AT MOST 1048576: true; the input reads as it did. -/
def vectorRunsUptoRow : OpenClaim := { program := "ytlgfdmbhoipedaadoor", sum := "b86e7d19cf78650d0faec1dc17adf524138a970617f4af60850b923a0e080949", func := "packtrain/packtrainkeep.VectorRuns", spec := "vectorRuns", inPlace := ["internal/reflectlite.ValueOf", "(internal/reflectlite.Value).Type", "(internal/reflectlite.Value).IsNil", "internal/reflectlite.TypeOf", "(internal/reflectlite.Value).Elem", "(internal/reflectlite.Value).Set"], unfollowed := true, recurses := true, named := ["errors.errorType"], apart := false, laid := [("errors.errorType", laid_errors_errorType)], narrowed := true }
def VectorRunsUptoSaid : Prop := vectorRunsUptoRow.holds Tryd.pinned (OpenSpec.upto vectorRunsSpec)

/-- 'packtrainkeep.VectorBack', WHERE WHAT IT READS IS OF BULK AT MOST 1048576: true; the input reads as it did. -/
def vectorBackUptoRow : OpenClaim := { program := "ytlgfdmbhoipedaadoor", sum := "b86e7d19cf78650d0faec1dc17adf524138a970617f4af60850b923a0e080949", func := "packtrain/packtrainkeep.VectorBack", spec := "vectorBack", inPlace := ["internal/reflectlite.ValueOf", "(internal/reflectlite.Value).Type", "(internal/reflectlite.Value).IsNil", "internal/reflectlite.TypeOf", "(internal/reflectlite.Value).Elem", "(internal/reflectlite.Value).Set"], unfollowed := true, recurses := true, named := ["errors.errorType"], apart := false, laid := [("errors.errorType", laid_errors_errorType)], narrowed := true }
def VectorBackUptoSaid : Prop := vectorBackUptoRow.holds Tryd.pinned (OpenSpec.upto vectorBackSpec)

/-- 'packtrainkeep.VectorOnly', WHERE WHAT IT READS IS OF BULK AT MOST 1048576: true; the input reads as it did. -/
def vectorOnlyUptoRow : OpenClaim := { program := "ytlgfdmbhoipedaadoor", sum := "b86e7d19cf78650d0faec1dc17adf524138a970617f4af60850b923a0e080949", func := "packtrain/packtrainkeep.VectorOnly", spec := "vectorOnly", inPlace := ["internal/reflectlite.ValueOf", "(internal/reflectlite.Value).Type", "(internal/reflectlite.Value).IsNil", "internal/reflectlite.TypeOf", "(internal/reflectlite.Value).Elem", "(internal/reflectlite.Value).Set"], unfollowed := true, recurses := true, named := ["errors.errorType"], apart := false, laid := [("errors.errorType", laid_errors_errorType)], narrowed := true }
def VectorOnlyUptoSaid : Prop := vectorOnlyUptoRow.holds Tryd.pinned (OpenSpec.upto vectorOnlySpec)

end Rows
end Go.Proofs.YtlgfdmbhoipedaaDoor
