/-
  NARROWER THAN 'FOR EVERY INPUT', by the rows' own cells (each row's printed sentence says how): KeysBack: laid · KeysOnly: laid · KeysNumbers: laid · KeysFew: laid · LzSmall: laid · RecvAll: laid · RecvOthers: laid · RecvMixed: laid · RecvForgets: laid.
  DERIVED. THE GIVEN ROWS OF THIS SEAT. 9 by the template 'for every input the law returns true; each argument reads behind the call as it read before'; 0 by the template 'total and deterministic' (their statements: YtnognjjbheoniaaDoorTotals.lean).
  GIVEN WITH THE SEED: the statements are not yours to turn. If you find one false, say at which input.
  Laid BY PROGRAM, IN A SANDBOX (cutbox-rows.mjs): the forced cells as the released guide's own fill.sh prints them over the translation 17aa7506bd4b93a6… (all of the seat's roots in one cut). By AI agents, Wed Nov 11 2026. No macro, syntax, notation, axiom, sorry.
-/
import Derived.Test.YtnognjjbheoniaaDoorChecked
import GoSem.Claim
import GoSem.ClaimJoined
import GoSem.ClaimMapViews
import Derived.JoinedTies
import Derived.KernelRfl
namespace Go.Proofs.YtnognjjbheoniaaDoor
/- THE CELL 'sum', in the pinned program and in every row, IS THE sha256 OF THE DUMP (.gsa) THAT YtnognjjbheoniaaDoorProg.lean LOADS. Nothing in Lean hashes anything: it is a label: what it is worth is what the hold of that sum in a sandbox is worth. -/
noncomputable def Tryd.pinned : Pinned := { name := "ytnognjjbheoniaadoor", sum := "17aa7506bd4b93a6eb39124fa6d809151888cdbba49cbd079c88838048ba1606", checked := Tryd.checked }
namespace Rows
def none {H : Type} : Left H := { results := [], args := [] }

/- WHAT THE LISTED PACKAGE-LEVEL VARIABLES READ AS WHEN THE CALL BEGINS. Each datum BY PROGRAM (the guide's laid-datum.mjs) off the statement by which the dump's own 'gosem.cut.vars' lays the variable. In a bare row this is a premise. The card (YtnognjjbheoniaaDoorCards.lean) ties it to the program's text. -/
def laid_errors_errorType {H : Type} : DataW H := .iface "internal/reflectlite.rtype" (.agg [.ptr (.lit (.string [101, 114, 114, 111, 114]))])

/-- 'packtrainkeep.KeysBack': WHATEVER THE INPUT: true; the input reads as it did. -/
def keysBackSpec : ChangeSpec := { name := "keysBack", fn := fun _ => fun
  | [d] => { results := [.lit (.bool true)], args := [d] }
  | _ => none }
def keysBackRow : OpenClaim := { program := "ytnognjjbheoniaadoor", sum := "17aa7506bd4b93a6eb39124fa6d809151888cdbba49cbd079c88838048ba1606", func := "packtrain/packtrainkeep.KeysBack", spec := "keysBack", inPlace := ["internal/reflectlite.ValueOf", "(internal/reflectlite.Value).Type", "(internal/reflectlite.Value).IsNil", "internal/reflectlite.TypeOf", "(internal/reflectlite.Value).Elem", "(internal/reflectlite.Value).Set"], unfollowed := true, recurses := true, named := ["errors.errorType"], apart := false, laid := [("errors.errorType", laid_errors_errorType)] }
def KeysBackSaid : Prop := keysBackRow.holds Tryd.pinned (OpenSpec.ofChange keysBackSpec)

/-- ITS FALSE NEIGHBOUR: 'it returns false'. Refute it at one input. -/
def keysBackWrong : ChangeSpec := { name := "keysBack", fn := fun _ => fun
  | [d] => { results := [.lit (.bool false)], args := [d] }
  | _ => none }
def KeysBackWrongFalsely : Prop := keysBackRow.holds Tryd.pinned (OpenSpec.ofChange keysBackWrong)

/-- 'packtrainkeep.KeysOnly': WHATEVER THE INPUT: true; the input reads as it did. -/
def keysOnlySpec : ChangeSpec := { name := "keysOnly", fn := fun _ => fun
  | [d1, d2] => { results := [.lit (.bool true)], args := [d1, d2] }
  | _ => none }
def keysOnlyRow : OpenClaim := { program := "ytnognjjbheoniaadoor", sum := "17aa7506bd4b93a6eb39124fa6d809151888cdbba49cbd079c88838048ba1606", func := "packtrain/packtrainkeep.KeysOnly", spec := "keysOnly", inPlace := ["internal/reflectlite.ValueOf", "(internal/reflectlite.Value).Type", "(internal/reflectlite.Value).IsNil", "internal/reflectlite.TypeOf", "(internal/reflectlite.Value).Elem", "(internal/reflectlite.Value).Set"], unfollowed := true, recurses := true, named := ["errors.errorType"], apart := false, laid := [("errors.errorType", laid_errors_errorType)] }
def KeysOnlySaid : Prop := keysOnlyRow.holds Tryd.pinned (OpenSpec.ofChange keysOnlySpec)

/-- ITS FALSE NEIGHBOUR: 'it returns false'. Refute it at one input. -/
def keysOnlyWrong : ChangeSpec := { name := "keysOnly", fn := fun _ => fun
  | [d1, d2] => { results := [.lit (.bool false)], args := [d1, d2] }
  | _ => none }
def KeysOnlyWrongFalsely : Prop := keysOnlyRow.holds Tryd.pinned (OpenSpec.ofChange keysOnlyWrong)

/-- 'packtrainkeep.KeysNumbers': WHATEVER THE INPUT: true; the input reads as it did. -/
def keysNumbersSpec : ChangeSpec := { name := "keysNumbers", fn := fun _ => fun
  | [d] => { results := [.lit (.bool true)], args := [d] }
  | _ => none }
def keysNumbersRow : OpenClaim := { program := "ytnognjjbheoniaadoor", sum := "17aa7506bd4b93a6eb39124fa6d809151888cdbba49cbd079c88838048ba1606", func := "packtrain/packtrainkeep.KeysNumbers", spec := "keysNumbers", inPlace := ["internal/reflectlite.ValueOf", "(internal/reflectlite.Value).Type", "(internal/reflectlite.Value).IsNil", "internal/reflectlite.TypeOf", "(internal/reflectlite.Value).Elem", "(internal/reflectlite.Value).Set"], unfollowed := true, recurses := true, named := ["errors.errorType"], apart := false, laid := [("errors.errorType", laid_errors_errorType)] }
def KeysNumbersSaid : Prop := keysNumbersRow.holds Tryd.pinned (OpenSpec.ofChange keysNumbersSpec)

/-- ITS FALSE NEIGHBOUR: 'it returns false'. Refute it at one input. -/
def keysNumbersWrong : ChangeSpec := { name := "keysNumbers", fn := fun _ => fun
  | [d] => { results := [.lit (.bool false)], args := [d] }
  | _ => none }
def KeysNumbersWrongFalsely : Prop := keysNumbersRow.holds Tryd.pinned (OpenSpec.ofChange keysNumbersWrong)

/-- 'packtrainkeep.KeysFew': WHATEVER THE INPUT: true; the input reads as it did. -/
def keysFewSpec : ChangeSpec := { name := "keysFew", fn := fun _ => fun
  | [d1, d2] => { results := [.lit (.bool true)], args := [d1, d2] }
  | _ => none }
def keysFewRow : OpenClaim := { program := "ytnognjjbheoniaadoor", sum := "17aa7506bd4b93a6eb39124fa6d809151888cdbba49cbd079c88838048ba1606", func := "packtrain/packtrainkeep.KeysFew", spec := "keysFew", inPlace := ["internal/reflectlite.ValueOf", "(internal/reflectlite.Value).Type", "(internal/reflectlite.Value).IsNil", "internal/reflectlite.TypeOf", "(internal/reflectlite.Value).Elem", "(internal/reflectlite.Value).Set"], unfollowed := true, recurses := true, named := ["errors.errorType"], apart := false, laid := [("errors.errorType", laid_errors_errorType)] }
def KeysFewSaid : Prop := keysFewRow.holds Tryd.pinned (OpenSpec.ofChange keysFewSpec)

/-- ITS FALSE NEIGHBOUR: 'it returns false'. Refute it at one input. -/
def keysFewWrong : ChangeSpec := { name := "keysFew", fn := fun _ => fun
  | [d1, d2] => { results := [.lit (.bool false)], args := [d1, d2] }
  | _ => none }
def KeysFewWrongFalsely : Prop := keysFewRow.holds Tryd.pinned (OpenSpec.ofChange keysFewWrong)

/-- 'packtrainkeep.LzSmall': WHATEVER THE INPUT: true; the input reads as it did. -/
def lzSmallSpec : ChangeSpec := { name := "lzSmall", fn := fun _ => fun
  | [d] => { results := [.lit (.bool true)], args := [d] }
  | _ => none }
def lzSmallRow : OpenClaim := { program := "ytnognjjbheoniaadoor", sum := "17aa7506bd4b93a6eb39124fa6d809151888cdbba49cbd079c88838048ba1606", func := "packtrain/packtrainkeep.LzSmall", spec := "lzSmall", inPlace := ["internal/reflectlite.ValueOf", "(internal/reflectlite.Value).Type", "(internal/reflectlite.Value).IsNil", "internal/reflectlite.TypeOf", "(internal/reflectlite.Value).Elem", "(internal/reflectlite.Value).Set"], unfollowed := true, recurses := true, named := ["errors.errorType"], apart := false, laid := [("errors.errorType", laid_errors_errorType)] }
def LzSmallSaid : Prop := lzSmallRow.holds Tryd.pinned (OpenSpec.ofChange lzSmallSpec)

/-- ITS FALSE NEIGHBOUR: 'it returns false'. Refute it at one input. -/
def lzSmallWrong : ChangeSpec := { name := "lzSmall", fn := fun _ => fun
  | [d] => { results := [.lit (.bool false)], args := [d] }
  | _ => none }
def LzSmallWrongFalsely : Prop := lzSmallRow.holds Tryd.pinned (OpenSpec.ofChange lzSmallWrong)

/-- 'packtrainkeep.RecvAll': WHATEVER THE INPUT: true; the input reads as it did. -/
def recvAllSpec : ChangeSpec := { name := "recvAll", fn := fun _ => fun
  | [d1, d2, d3] => { results := [.lit (.bool true)], args := [d1, d2, d3] }
  | _ => none }
def recvAllRow : OpenClaim := { program := "ytnognjjbheoniaadoor", sum := "17aa7506bd4b93a6eb39124fa6d809151888cdbba49cbd079c88838048ba1606", func := "packtrain/packtrainkeep.RecvAll", spec := "recvAll", inPlace := ["internal/reflectlite.ValueOf", "(internal/reflectlite.Value).Type", "(internal/reflectlite.Value).IsNil", "internal/reflectlite.TypeOf", "(internal/reflectlite.Value).Elem", "(internal/reflectlite.Value).Set"], unfollowed := true, recurses := true, named := ["errors.errorType"], apart := false, laid := [("errors.errorType", laid_errors_errorType)] }
def RecvAllSaid : Prop := recvAllRow.holds Tryd.pinned (OpenSpec.ofChange recvAllSpec)

/-- ITS FALSE NEIGHBOUR: 'it returns false'. Refute it at one input. -/
def recvAllWrong : ChangeSpec := { name := "recvAll", fn := fun _ => fun
  | [d1, d2, d3] => { results := [.lit (.bool false)], args := [d1, d2, d3] }
  | _ => none }
def RecvAllWrongFalsely : Prop := recvAllRow.holds Tryd.pinned (OpenSpec.ofChange recvAllWrong)

/-- 'packtrainkeep.RecvOthers': WHATEVER THE INPUT: true; the input reads as it did. -/
def recvOthersSpec : ChangeSpec := { name := "recvOthers", fn := fun _ => fun
  | [d1, d2, d3, d4] => { results := [.lit (.bool true)], args := [d1, d2, d3, d4] }
  | _ => none }
def recvOthersRow : OpenClaim := { program := "ytnognjjbheoniaadoor", sum := "17aa7506bd4b93a6eb39124fa6d809151888cdbba49cbd079c88838048ba1606", func := "packtrain/packtrainkeep.RecvOthers", spec := "recvOthers", inPlace := ["internal/reflectlite.ValueOf", "(internal/reflectlite.Value).Type", "(internal/reflectlite.Value).IsNil", "internal/reflectlite.TypeOf", "(internal/reflectlite.Value).Elem", "(internal/reflectlite.Value).Set"], unfollowed := true, recurses := true, named := ["errors.errorType"], apart := false, laid := [("errors.errorType", laid_errors_errorType)] }
def RecvOthersSaid : Prop := recvOthersRow.holds Tryd.pinned (OpenSpec.ofChange recvOthersSpec)

/-- ITS FALSE NEIGHBOUR: 'it returns false'. Refute it at one input. -/
def recvOthersWrong : ChangeSpec := { name := "recvOthers", fn := fun _ => fun
  | [d1, d2, d3, d4] => { results := [.lit (.bool false)], args := [d1, d2, d3, d4] }
  | _ => none }
def RecvOthersWrongFalsely : Prop := recvOthersRow.holds Tryd.pinned (OpenSpec.ofChange recvOthersWrong)

/-- 'packtrainkeep.RecvMixed': WHATEVER THE INPUT: true; the input reads as it did. -/
def recvMixedSpec : ChangeSpec := { name := "recvMixed", fn := fun _ => fun
  | [d1, d2, d3, d4] => { results := [.lit (.bool true)], args := [d1, d2, d3, d4] }
  | _ => none }
def recvMixedRow : OpenClaim := { program := "ytnognjjbheoniaadoor", sum := "17aa7506bd4b93a6eb39124fa6d809151888cdbba49cbd079c88838048ba1606", func := "packtrain/packtrainkeep.RecvMixed", spec := "recvMixed", inPlace := ["internal/reflectlite.ValueOf", "(internal/reflectlite.Value).Type", "(internal/reflectlite.Value).IsNil", "internal/reflectlite.TypeOf", "(internal/reflectlite.Value).Elem", "(internal/reflectlite.Value).Set"], unfollowed := true, recurses := true, named := ["errors.errorType"], apart := false, laid := [("errors.errorType", laid_errors_errorType)] }
def RecvMixedSaid : Prop := recvMixedRow.holds Tryd.pinned (OpenSpec.ofChange recvMixedSpec)

/-- ITS FALSE NEIGHBOUR: 'it returns false'. Refute it at one input. -/
def recvMixedWrong : ChangeSpec := { name := "recvMixed", fn := fun _ => fun
  | [d1, d2, d3, d4] => { results := [.lit (.bool false)], args := [d1, d2, d3, d4] }
  | _ => none }
def RecvMixedWrongFalsely : Prop := recvMixedRow.holds Tryd.pinned (OpenSpec.ofChange recvMixedWrong)

/-- 'packtrainkeep.RecvForgets': WHATEVER THE INPUT: true; the input reads as it did. -/
def recvForgetsSpec : ChangeSpec := { name := "recvForgets", fn := fun _ => fun
  | [d1, d2, d3] => { results := [.lit (.bool true)], args := [d1, d2, d3] }
  | _ => none }
def recvForgetsRow : OpenClaim := { program := "ytnognjjbheoniaadoor", sum := "17aa7506bd4b93a6eb39124fa6d809151888cdbba49cbd079c88838048ba1606", func := "packtrain/packtrainkeep.RecvForgets", spec := "recvForgets", inPlace := ["internal/reflectlite.ValueOf", "(internal/reflectlite.Value).Type", "(internal/reflectlite.Value).IsNil", "internal/reflectlite.TypeOf", "(internal/reflectlite.Value).Elem", "(internal/reflectlite.Value).Set"], unfollowed := true, recurses := true, named := ["errors.errorType"], apart := false, laid := [("errors.errorType", laid_errors_errorType)] }
def RecvForgetsSaid : Prop := recvForgetsRow.holds Tryd.pinned (OpenSpec.ofChange recvForgetsSpec)

/-- ITS FALSE NEIGHBOUR: 'it returns false'. Refute it at one input. -/
def recvForgetsWrong : ChangeSpec := { name := "recvForgets", fn := fun _ => fun
  | [d1, d2, d3] => { results := [.lit (.bool false)], args := [d1, d2, d3] }
  | _ => none }
def RecvForgetsWrongFalsely : Prop := recvForgetsRow.holds Tryd.pinned (OpenSpec.ofChange recvForgetsWrong)

/- THE SECOND FORM. 'bulk': how many values and letters a reading holds, each counted each time it is reached (what is shared counts as often as it is met; a slice's spare places count too). A statement '..UptoSaid' is the law's where the arguments, and the package variables that the reading takes, are together of bulk at most 1048576: NARROWER than '..Said'. Prove '..Said' where nothing that the law and all that it calls make is longer than what came in: it says more and counts as full. Else prove '..UptoSaid'. A law counts once. -/
mutual
def uptoBulk {H : Type} : DataW H → Nat
  | .lit (.string bytes) => bytes.length + 1
  | .lit _ => 1
  | .nil => 1
  | .ptr d => uptoBulk d + 1
  | .slice elems spare => uptoBulkAll elems + uptoBulkAll spare + 1
  | .agg parts => uptoBulkAll parts + 1
  | .iface _ d => uptoBulk d + 1
  | .map entries => uptoBulkEntries entries + 1
  | .held _ => 1
def uptoBulkAll {H : Type} : List (DataW H) → Nat
  | [] => 0
  | d :: r => uptoBulk d + uptoBulkAll r
def uptoBulkEntries {H : Type} : List (Lit × DataW H) → Nat
  | [] => 0
  | x :: r => uptoBulkEntry x + uptoBulkEntries r
def uptoBulkEntry {H : Type} : Lit × DataW H → Nat
  | (.string bytes, d) => bytes.length + uptoBulk d + 1
  | (_, d) => uptoBulk d + 1
 end
def uptoSmall : (H : Type) → List (DataW H) → Bool := fun _ ds => decide (uptoBulkAll ds ≤ 1048576)
def OpenSpec.upto (s : _root_.Go.ChangeSpec) : _root_.Go.OpenSpec := { _root_.Go.OpenSpec.ofChange s with cond := some uptoSmall }

/-- 'packtrainkeep.KeysBack', WHERE WHAT IT READS IS OF BULK AT MOST 1048576: true; the input reads as it did. -/
def keysBackUptoRow : OpenClaim := { program := "ytnognjjbheoniaadoor", sum := "17aa7506bd4b93a6eb39124fa6d809151888cdbba49cbd079c88838048ba1606", func := "packtrain/packtrainkeep.KeysBack", spec := "keysBack", inPlace := ["internal/reflectlite.ValueOf", "(internal/reflectlite.Value).Type", "(internal/reflectlite.Value).IsNil", "internal/reflectlite.TypeOf", "(internal/reflectlite.Value).Elem", "(internal/reflectlite.Value).Set"], unfollowed := true, recurses := true, named := ["errors.errorType"], apart := false, laid := [("errors.errorType", laid_errors_errorType)], narrowed := true }
def KeysBackUptoSaid : Prop := keysBackUptoRow.holds Tryd.pinned (OpenSpec.upto keysBackSpec)

/-- 'packtrainkeep.KeysOnly', WHERE WHAT IT READS IS OF BULK AT MOST 1048576: true; the input reads as it did. -/
def keysOnlyUptoRow : OpenClaim := { program := "ytnognjjbheoniaadoor", sum := "17aa7506bd4b93a6eb39124fa6d809151888cdbba49cbd079c88838048ba1606", func := "packtrain/packtrainkeep.KeysOnly", spec := "keysOnly", inPlace := ["internal/reflectlite.ValueOf", "(internal/reflectlite.Value).Type", "(internal/reflectlite.Value).IsNil", "internal/reflectlite.TypeOf", "(internal/reflectlite.Value).Elem", "(internal/reflectlite.Value).Set"], unfollowed := true, recurses := true, named := ["errors.errorType"], apart := false, laid := [("errors.errorType", laid_errors_errorType)], narrowed := true }
def KeysOnlyUptoSaid : Prop := keysOnlyUptoRow.holds Tryd.pinned (OpenSpec.upto keysOnlySpec)

/-- 'packtrainkeep.KeysNumbers', WHERE WHAT IT READS IS OF BULK AT MOST 1048576: true; the input reads as it did. -/
def keysNumbersUptoRow : OpenClaim := { program := "ytnognjjbheoniaadoor", sum := "17aa7506bd4b93a6eb39124fa6d809151888cdbba49cbd079c88838048ba1606", func := "packtrain/packtrainkeep.KeysNumbers", spec := "keysNumbers", inPlace := ["internal/reflectlite.ValueOf", "(internal/reflectlite.Value).Type", "(internal/reflectlite.Value).IsNil", "internal/reflectlite.TypeOf", "(internal/reflectlite.Value).Elem", "(internal/reflectlite.Value).Set"], unfollowed := true, recurses := true, named := ["errors.errorType"], apart := false, laid := [("errors.errorType", laid_errors_errorType)], narrowed := true }
def KeysNumbersUptoSaid : Prop := keysNumbersUptoRow.holds Tryd.pinned (OpenSpec.upto keysNumbersSpec)

/-- 'packtrainkeep.KeysFew', WHERE WHAT IT READS IS OF BULK AT MOST 1048576: true; the input reads as it did. -/
def keysFewUptoRow : OpenClaim := { program := "ytnognjjbheoniaadoor", sum := "17aa7506bd4b93a6eb39124fa6d809151888cdbba49cbd079c88838048ba1606", func := "packtrain/packtrainkeep.KeysFew", spec := "keysFew", inPlace := ["internal/reflectlite.ValueOf", "(internal/reflectlite.Value).Type", "(internal/reflectlite.Value).IsNil", "internal/reflectlite.TypeOf", "(internal/reflectlite.Value).Elem", "(internal/reflectlite.Value).Set"], unfollowed := true, recurses := true, named := ["errors.errorType"], apart := false, laid := [("errors.errorType", laid_errors_errorType)], narrowed := true }
def KeysFewUptoSaid : Prop := keysFewUptoRow.holds Tryd.pinned (OpenSpec.upto keysFewSpec)

/-- 'packtrainkeep.LzSmall', WHERE WHAT IT READS IS OF BULK AT MOST 1048576: true; the input reads as it did. -/
def lzSmallUptoRow : OpenClaim := { program := "ytnognjjbheoniaadoor", sum := "17aa7506bd4b93a6eb39124fa6d809151888cdbba49cbd079c88838048ba1606", func := "packtrain/packtrainkeep.LzSmall", spec := "lzSmall", inPlace := ["internal/reflectlite.ValueOf", "(internal/reflectlite.Value).Type", "(internal/reflectlite.Value).IsNil", "internal/reflectlite.TypeOf", "(internal/reflectlite.Value).Elem", "(internal/reflectlite.Value).Set"], unfollowed := true, recurses := true, named := ["errors.errorType"], apart := false, laid := [("errors.errorType", laid_errors_errorType)], narrowed := true }
def LzSmallUptoSaid : Prop := lzSmallUptoRow.holds Tryd.pinned (OpenSpec.upto lzSmallSpec)

/-- 'packtrainkeep.RecvAll', WHERE WHAT IT READS IS OF BULK AT MOST 1048576: true; the input reads as it did. -/
def recvAllUptoRow : OpenClaim := { program := "ytnognjjbheoniaadoor", sum := "17aa7506bd4b93a6eb39124fa6d809151888cdbba49cbd079c88838048ba1606", func := "packtrain/packtrainkeep.RecvAll", spec := "recvAll", inPlace := ["internal/reflectlite.ValueOf", "(internal/reflectlite.Value).Type", "(internal/reflectlite.Value).IsNil", "internal/reflectlite.TypeOf", "(internal/reflectlite.Value).Elem", "(internal/reflectlite.Value).Set"], unfollowed := true, recurses := true, named := ["errors.errorType"], apart := false, laid := [("errors.errorType", laid_errors_errorType)], narrowed := true }
def RecvAllUptoSaid : Prop := recvAllUptoRow.holds Tryd.pinned (OpenSpec.upto recvAllSpec)

/-- 'packtrainkeep.RecvOthers', WHERE WHAT IT READS IS OF BULK AT MOST 1048576: true; the input reads as it did. -/
def recvOthersUptoRow : OpenClaim := { program := "ytnognjjbheoniaadoor", sum := "17aa7506bd4b93a6eb39124fa6d809151888cdbba49cbd079c88838048ba1606", func := "packtrain/packtrainkeep.RecvOthers", spec := "recvOthers", inPlace := ["internal/reflectlite.ValueOf", "(internal/reflectlite.Value).Type", "(internal/reflectlite.Value).IsNil", "internal/reflectlite.TypeOf", "(internal/reflectlite.Value).Elem", "(internal/reflectlite.Value).Set"], unfollowed := true, recurses := true, named := ["errors.errorType"], apart := false, laid := [("errors.errorType", laid_errors_errorType)], narrowed := true }
def RecvOthersUptoSaid : Prop := recvOthersUptoRow.holds Tryd.pinned (OpenSpec.upto recvOthersSpec)

/-- 'packtrainkeep.RecvMixed', WHERE WHAT IT READS IS OF BULK AT MOST 1048576: true; the input reads as it did. -/
def recvMixedUptoRow : OpenClaim := { program := "ytnognjjbheoniaadoor", sum := "17aa7506bd4b93a6eb39124fa6d809151888cdbba49cbd079c88838048ba1606", func := "packtrain/packtrainkeep.RecvMixed", spec := "recvMixed", inPlace := ["internal/reflectlite.ValueOf", "(internal/reflectlite.Value).Type", "(internal/reflectlite.Value).IsNil", "internal/reflectlite.TypeOf", "(internal/reflectlite.Value).Elem", "(internal/reflectlite.Value).Set"], unfollowed := true, recurses := true, named := ["errors.errorType"], apart := false, laid := [("errors.errorType", laid_errors_errorType)], narrowed := true }
def RecvMixedUptoSaid : Prop := recvMixedUptoRow.holds Tryd.pinned (OpenSpec.upto recvMixedSpec)

/-- 'packtrainkeep.RecvForgets', WHERE WHAT IT READS IS OF BULK AT MOST 1048576: true; the input reads as it did. -/
def recvForgetsUptoRow : OpenClaim := { program := "ytnognjjbheoniaadoor", sum := "17aa7506bd4b93a6eb39124fa6d809151888cdbba49cbd079c88838048ba1606", func := "packtrain/packtrainkeep.RecvForgets", spec := "recvForgets", inPlace := ["internal/reflectlite.ValueOf", "(internal/reflectlite.Value).Type", "(internal/reflectlite.Value).IsNil", "internal/reflectlite.TypeOf", "(internal/reflectlite.Value).Elem", "(internal/reflectlite.Value).Set"], unfollowed := true, recurses := true, named := ["errors.errorType"], apart := false, laid := [("errors.errorType", laid_errors_errorType)], narrowed := true }
def RecvForgetsUptoSaid : Prop := recvForgetsUptoRow.holds Tryd.pinned (OpenSpec.upto recvForgetsSpec)

end Rows
end Go.Proofs.YtnognjjbheoniaaDoor
