/-
  NARROWER THAN 'FOR EVERY INPUT', by the rows' own cells (each row's printed sentence says how): WriteBack: laid · WriteOnly: laid · WriteKinds: laid · BatchSame: laid · IdentParts: laid · BatchWide: laid · BatchParts: laid · BatchLess: laid.
  DERIVED. THE GIVEN ROWS OF THIS SEAT. 8 by the template 'for every input the law returns true; each argument reads behind the call as it read before'; 0 by the template 'total and deterministic' (their statements: YtonblpcbpfhlmaaDoorTotals.lean).
  GIVEN WITH THE SEED: the statements are not yours to turn. If you find one false, say at which input.
  Laid BY PROGRAM, IN A SANDBOX (cutbox-rows.mjs): the forced cells as the released guide's own fill.sh prints them over the translation 40c22e53f00c422a… (all of the seat's roots in one cut). By AI agents, Wed Nov 11 2026. No macro, syntax, notation, axiom, sorry.
-/
import Derived.Test.YtonblpcbpfhlmaaDoorChecked
import GoSem.Claim
import GoSem.ClaimJoined
import GoSem.ClaimMapViews
import Derived.JoinedTies
import Derived.KernelRfl
namespace Go.Proofs.YtonblpcbpfhlmaaDoor
/- THE CELL 'sum', in the pinned program and in every row, IS THE sha256 OF THE DUMP (.gsa) THAT YtonblpcbpfhlmaaDoorProg.lean LOADS. Nothing in Lean hashes anything: it is a label: what it is worth is what the hold of that sum in a sandbox is worth. -/
noncomputable def Tryd.pinned : Pinned := { name := "ytonblpcbpfhlmaadoor", sum := "40c22e53f00c422a1b9e04599b481ddf2dca5f54e2cb1173fd3dbc351c4eb08e", checked := Tryd.checked }
namespace Rows
def none {H : Type} : Left H := { results := [], args := [] }

/- WHAT THE LISTED PACKAGE-LEVEL VARIABLES READ AS WHEN THE CALL BEGINS. Each datum BY PROGRAM (the guide's laid-datum.mjs) off the statement by which the dump's own 'gosem.cut.vars' lays the variable. In a bare row this is a premise. The card (YtonblpcbpfhlmaaDoorCards.lean) ties it to the program's text. -/
def laid_errors_errorType {H : Type} : DataW H := .iface "internal/reflectlite.rtype" (.agg [.ptr (.lit (.string [101, 114, 114, 111, 114]))])

/-- 'packtrainkeep.WriteBack': WHATEVER THE INPUT: true; the input reads as it did. -/
def writeBackSpec : ChangeSpec := { name := "writeBack", fn := fun _ => fun
  | [d1, d2] => { results := [.lit (.bool true)], args := [d1, d2] }
  | _ => none }
def writeBackRow : OpenClaim := { program := "ytonblpcbpfhlmaadoor", sum := "40c22e53f00c422a1b9e04599b481ddf2dca5f54e2cb1173fd3dbc351c4eb08e", func := "packtrain/packtrainkeep.WriteBack", spec := "writeBack", inPlace := ["internal/reflectlite.ValueOf", "(internal/reflectlite.Value).Type", "(internal/reflectlite.Value).IsNil", "internal/reflectlite.TypeOf", "(internal/reflectlite.Value).Elem", "(internal/reflectlite.Value).Set"], unfollowed := true, recurses := true, named := ["errors.errorType"], apart := false, laid := [("errors.errorType", laid_errors_errorType)] }
def WriteBackSaid : Prop := writeBackRow.holds Tryd.pinned (OpenSpec.ofChange writeBackSpec)

/-- ITS FALSE NEIGHBOUR: 'it returns false'. Refute it at one input. -/
def writeBackWrong : ChangeSpec := { name := "writeBack", fn := fun _ => fun
  | [d1, d2] => { results := [.lit (.bool false)], args := [d1, d2] }
  | _ => none }
def WriteBackWrongFalsely : Prop := writeBackRow.holds Tryd.pinned (OpenSpec.ofChange writeBackWrong)

/-- 'packtrainkeep.WriteOnly': WHATEVER THE INPUT: true; the input reads as it did. -/
def writeOnlySpec : ChangeSpec := { name := "writeOnly", fn := fun _ => fun
  | [d1, d2] => { results := [.lit (.bool true)], args := [d1, d2] }
  | _ => none }
def writeOnlyRow : OpenClaim := { program := "ytonblpcbpfhlmaadoor", sum := "40c22e53f00c422a1b9e04599b481ddf2dca5f54e2cb1173fd3dbc351c4eb08e", func := "packtrain/packtrainkeep.WriteOnly", spec := "writeOnly", inPlace := ["internal/reflectlite.ValueOf", "(internal/reflectlite.Value).Type", "(internal/reflectlite.Value).IsNil", "internal/reflectlite.TypeOf", "(internal/reflectlite.Value).Elem", "(internal/reflectlite.Value).Set"], unfollowed := true, recurses := true, named := ["errors.errorType"], apart := false, laid := [("errors.errorType", laid_errors_errorType)] }
def WriteOnlySaid : Prop := writeOnlyRow.holds Tryd.pinned (OpenSpec.ofChange writeOnlySpec)

/-- ITS FALSE NEIGHBOUR: 'it returns false'. Refute it at one input. -/
def writeOnlyWrong : ChangeSpec := { name := "writeOnly", fn := fun _ => fun
  | [d1, d2] => { results := [.lit (.bool false)], args := [d1, d2] }
  | _ => none }
def WriteOnlyWrongFalsely : Prop := writeOnlyRow.holds Tryd.pinned (OpenSpec.ofChange writeOnlyWrong)

/-- 'packtrainkeep.WriteKinds': WHATEVER THE INPUT: true; the input reads as it did. -/
def writeKindsSpec : ChangeSpec := { name := "writeKinds", fn := fun _ => fun
  | [d1, d2] => { results := [.lit (.bool true)], args := [d1, d2] }
  | _ => none }
def writeKindsRow : OpenClaim := { program := "ytonblpcbpfhlmaadoor", sum := "40c22e53f00c422a1b9e04599b481ddf2dca5f54e2cb1173fd3dbc351c4eb08e", func := "packtrain/packtrainkeep.WriteKinds", spec := "writeKinds", inPlace := ["internal/reflectlite.ValueOf", "(internal/reflectlite.Value).Type", "(internal/reflectlite.Value).IsNil", "internal/reflectlite.TypeOf", "(internal/reflectlite.Value).Elem", "(internal/reflectlite.Value).Set"], unfollowed := true, recurses := true, named := ["errors.errorType"], apart := false, laid := [("errors.errorType", laid_errors_errorType)] }
def WriteKindsSaid : Prop := writeKindsRow.holds Tryd.pinned (OpenSpec.ofChange writeKindsSpec)

/-- ITS FALSE NEIGHBOUR: 'it returns false'. Refute it at one input. -/
def writeKindsWrong : ChangeSpec := { name := "writeKinds", fn := fun _ => fun
  | [d1, d2] => { results := [.lit (.bool false)], args := [d1, d2] }
  | _ => none }
def WriteKindsWrongFalsely : Prop := writeKindsRow.holds Tryd.pinned (OpenSpec.ofChange writeKindsWrong)

/-- 'packtrainkeep.BatchSame': WHATEVER THE INPUT: true; the input reads as it did. -/
def batchSameSpec : ChangeSpec := { name := "batchSame", fn := fun _ => fun
  | [d1, d2] => { results := [.lit (.bool true)], args := [d1, d2] }
  | _ => none }
def batchSameRow : OpenClaim := { program := "ytonblpcbpfhlmaadoor", sum := "40c22e53f00c422a1b9e04599b481ddf2dca5f54e2cb1173fd3dbc351c4eb08e", func := "packtrain/packtrainkeep.BatchSame", spec := "batchSame", inPlace := ["internal/reflectlite.ValueOf", "(internal/reflectlite.Value).Type", "(internal/reflectlite.Value).IsNil", "internal/reflectlite.TypeOf", "(internal/reflectlite.Value).Elem", "(internal/reflectlite.Value).Set"], unfollowed := true, recurses := true, named := ["errors.errorType"], apart := false, laid := [("errors.errorType", laid_errors_errorType)] }
def BatchSameSaid : Prop := batchSameRow.holds Tryd.pinned (OpenSpec.ofChange batchSameSpec)

/-- ITS FALSE NEIGHBOUR: 'it returns false'. Refute it at one input. -/
def batchSameWrong : ChangeSpec := { name := "batchSame", fn := fun _ => fun
  | [d1, d2] => { results := [.lit (.bool false)], args := [d1, d2] }
  | _ => none }
def BatchSameWrongFalsely : Prop := batchSameRow.holds Tryd.pinned (OpenSpec.ofChange batchSameWrong)

/-- 'packtrainkeep.IdentParts': WHATEVER THE INPUT: true; the input reads as it did. -/
def identPartsSpec : ChangeSpec := { name := "identParts", fn := fun _ => fun
  | [d1, d2, d3, d4] => { results := [.lit (.bool true)], args := [d1, d2, d3, d4] }
  | _ => none }
def identPartsRow : OpenClaim := { program := "ytonblpcbpfhlmaadoor", sum := "40c22e53f00c422a1b9e04599b481ddf2dca5f54e2cb1173fd3dbc351c4eb08e", func := "packtrain/packtrainkeep.IdentParts", spec := "identParts", inPlace := ["internal/reflectlite.ValueOf", "(internal/reflectlite.Value).Type", "(internal/reflectlite.Value).IsNil", "internal/reflectlite.TypeOf", "(internal/reflectlite.Value).Elem", "(internal/reflectlite.Value).Set"], unfollowed := true, recurses := true, named := ["errors.errorType"], apart := false, laid := [("errors.errorType", laid_errors_errorType)] }
def IdentPartsSaid : Prop := identPartsRow.holds Tryd.pinned (OpenSpec.ofChange identPartsSpec)

/-- ITS FALSE NEIGHBOUR: 'it returns false'. Refute it at one input. -/
def identPartsWrong : ChangeSpec := { name := "identParts", fn := fun _ => fun
  | [d1, d2, d3, d4] => { results := [.lit (.bool false)], args := [d1, d2, d3, d4] }
  | _ => none }
def IdentPartsWrongFalsely : Prop := identPartsRow.holds Tryd.pinned (OpenSpec.ofChange identPartsWrong)

/-- 'packtrainkeep.BatchWide': WHATEVER THE INPUT: true; the input reads as it did. -/
def batchWideSpec : ChangeSpec := { name := "batchWide", fn := fun _ => fun
  | [d1, d2, d3] => { results := [.lit (.bool true)], args := [d1, d2, d3] }
  | _ => none }
def batchWideRow : OpenClaim := { program := "ytonblpcbpfhlmaadoor", sum := "40c22e53f00c422a1b9e04599b481ddf2dca5f54e2cb1173fd3dbc351c4eb08e", func := "packtrain/packtrainkeep.BatchWide", spec := "batchWide", inPlace := ["internal/reflectlite.ValueOf", "(internal/reflectlite.Value).Type", "(internal/reflectlite.Value).IsNil", "internal/reflectlite.TypeOf", "(internal/reflectlite.Value).Elem", "(internal/reflectlite.Value).Set"], unfollowed := true, recurses := true, named := ["errors.errorType"], apart := false, laid := [("errors.errorType", laid_errors_errorType)] }
def BatchWideSaid : Prop := batchWideRow.holds Tryd.pinned (OpenSpec.ofChange batchWideSpec)

/-- ITS FALSE NEIGHBOUR: 'it returns false'. Refute it at one input. -/
def batchWideWrong : ChangeSpec := { name := "batchWide", fn := fun _ => fun
  | [d1, d2, d3] => { results := [.lit (.bool false)], args := [d1, d2, d3] }
  | _ => none }
def BatchWideWrongFalsely : Prop := batchWideRow.holds Tryd.pinned (OpenSpec.ofChange batchWideWrong)

/-- 'packtrainkeep.BatchParts': WHATEVER THE INPUT: true; the input reads as it did. -/
def batchPartsSpec : ChangeSpec := { name := "batchParts", fn := fun _ => fun
  | [d1, d2] => { results := [.lit (.bool true)], args := [d1, d2] }
  | _ => none }
def batchPartsRow : OpenClaim := { program := "ytonblpcbpfhlmaadoor", sum := "40c22e53f00c422a1b9e04599b481ddf2dca5f54e2cb1173fd3dbc351c4eb08e", func := "packtrain/packtrainkeep.BatchParts", spec := "batchParts", inPlace := ["internal/reflectlite.ValueOf", "(internal/reflectlite.Value).Type", "(internal/reflectlite.Value).IsNil", "internal/reflectlite.TypeOf", "(internal/reflectlite.Value).Elem", "(internal/reflectlite.Value).Set"], unfollowed := true, recurses := true, named := ["errors.errorType"], apart := false, laid := [("errors.errorType", laid_errors_errorType)] }
def BatchPartsSaid : Prop := batchPartsRow.holds Tryd.pinned (OpenSpec.ofChange batchPartsSpec)

/-- ITS FALSE NEIGHBOUR: 'it returns false'. Refute it at one input. -/
def batchPartsWrong : ChangeSpec := { name := "batchParts", fn := fun _ => fun
  | [d1, d2] => { results := [.lit (.bool false)], args := [d1, d2] }
  | _ => none }
def BatchPartsWrongFalsely : Prop := batchPartsRow.holds Tryd.pinned (OpenSpec.ofChange batchPartsWrong)

/-- 'packtrainkeep.BatchLess': WHATEVER THE INPUT: true; the input reads as it did. -/
def batchLessSpec : ChangeSpec := { name := "batchLess", fn := fun _ => fun
  | [d1, d2] => { results := [.lit (.bool true)], args := [d1, d2] }
  | _ => none }
def batchLessRow : OpenClaim := { program := "ytonblpcbpfhlmaadoor", sum := "40c22e53f00c422a1b9e04599b481ddf2dca5f54e2cb1173fd3dbc351c4eb08e", func := "packtrain/packtrainkeep.BatchLess", spec := "batchLess", inPlace := ["internal/reflectlite.ValueOf", "(internal/reflectlite.Value).Type", "(internal/reflectlite.Value).IsNil", "internal/reflectlite.TypeOf", "(internal/reflectlite.Value).Elem", "(internal/reflectlite.Value).Set", "slices.overlaps[packtrain/api.Write]"], unfollowed := true, recurses := true, named := ["errors.errorType"], apart := false, laid := [("errors.errorType", laid_errors_errorType)] }
def BatchLessSaid : Prop := batchLessRow.holds Tryd.pinned (OpenSpec.ofChange batchLessSpec)

/-- ITS FALSE NEIGHBOUR: 'it returns false'. Refute it at one input. -/
def batchLessWrong : ChangeSpec := { name := "batchLess", fn := fun _ => fun
  | [d1, d2] => { results := [.lit (.bool false)], args := [d1, d2] }
  | _ => none }
def BatchLessWrongFalsely : Prop := batchLessRow.holds Tryd.pinned (OpenSpec.ofChange batchLessWrong)

/- THE SECOND FORM. 'bulk': how many values and letters a reading holds, each counted each time it is reached (what is shared counts as often as it is met; a slice's spare places count too). A statement '..UptoSaid' is the law's where the arguments, and the package variables that the reading takes, are together of bulk at most 1048576: NARROWER than '..Said'. Prove '..Said' where nothing that the law and all that it calls make is longer than what came in: it says more and counts as full. Else prove '..UptoSaid'. A law counts once. -/
mutual
def uptoBulk {H : Type} : DataW H → Nat
  | .lit (.string bytes) => bytes.length + 1
  | .lit _ => 1
  | .nil => 1
  | .ptr d => uptoBulk d + 1
  | .slice elems spare => uptoBulkAll elems + uptoBulkAll spare + 1
  | .agg parts => uptoBulkAll parts + 1
  | .iface _ d => uptoBulk d + 1
  | .map entries => uptoBulkEntries entries + 1
  | .held _ => 1
def uptoBulkAll {H : Type} : List (DataW H) → Nat
  | [] => 0
  | d :: r => uptoBulk d + uptoBulkAll r
def uptoBulkEntries {H : Type} : List (Lit × DataW H) → Nat
  | [] => 0
  | x :: r => uptoBulkEntry x + uptoBulkEntries r
def uptoBulkEntry {H : Type} : Lit × DataW H → Nat
  | (.string bytes, d) => bytes.length + uptoBulk d + 1
  | (_, d) => uptoBulk d + 1
 end
def uptoSmall : (H : Type) → List (DataW H) → Bool := fun _ ds => decide (uptoBulkAll ds ≤ 1048576)
def OpenSpec.upto (s : _root_.Go.ChangeSpec) : _root_.Go.OpenSpec := { _root_.Go.OpenSpec.ofChange s with cond := some uptoSmall }

/-- 'packtrainkeep.WriteBack', WHERE WHAT IT READS IS OF BULK AT MOST 1048576: true; the input reads as it did. -/
def writeBackUptoRow : OpenClaim := { program := "ytonblpcbpfhlmaadoor", sum := "40c22e53f00c422a1b9e04599b481ddf2dca5f54e2cb1173fd3dbc351c4eb08e", func := "packtrain/packtrainkeep.WriteBack", spec := "writeBack", inPlace := ["internal/reflectlite.ValueOf", "(internal/reflectlite.Value).Type", "(internal/reflectlite.Value).IsNil", "internal/reflectlite.TypeOf", "(internal/reflectlite.Value).Elem", "(internal/reflectlite.Value).Set"], unfollowed := true, recurses := true, named := ["errors.errorType"], apart := false, laid := [("errors.errorType", laid_errors_errorType)], narrowed := true }
def WriteBackUptoSaid : Prop := writeBackUptoRow.holds Tryd.pinned (OpenSpec.upto writeBackSpec)

/-- 'packtrainkeep.WriteOnly', WHERE WHAT IT READS IS OF BULK AT MOST 1048576: true; the input reads as it did. -/
def writeOnlyUptoRow : OpenClaim := { program := "ytonblpcbpfhlmaadoor", sum := "40c22e53f00c422a1b9e04599b481ddf2dca5f54e2cb1173fd3dbc351c4eb08e", func := "packtrain/packtrainkeep.WriteOnly", spec := "writeOnly", inPlace := ["internal/reflectlite.ValueOf", "(internal/reflectlite.Value).Type", "(internal/reflectlite.Value).IsNil", "internal/reflectlite.TypeOf", "(internal/reflectlite.Value).Elem", "(internal/reflectlite.Value).Set"], unfollowed := true, recurses := true, named := ["errors.errorType"], apart := false, laid := [("errors.errorType", laid_errors_errorType)], narrowed := true }
def WriteOnlyUptoSaid : Prop := writeOnlyUptoRow.holds Tryd.pinned (OpenSpec.upto writeOnlySpec)

/-- 'packtrainkeep.WriteKinds', WHERE WHAT IT READS IS OF BULK AT MOST 1048576: true; the input reads as it did. -/
def writeKindsUptoRow : OpenClaim := { program := "ytonblpcbpfhlmaadoor", sum := "40c22e53f00c422a1b9e04599b481ddf2dca5f54e2cb1173fd3dbc351c4eb08e", func := "packtrain/packtrainkeep.WriteKinds", spec := "writeKinds", inPlace := ["internal/reflectlite.ValueOf", "(internal/reflectlite.Value).Type", "(internal/reflectlite.Value).IsNil", "internal/reflectlite.TypeOf", "(internal/reflectlite.Value).Elem", "(internal/reflectlite.Value).Set"], unfollowed := true, recurses := true, named := ["errors.errorType"], apart := false, laid := [("errors.errorType", laid_errors_errorType)], narrowed := true }
def WriteKindsUptoSaid : Prop := writeKindsUptoRow.holds Tryd.pinned (OpenSpec.upto writeKindsSpec)

/-- 'packtrainkeep.BatchSame', WHERE WHAT IT READS IS OF BULK AT MOST 1048576: true; the input reads as it did. -/
def batchSameUptoRow : OpenClaim := { program := "ytonblpcbpfhlmaadoor", sum := "40c22e53f00c422a1b9e04599b481ddf2dca5f54e2cb1173fd3dbc351c4eb08e", func := "packtrain/packtrainkeep.BatchSame", spec := "batchSame", inPlace := ["internal/reflectlite.ValueOf", "(internal/reflectlite.Value).Type", "(internal/reflectlite.Value).IsNil", "internal/reflectlite.TypeOf", "(internal/reflectlite.Value).Elem", "(internal/reflectlite.Value).Set"], unfollowed := true, recurses := true, named := ["errors.errorType"], apart := false, laid := [("errors.errorType", laid_errors_errorType)], narrowed := true }
def BatchSameUptoSaid : Prop := batchSameUptoRow.holds Tryd.pinned (OpenSpec.upto batchSameSpec)

/-- 'packtrainkeep.IdentParts', WHERE WHAT IT READS IS OF BULK AT MOST 1048576: true; the input reads as it did. -/
def identPartsUptoRow : OpenClaim := { program := "ytonblpcbpfhlmaadoor", sum := "40c22e53f00c422a1b9e04599b481ddf2dca5f54e2cb1173fd3dbc351c4eb08e", func := "packtrain/packtrainkeep.IdentParts", spec := "identParts", inPlace := ["internal/reflectlite.ValueOf", "(internal/reflectlite.Value).Type", "(internal/reflectlite.Value).IsNil", "internal/reflectlite.TypeOf", "(internal/reflectlite.Value).Elem", "(internal/reflectlite.Value).Set"], unfollowed := true, recurses := true, named := ["errors.errorType"], apart := false, laid := [("errors.errorType", laid_errors_errorType)], narrowed := true }
def IdentPartsUptoSaid : Prop := identPartsUptoRow.holds Tryd.pinned (OpenSpec.upto identPartsSpec)

/-- 'packtrainkeep.BatchWide', WHERE WHAT IT READS IS OF BULK AT MOST 1048576: true; the input reads as it did. -/
def batchWideUptoRow : OpenClaim := { program := "ytonblpcbpfhlmaadoor", sum := "40c22e53f00c422a1b9e04599b481ddf2dca5f54e2cb1173fd3dbc351c4eb08e", func := "packtrain/packtrainkeep.BatchWide", spec := "batchWide", inPlace := ["internal/reflectlite.ValueOf", "(internal/reflectlite.Value).Type", "(internal/reflectlite.Value).IsNil", "internal/reflectlite.TypeOf", "(internal/reflectlite.Value).Elem", "(internal/reflectlite.Value).Set"], unfollowed := true, recurses := true, named := ["errors.errorType"], apart := false, laid := [("errors.errorType", laid_errors_errorType)], narrowed := true }
def BatchWideUptoSaid : Prop := batchWideUptoRow.holds Tryd.pinned (OpenSpec.upto batchWideSpec)

/-- 'packtrainkeep.BatchParts', WHERE WHAT IT READS IS OF BULK AT MOST 1048576: true; the input reads as it did. -/
def batchPartsUptoRow : OpenClaim := { program := "ytonblpcbpfhlmaadoor", sum := "40c22e53f00c422a1b9e04599b481ddf2dca5f54e2cb1173fd3dbc351c4eb08e", func := "packtrain/packtrainkeep.BatchParts", spec := "batchParts", inPlace := ["internal/reflectlite.ValueOf", "(internal/reflectlite.Value).Type", "(internal/reflectlite.Value).IsNil", "internal/reflectlite.TypeOf", "(internal/reflectlite.Value).Elem", "(internal/reflectlite.Value).Set"], unfollowed := true, recurses := true, named := ["errors.errorType"], apart := false, laid := [("errors.errorType", laid_errors_errorType)], narrowed := true }
def BatchPartsUptoSaid : Prop := batchPartsUptoRow.holds Tryd.pinned (OpenSpec.upto batchPartsSpec)

/-- 'packtrainkeep.BatchLess', WHERE WHAT IT READS IS OF BULK AT MOST 1048576: true; the input reads as it did. -/
def batchLessUptoRow : OpenClaim := { program := "ytonblpcbpfhlmaadoor", sum := "40c22e53f00c422a1b9e04599b481ddf2dca5f54e2cb1173fd3dbc351c4eb08e", func := "packtrain/packtrainkeep.BatchLess", spec := "batchLess", inPlace := ["internal/reflectlite.ValueOf", "(internal/reflectlite.Value).Type", "(internal/reflectlite.Value).IsNil", "internal/reflectlite.TypeOf", "(internal/reflectlite.Value).Elem", "(internal/reflectlite.Value).Set", "slices.overlaps[packtrain/api.Write]"], unfollowed := true, recurses := true, named := ["errors.errorType"], apart := false, laid := [("errors.errorType", laid_errors_errorType)], narrowed := true }
def BatchLessUptoSaid : Prop := batchLessUptoRow.holds Tryd.pinned (OpenSpec.upto batchLessSpec)

end Rows
end Go.Proofs.YtonblpcbpfhlmaaDoor
