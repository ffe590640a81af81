/-
  NARROWER THAN 'FOR EVERY INPUT', by the rows' own cells (each row's printed sentence says how): RecvAll: laid · RecvMixed: laid · RecvMarks: laid · LinkHolds: laid · BatchParts: laid · BatchLess: laid.
  DERIVED. THE GIVEN ROWS OF THIS SEAT. 6 by the template 'for every input the law returns true; each argument reads behind the call as it read before'; 0 by the template 'total and deterministic' (their statements: YtdpdnkjpjoccmaaDoorTotals.lean).
  GIVEN WITH THE SEED: the statements are not yours to turn. If you find one false, say at which input.
  Laid BY PROGRAM, IN A SANDBOX (cutbox-rows.mjs): the forced cells as the released guide's own fill.sh prints them over the translation 4de4b25b9f5232fb… (all of the seat's roots in one cut). By AI agents, Wed Nov 11 2026. No macro, syntax, notation, axiom, sorry.
-/
import Derived.Test.YtdpdnkjpjoccmaaDoorChecked
import GoSem.Claim
import GoSem.ClaimJoined
import GoSem.ClaimMapViews
import Derived.JoinedTies
import Derived.KernelRfl
namespace Go.Proofs.YtdpdnkjpjoccmaaDoor
/- THE CELL 'sum', in the pinned program and in every row, IS THE sha256 OF THE DUMP (.gsa) THAT YtdpdnkjpjoccmaaDoorProg.lean LOADS. Nothing in Lean hashes anything: it is a label: what it is worth is what the hold of that sum in a sandbox is worth. -/
noncomputable def Tryd.pinned : Pinned := { name := "ytdpdnkjpjoccmaadoor", sum := "4de4b25b9f5232fb56d242b833e0967666843ba1c48d382e449945b56c7ae53f", checked := Tryd.checked }
namespace Rows
def none {H : Type} : Left H := { results := [], args := [] }

/- WHAT THE LISTED PACKAGE-LEVEL VARIABLES READ AS WHEN THE CALL BEGINS. Each datum BY PROGRAM (the guide's laid-datum.mjs) off the statement by which the dump's own 'gosem.cut.vars' lays the variable. In a bare row this is a premise. The card (YtdpdnkjpjoccmaaDoorCards.lean) ties it to the program's text. -/
def laid_errors_errorType {H : Type} : DataW H := .iface "internal/reflectlite.rtype" (.agg [.ptr (.lit (.string [101, 114, 114, 111, 114]))])

/-- 'packtrainkeep.RecvAll': WHATEVER THE INPUT: true; the input reads as it did. -/
def recvAllSpec : ChangeSpec := { name := "recvAll", fn := fun _ => fun
  | [d1, d2, d3] => { results := [.lit (.bool true)], args := [d1, d2, d3] }
  | _ => none }
def recvAllRow : OpenClaim := { program := "ytdpdnkjpjoccmaadoor", sum := "4de4b25b9f5232fb56d242b833e0967666843ba1c48d382e449945b56c7ae53f", func := "packtrain/packtrainkeep.RecvAll", spec := "recvAll", inPlace := ["internal/reflectlite.ValueOf", "(internal/reflectlite.Value).Type", "(internal/reflectlite.Value).IsNil", "internal/reflectlite.TypeOf", "(internal/reflectlite.Value).Elem", "(internal/reflectlite.Value).Set"], unfollowed := true, recurses := true, named := ["errors.errorType"], apart := false, laid := [("errors.errorType", laid_errors_errorType)] }
def RecvAllSaid : Prop := recvAllRow.holds Tryd.pinned (OpenSpec.ofChange recvAllSpec)

/-- ITS FALSE NEIGHBOUR: 'it returns false'. Refute it at one input. -/
def recvAllWrong : ChangeSpec := { name := "recvAll", fn := fun _ => fun
  | [d1, d2, d3] => { results := [.lit (.bool false)], args := [d1, d2, d3] }
  | _ => none }
def RecvAllWrongFalsely : Prop := recvAllRow.holds Tryd.pinned (OpenSpec.ofChange recvAllWrong)

/-- 'packtrainkeep.RecvMixed': WHATEVER THE INPUT: true; the input reads as it did. -/
def recvMixedSpec : ChangeSpec := { name := "recvMixed", fn := fun _ => fun
  | [d1, d2, d3, d4] => { results := [.lit (.bool true)], args := [d1, d2, d3, d4] }
  | _ => none }
def recvMixedRow : OpenClaim := { program := "ytdpdnkjpjoccmaadoor", sum := "4de4b25b9f5232fb56d242b833e0967666843ba1c48d382e449945b56c7ae53f", func := "packtrain/packtrainkeep.RecvMixed", spec := "recvMixed", inPlace := ["internal/reflectlite.ValueOf", "(internal/reflectlite.Value).Type", "(internal/reflectlite.Value).IsNil", "internal/reflectlite.TypeOf", "(internal/reflectlite.Value).Elem", "(internal/reflectlite.Value).Set"], unfollowed := true, recurses := true, named := ["errors.errorType"], apart := false, laid := [("errors.errorType", laid_errors_errorType)] }
def RecvMixedSaid : Prop := recvMixedRow.holds Tryd.pinned (OpenSpec.ofChange recvMixedSpec)

/-- ITS FALSE NEIGHBOUR: 'it returns false'. Refute it at one input. -/
def recvMixedWrong : ChangeSpec := { name := "recvMixed", fn := fun _ => fun
  | [d1, d2, d3, d4] => { results := [.lit (.bool false)], args := [d1, d2, d3, d4] }
  | _ => none }
def RecvMixedWrongFalsely : Prop := recvMixedRow.holds Tryd.pinned (OpenSpec.ofChange recvMixedWrong)

/-- 'packtrainkeep.RecvMarks': WHATEVER THE INPUT: true; the input reads as it did. -/
def recvMarksSpec : ChangeSpec := { name := "recvMarks", fn := fun _ => fun
  | [d1, d2, d3, d4, d5] => { results := [.lit (.bool true)], args := [d1, d2, d3, d4, d5] }
  | _ => none }
def recvMarksRow : OpenClaim := { program := "ytdpdnkjpjoccmaadoor", sum := "4de4b25b9f5232fb56d242b833e0967666843ba1c48d382e449945b56c7ae53f", func := "packtrain/packtrainkeep.RecvMarks", spec := "recvMarks", inPlace := ["internal/reflectlite.ValueOf", "(internal/reflectlite.Value).Type", "(internal/reflectlite.Value).IsNil", "internal/reflectlite.TypeOf", "(internal/reflectlite.Value).Elem", "(internal/reflectlite.Value).Set"], unfollowed := true, recurses := true, named := ["errors.errorType"], apart := false, laid := [("errors.errorType", laid_errors_errorType)] }
def RecvMarksSaid : Prop := recvMarksRow.holds Tryd.pinned (OpenSpec.ofChange recvMarksSpec)

/-- ITS FALSE NEIGHBOUR: 'it returns false'. Refute it at one input. -/
def recvMarksWrong : ChangeSpec := { name := "recvMarks", fn := fun _ => fun
  | [d1, d2, d3, d4, d5] => { results := [.lit (.bool false)], args := [d1, d2, d3, d4, d5] }
  | _ => none }
def RecvMarksWrongFalsely : Prop := recvMarksRow.holds Tryd.pinned (OpenSpec.ofChange recvMarksWrong)

/-- 'packtrainkeep.LinkHolds': WHATEVER THE INPUT: true; the input reads as it did. -/
def linkHoldsSpec : ChangeSpec := { name := "linkHolds", fn := fun _ => fun
  | [d1, d2, d3] => { results := [.lit (.bool true)], args := [d1, d2, d3] }
  | _ => none }
def linkHoldsRow : OpenClaim := { program := "ytdpdnkjpjoccmaadoor", sum := "4de4b25b9f5232fb56d242b833e0967666843ba1c48d382e449945b56c7ae53f", func := "packtrain/packtrainkeep.LinkHolds", spec := "linkHolds", inPlace := ["internal/reflectlite.ValueOf", "(internal/reflectlite.Value).Type", "(internal/reflectlite.Value).IsNil", "internal/reflectlite.TypeOf", "(internal/reflectlite.Value).Elem", "(internal/reflectlite.Value).Set"], unfollowed := true, recurses := true, named := ["errors.errorType"], apart := false, laid := [("errors.errorType", laid_errors_errorType)] }
def LinkHoldsSaid : Prop := linkHoldsRow.holds Tryd.pinned (OpenSpec.ofChange linkHoldsSpec)

/-- ITS FALSE NEIGHBOUR: 'it returns false'. Refute it at one input. -/
def linkHoldsWrong : ChangeSpec := { name := "linkHolds", fn := fun _ => fun
  | [d1, d2, d3] => { results := [.lit (.bool false)], args := [d1, d2, d3] }
  | _ => none }
def LinkHoldsWrongFalsely : Prop := linkHoldsRow.holds Tryd.pinned (OpenSpec.ofChange linkHoldsWrong)

/-- 'packtrainkeep.BatchParts': WHATEVER THE INPUT: true; the input reads as it did. -/
def batchPartsSpec : ChangeSpec := { name := "batchParts", fn := fun _ => fun
  | [d1, d2] => { results := [.lit (.bool true)], args := [d1, d2] }
  | _ => none }
def batchPartsRow : OpenClaim := { program := "ytdpdnkjpjoccmaadoor", sum := "4de4b25b9f5232fb56d242b833e0967666843ba1c48d382e449945b56c7ae53f", func := "packtrain/packtrainkeep.BatchParts", spec := "batchParts", inPlace := ["internal/reflectlite.ValueOf", "(internal/reflectlite.Value).Type", "(internal/reflectlite.Value).IsNil", "internal/reflectlite.TypeOf", "(internal/reflectlite.Value).Elem", "(internal/reflectlite.Value).Set"], unfollowed := true, recurses := true, named := ["errors.errorType"], apart := false, laid := [("errors.errorType", laid_errors_errorType)] }
def BatchPartsSaid : Prop := batchPartsRow.holds Tryd.pinned (OpenSpec.ofChange batchPartsSpec)

/-- ITS FALSE NEIGHBOUR: 'it returns false'. Refute it at one input. -/
def batchPartsWrong : ChangeSpec := { name := "batchParts", fn := fun _ => fun
  | [d1, d2] => { results := [.lit (.bool false)], args := [d1, d2] }
  | _ => none }
def BatchPartsWrongFalsely : Prop := batchPartsRow.holds Tryd.pinned (OpenSpec.ofChange batchPartsWrong)

/-- 'packtrainkeep.BatchLess': WHATEVER THE INPUT: true; the input reads as it did. -/
def batchLessSpec : ChangeSpec := { name := "batchLess", fn := fun _ => fun
  | [d1, d2] => { results := [.lit (.bool true)], args := [d1, d2] }
  | _ => none }
def batchLessRow : OpenClaim := { program := "ytdpdnkjpjoccmaadoor", sum := "4de4b25b9f5232fb56d242b833e0967666843ba1c48d382e449945b56c7ae53f", func := "packtrain/packtrainkeep.BatchLess", spec := "batchLess", inPlace := ["internal/reflectlite.ValueOf", "(internal/reflectlite.Value).Type", "(internal/reflectlite.Value).IsNil", "internal/reflectlite.TypeOf", "(internal/reflectlite.Value).Elem", "(internal/reflectlite.Value).Set", "slices.overlaps[packtrain/api.Write]"], unfollowed := true, recurses := true, named := ["errors.errorType"], apart := false, laid := [("errors.errorType", laid_errors_errorType)] }
def BatchLessSaid : Prop := batchLessRow.holds Tryd.pinned (OpenSpec.ofChange batchLessSpec)

/-- ITS FALSE NEIGHBOUR: 'it returns false'. Refute it at one input. -/
def batchLessWrong : ChangeSpec := { name := "batchLess", fn := fun _ => fun
  | [d1, d2] => { results := [.lit (.bool false)], args := [d1, d2] }
  | _ => none }
def BatchLessWrongFalsely : Prop := batchLessRow.holds Tryd.pinned (OpenSpec.ofChange batchLessWrong)

/- THE SECOND FORM. 'bulk': how many values and letters a reading holds, each counted each time it is reached (what is shared counts as often as it is met; a slice's spare places count too). A statement '..UptoSaid' is the law's where the arguments, and the package variables that the reading takes, are together of bulk at most 1048576: NARROWER than '..Said'. Prove '..Said' where nothing that the law and all that it calls make is longer than what came in: it says more and counts as full. Else prove '..UptoSaid'. A law counts once. -/
mutual
def uptoBulk {H : Type} : DataW H → Nat
  | .lit (.string bytes) => bytes.length + 1
  | .lit _ => 1
  | .nil => 1
  | .ptr d => uptoBulk d + 1
  | .slice elems spare => uptoBulkAll elems + uptoBulkAll spare + 1
  | .agg parts => uptoBulkAll parts + 1
  | .iface _ d => uptoBulk d + 1
  | .map entries => uptoBulkEntries entries + 1
  | .held _ => 1
def uptoBulkAll {H : Type} : List (DataW H) → Nat
  | [] => 0
  | d :: r => uptoBulk d + uptoBulkAll r
def uptoBulkEntries {H : Type} : List (Lit × DataW H) → Nat
  | [] => 0
  | x :: r => uptoBulkEntry x + uptoBulkEntries r
def uptoBulkEntry {H : Type} : Lit × DataW H → Nat
  | (.string bytes, d) => bytes.length + uptoBulk d + 1
  | (_, d) => uptoBulk d + 1
 end
def uptoSmall : (H : Type) → List (DataW H) → Bool := fun _ ds => decide (uptoBulkAll ds ≤ 1048576)
def OpenSpec.upto (s : _root_.Go.ChangeSpec) : _root_.Go.OpenSpec := { _root_.Go.OpenSpec.ofChange s with cond := some uptoSmall }

/-- 'packtrainkeep.RecvAll', WHERE WHAT IT READS IS OF BULK AT MOST 1048576: true; the input reads as it did. -/
def recvAllUptoRow : OpenClaim := { program := "ytdpdnkjpjoccmaadoor", sum := "4de4b25b9f5232fb56d242b833e0967666843ba1c48d382e449945b56c7ae53f", func := "packtrain/packtrainkeep.RecvAll", spec := "recvAll", inPlace := ["internal/reflectlite.ValueOf", "(internal/reflectlite.Value).Type", "(internal/reflectlite.Value).IsNil", "internal/reflectlite.TypeOf", "(internal/reflectlite.Value).Elem", "(internal/reflectlite.Value).Set"], unfollowed := true, recurses := true, named := ["errors.errorType"], apart := false, laid := [("errors.errorType", laid_errors_errorType)], narrowed := true }
def RecvAllUptoSaid : Prop := recvAllUptoRow.holds Tryd.pinned (OpenSpec.upto recvAllSpec)

/-- 'packtrainkeep.RecvMixed', WHERE WHAT IT READS IS OF BULK AT MOST 1048576: true; the input reads as it did. -/
def recvMixedUptoRow : OpenClaim := { program := "ytdpdnkjpjoccmaadoor", sum := "4de4b25b9f5232fb56d242b833e0967666843ba1c48d382e449945b56c7ae53f", func := "packtrain/packtrainkeep.RecvMixed", spec := "recvMixed", inPlace := ["internal/reflectlite.ValueOf", "(internal/reflectlite.Value).Type", "(internal/reflectlite.Value).IsNil", "internal/reflectlite.TypeOf", "(internal/reflectlite.Value).Elem", "(internal/reflectlite.Value).Set"], unfollowed := true, recurses := true, named := ["errors.errorType"], apart := false, laid := [("errors.errorType", laid_errors_errorType)], narrowed := true }
def RecvMixedUptoSaid : Prop := recvMixedUptoRow.holds Tryd.pinned (OpenSpec.upto recvMixedSpec)

/-- 'packtrainkeep.RecvMarks', WHERE WHAT IT READS IS OF BULK AT MOST 1048576: true; the input reads as it did. -/
def recvMarksUptoRow : OpenClaim := { program := "ytdpdnkjpjoccmaadoor", sum := "4de4b25b9f5232fb56d242b833e0967666843ba1c48d382e449945b56c7ae53f", func := "packtrain/packtrainkeep.RecvMarks", spec := "recvMarks", inPlace := ["internal/reflectlite.ValueOf", "(internal/reflectlite.Value).Type", "(internal/reflectlite.Value).IsNil", "internal/reflectlite.TypeOf", "(internal/reflectlite.Value).Elem", "(internal/reflectlite.Value).Set"], unfollowed := true, recurses := true, named := ["errors.errorType"], apart := false, laid := [("errors.errorType", laid_errors_errorType)], narrowed := true }
def RecvMarksUptoSaid : Prop := recvMarksUptoRow.holds Tryd.pinned (OpenSpec.upto recvMarksSpec)

/-- 'packtrainkeep.LinkHolds', WHERE WHAT IT READS IS OF BULK AT MOST 1048576: true; the input reads as it did. -/
def linkHoldsUptoRow : OpenClaim := { program := "ytdpdnkjpjoccmaadoor", sum := "4de4b25b9f5232fb56d242b833e0967666843ba1c48d382e449945b56c7ae53f", func := "packtrain/packtrainkeep.LinkHolds", spec := "linkHolds", inPlace := ["internal/reflectlite.ValueOf", "(internal/reflectlite.Value).Type", "(internal/reflectlite.Value).IsNil", "internal/reflectlite.TypeOf", "(internal/reflectlite.Value).Elem", "(internal/reflectlite.Value).Set"], unfollowed := true, recurses := true, named := ["errors.errorType"], apart := false, laid := [("errors.errorType", laid_errors_errorType)], narrowed := true }
def LinkHoldsUptoSaid : Prop := linkHoldsUptoRow.holds Tryd.pinned (OpenSpec.upto linkHoldsSpec)

/-- 'packtrainkeep.BatchParts', WHERE WHAT IT READS IS OF BULK AT MOST 1048576: true; the input reads as it did. -/
def batchPartsUptoRow : OpenClaim := { program := "ytdpdnkjpjoccmaadoor", sum := "4de4b25b9f5232fb56d242b833e0967666843ba1c48d382e449945b56c7ae53f", func := "packtrain/packtrainkeep.BatchParts", spec := "batchParts", inPlace := ["internal/reflectlite.ValueOf", "(internal/reflectlite.Value).Type", "(internal/reflectlite.Value).IsNil", "internal/reflectlite.TypeOf", "(internal/reflectlite.Value).Elem", "(internal/reflectlite.Value).Set"], unfollowed := true, recurses := true, named := ["errors.errorType"], apart := false, laid := [("errors.errorType", laid_errors_errorType)], narrowed := true }
def BatchPartsUptoSaid : Prop := batchPartsUptoRow.holds Tryd.pinned (OpenSpec.upto batchPartsSpec)

/-- 'packtrainkeep.BatchLess', WHERE WHAT IT READS IS OF BULK AT MOST 1048576: true; the input reads as it did. -/
def batchLessUptoRow : OpenClaim := { program := "ytdpdnkjpjoccmaadoor", sum := "4de4b25b9f5232fb56d242b833e0967666843ba1c48d382e449945b56c7ae53f", func := "packtrain/packtrainkeep.BatchLess", spec := "batchLess", inPlace := ["internal/reflectlite.ValueOf", "(internal/reflectlite.Value).Type", "(internal/reflectlite.Value).IsNil", "internal/reflectlite.TypeOf", "(internal/reflectlite.Value).Elem", "(internal/reflectlite.Value).Set", "slices.overlaps[packtrain/api.Write]"], unfollowed := true, recurses := true, named := ["errors.errorType"], apart := false, laid := [("errors.errorType", laid_errors_errorType)], narrowed := true }
def BatchLessUptoSaid : Prop := batchLessUptoRow.holds Tryd.pinned (OpenSpec.upto batchLessSpec)

end Rows
end Go.Proofs.YtdpdnkjpjoccmaaDoor
