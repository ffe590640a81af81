/-
  NARROWER THAN 'FOR EVERY INPUT', by the rows' own cells (each row's printed sentence says how): BatchTaken: laid · LogOrder: laid · LogSince: laid · LogLocal: laid.
  DERIVED. THE GIVEN ROWS OF THIS SEAT. 4 by the template 'for every input the law returns true; each argument reads behind the call as it read before'; 0 by the template 'total and deterministic' (their statements: YtognjohloobliaaGreatDoorTotals.lean).
  GIVEN WITH THE SEED: the statements are not yours to turn. If you find one false, say at which input.
  Laid BY PROGRAM, IN A SANDBOX (cutbox-rows.mjs): the forced cells as the released guide's own fill.sh prints them over the translation 387fdee3a2575b7e… (all of the seat's roots in one cut). By AI agents, Wed Nov 11 2026. No macro, syntax, notation, axiom, sorry.
-/
import Derived.Test.YtognjohloobliaaGreatDoorChecked
import GoSem.Claim
import GoSem.ClaimJoined
import GoSem.ClaimMapViews
import Derived.JoinedTies
import Derived.KernelRfl
namespace Go.Proofs.YtognjohloobliaaGreatDoor
/- THE CELL 'sum', in the pinned program and in every row, IS THE sha256 OF THE DUMP (.gsa) THAT YtognjohloobliaaGreatDoorProg.lean LOADS. Nothing in Lean hashes anything: it is a label: what it is worth is what the hold of that sum in a sandbox is worth. -/
noncomputable def Tryz.pinned : Pinned := { name := "ytognjohloobliaagreatdoor", sum := "387fdee3a2575b7eae671ccf87f43cd9932b44c82d5d3bfc0824d470df053ef8", checked := Tryz.checked }
namespace Rows
def none {H : Type} : Left H := { results := [], args := [] }

/- WHAT THE LISTED PACKAGE-LEVEL VARIABLES READ AS WHEN THE CALL BEGINS. Each datum BY PROGRAM (the guide's laid-datum.mjs) off the statement by which the dump's own 'gosem.cut.vars' lays the variable. In a bare row this is a premise. The card (YtognjohloobliaaGreatDoorCards.lean) ties it to the program's text. -/
def laid_errors_errorType {H : Type} : DataW H := .iface "internal/reflectlite.rtype" (.agg [.ptr (.lit (.string [101, 114, 114, 111, 114]))])

/-- 'packtrainkeep.BatchTaken': WHATEVER THE INPUT: true; the input reads as it did. -/
def batchTakenSpec : ChangeSpec := { name := "batchTaken", fn := fun _ => fun
  | [d1, d2] => { results := [.lit (.bool true)], args := [d1, d2] }
  | _ => none }
def batchTakenRow : OpenClaim := { program := "ytognjohloobliaagreatdoor", sum := "387fdee3a2575b7eae671ccf87f43cd9932b44c82d5d3bfc0824d470df053ef8", func := "packtrain/packtrainkeep.BatchTaken", spec := "batchTaken", inPlace := ["internal/reflectlite.ValueOf", "(internal/reflectlite.Value).Type", "(internal/reflectlite.Value).IsNil", "internal/reflectlite.TypeOf", "(internal/reflectlite.Value).Elem", "(internal/reflectlite.Value).Set", "slices.overlaps[packtrain/api.Write]", "slices.overlaps[string]", "internal/bytealg.abigen_runtime_cmpstring"], unfollowed := true, recurses := true, named := ["errors.errorType"], apart := false, laid := [("errors.errorType", laid_errors_errorType)] }
def BatchTakenSaid : Prop := batchTakenRow.holds Tryz.pinned (OpenSpec.ofChange batchTakenSpec)

/-- ITS FALSE NEIGHBOUR: 'it returns false'. Refute it at one input. -/
def batchTakenWrong : ChangeSpec := { name := "batchTaken", fn := fun _ => fun
  | [d1, d2] => { results := [.lit (.bool false)], args := [d1, d2] }
  | _ => none }
def BatchTakenWrongFalsely : Prop := batchTakenRow.holds Tryz.pinned (OpenSpec.ofChange batchTakenWrong)

/-- 'packtrainkeep.LogOrder': WHATEVER THE INPUT: true; the input reads as it did. -/
def logOrderSpec : ChangeSpec := { name := "logOrder", fn := fun _ => fun
  | [d1, d2] => { results := [.lit (.bool true)], args := [d1, d2] }
  | _ => none }
def logOrderRow : OpenClaim := { program := "ytognjohloobliaagreatdoor", sum := "387fdee3a2575b7eae671ccf87f43cd9932b44c82d5d3bfc0824d470df053ef8", func := "packtrain/packtrainkeep.LogOrder", spec := "logOrder", inPlace := ["internal/reflectlite.ValueOf", "(internal/reflectlite.Value).Type", "(internal/reflectlite.Value).IsNil", "internal/reflectlite.TypeOf", "(internal/reflectlite.Value).Elem", "(internal/reflectlite.Value).Set", "slices.overlaps[packtrain/api.Write]", "slices.overlaps[string]", "internal/bytealg.abigen_runtime_cmpstring"], unfollowed := true, recurses := true, named := ["errors.errorType"], apart := false, laid := [("errors.errorType", laid_errors_errorType)] }
def LogOrderSaid : Prop := logOrderRow.holds Tryz.pinned (OpenSpec.ofChange logOrderSpec)

/-- ITS FALSE NEIGHBOUR: 'it returns false'. Refute it at one input. -/
def logOrderWrong : ChangeSpec := { name := "logOrder", fn := fun _ => fun
  | [d1, d2] => { results := [.lit (.bool false)], args := [d1, d2] }
  | _ => none }
def LogOrderWrongFalsely : Prop := logOrderRow.holds Tryz.pinned (OpenSpec.ofChange logOrderWrong)

/-- 'packtrainkeep.LogSince': WHATEVER THE INPUT: true; the input reads as it did. -/
def logSinceSpec : ChangeSpec := { name := "logSince", fn := fun _ => fun
  | [d1, d2, d3] => { results := [.lit (.bool true)], args := [d1, d2, d3] }
  | _ => none }
def logSinceRow : OpenClaim := { program := "ytognjohloobliaagreatdoor", sum := "387fdee3a2575b7eae671ccf87f43cd9932b44c82d5d3bfc0824d470df053ef8", func := "packtrain/packtrainkeep.LogSince", spec := "logSince", inPlace := ["internal/reflectlite.ValueOf", "(internal/reflectlite.Value).Type", "(internal/reflectlite.Value).IsNil", "internal/reflectlite.TypeOf", "(internal/reflectlite.Value).Elem", "(internal/reflectlite.Value).Set", "slices.overlaps[packtrain/api.Write]", "slices.overlaps[string]", "internal/bytealg.abigen_runtime_cmpstring"], unfollowed := true, recurses := true, named := ["errors.errorType"], apart := false, laid := [("errors.errorType", laid_errors_errorType)] }
def LogSinceSaid : Prop := logSinceRow.holds Tryz.pinned (OpenSpec.ofChange logSinceSpec)

/-- ITS FALSE NEIGHBOUR: 'it returns false'. Refute it at one input. -/
def logSinceWrong : ChangeSpec := { name := "logSince", fn := fun _ => fun
  | [d1, d2, d3] => { results := [.lit (.bool false)], args := [d1, d2, d3] }
  | _ => none }
def LogSinceWrongFalsely : Prop := logSinceRow.holds Tryz.pinned (OpenSpec.ofChange logSinceWrong)

/-- 'packtrainkeep.LogLocal': WHATEVER THE INPUT: true; the input reads as it did. -/
def logLocalSpec : ChangeSpec := { name := "logLocal", fn := fun _ => fun
  | [d1, d2, d3] => { results := [.lit (.bool true)], args := [d1, d2, d3] }
  | _ => none }
def logLocalRow : OpenClaim := { program := "ytognjohloobliaagreatdoor", sum := "387fdee3a2575b7eae671ccf87f43cd9932b44c82d5d3bfc0824d470df053ef8", func := "packtrain/packtrainkeep.LogLocal", spec := "logLocal", inPlace := ["internal/reflectlite.ValueOf", "(internal/reflectlite.Value).Type", "(internal/reflectlite.Value).IsNil", "internal/reflectlite.TypeOf", "(internal/reflectlite.Value).Elem", "(internal/reflectlite.Value).Set", "slices.overlaps[packtrain/api.Write]", "slices.overlaps[string]", "internal/bytealg.abigen_runtime_cmpstring"], unfollowed := true, recurses := true, named := ["errors.errorType"], apart := false, laid := [("errors.errorType", laid_errors_errorType)] }
def LogLocalSaid : Prop := logLocalRow.holds Tryz.pinned (OpenSpec.ofChange logLocalSpec)

/-- ITS FALSE NEIGHBOUR: 'it returns false'. Refute it at one input. -/
def logLocalWrong : ChangeSpec := { name := "logLocal", fn := fun _ => fun
  | [d1, d2, d3] => { results := [.lit (.bool false)], args := [d1, d2, d3] }
  | _ => none }
def LogLocalWrongFalsely : Prop := logLocalRow.holds Tryz.pinned (OpenSpec.ofChange logLocalWrong)

/- THE SECOND FORM. 'bulk': how many values and letters a reading holds, each counted each time it is reached (what is shared counts as often as it is met; a slice's spare places count too). A statement '..UptoSaid' is the law's where the arguments, and the package variables that the reading takes, are together of bulk at most 1048576: NARROWER than '..Said'. Prove '..Said' where nothing that the law and all that it calls make is longer than what came in: it says more and counts as full. Else prove '..UptoSaid'. A law counts once. -/
mutual
def uptoBulk {H : Type} : DataW H → Nat
  | .lit (.string bytes) => bytes.length + 1
  | .lit _ => 1
  | .nil => 1
  | .ptr d => uptoBulk d + 1
  | .slice elems spare => uptoBulkAll elems + uptoBulkAll spare + 1
  | .agg parts => uptoBulkAll parts + 1
  | .iface _ d => uptoBulk d + 1
  | .map entries => uptoBulkEntries entries + 1
  | .held _ => 1
def uptoBulkAll {H : Type} : List (DataW H) → Nat
  | [] => 0
  | d :: r => uptoBulk d + uptoBulkAll r
def uptoBulkEntries {H : Type} : List (Lit × DataW H) → Nat
  | [] => 0
  | x :: r => uptoBulkEntry x + uptoBulkEntries r
def uptoBulkEntry {H : Type} : Lit × DataW H → Nat
  | (.string bytes, d) => bytes.length + uptoBulk d + 1
  | (_, d) => uptoBulk d + 1
 end
def uptoSmall : (H : Type) → List (DataW H) → Bool := fun _ ds => decide (uptoBulkAll ds ≤ 1048576)
def OpenSpec.upto (s : _root_.Go.ChangeSpec) : _root_.Go.OpenSpec := { _root_.Go.OpenSpec.ofChange s with cond := some uptoSmall }

/-- 'packtrainkeep.BatchTaken', WHERE WHAT IT READS IS OF BULK AT MOST 1048576: true; the input reads as it did. -/
def batchTakenUptoRow : OpenClaim := { program := "ytognjohloobliaagreatdoor", sum := "387fdee3a2575b7eae671ccf87f43cd9932b44c82d5d3bfc0824d470df053ef8", func := "packtrain/packtrainkeep.BatchTaken", spec := "batchTaken", inPlace := ["internal/reflectlite.ValueOf", "(internal/reflectlite.Value).Type", "(internal/reflectlite.Value).IsNil", "internal/reflectlite.TypeOf", "(internal/reflectlite.Value).Elem", "(internal/reflectlite.Value).Set", "slices.overlaps[packtrain/api.Write]", "slices.overlaps[string]", "internal/bytealg.abigen_runtime_cmpstring"], unfollowed := true, recurses := true, named := ["errors.errorType"], apart := false, laid := [("errors.errorType", laid_errors_errorType)], narrowed := true }
def BatchTakenUptoSaid : Prop := batchTakenUptoRow.holds Tryz.pinned (OpenSpec.upto batchTakenSpec)

/-- 'packtrainkeep.LogOrder', WHERE WHAT IT READS IS OF BULK AT MOST 1048576: true; the input reads as it did. -/
def logOrderUptoRow : OpenClaim := { program := "ytognjohloobliaagreatdoor", sum := "387fdee3a2575b7eae671ccf87f43cd9932b44c82d5d3bfc0824d470df053ef8", func := "packtrain/packtrainkeep.LogOrder", spec := "logOrder", inPlace := ["internal/reflectlite.ValueOf", "(internal/reflectlite.Value).Type", "(internal/reflectlite.Value).IsNil", "internal/reflectlite.TypeOf", "(internal/reflectlite.Value).Elem", "(internal/reflectlite.Value).Set", "slices.overlaps[packtrain/api.Write]", "slices.overlaps[string]", "internal/bytealg.abigen_runtime_cmpstring"], unfollowed := true, recurses := true, named := ["errors.errorType"], apart := false, laid := [("errors.errorType", laid_errors_errorType)], narrowed := true }
def LogOrderUptoSaid : Prop := logOrderUptoRow.holds Tryz.pinned (OpenSpec.upto logOrderSpec)

/-- 'packtrainkeep.LogSince', WHERE WHAT IT READS IS OF BULK AT MOST 1048576: true; the input reads as it did. -/
def logSinceUptoRow : OpenClaim := { program := "ytognjohloobliaagreatdoor", sum := "387fdee3a2575b7eae671ccf87f43cd9932b44c82d5d3bfc0824d470df053ef8", func := "packtrain/packtrainkeep.LogSince", spec := "logSince", inPlace := ["internal/reflectlite.ValueOf", "(internal/reflectlite.Value).Type", "(internal/reflectlite.Value).IsNil", "internal/reflectlite.TypeOf", "(internal/reflectlite.Value).Elem", "(internal/reflectlite.Value).Set", "slices.overlaps[packtrain/api.Write]", "slices.overlaps[string]", "internal/bytealg.abigen_runtime_cmpstring"], unfollowed := true, recurses := true, named := ["errors.errorType"], apart := false, laid := [("errors.errorType", laid_errors_errorType)], narrowed := true }
def LogSinceUptoSaid : Prop := logSinceUptoRow.holds Tryz.pinned (OpenSpec.upto logSinceSpec)

/-- 'packtrainkeep.LogLocal', WHERE WHAT IT READS IS OF BULK AT MOST 1048576: true; the input reads as it did. -/
def logLocalUptoRow : OpenClaim := { program := "ytognjohloobliaagreatdoor", sum := "387fdee3a2575b7eae671ccf87f43cd9932b44c82d5d3bfc0824d470df053ef8", func := "packtrain/packtrainkeep.LogLocal", spec := "logLocal", inPlace := ["internal/reflectlite.ValueOf", "(internal/reflectlite.Value).Type", "(internal/reflectlite.Value).IsNil", "internal/reflectlite.TypeOf", "(internal/reflectlite.Value).Elem", "(internal/reflectlite.Value).Set", "slices.overlaps[packtrain/api.Write]", "slices.overlaps[string]", "internal/bytealg.abigen_runtime_cmpstring"], unfollowed := true, recurses := true, named := ["errors.errorType"], apart := false, laid := [("errors.errorType", laid_errors_errorType)], narrowed := true }
def LogLocalUptoSaid : Prop := logLocalUptoRow.holds Tryz.pinned (OpenSpec.upto logLocalSpec)

end Rows
end Go.Proofs.YtognjohloobliaaGreatDoor
