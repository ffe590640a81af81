/-
  NARROWER THAN 'FOR EVERY INPUT', by the rows' own cells (each row's printed sentence says how): FrameOnly: laid · FrameSmall: laid · FrameCut: laid · FrameStored: laid · FrameVersions: laid · FrameInside: laid.
  DERIVED. THE GIVEN ROWS OF THIS SEAT. 6 by the template 'for every input the law returns true; each argument reads behind the call as it read before'; 0 by the template 'total and deterministic' (their statements: YtopjaflclkdamaaDoorTotals.lean).
  GIVEN WITH THE SEED: the statements are not yours to turn. If you find one false, say at which input.
  Laid BY PROGRAM, IN A SANDBOX (cutbox-rows.mjs): the forced cells as the released guide's own fill.sh prints them over the translation b37d525fb8ce5b0e… (all of the seat's roots in one cut). By AI agents, Wed Nov 11 2026. No macro, syntax, notation, axiom, sorry.
-/
import Derived.Test.YtopjaflclkdamaaDoorChecked
import GoSem.Claim
import GoSem.ClaimJoined
import GoSem.ClaimMapViews
import Derived.JoinedTies
import Derived.KernelRfl
namespace Go.Proofs.YtopjaflclkdamaaDoor
/- THE CELL 'sum', in the pinned program and in every row, IS THE sha256 OF THE DUMP (.gsa) THAT YtopjaflclkdamaaDoorProg.lean LOADS. Nothing in Lean hashes anything: it is a label: what it is worth is what the hold of that sum in a sandbox is worth. -/
noncomputable def Tryd.pinned : Pinned := { name := "ytopjaflclkdamaadoor", sum := "b37d525fb8ce5b0e77a50cffe84236df18117c1e5af1835a88f8f814b6400fc8", checked := Tryd.checked }
namespace Rows
def none {H : Type} : Left H := { results := [], args := [] }

/- WHAT THE LISTED PACKAGE-LEVEL VARIABLES READ AS WHEN THE CALL BEGINS. Each datum BY PROGRAM (the guide's laid-datum.mjs) off the statement by which the dump's own 'gosem.cut.vars' lays the variable. In a bare row this is a premise. The card (YtopjaflclkdamaaDoorCards.lean) ties it to the program's text. -/
def laid_errors_errorType {H : Type} : DataW H := .iface "internal/reflectlite.rtype" (.agg [.ptr (.lit (.string [101, 114, 114, 111, 114]))])

/-- 'packtrainkeep.FrameOnly': WHATEVER THE INPUT: true; the input reads as it did. -/
def frameOnlySpec : ChangeSpec := { name := "frameOnly", fn := fun _ => fun
  | [d] => { results := [.lit (.bool true)], args := [d] }
  | _ => none }
def frameOnlyRow : OpenClaim := { program := "ytopjaflclkdamaadoor", sum := "b37d525fb8ce5b0e77a50cffe84236df18117c1e5af1835a88f8f814b6400fc8", func := "packtrain/packtrainkeep.FrameOnly", spec := "frameOnly", inPlace := ["internal/reflectlite.ValueOf", "(internal/reflectlite.Value).Type", "(internal/reflectlite.Value).IsNil", "internal/reflectlite.TypeOf", "(internal/reflectlite.Value).Elem", "(internal/reflectlite.Value).Set"], unfollowed := true, recurses := true, named := ["errors.errorType"], apart := false, laid := [("errors.errorType", laid_errors_errorType)] }
def FrameOnlySaid : Prop := frameOnlyRow.holds Tryd.pinned (OpenSpec.ofChange frameOnlySpec)

/-- ITS FALSE NEIGHBOUR: 'it returns false'. Refute it at one input. -/
def frameOnlyWrong : ChangeSpec := { name := "frameOnly", fn := fun _ => fun
  | [d] => { results := [.lit (.bool false)], args := [d] }
  | _ => none }
def FrameOnlyWrongFalsely : Prop := frameOnlyRow.holds Tryd.pinned (OpenSpec.ofChange frameOnlyWrong)

/-- 'packtrainkeep.FrameSmall': WHATEVER THE INPUT: true; the input reads as it did. -/
def frameSmallSpec : ChangeSpec := { name := "frameSmall", fn := fun _ => fun
  | [d] => { results := [.lit (.bool true)], args := [d] }
  | _ => none }
def frameSmallRow : OpenClaim := { program := "ytopjaflclkdamaadoor", sum := "b37d525fb8ce5b0e77a50cffe84236df18117c1e5af1835a88f8f814b6400fc8", func := "packtrain/packtrainkeep.FrameSmall", spec := "frameSmall", inPlace := ["internal/reflectlite.ValueOf", "(internal/reflectlite.Value).Type", "(internal/reflectlite.Value).IsNil", "internal/reflectlite.TypeOf", "(internal/reflectlite.Value).Elem", "(internal/reflectlite.Value).Set"], unfollowed := true, recurses := true, named := ["errors.errorType"], apart := false, laid := [("errors.errorType", laid_errors_errorType)] }
def FrameSmallSaid : Prop := frameSmallRow.holds Tryd.pinned (OpenSpec.ofChange frameSmallSpec)

/-- ITS FALSE NEIGHBOUR: 'it returns false'. Refute it at one input. -/
def frameSmallWrong : ChangeSpec := { name := "frameSmall", fn := fun _ => fun
  | [d] => { results := [.lit (.bool false)], args := [d] }
  | _ => none }
def FrameSmallWrongFalsely : Prop := frameSmallRow.holds Tryd.pinned (OpenSpec.ofChange frameSmallWrong)

/-- 'packtrainkeep.FrameCut': WHATEVER THE INPUT: true; the input reads as it did. -/
def frameCutSpec : ChangeSpec := { name := "frameCut", fn := fun _ => fun
  | [d1, d2] => { results := [.lit (.bool true)], args := [d1, d2] }
  | _ => none }
def frameCutRow : OpenClaim := { program := "ytopjaflclkdamaadoor", sum := "b37d525fb8ce5b0e77a50cffe84236df18117c1e5af1835a88f8f814b6400fc8", func := "packtrain/packtrainkeep.FrameCut", spec := "frameCut", inPlace := ["internal/reflectlite.ValueOf", "(internal/reflectlite.Value).Type", "(internal/reflectlite.Value).IsNil", "internal/reflectlite.TypeOf", "(internal/reflectlite.Value).Elem", "(internal/reflectlite.Value).Set"], unfollowed := true, recurses := true, named := ["errors.errorType"], apart := false, laid := [("errors.errorType", laid_errors_errorType)] }
def FrameCutSaid : Prop := frameCutRow.holds Tryd.pinned (OpenSpec.ofChange frameCutSpec)

/-- ITS FALSE NEIGHBOUR: 'it returns false'. Refute it at one input. -/
def frameCutWrong : ChangeSpec := { name := "frameCut", fn := fun _ => fun
  | [d1, d2] => { results := [.lit (.bool false)], args := [d1, d2] }
  | _ => none }
def FrameCutWrongFalsely : Prop := frameCutRow.holds Tryd.pinned (OpenSpec.ofChange frameCutWrong)

/-- 'packtrainkeep.FrameStored': WHATEVER THE INPUT: true; the input reads as it did. -/
def frameStoredSpec : ChangeSpec := { name := "frameStored", fn := fun _ => fun
  | [d] => { results := [.lit (.bool true)], args := [d] }
  | _ => none }
def frameStoredRow : OpenClaim := { program := "ytopjaflclkdamaadoor", sum := "b37d525fb8ce5b0e77a50cffe84236df18117c1e5af1835a88f8f814b6400fc8", func := "packtrain/packtrainkeep.FrameStored", spec := "frameStored", inPlace := ["internal/reflectlite.ValueOf", "(internal/reflectlite.Value).Type", "(internal/reflectlite.Value).IsNil", "internal/reflectlite.TypeOf", "(internal/reflectlite.Value).Elem", "(internal/reflectlite.Value).Set"], unfollowed := true, recurses := true, named := ["errors.errorType"], apart := false, laid := [("errors.errorType", laid_errors_errorType)] }
def FrameStoredSaid : Prop := frameStoredRow.holds Tryd.pinned (OpenSpec.ofChange frameStoredSpec)

/-- ITS FALSE NEIGHBOUR: 'it returns false'. Refute it at one input. -/
def frameStoredWrong : ChangeSpec := { name := "frameStored", fn := fun _ => fun
  | [d] => { results := [.lit (.bool false)], args := [d] }
  | _ => none }
def FrameStoredWrongFalsely : Prop := frameStoredRow.holds Tryd.pinned (OpenSpec.ofChange frameStoredWrong)

/-- 'packtrainkeep.FrameVersions': WHATEVER THE INPUT: true; the input reads as it did. -/
def frameVersionsSpec : ChangeSpec := { name := "frameVersions", fn := fun _ => fun
  | [d1, d2] => { results := [.lit (.bool true)], args := [d1, d2] }
  | _ => none }
def frameVersionsRow : OpenClaim := { program := "ytopjaflclkdamaadoor", sum := "b37d525fb8ce5b0e77a50cffe84236df18117c1e5af1835a88f8f814b6400fc8", func := "packtrain/packtrainkeep.FrameVersions", spec := "frameVersions", inPlace := ["internal/reflectlite.ValueOf", "(internal/reflectlite.Value).Type", "(internal/reflectlite.Value).IsNil", "internal/reflectlite.TypeOf", "(internal/reflectlite.Value).Elem", "(internal/reflectlite.Value).Set"], unfollowed := true, recurses := true, named := ["errors.errorType"], apart := false, laid := [("errors.errorType", laid_errors_errorType)] }
def FrameVersionsSaid : Prop := frameVersionsRow.holds Tryd.pinned (OpenSpec.ofChange frameVersionsSpec)

/-- ITS FALSE NEIGHBOUR: 'it returns false'. Refute it at one input. -/
def frameVersionsWrong : ChangeSpec := { name := "frameVersions", fn := fun _ => fun
  | [d1, d2] => { results := [.lit (.bool false)], args := [d1, d2] }
  | _ => none }
def FrameVersionsWrongFalsely : Prop := frameVersionsRow.holds Tryd.pinned (OpenSpec.ofChange frameVersionsWrong)

/-- 'packtrainkeep.FrameInside': WHATEVER THE INPUT: true; the input reads as it did. -/
def frameInsideSpec : ChangeSpec := { name := "frameInside", fn := fun _ => fun
  | [d] => { results := [.lit (.bool true)], args := [d] }
  | _ => none }
def frameInsideRow : OpenClaim := { program := "ytopjaflclkdamaadoor", sum := "b37d525fb8ce5b0e77a50cffe84236df18117c1e5af1835a88f8f814b6400fc8", func := "packtrain/packtrainkeep.FrameInside", spec := "frameInside", inPlace := ["internal/reflectlite.ValueOf", "(internal/reflectlite.Value).Type", "(internal/reflectlite.Value).IsNil", "internal/reflectlite.TypeOf", "(internal/reflectlite.Value).Elem", "(internal/reflectlite.Value).Set"], unfollowed := true, recurses := true, named := ["errors.errorType"], apart := false, laid := [("errors.errorType", laid_errors_errorType)] }
def FrameInsideSaid : Prop := frameInsideRow.holds Tryd.pinned (OpenSpec.ofChange frameInsideSpec)

/-- ITS FALSE NEIGHBOUR: 'it returns false'. Refute it at one input. -/
def frameInsideWrong : ChangeSpec := { name := "frameInside", fn := fun _ => fun
  | [d] => { results := [.lit (.bool false)], args := [d] }
  | _ => none }
def FrameInsideWrongFalsely : Prop := frameInsideRow.holds Tryd.pinned (OpenSpec.ofChange frameInsideWrong)

/- THE SECOND FORM. 'bulk': how many values and letters a reading holds, each counted each time it is reached (what is shared counts as often as it is met; a slice's spare places count too). A statement '..UptoSaid' is the law's where the arguments, and the package variables that the reading takes, are together of bulk at most 1048576: NARROWER than '..Said'. Prove '..Said' where nothing that the law and all that it calls make is longer than what came in: it says more and counts as full. Else prove '..UptoSaid'. A law counts once. -/
mutual
def uptoBulk {H : Type} : DataW H → Nat
  | .lit (.string bytes) => bytes.length + 1
  | .lit _ => 1
  | .nil => 1
  | .ptr d => uptoBulk d + 1
  | .slice elems spare => uptoBulkAll elems + uptoBulkAll spare + 1
  | .agg parts => uptoBulkAll parts + 1
  | .iface _ d => uptoBulk d + 1
  | .map entries => uptoBulkEntries entries + 1
  | .held _ => 1
def uptoBulkAll {H : Type} : List (DataW H) → Nat
  | [] => 0
  | d :: r => uptoBulk d + uptoBulkAll r
def uptoBulkEntries {H : Type} : List (Lit × DataW H) → Nat
  | [] => 0
  | x :: r => uptoBulkEntry x + uptoBulkEntries r
def uptoBulkEntry {H : Type} : Lit × DataW H → Nat
  | (.string bytes, d) => bytes.length + uptoBulk d + 1
  | (_, d) => uptoBulk d + 1
 end
def uptoSmall : (H : Type) → List (DataW H) → Bool := fun _ ds => decide (uptoBulkAll ds ≤ 1048576)
def OpenSpec.upto (s : _root_.Go.ChangeSpec) : _root_.Go.OpenSpec := { _root_.Go.OpenSpec.ofChange s with cond := some uptoSmall }

/-- 'packtrainkeep.FrameOnly', WHERE WHAT IT READS IS OF BULK AT MOST 1048576: true; the input reads as it did. -/
def frameOnlyUptoRow : OpenClaim := { program := "ytopjaflclkdamaadoor", sum := "b37d525fb8ce5b0e77a50cffe84236df18117c1e5af1835a88f8f814b6400fc8", func := "packtrain/packtrainkeep.FrameOnly", spec := "frameOnly", inPlace := ["internal/reflectlite.ValueOf", "(internal/reflectlite.Value).Type", "(internal/reflectlite.Value).IsNil", "internal/reflectlite.TypeOf", "(internal/reflectlite.Value).Elem", "(internal/reflectlite.Value).Set"], unfollowed := true, recurses := true, named := ["errors.errorType"], apart := false, laid := [("errors.errorType", laid_errors_errorType)], narrowed := true }
def FrameOnlyUptoSaid : Prop := frameOnlyUptoRow.holds Tryd.pinned (OpenSpec.upto frameOnlySpec)

/-- 'packtrainkeep.FrameSmall', WHERE WHAT IT READS IS OF BULK AT MOST 1048576: true; the input reads as it did. -/
def frameSmallUptoRow : OpenClaim := { program := "ytopjaflclkdamaadoor", sum := "b37d525fb8ce5b0e77a50cffe84236df18117c1e5af1835a88f8f814b6400fc8", func := "packtrain/packtrainkeep.FrameSmall", spec := "frameSmall", inPlace := ["internal/reflectlite.ValueOf", "(internal/reflectlite.Value).Type", "(internal/reflectlite.Value).IsNil", "internal/reflectlite.TypeOf", "(internal/reflectlite.Value).Elem", "(internal/reflectlite.Value).Set"], unfollowed := true, recurses := true, named := ["errors.errorType"], apart := false, laid := [("errors.errorType", laid_errors_errorType)], narrowed := true }
def FrameSmallUptoSaid : Prop := frameSmallUptoRow.holds Tryd.pinned (OpenSpec.upto frameSmallSpec)

/-- 'packtrainkeep.FrameCut', WHERE WHAT IT READS IS OF BULK AT MOST 1048576: true; the input reads as it did. -/
def frameCutUptoRow : OpenClaim := { program := "ytopjaflclkdamaadoor", sum := "b37d525fb8ce5b0e77a50cffe84236df18117c1e5af1835a88f8f814b6400fc8", func := "packtrain/packtrainkeep.FrameCut", spec := "frameCut", inPlace := ["internal/reflectlite.ValueOf", "(internal/reflectlite.Value).Type", "(internal/reflectlite.Value).IsNil", "internal/reflectlite.TypeOf", "(internal/reflectlite.Value).Elem", "(internal/reflectlite.Value).Set"], unfollowed := true, recurses := true, named := ["errors.errorType"], apart := false, laid := [("errors.errorType", laid_errors_errorType)], narrowed := true }
def FrameCutUptoSaid : Prop := frameCutUptoRow.holds Tryd.pinned (OpenSpec.upto frameCutSpec)

/-- 'packtrainkeep.FrameStored', WHERE WHAT IT READS IS OF BULK AT MOST 1048576: true; the input reads as it did. -/
def frameStoredUptoRow : OpenClaim := { program := "ytopjaflclkdamaadoor", sum := "b37d525fb8ce5b0e77a50cffe84236df18117c1e5af1835a88f8f814b6400fc8", func := "packtrain/packtrainkeep.FrameStored", spec := "frameStored", inPlace := ["internal/reflectlite.ValueOf", "(internal/reflectlite.Value).Type", "(internal/reflectlite.Value).IsNil", "internal/reflectlite.TypeOf", "(internal/reflectlite.Value).Elem", "(internal/reflectlite.Value).Set"], unfollowed := true, recurses := true, named := ["errors.errorType"], apart := false, laid := [("errors.errorType", laid_errors_errorType)], narrowed := true }
def FrameStoredUptoSaid : Prop := frameStoredUptoRow.holds Tryd.pinned (OpenSpec.upto frameStoredSpec)

/-- 'packtrainkeep.FrameVersions', WHERE WHAT IT READS IS OF BULK AT MOST 1048576: true; the input reads as it did. -/
def frameVersionsUptoRow : OpenClaim := { program := "ytopjaflclkdamaadoor", sum := "b37d525fb8ce5b0e77a50cffe84236df18117c1e5af1835a88f8f814b6400fc8", func := "packtrain/packtrainkeep.FrameVersions", spec := "frameVersions", inPlace := ["internal/reflectlite.ValueOf", "(internal/reflectlite.Value).Type", "(internal/reflectlite.Value).IsNil", "internal/reflectlite.TypeOf", "(internal/reflectlite.Value).Elem", "(internal/reflectlite.Value).Set"], unfollowed := true, recurses := true, named := ["errors.errorType"], apart := false, laid := [("errors.errorType", laid_errors_errorType)], narrowed := true }
def FrameVersionsUptoSaid : Prop := frameVersionsUptoRow.holds Tryd.pinned (OpenSpec.upto frameVersionsSpec)

/-- 'packtrainkeep.FrameInside', WHERE WHAT IT READS IS OF BULK AT MOST 1048576: true; the input reads as it did. -/
def frameInsideUptoRow : OpenClaim := { program := "ytopjaflclkdamaadoor", sum := "b37d525fb8ce5b0e77a50cffe84236df18117c1e5af1835a88f8f814b6400fc8", func := "packtrain/packtrainkeep.FrameInside", spec := "frameInside", inPlace := ["internal/reflectlite.ValueOf", "(internal/reflectlite.Value).Type", "(internal/reflectlite.Value).IsNil", "internal/reflectlite.TypeOf", "(internal/reflectlite.Value).Elem", "(internal/reflectlite.Value).Set"], unfollowed := true, recurses := true, named := ["errors.errorType"], apart := false, laid := [("errors.errorType", laid_errors_errorType)], narrowed := true }
def FrameInsideUptoSaid : Prop := frameInsideUptoRow.holds Tryd.pinned (OpenSpec.upto frameInsideSpec)

end Rows
end Go.Proofs.YtopjaflclkdamaaDoor
