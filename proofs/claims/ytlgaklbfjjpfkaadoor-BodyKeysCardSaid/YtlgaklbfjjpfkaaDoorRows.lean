/-
  NARROWER THAN 'FOR EVERY INPUT', by the rows' own cells (each row's printed sentence says how): BodyBack: laid · BodyOnly: laid · BodyCut: laid · BodyKeys: laid · BodyHead: laid · BodyValues: laid.
  DERIVED. THE GIVEN ROWS OF THIS SEAT. 6 by the template 'for every input the law returns true; each argument reads behind the call as it read before'; 0 by the template 'total and deterministic' (their statements: YtlgaklbfjjpfkaaDoorTotals.lean).
  GIVEN WITH THE SEED: the statements are not yours to turn. If you find one false, say at which input.
  Laid BY PROGRAM, IN A SANDBOX (cutbox-rows.mjs): the forced cells as the released guide's own fill.sh prints them over the translation ab528733c92c2c9a… (all of the seat's roots in one cut). By AI agents, Wed Nov 11 2026. No macro, syntax, notation, axiom, sorry.
-/
import Derived.Test.YtlgaklbfjjpfkaaDoorChecked
import GoSem.Claim
import GoSem.ClaimJoined
import GoSem.ClaimMapViews
import Derived.JoinedTies
import Derived.KernelRfl
namespace Go.Proofs.YtlgaklbfjjpfkaaDoor
/- THE CELL 'sum', in the pinned program and in every row, IS THE sha256 OF THE DUMP (.gsa) THAT YtlgaklbfjjpfkaaDoorProg.lean LOADS. Nothing in Lean hashes anything: it is a label: what it is worth is what the hold of that sum in a sandbox is worth. -/
noncomputable def Tryd.pinned : Pinned := { name := "ytlgaklbfjjpfkaadoor", sum := "ab528733c92c2c9a684e4fca9d369b68de7d2a83e0c2461527a2f11de7fbc315", checked := Tryd.checked }
namespace Rows
def none {H : Type} : Left H := { results := [], args := [] }

/- WHAT THE LISTED PACKAGE-LEVEL VARIABLES READ AS WHEN THE CALL BEGINS. Each datum BY PROGRAM (the guide's laid-datum.mjs) off the statement by which the dump's own 'gosem.cut.vars' lays the variable. In a bare row this is a premise. The card (YtlgaklbfjjpfkaaDoorCards.lean) ties it to the program's text. -/
def laid_errors_errorType {H : Type} : DataW H := .iface "internal/reflectlite.rtype" (.agg [.ptr (.lit (.string [101, 114, 114, 111, 114]))])

/-- 'packtrainkeep.BodyBack': WHATEVER THE INPUT: true; the input reads as it did. -/
def bodyBackSpec : ChangeSpec := { name := "bodyBack", fn := fun _ => fun
  | [d] => { results := [.lit (.bool true)], args := [d] }
  | _ => none }
def bodyBackRow : OpenClaim := { program := "ytlgaklbfjjpfkaadoor", sum := "ab528733c92c2c9a684e4fca9d369b68de7d2a83e0c2461527a2f11de7fbc315", func := "packtrain/packtrainkeep.BodyBack", spec := "bodyBack", inPlace := ["internal/reflectlite.ValueOf", "(internal/reflectlite.Value).Type", "(internal/reflectlite.Value).IsNil", "internal/reflectlite.TypeOf", "(internal/reflectlite.Value).Elem", "(internal/reflectlite.Value).Set"], unfollowed := true, recurses := true, named := ["errors.errorType"], apart := false, laid := [("errors.errorType", laid_errors_errorType)] }
def BodyBackSaid : Prop := bodyBackRow.holds Tryd.pinned (OpenSpec.ofChange bodyBackSpec)

/-- ITS FALSE NEIGHBOUR: 'it returns false'. Refute it at one input. -/
def bodyBackWrong : ChangeSpec := { name := "bodyBack", fn := fun _ => fun
  | [d] => { results := [.lit (.bool false)], args := [d] }
  | _ => none }
def BodyBackWrongFalsely : Prop := bodyBackRow.holds Tryd.pinned (OpenSpec.ofChange bodyBackWrong)

/-- 'packtrainkeep.BodyOnly': WHATEVER THE INPUT: true; the input reads as it did. -/
def bodyOnlySpec : ChangeSpec := { name := "bodyOnly", fn := fun _ => fun
  | [d] => { results := [.lit (.bool true)], args := [d] }
  | _ => none }
def bodyOnlyRow : OpenClaim := { program := "ytlgaklbfjjpfkaadoor", sum := "ab528733c92c2c9a684e4fca9d369b68de7d2a83e0c2461527a2f11de7fbc315", func := "packtrain/packtrainkeep.BodyOnly", spec := "bodyOnly", inPlace := ["internal/reflectlite.ValueOf", "(internal/reflectlite.Value).Type", "(internal/reflectlite.Value).IsNil", "internal/reflectlite.TypeOf", "(internal/reflectlite.Value).Elem", "(internal/reflectlite.Value).Set"], unfollowed := true, recurses := true, named := ["errors.errorType"], apart := false, laid := [("errors.errorType", laid_errors_errorType)] }
def BodyOnlySaid : Prop := bodyOnlyRow.holds Tryd.pinned (OpenSpec.ofChange bodyOnlySpec)

/-- ITS FALSE NEIGHBOUR: 'it returns false'. Refute it at one input. -/
def bodyOnlyWrong : ChangeSpec := { name := "bodyOnly", fn := fun _ => fun
  | [d] => { results := [.lit (.bool false)], args := [d] }
  | _ => none }
def BodyOnlyWrongFalsely : Prop := bodyOnlyRow.holds Tryd.pinned (OpenSpec.ofChange bodyOnlyWrong)

/-- 'packtrainkeep.BodyCut': WHATEVER THE INPUT: true; the input reads as it did. -/
def bodyCutSpec : ChangeSpec := { name := "bodyCut", fn := fun _ => fun
  | [d1, d2, d3] => { results := [.lit (.bool true)], args := [d1, d2, d3] }
  | _ => none }
def bodyCutRow : OpenClaim := { program := "ytlgaklbfjjpfkaadoor", sum := "ab528733c92c2c9a684e4fca9d369b68de7d2a83e0c2461527a2f11de7fbc315", func := "packtrain/packtrainkeep.BodyCut", spec := "bodyCut", inPlace := ["internal/reflectlite.ValueOf", "(internal/reflectlite.Value).Type", "(internal/reflectlite.Value).IsNil", "internal/reflectlite.TypeOf", "(internal/reflectlite.Value).Elem", "(internal/reflectlite.Value).Set"], unfollowed := true, recurses := true, named := ["errors.errorType"], apart := false, laid := [("errors.errorType", laid_errors_errorType)] }
def BodyCutSaid : Prop := bodyCutRow.holds Tryd.pinned (OpenSpec.ofChange bodyCutSpec)

/-- ITS FALSE NEIGHBOUR: 'it returns false'. Refute it at one input. -/
def bodyCutWrong : ChangeSpec := { name := "bodyCut", fn := fun _ => fun
  | [d1, d2, d3] => { results := [.lit (.bool false)], args := [d1, d2, d3] }
  | _ => none }
def BodyCutWrongFalsely : Prop := bodyCutRow.holds Tryd.pinned (OpenSpec.ofChange bodyCutWrong)

/-- 'packtrainkeep.BodyKeys': WHATEVER THE INPUT: true; the input reads as it did. -/
def bodyKeysSpec : ChangeSpec := { name := "bodyKeys", fn := fun _ => fun
  | [d1, d2] => { results := [.lit (.bool true)], args := [d1, d2] }
  | _ => none }
def bodyKeysRow : OpenClaim := { program := "ytlgaklbfjjpfkaadoor", sum := "ab528733c92c2c9a684e4fca9d369b68de7d2a83e0c2461527a2f11de7fbc315", func := "packtrain/packtrainkeep.BodyKeys", spec := "bodyKeys", inPlace := ["internal/reflectlite.ValueOf", "(internal/reflectlite.Value).Type", "(internal/reflectlite.Value).IsNil", "internal/reflectlite.TypeOf", "(internal/reflectlite.Value).Elem", "(internal/reflectlite.Value).Set"], unfollowed := true, recurses := true, named := ["errors.errorType"], apart := false, laid := [("errors.errorType", laid_errors_errorType)] }
def BodyKeysSaid : Prop := bodyKeysRow.holds Tryd.pinned (OpenSpec.ofChange bodyKeysSpec)

/-- ITS FALSE NEIGHBOUR: 'it returns false'. Refute it at one input. -/
def bodyKeysWrong : ChangeSpec := { name := "bodyKeys", fn := fun _ => fun
  | [d1, d2] => { results := [.lit (.bool false)], args := [d1, d2] }
  | _ => none }
def BodyKeysWrongFalsely : Prop := bodyKeysRow.holds Tryd.pinned (OpenSpec.ofChange bodyKeysWrong)

/-- 'packtrainkeep.BodyHead': WHATEVER THE INPUT: true; the input reads as it did. -/
def bodyHeadSpec : ChangeSpec := { name := "bodyHead", fn := fun _ => fun
  | [d] => { results := [.lit (.bool true)], args := [d] }
  | _ => none }
def bodyHeadRow : OpenClaim := { program := "ytlgaklbfjjpfkaadoor", sum := "ab528733c92c2c9a684e4fca9d369b68de7d2a83e0c2461527a2f11de7fbc315", func := "packtrain/packtrainkeep.BodyHead", spec := "bodyHead", inPlace := ["internal/reflectlite.ValueOf", "(internal/reflectlite.Value).Type", "(internal/reflectlite.Value).IsNil", "internal/reflectlite.TypeOf", "(internal/reflectlite.Value).Elem", "(internal/reflectlite.Value).Set"], unfollowed := true, recurses := true, named := ["errors.errorType"], apart := false, laid := [("errors.errorType", laid_errors_errorType)] }
def BodyHeadSaid : Prop := bodyHeadRow.holds Tryd.pinned (OpenSpec.ofChange bodyHeadSpec)

/-- ITS FALSE NEIGHBOUR: 'it returns false'. Refute it at one input. -/
def bodyHeadWrong : ChangeSpec := { name := "bodyHead", fn := fun _ => fun
  | [d] => { results := [.lit (.bool false)], args := [d] }
  | _ => none }
def BodyHeadWrongFalsely : Prop := bodyHeadRow.holds Tryd.pinned (OpenSpec.ofChange bodyHeadWrong)

/-- 'packtrainkeep.BodyValues': WHATEVER THE INPUT: true; the input reads as it did. -/
def bodyValuesSpec : ChangeSpec := { name := "bodyValues", fn := fun _ => fun
  | [d1, d2] => { results := [.lit (.bool true)], args := [d1, d2] }
  | _ => none }
def bodyValuesRow : OpenClaim := { program := "ytlgaklbfjjpfkaadoor", sum := "ab528733c92c2c9a684e4fca9d369b68de7d2a83e0c2461527a2f11de7fbc315", func := "packtrain/packtrainkeep.BodyValues", spec := "bodyValues", inPlace := ["internal/reflectlite.ValueOf", "(internal/reflectlite.Value).Type", "(internal/reflectlite.Value).IsNil", "internal/reflectlite.TypeOf", "(internal/reflectlite.Value).Elem", "(internal/reflectlite.Value).Set", "internal/abi.NoEscape", "internal/bytealg.MakeNoZero"], unfollowed := true, recurses := true, named := ["errors.errorType"], apart := false, laid := [("errors.errorType", laid_errors_errorType)] }
def BodyValuesSaid : Prop := bodyValuesRow.holds Tryd.pinned (OpenSpec.ofChange bodyValuesSpec)

/-- ITS FALSE NEIGHBOUR: 'it returns false'. Refute it at one input. -/
def bodyValuesWrong : ChangeSpec := { name := "bodyValues", fn := fun _ => fun
  | [d1, d2] => { results := [.lit (.bool false)], args := [d1, d2] }
  | _ => none }
def BodyValuesWrongFalsely : Prop := bodyValuesRow.holds Tryd.pinned (OpenSpec.ofChange bodyValuesWrong)

/- THE SECOND FORM. 'bulk': how many values and letters a reading holds, each counted each time it is reached (what is shared counts as often as it is met; a slice's spare places count too). A statement '..UptoSaid' is the law's where the arguments, and the package variables that the reading takes, are together of bulk at most 1048576: NARROWER than '..Said'. Prove '..Said' where nothing that the law and all that it calls make is longer than what came in: it says more and counts as full. Else prove '..UptoSaid'. A law counts once. -/
mutual
def uptoBulk {H : Type} : DataW H → Nat
  | .lit (.string bytes) => bytes.length + 1
  | .lit _ => 1
  | .nil => 1
  | .ptr d => uptoBulk d + 1
  | .slice elems spare => uptoBulkAll elems + uptoBulkAll spare + 1
  | .agg parts => uptoBulkAll parts + 1
  | .iface _ d => uptoBulk d + 1
  | .map entries => uptoBulkEntries entries + 1
  | .held _ => 1
def uptoBulkAll {H : Type} : List (DataW H) → Nat
  | [] => 0
  | d :: r => uptoBulk d + uptoBulkAll r
def uptoBulkEntries {H : Type} : List (Lit × DataW H) → Nat
  | [] => 0
  | x :: r => uptoBulkEntry x + uptoBulkEntries r
def uptoBulkEntry {H : Type} : Lit × DataW H → Nat
  | (.string bytes, d) => bytes.length + uptoBulk d + 1
  | (_, d) => uptoBulk d + 1
 end
def uptoSmall : (H : Type) → List (DataW H) → Bool := fun _ ds => decide (uptoBulkAll ds ≤ 1048576)
def OpenSpec.upto (s : _root_.Go.ChangeSpec) : _root_.Go.OpenSpec := { _root_.Go.OpenSpec.ofChange s with cond := some uptoSmall }

/-- 'packtrainkeep.BodyBack', WHERE WHAT IT READS IS OF BULK AT MOST 1048576: true; the input reads as it did. -/
def bodyBackUptoRow : OpenClaim := { program := "ytlgaklbfjjpfkaadoor", sum := "ab528733c92c2c9a684e4fca9d369b68de7d2a83e0c2461527a2f11de7fbc315", func := "packtrain/packtrainkeep.BodyBack", spec := "bodyBack", inPlace := ["internal/reflectlite.ValueOf", "(internal/reflectlite.Value).Type", "(internal/reflectlite.Value).IsNil", "internal/reflectlite.TypeOf", "(internal/reflectlite.Value).Elem", "(internal/reflectlite.Value).Set"], unfollowed := true, recurses := true, named := ["errors.errorType"], apart := false, laid := [("errors.errorType", laid_errors_errorType)], narrowed := true }
def BodyBackUptoSaid : Prop := bodyBackUptoRow.holds Tryd.pinned (OpenSpec.upto bodyBackSpec)

/-- 'packtrainkeep.BodyOnly', WHERE WHAT IT READS IS OF BULK AT MOST 1048576: true; the input reads as it did. -/
def bodyOnlyUptoRow : OpenClaim := { program := "ytlgaklbfjjpfkaadoor", sum := "ab528733c92c2c9a684e4fca9d369b68de7d2a83e0c2461527a2f11de7fbc315", func := "packtrain/packtrainkeep.BodyOnly", spec := "bodyOnly", inPlace := ["internal/reflectlite.ValueOf", "(internal/reflectlite.Value).Type", "(internal/reflectlite.Value).IsNil", "internal/reflectlite.TypeOf", "(internal/reflectlite.Value).Elem", "(internal/reflectlite.Value).Set"], unfollowed := true, recurses := true, named := ["errors.errorType"], apart := false, laid := [("errors.errorType", laid_errors_errorType)], narrowed := true }
def BodyOnlyUptoSaid : Prop := bodyOnlyUptoRow.holds Tryd.pinned (OpenSpec.upto bodyOnlySpec)

/-- 'packtrainkeep.BodyCut', WHERE WHAT IT READS IS OF BULK AT MOST 1048576: true; the input reads as it did. -/
def bodyCutUptoRow : OpenClaim := { program := "ytlgaklbfjjpfkaadoor", sum := "ab528733c92c2c9a684e4fca9d369b68de7d2a83e0c2461527a2f11de7fbc315", func := "packtrain/packtrainkeep.BodyCut", spec := "bodyCut", inPlace := ["internal/reflectlite.ValueOf", "(internal/reflectlite.Value).Type", "(internal/reflectlite.Value).IsNil", "internal/reflectlite.TypeOf", "(internal/reflectlite.Value).Elem", "(internal/reflectlite.Value).Set"], unfollowed := true, recurses := true, named := ["errors.errorType"], apart := false, laid := [("errors.errorType", laid_errors_errorType)], narrowed := true }
def BodyCutUptoSaid : Prop := bodyCutUptoRow.holds Tryd.pinned (OpenSpec.upto bodyCutSpec)

/-- 'packtrainkeep.BodyKeys', WHERE WHAT IT READS IS OF BULK AT MOST 1048576: true; the input reads as it did. -/
def bodyKeysUptoRow : OpenClaim := { program := "ytlgaklbfjjpfkaadoor", sum := "ab528733c92c2c9a684e4fca9d369b68de7d2a83e0c2461527a2f11de7fbc315", func := "packtrain/packtrainkeep.BodyKeys", spec := "bodyKeys", inPlace := ["internal/reflectlite.ValueOf", "(internal/reflectlite.Value).Type", "(internal/reflectlite.Value).IsNil", "internal/reflectlite.TypeOf", "(internal/reflectlite.Value).Elem", "(internal/reflectlite.Value).Set"], unfollowed := true, recurses := true, named := ["errors.errorType"], apart := false, laid := [("errors.errorType", laid_errors_errorType)], narrowed := true }
def BodyKeysUptoSaid : Prop := bodyKeysUptoRow.holds Tryd.pinned (OpenSpec.upto bodyKeysSpec)

/-- 'packtrainkeep.BodyHead', WHERE WHAT IT READS IS OF BULK AT MOST 1048576: true; the input reads as it did. -/
def bodyHeadUptoRow : OpenClaim := { program := "ytlgaklbfjjpfkaadoor", sum := "ab528733c92c2c9a684e4fca9d369b68de7d2a83e0c2461527a2f11de7fbc315", func := "packtrain/packtrainkeep.BodyHead", spec := "bodyHead", inPlace := ["internal/reflectlite.ValueOf", "(internal/reflectlite.Value).Type", "(internal/reflectlite.Value).IsNil", "internal/reflectlite.TypeOf", "(internal/reflectlite.Value).Elem", "(internal/reflectlite.Value).Set"], unfollowed := true, recurses := true, named := ["errors.errorType"], apart := false, laid := [("errors.errorType", laid_errors_errorType)], narrowed := true }
def BodyHeadUptoSaid : Prop := bodyHeadUptoRow.holds Tryd.pinned (OpenSpec.upto bodyHeadSpec)

/-- 'packtrainkeep.BodyValues', WHERE WHAT IT READS IS OF BULK AT MOST 1048576: true; the input reads as it did. -/
def bodyValuesUptoRow : OpenClaim := { program := "ytlgaklbfjjpfkaadoor", sum := "ab528733c92c2c9a684e4fca9d369b68de7d2a83e0c2461527a2f11de7fbc315", func := "packtrain/packtrainkeep.BodyValues", spec := "bodyValues", inPlace := ["internal/reflectlite.ValueOf", "(internal/reflectlite.Value).Type", "(internal/reflectlite.Value).IsNil", "internal/reflectlite.TypeOf", "(internal/reflectlite.Value).Elem", "(internal/reflectlite.Value).Set", "internal/abi.NoEscape", "internal/bytealg.MakeNoZero"], unfollowed := true, recurses := true, named := ["errors.errorType"], apart := false, laid := [("errors.errorType", laid_errors_errorType)], narrowed := true }
def BodyValuesUptoSaid : Prop := bodyValuesUptoRow.holds Tryd.pinned (OpenSpec.upto bodyValuesSpec)

end Rows
end Go.Proofs.YtlgaklbfjjpfkaaDoor
