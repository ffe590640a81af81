/-
  NARROWER THAN 'FOR EVERY INPUT', by the rows' own cells (each row's printed sentence says how): VaryBack: laid · VaryOnly: laid · VaryLong: laid · VaryCut: laid · VaryBoth: laid · VaryOrder: laid · VaryMost: laid · SpanOnly: laid · SpanCut: laid · SpanLong: laid · SpanBack: laid.
  DERIVED. THE GIVEN ROWS OF THIS SEAT. 11 by the template 'for every input the law returns true; each argument reads behind the call as it read before'; 0 by the template 'total and deterministic' (their statements: YtnfdcdnoipbjkaaDoorTotals.lean).
  GIVEN WITH THE SEED: the statements are not yours to turn. If you find one false, say at which input.
  Laid BY PROGRAM, IN A SANDBOX (cutbox-rows.mjs): the forced cells as the released guide's own fill.sh prints them over the translation ef79b96d2af77557… (all of the seat's roots in one cut). By AI agents, Wed Nov 11 2026. No macro, syntax, notation, axiom, sorry.
-/
import Derived.Test.YtnfdcdnoipbjkaaDoorChecked
import GoSem.Claim
import GoSem.ClaimJoined
import GoSem.ClaimMapViews
import Derived.JoinedTies
import Derived.KernelRfl
namespace Go.Proofs.YtnfdcdnoipbjkaaDoor
/- THE CELL 'sum', in the pinned program and in every row, IS THE sha256 OF THE DUMP (.gsa) THAT YtnfdcdnoipbjkaaDoorProg.lean LOADS. Nothing in Lean hashes anything: it is a label: what it is worth is what the hold of that sum in a sandbox is worth. -/
noncomputable def Tryd.pinned : Pinned := { name := "ytnfdcdnoipbjkaadoor", sum := "ef79b96d2af77557a84660bc7a1a6f44e048b75cd0563f2e75830a315d424407", checked := Tryd.checked }
namespace Rows
def none {H : Type} : Left H := { results := [], args := [] }

/- WHAT THE LISTED PACKAGE-LEVEL VARIABLES READ AS WHEN THE CALL BEGINS. Each datum BY PROGRAM (the guide's laid-datum.mjs) off the statement by which the dump's own 'gosem.cut.vars' lays the variable. In a bare row this is a premise. The card (YtnfdcdnoipbjkaaDoorCards.lean) ties it to the program's text. -/
def laid_errors_errorType {H : Type} : DataW H := .iface "internal/reflectlite.rtype" (.agg [.ptr (.lit (.string [101, 114, 114, 111, 114]))])

/-- 'packtrainkeep.VaryBack': WHATEVER THE INPUT: true; the input reads as it did. -/
def varyBackSpec : ChangeSpec := { name := "varyBack", fn := fun _ => fun
  | [d1, d2] => { results := [.lit (.bool true)], args := [d1, d2] }
  | _ => none }
def varyBackRow : OpenClaim := { program := "ytnfdcdnoipbjkaadoor", sum := "ef79b96d2af77557a84660bc7a1a6f44e048b75cd0563f2e75830a315d424407", func := "packtrain/packtrainkeep.VaryBack", spec := "varyBack", inPlace := ["internal/reflectlite.ValueOf", "(internal/reflectlite.Value).Type", "(internal/reflectlite.Value).IsNil", "internal/reflectlite.TypeOf", "(internal/reflectlite.Value).Elem", "(internal/reflectlite.Value).Set"], unfollowed := true, recurses := true, named := ["errors.errorType"], apart := false, laid := [("errors.errorType", laid_errors_errorType)] }
def VaryBackSaid : Prop := varyBackRow.holds Tryd.pinned (OpenSpec.ofChange varyBackSpec)

/-- ITS FALSE NEIGHBOUR: 'it returns false'. Refute it at one input. -/
def varyBackWrong : ChangeSpec := { name := "varyBack", fn := fun _ => fun
  | [d1, d2] => { results := [.lit (.bool false)], args := [d1, d2] }
  | _ => none }
def VaryBackWrongFalsely : Prop := varyBackRow.holds Tryd.pinned (OpenSpec.ofChange varyBackWrong)

/-- 'packtrainkeep.VaryOnly': WHATEVER THE INPUT: true; the input reads as it did. -/
def varyOnlySpec : ChangeSpec := { name := "varyOnly", fn := fun _ => fun
  | [d] => { results := [.lit (.bool true)], args := [d] }
  | _ => none }
def varyOnlyRow : OpenClaim := { program := "ytnfdcdnoipbjkaadoor", sum := "ef79b96d2af77557a84660bc7a1a6f44e048b75cd0563f2e75830a315d424407", func := "packtrain/packtrainkeep.VaryOnly", spec := "varyOnly", inPlace := ["internal/reflectlite.ValueOf", "(internal/reflectlite.Value).Type", "(internal/reflectlite.Value).IsNil", "internal/reflectlite.TypeOf", "(internal/reflectlite.Value).Elem", "(internal/reflectlite.Value).Set"], unfollowed := true, recurses := true, named := ["errors.errorType"], apart := false, laid := [("errors.errorType", laid_errors_errorType)] }
def VaryOnlySaid : Prop := varyOnlyRow.holds Tryd.pinned (OpenSpec.ofChange varyOnlySpec)

/-- ITS FALSE NEIGHBOUR: 'it returns false'. Refute it at one input. -/
def varyOnlyWrong : ChangeSpec := { name := "varyOnly", fn := fun _ => fun
  | [d] => { results := [.lit (.bool false)], args := [d] }
  | _ => none }
def VaryOnlyWrongFalsely : Prop := varyOnlyRow.holds Tryd.pinned (OpenSpec.ofChange varyOnlyWrong)

/-- 'packtrainkeep.VaryLong': WHATEVER THE INPUT: true; the input reads as it did. -/
def varyLongSpec : ChangeSpec := { name := "varyLong", fn := fun _ => fun
  | [d] => { results := [.lit (.bool true)], args := [d] }
  | _ => none }
def varyLongRow : OpenClaim := { program := "ytnfdcdnoipbjkaadoor", sum := "ef79b96d2af77557a84660bc7a1a6f44e048b75cd0563f2e75830a315d424407", func := "packtrain/packtrainkeep.VaryLong", spec := "varyLong", inPlace := ["internal/reflectlite.ValueOf", "(internal/reflectlite.Value).Type", "(internal/reflectlite.Value).IsNil", "internal/reflectlite.TypeOf", "(internal/reflectlite.Value).Elem", "(internal/reflectlite.Value).Set"], unfollowed := true, recurses := true, named := ["errors.errorType"], apart := false, laid := [("errors.errorType", laid_errors_errorType)] }
def VaryLongSaid : Prop := varyLongRow.holds Tryd.pinned (OpenSpec.ofChange varyLongSpec)

/-- ITS FALSE NEIGHBOUR: 'it returns false'. Refute it at one input. -/
def varyLongWrong : ChangeSpec := { name := "varyLong", fn := fun _ => fun
  | [d] => { results := [.lit (.bool false)], args := [d] }
  | _ => none }
def VaryLongWrongFalsely : Prop := varyLongRow.holds Tryd.pinned (OpenSpec.ofChange varyLongWrong)

/-- 'packtrainkeep.VaryCut': WHATEVER THE INPUT: true; the input reads as it did. -/
def varyCutSpec : ChangeSpec := { name := "varyCut", fn := fun _ => fun
  | [d1, d2] => { results := [.lit (.bool true)], args := [d1, d2] }
  | _ => none }
def varyCutRow : OpenClaim := { program := "ytnfdcdnoipbjkaadoor", sum := "ef79b96d2af77557a84660bc7a1a6f44e048b75cd0563f2e75830a315d424407", func := "packtrain/packtrainkeep.VaryCut", spec := "varyCut", inPlace := ["internal/reflectlite.ValueOf", "(internal/reflectlite.Value).Type", "(internal/reflectlite.Value).IsNil", "internal/reflectlite.TypeOf", "(internal/reflectlite.Value).Elem", "(internal/reflectlite.Value).Set"], unfollowed := true, recurses := true, named := ["errors.errorType"], apart := false, laid := [("errors.errorType", laid_errors_errorType)] }
def VaryCutSaid : Prop := varyCutRow.holds Tryd.pinned (OpenSpec.ofChange varyCutSpec)

/-- ITS FALSE NEIGHBOUR: 'it returns false'. Refute it at one input. -/
def varyCutWrong : ChangeSpec := { name := "varyCut", fn := fun _ => fun
  | [d1, d2] => { results := [.lit (.bool false)], args := [d1, d2] }
  | _ => none }
def VaryCutWrongFalsely : Prop := varyCutRow.holds Tryd.pinned (OpenSpec.ofChange varyCutWrong)

/-- 'packtrainkeep.VaryBoth': WHATEVER THE INPUT: true; the input reads as it did. -/
def varyBothSpec : ChangeSpec := { name := "varyBoth", fn := fun _ => fun
  | [d1, d2] => { results := [.lit (.bool true)], args := [d1, d2] }
  | _ => none }
def varyBothRow : OpenClaim := { program := "ytnfdcdnoipbjkaadoor", sum := "ef79b96d2af77557a84660bc7a1a6f44e048b75cd0563f2e75830a315d424407", func := "packtrain/packtrainkeep.VaryBoth", spec := "varyBoth", inPlace := ["internal/reflectlite.ValueOf", "(internal/reflectlite.Value).Type", "(internal/reflectlite.Value).IsNil", "internal/reflectlite.TypeOf", "(internal/reflectlite.Value).Elem", "(internal/reflectlite.Value).Set"], unfollowed := true, recurses := true, named := ["errors.errorType"], apart := false, laid := [("errors.errorType", laid_errors_errorType)] }
def VaryBothSaid : Prop := varyBothRow.holds Tryd.pinned (OpenSpec.ofChange varyBothSpec)

/-- ITS FALSE NEIGHBOUR: 'it returns false'. Refute it at one input. -/
def varyBothWrong : ChangeSpec := { name := "varyBoth", fn := fun _ => fun
  | [d1, d2] => { results := [.lit (.bool false)], args := [d1, d2] }
  | _ => none }
def VaryBothWrongFalsely : Prop := varyBothRow.holds Tryd.pinned (OpenSpec.ofChange varyBothWrong)

/-- 'packtrainkeep.VaryOrder': WHATEVER THE INPUT: true; the input reads as it did. -/
def varyOrderSpec : ChangeSpec := { name := "varyOrder", fn := fun _ => fun
  | [d1, d2] => { results := [.lit (.bool true)], args := [d1, d2] }
  | _ => none }
def varyOrderRow : OpenClaim := { program := "ytnfdcdnoipbjkaadoor", sum := "ef79b96d2af77557a84660bc7a1a6f44e048b75cd0563f2e75830a315d424407", func := "packtrain/packtrainkeep.VaryOrder", spec := "varyOrder", inPlace := ["internal/reflectlite.ValueOf", "(internal/reflectlite.Value).Type", "(internal/reflectlite.Value).IsNil", "internal/reflectlite.TypeOf", "(internal/reflectlite.Value).Elem", "(internal/reflectlite.Value).Set"], unfollowed := true, recurses := true, named := ["errors.errorType"], apart := false, laid := [("errors.errorType", laid_errors_errorType)] }
def VaryOrderSaid : Prop := varyOrderRow.holds Tryd.pinned (OpenSpec.ofChange varyOrderSpec)

/-- ITS FALSE NEIGHBOUR: 'it returns false'. Refute it at one input. -/
def varyOrderWrong : ChangeSpec := { name := "varyOrder", fn := fun _ => fun
  | [d1, d2] => { results := [.lit (.bool false)], args := [d1, d2] }
  | _ => none }
def VaryOrderWrongFalsely : Prop := varyOrderRow.holds Tryd.pinned (OpenSpec.ofChange varyOrderWrong)

/-- 'packtrainkeep.VaryMost': WHATEVER THE INPUT: true; the input reads as it did. -/
def varyMostSpec : ChangeSpec := { name := "varyMost", fn := fun _ => fun
  | [d1, d2] => { results := [.lit (.bool true)], args := [d1, d2] }
  | _ => none }
def varyMostRow : OpenClaim := { program := "ytnfdcdnoipbjkaadoor", sum := "ef79b96d2af77557a84660bc7a1a6f44e048b75cd0563f2e75830a315d424407", func := "packtrain/packtrainkeep.VaryMost", spec := "varyMost", inPlace := ["internal/reflectlite.ValueOf", "(internal/reflectlite.Value).Type", "(internal/reflectlite.Value).IsNil", "internal/reflectlite.TypeOf", "(internal/reflectlite.Value).Elem", "(internal/reflectlite.Value).Set"], unfollowed := true, recurses := true, named := ["errors.errorType"], apart := false, laid := [("errors.errorType", laid_errors_errorType)] }
def VaryMostSaid : Prop := varyMostRow.holds Tryd.pinned (OpenSpec.ofChange varyMostSpec)

/-- ITS FALSE NEIGHBOUR: 'it returns false'. Refute it at one input. -/
def varyMostWrong : ChangeSpec := { name := "varyMost", fn := fun _ => fun
  | [d1, d2] => { results := [.lit (.bool false)], args := [d1, d2] }
  | _ => none }
def VaryMostWrongFalsely : Prop := varyMostRow.holds Tryd.pinned (OpenSpec.ofChange varyMostWrong)

/-- 'packtrainkeep.SpanOnly': WHATEVER THE INPUT: true; the input reads as it did. -/
def spanOnlySpec : ChangeSpec := { name := "spanOnly", fn := fun _ => fun
  | [d] => { results := [.lit (.bool true)], args := [d] }
  | _ => none }
def spanOnlyRow : OpenClaim := { program := "ytnfdcdnoipbjkaadoor", sum := "ef79b96d2af77557a84660bc7a1a6f44e048b75cd0563f2e75830a315d424407", func := "packtrain/packtrainkeep.SpanOnly", spec := "spanOnly", inPlace := ["internal/reflectlite.ValueOf", "(internal/reflectlite.Value).Type", "(internal/reflectlite.Value).IsNil", "internal/reflectlite.TypeOf", "(internal/reflectlite.Value).Elem", "(internal/reflectlite.Value).Set"], unfollowed := true, recurses := true, named := ["errors.errorType"], apart := false, laid := [("errors.errorType", laid_errors_errorType)] }
def SpanOnlySaid : Prop := spanOnlyRow.holds Tryd.pinned (OpenSpec.ofChange spanOnlySpec)

/-- ITS FALSE NEIGHBOUR: 'it returns false'. Refute it at one input. -/
def spanOnlyWrong : ChangeSpec := { name := "spanOnly", fn := fun _ => fun
  | [d] => { results := [.lit (.bool false)], args := [d] }
  | _ => none }
def SpanOnlyWrongFalsely : Prop := spanOnlyRow.holds Tryd.pinned (OpenSpec.ofChange spanOnlyWrong)

/-- 'packtrainkeep.SpanCut': WHATEVER THE INPUT: true; the input reads as it did. -/
def spanCutSpec : ChangeSpec := { name := "spanCut", fn := fun _ => fun
  | [d1, d2] => { results := [.lit (.bool true)], args := [d1, d2] }
  | _ => none }
def spanCutRow : OpenClaim := { program := "ytnfdcdnoipbjkaadoor", sum := "ef79b96d2af77557a84660bc7a1a6f44e048b75cd0563f2e75830a315d424407", func := "packtrain/packtrainkeep.SpanCut", spec := "spanCut", inPlace := ["internal/reflectlite.ValueOf", "(internal/reflectlite.Value).Type", "(internal/reflectlite.Value).IsNil", "internal/reflectlite.TypeOf", "(internal/reflectlite.Value).Elem", "(internal/reflectlite.Value).Set"], unfollowed := true, recurses := true, named := ["errors.errorType"], apart := false, laid := [("errors.errorType", laid_errors_errorType)] }
def SpanCutSaid : Prop := spanCutRow.holds Tryd.pinned (OpenSpec.ofChange spanCutSpec)

/-- ITS FALSE NEIGHBOUR: 'it returns false'. Refute it at one input. -/
def spanCutWrong : ChangeSpec := { name := "spanCut", fn := fun _ => fun
  | [d1, d2] => { results := [.lit (.bool false)], args := [d1, d2] }
  | _ => none }
def SpanCutWrongFalsely : Prop := spanCutRow.holds Tryd.pinned (OpenSpec.ofChange spanCutWrong)

/-- 'packtrainkeep.SpanLong': WHATEVER THE INPUT: true; the input reads as it did. -/
def spanLongSpec : ChangeSpec := { name := "spanLong", fn := fun _ => fun
  | [d] => { results := [.lit (.bool true)], args := [d] }
  | _ => none }
def spanLongRow : OpenClaim := { program := "ytnfdcdnoipbjkaadoor", sum := "ef79b96d2af77557a84660bc7a1a6f44e048b75cd0563f2e75830a315d424407", func := "packtrain/packtrainkeep.SpanLong", spec := "spanLong", inPlace := ["internal/reflectlite.ValueOf", "(internal/reflectlite.Value).Type", "(internal/reflectlite.Value).IsNil", "internal/reflectlite.TypeOf", "(internal/reflectlite.Value).Elem", "(internal/reflectlite.Value).Set"], unfollowed := true, recurses := true, named := ["errors.errorType"], apart := false, laid := [("errors.errorType", laid_errors_errorType)] }
def SpanLongSaid : Prop := spanLongRow.holds Tryd.pinned (OpenSpec.ofChange spanLongSpec)

/-- ITS FALSE NEIGHBOUR: 'it returns false'. Refute it at one input. -/
def spanLongWrong : ChangeSpec := { name := "spanLong", fn := fun _ => fun
  | [d] => { results := [.lit (.bool false)], args := [d] }
  | _ => none }
def SpanLongWrongFalsely : Prop := spanLongRow.holds Tryd.pinned (OpenSpec.ofChange spanLongWrong)

/-- 'packtrainkeep.SpanBack': WHATEVER THE INPUT: true; the input reads as it did. -/
def spanBackSpec : ChangeSpec := { name := "spanBack", fn := fun _ => fun
  | [d1, d2] => { results := [.lit (.bool true)], args := [d1, d2] }
  | _ => none }
def spanBackRow : OpenClaim := { program := "ytnfdcdnoipbjkaadoor", sum := "ef79b96d2af77557a84660bc7a1a6f44e048b75cd0563f2e75830a315d424407", func := "packtrain/packtrainkeep.SpanBack", spec := "spanBack", inPlace := ["internal/reflectlite.ValueOf", "(internal/reflectlite.Value).Type", "(internal/reflectlite.Value).IsNil", "internal/reflectlite.TypeOf", "(internal/reflectlite.Value).Elem", "(internal/reflectlite.Value).Set"], unfollowed := true, recurses := true, named := ["errors.errorType"], apart := false, laid := [("errors.errorType", laid_errors_errorType)] }
def SpanBackSaid : Prop := spanBackRow.holds Tryd.pinned (OpenSpec.ofChange spanBackSpec)

/-- ITS FALSE NEIGHBOUR: 'it returns false'. Refute it at one input. -/
def spanBackWrong : ChangeSpec := { name := "spanBack", fn := fun _ => fun
  | [d1, d2] => { results := [.lit (.bool false)], args := [d1, d2] }
  | _ => none }
def SpanBackWrongFalsely : Prop := spanBackRow.holds Tryd.pinned (OpenSpec.ofChange spanBackWrong)

/- THE SECOND FORM. 'bulk': how many values and letters a reading holds, each counted each time it is reached (what is shared counts as often as it is met; a slice's spare places count too). A statement '..UptoSaid' is the law's where the arguments, and the package variables that the reading takes, are together of bulk at most 1048576: NARROWER than '..Said'. Prove '..Said' where nothing that the law and all that it calls make is longer than what came in: it says more and counts as full. Else prove '..UptoSaid'. A law counts once. -/
mutual
def uptoBulk {H : Type} : DataW H → Nat
  | .lit (.string bytes) => bytes.length + 1
  | .lit _ => 1
  | .nil => 1
  | .ptr d => uptoBulk d + 1
  | .slice elems spare => uptoBulkAll elems + uptoBulkAll spare + 1
  | .agg parts => uptoBulkAll parts + 1
  | .iface _ d => uptoBulk d + 1
  | .map entries => uptoBulkEntries entries + 1
  | .held _ => 1
def uptoBulkAll {H : Type} : List (DataW H) → Nat
  | [] => 0
  | d :: r => uptoBulk d + uptoBulkAll r
def uptoBulkEntries {H : Type} : List (Lit × DataW H) → Nat
  | [] => 0
  | x :: r => uptoBulkEntry x + uptoBulkEntries r
def uptoBulkEntry {H : Type} : Lit × DataW H → Nat
  | (.string bytes, d) => bytes.length + uptoBulk d + 1
  | (_, d) => uptoBulk d + 1
 end
def uptoSmall : (H : Type) → List (DataW H) → Bool := fun _ ds => decide (uptoBulkAll ds ≤ 1048576)
def OpenSpec.upto (s : _root_.Go.ChangeSpec) : _root_.Go.OpenSpec := { _root_.Go.OpenSpec.ofChange s with cond := some uptoSmall }

/-- 'packtrainkeep.VaryBack', WHERE WHAT IT READS IS OF BULK AT MOST 1048576: true; the input reads as it did. -/
def varyBackUptoRow : OpenClaim := { program := "ytnfdcdnoipbjkaadoor", sum := "ef79b96d2af77557a84660bc7a1a6f44e048b75cd0563f2e75830a315d424407", func := "packtrain/packtrainkeep.VaryBack", spec := "varyBack", inPlace := ["internal/reflectlite.ValueOf", "(internal/reflectlite.Value).Type", "(internal/reflectlite.Value).IsNil", "internal/reflectlite.TypeOf", "(internal/reflectlite.Value).Elem", "(internal/reflectlite.Value).Set"], unfollowed := true, recurses := true, named := ["errors.errorType"], apart := false, laid := [("errors.errorType", laid_errors_errorType)], narrowed := true }
def VaryBackUptoSaid : Prop := varyBackUptoRow.holds Tryd.pinned (OpenSpec.upto varyBackSpec)

/-- 'packtrainkeep.VaryOnly', WHERE WHAT IT READS IS OF BULK AT MOST 1048576: true; the input reads as it did. -/
def varyOnlyUptoRow : OpenClaim := { program := "ytnfdcdnoipbjkaadoor", sum := "ef79b96d2af77557a84660bc7a1a6f44e048b75cd0563f2e75830a315d424407", func := "packtrain/packtrainkeep.VaryOnly", spec := "varyOnly", inPlace := ["internal/reflectlite.ValueOf", "(internal/reflectlite.Value).Type", "(internal/reflectlite.Value).IsNil", "internal/reflectlite.TypeOf", "(internal/reflectlite.Value).Elem", "(internal/reflectlite.Value).Set"], unfollowed := true, recurses := true, named := ["errors.errorType"], apart := false, laid := [("errors.errorType", laid_errors_errorType)], narrowed := true }
def VaryOnlyUptoSaid : Prop := varyOnlyUptoRow.holds Tryd.pinned (OpenSpec.upto varyOnlySpec)

/-- 'packtrainkeep.VaryLong', WHERE WHAT IT READS IS OF BULK AT MOST 1048576: true; the input reads as it did. -/
def varyLongUptoRow : OpenClaim := { program := "ytnfdcdnoipbjkaadoor", sum := "ef79b96d2af77557a84660bc7a1a6f44e048b75cd0563f2e75830a315d424407", func := "packtrain/packtrainkeep.VaryLong", spec := "varyLong", inPlace := ["internal/reflectlite.ValueOf", "(internal/reflectlite.Value).Type", "(internal/reflectlite.Value).IsNil", "internal/reflectlite.TypeOf", "(internal/reflectlite.Value).Elem", "(internal/reflectlite.Value).Set"], unfollowed := true, recurses := true, named := ["errors.errorType"], apart := false, laid := [("errors.errorType", laid_errors_errorType)], narrowed := true }
def VaryLongUptoSaid : Prop := varyLongUptoRow.holds Tryd.pinned (OpenSpec.upto varyLongSpec)

/-- 'packtrainkeep.VaryCut', WHERE WHAT IT READS IS OF BULK AT MOST 1048576: true; the input reads as it did. -/
def varyCutUptoRow : OpenClaim := { program := "ytnfdcdnoipbjkaadoor", sum := "ef79b96d2af77557a84660bc7a1a6f44e048b75cd0563f2e75830a315d424407", func := "packtrain/packtrainkeep.VaryCut", spec := "varyCut", inPlace := ["internal/reflectlite.ValueOf", "(internal/reflectlite.Value).Type", "(internal/reflectlite.Value).IsNil", "internal/reflectlite.TypeOf", "(internal/reflectlite.Value).Elem", "(internal/reflectlite.Value).Set"], unfollowed := true, recurses := true, named := ["errors.errorType"], apart := false, laid := [("errors.errorType", laid_errors_errorType)], narrowed := true }
def VaryCutUptoSaid : Prop := varyCutUptoRow.holds Tryd.pinned (OpenSpec.upto varyCutSpec)

/-- 'packtrainkeep.VaryBoth', WHERE WHAT IT READS IS OF BULK AT MOST 1048576: true; the input reads as it did. -/
def varyBothUptoRow : OpenClaim := { program := "ytnfdcdnoipbjkaadoor", sum := "ef79b96d2af77557a84660bc7a1a6f44e048b75cd0563f2e75830a315d424407", func := "packtrain/packtrainkeep.VaryBoth", spec := "varyBoth", inPlace := ["internal/reflectlite.ValueOf", "(internal/reflectlite.Value).Type", "(internal/reflectlite.Value).IsNil", "internal/reflectlite.TypeOf", "(internal/reflectlite.Value).Elem", "(internal/reflectlite.Value).Set"], unfollowed := true, recurses := true, named := ["errors.errorType"], apart := false, laid := [("errors.errorType", laid_errors_errorType)], narrowed := true }
def VaryBothUptoSaid : Prop := varyBothUptoRow.holds Tryd.pinned (OpenSpec.upto varyBothSpec)

/-- 'packtrainkeep.VaryOrder', WHERE WHAT IT READS IS OF BULK AT MOST 1048576: true; the input reads as it did. -/
def varyOrderUptoRow : OpenClaim := { program := "ytnfdcdnoipbjkaadoor", sum := "ef79b96d2af77557a84660bc7a1a6f44e048b75cd0563f2e75830a315d424407", func := "packtrain/packtrainkeep.VaryOrder", spec := "varyOrder", inPlace := ["internal/reflectlite.ValueOf", "(internal/reflectlite.Value).Type", "(internal/reflectlite.Value).IsNil", "internal/reflectlite.TypeOf", "(internal/reflectlite.Value).Elem", "(internal/reflectlite.Value).Set"], unfollowed := true, recurses := true, named := ["errors.errorType"], apart := false, laid := [("errors.errorType", laid_errors_errorType)], narrowed := true }
def VaryOrderUptoSaid : Prop := varyOrderUptoRow.holds Tryd.pinned (OpenSpec.upto varyOrderSpec)

/-- 'packtrainkeep.VaryMost', WHERE WHAT IT READS IS OF BULK AT MOST 1048576: true; the input reads as it did. -/
def varyMostUptoRow : OpenClaim := { program := "ytnfdcdnoipbjkaadoor", sum := "ef79b96d2af77557a84660bc7a1a6f44e048b75cd0563f2e75830a315d424407", func := "packtrain/packtrainkeep.VaryMost", spec := "varyMost", inPlace := ["internal/reflectlite.ValueOf", "(internal/reflectlite.Value).Type", "(internal/reflectlite.Value).IsNil", "internal/reflectlite.TypeOf", "(internal/reflectlite.Value).Elem", "(internal/reflectlite.Value).Set"], unfollowed := true, recurses := true, named := ["errors.errorType"], apart := false, laid := [("errors.errorType", laid_errors_errorType)], narrowed := true }
def VaryMostUptoSaid : Prop := varyMostUptoRow.holds Tryd.pinned (OpenSpec.upto varyMostSpec)

/-- 'packtrainkeep.SpanOnly', WHERE WHAT IT READS IS OF BULK AT MOST 1048576: true; the input reads as it did. -/
def spanOnlyUptoRow : OpenClaim := { program := "ytnfdcdnoipbjkaadoor", sum := "ef79b96d2af77557a84660bc7a1a6f44e048b75cd0563f2e75830a315d424407", func := "packtrain/packtrainkeep.SpanOnly", spec := "spanOnly", inPlace := ["internal/reflectlite.ValueOf", "(internal/reflectlite.Value).Type", "(internal/reflectlite.Value).IsNil", "internal/reflectlite.TypeOf", "(internal/reflectlite.Value).Elem", "(internal/reflectlite.Value).Set"], unfollowed := true, recurses := true, named := ["errors.errorType"], apart := false, laid := [("errors.errorType", laid_errors_errorType)], narrowed := true }
def SpanOnlyUptoSaid : Prop := spanOnlyUptoRow.holds Tryd.pinned (OpenSpec.upto spanOnlySpec)

/-- 'packtrainkeep.SpanCut', WHERE WHAT IT READS IS OF BULK AT MOST 1048576: true; the input reads as it did. -/
def spanCutUptoRow : OpenClaim := { program := "ytnfdcdnoipbjkaadoor", sum := "ef79b96d2af77557a84660bc7a1a6f44e048b75cd0563f2e75830a315d424407", func := "packtrain/packtrainkeep.SpanCut", spec := "spanCut", inPlace := ["internal/reflectlite.ValueOf", "(internal/reflectlite.Value).Type", "(internal/reflectlite.Value).IsNil", "internal/reflectlite.TypeOf", "(internal/reflectlite.Value).Elem", "(internal/reflectlite.Value).Set"], unfollowed := true, recurses := true, named := ["errors.errorType"], apart := false, laid := [("errors.errorType", laid_errors_errorType)], narrowed := true }
def SpanCutUptoSaid : Prop := spanCutUptoRow.holds Tryd.pinned (OpenSpec.upto spanCutSpec)

/-- 'packtrainkeep.SpanLong', WHERE WHAT IT READS IS OF BULK AT MOST 1048576: true; the input reads as it did. -/
def spanLongUptoRow : OpenClaim := { program := "ytnfdcdnoipbjkaadoor", sum := "ef79b96d2af77557a84660bc7a1a6f44e048b75cd0563f2e75830a315d424407", func := "packtrain/packtrainkeep.SpanLong", spec := "spanLong", inPlace := ["internal/reflectlite.ValueOf", "(internal/reflectlite.Value).Type", "(internal/reflectlite.Value).IsNil", "internal/reflectlite.TypeOf", "(internal/reflectlite.Value).Elem", "(internal/reflectlite.Value).Set"], unfollowed := true, recurses := true, named := ["errors.errorType"], apart := false, laid := [("errors.errorType", laid_errors_errorType)], narrowed := true }
def SpanLongUptoSaid : Prop := spanLongUptoRow.holds Tryd.pinned (OpenSpec.upto spanLongSpec)

/-- 'packtrainkeep.SpanBack', WHERE WHAT IT READS IS OF BULK AT MOST 1048576: true; the input reads as it did. -/
def spanBackUptoRow : OpenClaim := { program := "ytnfdcdnoipbjkaadoor", sum := "ef79b96d2af77557a84660bc7a1a6f44e048b75cd0563f2e75830a315d424407", func := "packtrain/packtrainkeep.SpanBack", spec := "spanBack", inPlace := ["internal/reflectlite.ValueOf", "(internal/reflectlite.Value).Type", "(internal/reflectlite.Value).IsNil", "internal/reflectlite.TypeOf", "(internal/reflectlite.Value).Elem", "(internal/reflectlite.Value).Set"], unfollowed := true, recurses := true, named := ["errors.errorType"], apart := false, laid := [("errors.errorType", laid_errors_errorType)], narrowed := true }
def SpanBackUptoSaid : Prop := spanBackUptoRow.holds Tryd.pinned (OpenSpec.upto spanBackSpec)

end Rows
end Go.Proofs.YtnfdcdnoipbjkaaDoor
