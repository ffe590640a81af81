/-
  No cell of these rows narrows 'for every input' (looked for: loops, veiled, ifaces, maps, wideKeys, modest, calm, conditions, laid).
  DERIVED. THE GIVEN ROWS OF THIS SEAT. 10 by the template 'for every input the law returns true; each argument reads behind the call as it read before'; 0 by the template 'total and deterministic' (their statements: YtmjgminajkhfdaaTotals.lean).
  GIVEN WITH THE SEED: the statements are not yours to turn. If you find one false, say at which input.
  Laid BY PROGRAM, IN A SANDBOX (cutbox-rows.mjs): the forced cells as the released guide's own fill.sh prints them over the translation fbcdc6e3d277186f… (all of the seat's roots in one cut). By AI agents, Wed Nov 11 2026. No macro, syntax, notation, axiom, sorry.
-/
import Derived.Test.YtmjgminajkhfdaaChecked
import GoSem.Claim
import GoSem.ClaimJoined
import GoSem.ClaimMapViews
import Derived.JoinedTies
import Derived.KernelRfl
namespace Go.Proofs.Ytmjgminajkhfdaa
/- THE CELL 'sum', in the pinned program and in every row, IS THE sha256 OF THE DUMP (.gsa) THAT YtmjgminajkhfdaaProg.lean LOADS. Nothing in Lean hashes anything: it is a label: what it is worth is what the hold of that sum in a sandbox is worth. -/
noncomputable def Try.pinned : Pinned := { name := "ytmjgminajkhfdaa", sum := "fbcdc6e3d277186f074c11a0d875f1c3f778dc71a2046c12f6fd302f4ee4f0d1", checked := Try.checked }
namespace Rows
def none {H : Type} : Left H := { results := [], args := [] }

/-- 'packtrainkeep.LinkTwice': WHATEVER THE INPUT: true; the input reads as it did. -/
def linkTwiceSpec : ChangeSpec := { name := "linkTwice", fn := fun _ => fun
  | [d1, d2] => { results := [.lit (.bool true)], args := [d1, d2] }
  | _ => none }
def linkTwiceRow : OpenClaim := { program := "ytmjgminajkhfdaa", sum := "fbcdc6e3d277186f074c11a0d875f1c3f778dc71a2046c12f6fd302f4ee4f0d1", func := "packtrain/packtrainkeep.LinkTwice", spec := "linkTwice", apart := false }
def LinkTwiceSaid : Prop := linkTwiceRow.holds Try.pinned (OpenSpec.ofChange linkTwiceSpec)

/-- ITS FALSE NEIGHBOUR: 'it returns false'. Refute it at one input. -/
def linkTwiceWrong : ChangeSpec := { name := "linkTwice", fn := fun _ => fun
  | [d1, d2] => { results := [.lit (.bool false)], args := [d1, d2] }
  | _ => none }
def LinkTwiceWrongFalsely : Prop := linkTwiceRow.holds Try.pinned (OpenSpec.ofChange linkTwiceWrong)

/-- 'packtrainkeep.CrcMore': WHATEVER THE INPUT: true; the input reads as it did. -/
def crcMoreSpec : ChangeSpec := { name := "crcMore", fn := fun _ => fun
  | [d1, d2] => { results := [.lit (.bool true)], args := [d1, d2] }
  | _ => none }
def crcMoreRow : OpenClaim := { program := "ytmjgminajkhfdaa", sum := "fbcdc6e3d277186f074c11a0d875f1c3f778dc71a2046c12f6fd302f4ee4f0d1", func := "packtrain/packtrainkeep.CrcMore", spec := "crcMore", apart := false }
def CrcMoreSaid : Prop := crcMoreRow.holds Try.pinned (OpenSpec.ofChange crcMoreSpec)

/-- ITS FALSE NEIGHBOUR: 'it returns false'. Refute it at one input. -/
def crcMoreWrong : ChangeSpec := { name := "crcMore", fn := fun _ => fun
  | [d1, d2] => { results := [.lit (.bool false)], args := [d1, d2] }
  | _ => none }
def CrcMoreWrongFalsely : Prop := crcMoreRow.holds Try.pinned (OpenSpec.ofChange crcMoreWrong)

/-- 'packtrainkeep.CrcEven': WHATEVER THE INPUT: true; the input reads as it did. -/
def crcEvenSpec : ChangeSpec := { name := "crcEven", fn := fun _ => fun
  | [d1, d2, d3] => { results := [.lit (.bool true)], args := [d1, d2, d3] }
  | _ => none }
def crcEvenRow : OpenClaim := { program := "ytmjgminajkhfdaa", sum := "fbcdc6e3d277186f074c11a0d875f1c3f778dc71a2046c12f6fd302f4ee4f0d1", func := "packtrain/packtrainkeep.CrcEven", spec := "crcEven", apart := false }
def CrcEvenSaid : Prop := crcEvenRow.holds Try.pinned (OpenSpec.ofChange crcEvenSpec)

/-- ITS FALSE NEIGHBOUR: 'it returns false'. Refute it at one input. -/
def crcEvenWrong : ChangeSpec := { name := "crcEven", fn := fun _ => fun
  | [d1, d2, d3] => { results := [.lit (.bool false)], args := [d1, d2, d3] }
  | _ => none }
def CrcEvenWrongFalsely : Prop := crcEvenRow.holds Try.pinned (OpenSpec.ofChange crcEvenWrong)

/-- 'packtrainkeep.CrcShift': WHATEVER THE INPUT: true; the input reads as it did. -/
def crcShiftSpec : ChangeSpec := { name := "crcShift", fn := fun _ => fun
  | [d1, d2, d3, d4, d5] => { results := [.lit (.bool true)], args := [d1, d2, d3, d4, d5] }
  | _ => none }
def crcShiftRow : OpenClaim := { program := "ytmjgminajkhfdaa", sum := "fbcdc6e3d277186f074c11a0d875f1c3f778dc71a2046c12f6fd302f4ee4f0d1", func := "packtrain/packtrainkeep.CrcShift", spec := "crcShift", unfollowed := true, recurses := true, apart := false }
def CrcShiftSaid : Prop := crcShiftRow.holds Try.pinned (OpenSpec.ofChange crcShiftSpec)

/-- ITS FALSE NEIGHBOUR: 'it returns false'. Refute it at one input. -/
def crcShiftWrong : ChangeSpec := { name := "crcShift", fn := fun _ => fun
  | [d1, d2, d3, d4, d5] => { results := [.lit (.bool false)], args := [d1, d2, d3, d4, d5] }
  | _ => none }
def CrcShiftWrongFalsely : Prop := crcShiftRow.holds Try.pinned (OpenSpec.ofChange crcShiftWrong)

/-- 'packtrainkeep.CrcBack': WHATEVER THE INPUT: true; the input reads as it did. -/
def crcBackSpec : ChangeSpec := { name := "crcBack", fn := fun _ => fun
  | [d1, d2] => { results := [.lit (.bool true)], args := [d1, d2] }
  | _ => none }
def crcBackRow : OpenClaim := { program := "ytmjgminajkhfdaa", sum := "fbcdc6e3d277186f074c11a0d875f1c3f778dc71a2046c12f6fd302f4ee4f0d1", func := "packtrain/packtrainkeep.CrcBack", spec := "crcBack", apart := false }
def CrcBackSaid : Prop := crcBackRow.holds Try.pinned (OpenSpec.ofChange crcBackSpec)

/-- ITS FALSE NEIGHBOUR: 'it returns false'. Refute it at one input. -/
def crcBackWrong : ChangeSpec := { name := "crcBack", fn := fun _ => fun
  | [d1, d2] => { results := [.lit (.bool false)], args := [d1, d2] }
  | _ => none }
def CrcBackWrongFalsely : Prop := crcBackRow.holds Try.pinned (OpenSpec.ofChange crcBackWrong)

/-- 'packtrainkeep.CrcBurst': WHATEVER THE INPUT: true; the input reads as it did. -/
def crcBurstSpec : ChangeSpec := { name := "crcBurst", fn := fun _ => fun
  | [d1, d2, d3] => { results := [.lit (.bool true)], args := [d1, d2, d3] }
  | _ => none }
def crcBurstRow : OpenClaim := { program := "ytmjgminajkhfdaa", sum := "fbcdc6e3d277186f074c11a0d875f1c3f778dc71a2046c12f6fd302f4ee4f0d1", func := "packtrain/packtrainkeep.CrcBurst", spec := "crcBurst", apart := false }
def CrcBurstSaid : Prop := crcBurstRow.holds Try.pinned (OpenSpec.ofChange crcBurstSpec)

/-- ITS FALSE NEIGHBOUR: 'it returns false'. Refute it at one input. -/
def crcBurstWrong : ChangeSpec := { name := "crcBurst", fn := fun _ => fun
  | [d1, d2, d3] => { results := [.lit (.bool false)], args := [d1, d2, d3] }
  | _ => none }
def CrcBurstWrongFalsely : Prop := crcBurstRow.holds Try.pinned (OpenSpec.ofChange crcBurstWrong)

/-- 'packtrainkeep.IdentOrder': WHATEVER THE INPUT: true; the input reads as it did. -/
def identOrderSpec : ChangeSpec := { name := "identOrder", fn := fun _ => fun
  | [d1, d2, d3] => { results := [.lit (.bool true)], args := [d1, d2, d3] }
  | _ => none }
def identOrderRow : OpenClaim := { program := "ytmjgminajkhfdaa", sum := "fbcdc6e3d277186f074c11a0d875f1c3f778dc71a2046c12f6fd302f4ee4f0d1", func := "packtrain/packtrainkeep.IdentOrder", spec := "identOrder", apart := false }
def IdentOrderSaid : Prop := identOrderRow.holds Try.pinned (OpenSpec.ofChange identOrderSpec)

/-- ITS FALSE NEIGHBOUR: 'it returns false'. Refute it at one input. -/
def identOrderWrong : ChangeSpec := { name := "identOrder", fn := fun _ => fun
  | [d1, d2, d3] => { results := [.lit (.bool false)], args := [d1, d2, d3] }
  | _ => none }
def IdentOrderWrongFalsely : Prop := identOrderRow.holds Try.pinned (OpenSpec.ofChange identOrderWrong)

/-- 'packtrainkeep.CrcJoin': WHATEVER THE INPUT: true; the input reads as it did. -/
def crcJoinSpec : ChangeSpec := { name := "crcJoin", fn := fun _ => fun
  | [d1, d2] => { results := [.lit (.bool true)], args := [d1, d2] }
  | _ => none }
def crcJoinRow : OpenClaim := { program := "ytmjgminajkhfdaa", sum := "fbcdc6e3d277186f074c11a0d875f1c3f778dc71a2046c12f6fd302f4ee4f0d1", func := "packtrain/packtrainkeep.CrcJoin", spec := "crcJoin", apart := false }
def CrcJoinSaid : Prop := crcJoinRow.holds Try.pinned (OpenSpec.ofChange crcJoinSpec)

/-- ITS FALSE NEIGHBOUR: 'it returns false'. Refute it at one input. -/
def crcJoinWrong : ChangeSpec := { name := "crcJoin", fn := fun _ => fun
  | [d1, d2] => { results := [.lit (.bool false)], args := [d1, d2] }
  | _ => none }
def CrcJoinWrongFalsely : Prop := crcJoinRow.holds Try.pinned (OpenSpec.ofChange crcJoinWrong)

/-- 'packtrainkeep.CrcThree': WHATEVER THE INPUT: true; the input reads as it did. -/
def crcThreeSpec : ChangeSpec := { name := "crcThree", fn := fun _ => fun
  | [d1, d2, d3, d4, d5] => { results := [.lit (.bool true)], args := [d1, d2, d3, d4, d5] }
  | _ => none }
def crcThreeRow : OpenClaim := { program := "ytmjgminajkhfdaa", sum := "fbcdc6e3d277186f074c11a0d875f1c3f778dc71a2046c12f6fd302f4ee4f0d1", func := "packtrain/packtrainkeep.CrcThree", spec := "crcThree", apart := false }
def CrcThreeSaid : Prop := crcThreeRow.holds Try.pinned (OpenSpec.ofChange crcThreeSpec)

/-- ITS FALSE NEIGHBOUR: 'it returns false'. Refute it at one input. -/
def crcThreeWrong : ChangeSpec := { name := "crcThree", fn := fun _ => fun
  | [d1, d2, d3, d4, d5] => { results := [.lit (.bool false)], args := [d1, d2, d3, d4, d5] }
  | _ => none }
def CrcThreeWrongFalsely : Prop := crcThreeRow.holds Try.pinned (OpenSpec.ofChange crcThreeWrong)

/-- 'packtrainkeep.CrcNone': WHATEVER THE INPUT: true; the input reads as it did. -/
def crcNoneSpec : ChangeSpec := { name := "crcNone", fn := fun _ => fun
  | [d1, d2] => { results := [.lit (.bool true)], args := [d1, d2] }
  | _ => none }
def crcNoneRow : OpenClaim := { program := "ytmjgminajkhfdaa", sum := "fbcdc6e3d277186f074c11a0d875f1c3f778dc71a2046c12f6fd302f4ee4f0d1", func := "packtrain/packtrainkeep.CrcNone", spec := "crcNone", apart := false }
def CrcNoneSaid : Prop := crcNoneRow.holds Try.pinned (OpenSpec.ofChange crcNoneSpec)

/-- ITS FALSE NEIGHBOUR: 'it returns false'. Refute it at one input. -/
def crcNoneWrong : ChangeSpec := { name := "crcNone", fn := fun _ => fun
  | [d1, d2] => { results := [.lit (.bool false)], args := [d1, d2] }
  | _ => none }
def CrcNoneWrongFalsely : Prop := crcNoneRow.holds Try.pinned (OpenSpec.ofChange crcNoneWrong)

/- THE SECOND FORM. 'bulk': how many values and letters a reading holds, each counted each time it is reached (what is shared counts as often as it is met; a slice's spare places count too). A statement '..UptoSaid' is the law's where the arguments, and the package variables that the reading takes, are together of bulk at most 1048576: NARROWER than '..Said'. Prove '..Said' where nothing that the law and all that it calls make is longer than what came in: it says more and counts as full. Else prove '..UptoSaid'. A law counts once. -/
mutual
def uptoBulk {H : Type} : DataW H → Nat
  | .lit (.string bytes) => bytes.length + 1
  | .lit _ => 1
  | .nil => 1
  | .ptr d => uptoBulk d + 1
  | .slice elems spare => uptoBulkAll elems + uptoBulkAll spare + 1
  | .agg parts => uptoBulkAll parts + 1
  | .iface _ d => uptoBulk d + 1
  | .map entries => uptoBulkEntries entries + 1
  | .held _ => 1
def uptoBulkAll {H : Type} : List (DataW H) → Nat
  | [] => 0
  | d :: r => uptoBulk d + uptoBulkAll r
def uptoBulkEntries {H : Type} : List (Lit × DataW H) → Nat
  | [] => 0
  | x :: r => uptoBulkEntry x + uptoBulkEntries r
def uptoBulkEntry {H : Type} : Lit × DataW H → Nat
  | (.string bytes, d) => bytes.length + uptoBulk d + 1
  | (_, d) => uptoBulk d + 1
 end
def uptoSmall : (H : Type) → List (DataW H) → Bool := fun _ ds => decide (uptoBulkAll ds ≤ 1048576)
def OpenSpec.upto (s : _root_.Go.ChangeSpec) : _root_.Go.OpenSpec := { _root_.Go.OpenSpec.ofChange s with cond := some uptoSmall }

/-- 'packtrainkeep.LinkTwice', WHERE WHAT IT READS IS OF BULK AT MOST 1048576: true; the input reads as it did. -/
def linkTwiceUptoRow : OpenClaim := { program := "ytmjgminajkhfdaa", sum := "fbcdc6e3d277186f074c11a0d875f1c3f778dc71a2046c12f6fd302f4ee4f0d1", func := "packtrain/packtrainkeep.LinkTwice", spec := "linkTwice", apart := false, narrowed := true }
def LinkTwiceUptoSaid : Prop := linkTwiceUptoRow.holds Try.pinned (OpenSpec.upto linkTwiceSpec)

/-- 'packtrainkeep.CrcMore', WHERE WHAT IT READS IS OF BULK AT MOST 1048576: true; the input reads as it did. -/
def crcMoreUptoRow : OpenClaim := { program := "ytmjgminajkhfdaa", sum := "fbcdc6e3d277186f074c11a0d875f1c3f778dc71a2046c12f6fd302f4ee4f0d1", func := "packtrain/packtrainkeep.CrcMore", spec := "crcMore", apart := false, narrowed := true }
def CrcMoreUptoSaid : Prop := crcMoreUptoRow.holds Try.pinned (OpenSpec.upto crcMoreSpec)

/-- 'packtrainkeep.CrcEven', WHERE WHAT IT READS IS OF BULK AT MOST 1048576: true; the input reads as it did. -/
def crcEvenUptoRow : OpenClaim := { program := "ytmjgminajkhfdaa", sum := "fbcdc6e3d277186f074c11a0d875f1c3f778dc71a2046c12f6fd302f4ee4f0d1", func := "packtrain/packtrainkeep.CrcEven", spec := "crcEven", apart := false, narrowed := true }
def CrcEvenUptoSaid : Prop := crcEvenUptoRow.holds Try.pinned (OpenSpec.upto crcEvenSpec)

/-- 'packtrainkeep.CrcShift', WHERE WHAT IT READS IS OF BULK AT MOST 1048576: true; the input reads as it did. -/
def crcShiftUptoRow : OpenClaim := { program := "ytmjgminajkhfdaa", sum := "fbcdc6e3d277186f074c11a0d875f1c3f778dc71a2046c12f6fd302f4ee4f0d1", func := "packtrain/packtrainkeep.CrcShift", spec := "crcShift", unfollowed := true, recurses := true, apart := false, narrowed := true }
def CrcShiftUptoSaid : Prop := crcShiftUptoRow.holds Try.pinned (OpenSpec.upto crcShiftSpec)

/-- 'packtrainkeep.CrcBack', WHERE WHAT IT READS IS OF BULK AT MOST 1048576: true; the input reads as it did. -/
def crcBackUptoRow : OpenClaim := { program := "ytmjgminajkhfdaa", sum := "fbcdc6e3d277186f074c11a0d875f1c3f778dc71a2046c12f6fd302f4ee4f0d1", func := "packtrain/packtrainkeep.CrcBack", spec := "crcBack", apart := false, narrowed := true }
def CrcBackUptoSaid : Prop := crcBackUptoRow.holds Try.pinned (OpenSpec.upto crcBackSpec)

/-- 'packtrainkeep.CrcBurst', WHERE WHAT IT READS IS OF BULK AT MOST 1048576: true; the input reads as it did. -/
def crcBurstUptoRow : OpenClaim := { program := "ytmjgminajkhfdaa", sum := "fbcdc6e3d277186f074c11a0d875f1c3f778dc71a2046c12f6fd302f4ee4f0d1", func := "packtrain/packtrainkeep.CrcBurst", spec := "crcBurst", apart := false, narrowed := true }
def CrcBurstUptoSaid : Prop := crcBurstUptoRow.holds Try.pinned (OpenSpec.upto crcBurstSpec)

/-- 'packtrainkeep.IdentOrder', WHERE WHAT IT READS IS OF BULK AT MOST 1048576: true; the input reads as it did. -/
def identOrderUptoRow : OpenClaim := { program := "ytmjgminajkhfdaa", sum := "fbcdc6e3d277186f074c11a0d875f1c3f778dc71a2046c12f6fd302f4ee4f0d1", func := "packtrain/packtrainkeep.IdentOrder", spec := "identOrder", apart := false, narrowed := true }
def IdentOrderUptoSaid : Prop := identOrderUptoRow.holds Try.pinned (OpenSpec.upto identOrderSpec)

/-- 'packtrainkeep.CrcJoin', WHERE WHAT IT READS IS OF BULK AT MOST 1048576: true; the input reads as it did. -/
def crcJoinUptoRow : OpenClaim := { program := "ytmjgminajkhfdaa", sum := "fbcdc6e3d277186f074c11a0d875f1c3f778dc71a2046c12f6fd302f4ee4f0d1", func := "packtrain/packtrainkeep.CrcJoin", spec := "crcJoin", apart := false, narrowed := true }
def CrcJoinUptoSaid : Prop := crcJoinUptoRow.holds Try.pinned (OpenSpec.upto crcJoinSpec)

/-- 'packtrainkeep.CrcThree', WHERE WHAT IT READS IS OF BULK AT MOST 1048576: true; the input reads as it did. -/
def crcThreeUptoRow : OpenClaim := { program := "ytmjgminajkhfdaa", sum := "fbcdc6e3d277186f074c11a0d875f1c3f778dc71a2046c12f6fd302f4ee4f0d1", func := "packtrain/packtrainkeep.CrcThree", spec := "crcThree", apart := false, narrowed := true }
def CrcThreeUptoSaid : Prop := crcThreeUptoRow.holds Try.pinned (OpenSpec.upto crcThreeSpec)

/-- 'packtrainkeep.CrcNone', WHERE WHAT IT READS IS OF BULK AT MOST 1048576: true; the input reads as it did. -/
def crcNoneUptoRow : OpenClaim := { program := "ytmjgminajkhfdaa", sum := "fbcdc6e3d277186f074c11a0d875f1c3f778dc71a2046c12f6fd302f4ee4f0d1", func := "packtrain/packtrainkeep.CrcNone", spec := "crcNone", apart := false, narrowed := true }
def CrcNoneUptoSaid : Prop := crcNoneUptoRow.holds Try.pinned (OpenSpec.upto crcNoneSpec)

end Rows
end Go.Proofs.Ytmjgminajkhfdaa
