/-
  No cell of these rows narrows 'for every input' (looked for: loops, veiled, ifaces, maps, wideKeys, modest, calm, conditions, laid).
  DERIVED. THE GIVEN ROWS OF THIS SEAT. 6 by the template 'for every input the law returns true; each argument reads behind the call as it read before'; 0 by the template 'total and deterministic' (their statements: YthoaglemjleipaaTotals.lean).
  GIVEN WITH THE SEED: the statements are not yours to turn. If you find one false, say at which input.
  Laid BY PROGRAM, IN A SANDBOX (cutbox-rows.mjs): the forced cells as the released guide's own fill.sh prints them over the translation 4f0d6a9ccbfcc0d1… (all of the seat's roots in one cut). By AI agents, Wed Nov 11 2026. No macro, syntax, notation, axiom, sorry.
-/
import Derived.Test.YthoaglemjleipaaChecked
import GoSem.Claim
import GoSem.ClaimJoined
import GoSem.ClaimMapViews
import Derived.JoinedTies
import Derived.KernelRfl
namespace Go.Proofs.Ythoaglemjleipaa
/- THE CELL 'sum', in the pinned program and in every row, IS THE sha256 OF THE DUMP (.gsa) THAT YthoaglemjleipaaProg.lean LOADS. Nothing in Lean hashes anything: it is a label: what it is worth is what the hold of that sum in a sandbox is worth. -/
noncomputable def Try.pinned : Pinned := { name := "ythoaglemjleipaa", sum := "4f0d6a9ccbfcc0d13fa00154211ea66c9950e4457009191ff5d3bed46b6e3853", checked := Try.checked }
namespace Rows
def none {H : Type} : Left H := { results := [], args := [] }

/-- 'packtrainkeep.MatchReal': WHATEVER THE INPUT: true; the input reads as it did. -/
def matchRealSpec : ChangeSpec := { name := "matchReal", fn := fun _ => fun
  | [d1, d2] => { results := [.lit (.bool true)], args := [d1, d2] }
  | _ => none }
def matchRealRow : OpenClaim := { program := "ythoaglemjleipaa", sum := "4f0d6a9ccbfcc0d13fa00154211ea66c9950e4457009191ff5d3bed46b6e3853", func := "packtrain/packtrainkeep.MatchReal", spec := "matchReal", apart := false }
def MatchRealSaid : Prop := matchRealRow.holds Try.pinned (OpenSpec.ofChange matchRealSpec)

/-- ITS FALSE NEIGHBOUR: 'it returns false'. Refute it at one input. -/
def matchRealWrong : ChangeSpec := { name := "matchReal", fn := fun _ => fun
  | [d1, d2] => { results := [.lit (.bool false)], args := [d1, d2] }
  | _ => none }
def MatchRealWrongFalsely : Prop := matchRealRow.holds Try.pinned (OpenSpec.ofChange matchRealWrong)

/-- 'packtrainkeep.MatchMost': WHATEVER THE INPUT: true; the input reads as it did. -/
def matchMostSpec : ChangeSpec := { name := "matchMost", fn := fun _ => fun
  | [d1, d2, d3] => { results := [.lit (.bool true)], args := [d1, d2, d3] }
  | _ => none }
def matchMostRow : OpenClaim := { program := "ythoaglemjleipaa", sum := "4f0d6a9ccbfcc0d13fa00154211ea66c9950e4457009191ff5d3bed46b6e3853", func := "packtrain/packtrainkeep.MatchMost", spec := "matchMost", apart := false }
def MatchMostSaid : Prop := matchMostRow.holds Try.pinned (OpenSpec.ofChange matchMostSpec)

/-- ITS FALSE NEIGHBOUR: 'it returns false'. Refute it at one input. -/
def matchMostWrong : ChangeSpec := { name := "matchMost", fn := fun _ => fun
  | [d1, d2, d3] => { results := [.lit (.bool false)], args := [d1, d2, d3] }
  | _ => none }
def MatchMostWrongFalsely : Prop := matchMostRow.holds Try.pinned (OpenSpec.ofChange matchMostWrong)

/-- 'packtrainkeep.MatchText': WHATEVER THE INPUT: true; the input reads as it did. -/
def matchTextSpec : ChangeSpec := { name := "matchText", fn := fun _ => fun
  | [d] => { results := [.lit (.bool true)], args := [d] }
  | _ => none }
def matchTextRow : OpenClaim := { program := "ythoaglemjleipaa", sum := "4f0d6a9ccbfcc0d13fa00154211ea66c9950e4457009191ff5d3bed46b6e3853", func := "packtrain/packtrainkeep.MatchText", spec := "matchText", apart := false }
def MatchTextSaid : Prop := matchTextRow.holds Try.pinned (OpenSpec.ofChange matchTextSpec)

/-- ITS FALSE NEIGHBOUR: 'it returns false'. Refute it at one input. -/
def matchTextWrong : ChangeSpec := { name := "matchText", fn := fun _ => fun
  | [d] => { results := [.lit (.bool false)], args := [d] }
  | _ => none }
def MatchTextWrongFalsely : Prop := matchTextRow.holds Try.pinned (OpenSpec.ofChange matchTextWrong)

/-- 'packtrainkeep.MatchCut': WHATEVER THE INPUT: true; the input reads as it did. -/
def matchCutSpec : ChangeSpec := { name := "matchCut", fn := fun _ => fun
  | [d1, d2] => { results := [.lit (.bool true)], args := [d1, d2] }
  | _ => none }
def matchCutRow : OpenClaim := { program := "ythoaglemjleipaa", sum := "4f0d6a9ccbfcc0d13fa00154211ea66c9950e4457009191ff5d3bed46b6e3853", func := "packtrain/packtrainkeep.MatchCut", spec := "matchCut", apart := false }
def MatchCutSaid : Prop := matchCutRow.holds Try.pinned (OpenSpec.ofChange matchCutSpec)

/-- ITS FALSE NEIGHBOUR: 'it returns false'. Refute it at one input. -/
def matchCutWrong : ChangeSpec := { name := "matchCut", fn := fun _ => fun
  | [d1, d2] => { results := [.lit (.bool false)], args := [d1, d2] }
  | _ => none }
def MatchCutWrongFalsely : Prop := matchCutRow.holds Try.pinned (OpenSpec.ofChange matchCutWrong)

/-- 'packtrainkeep.MatchRuns': WHATEVER THE INPUT: true; the input reads as it did. -/
def matchRunsSpec : ChangeSpec := { name := "matchRuns", fn := fun _ => fun
  | [d1, d2] => { results := [.lit (.bool true)], args := [d1, d2] }
  | _ => none }
def matchRunsRow : OpenClaim := { program := "ythoaglemjleipaa", sum := "4f0d6a9ccbfcc0d13fa00154211ea66c9950e4457009191ff5d3bed46b6e3853", func := "packtrain/packtrainkeep.MatchRuns", spec := "matchRuns", inPlace := ["internal/abi.NoEscape", "internal/bytealg.MakeNoZero"], apart := false }
def MatchRunsSaid : Prop := matchRunsRow.holds Try.pinned (OpenSpec.ofChange matchRunsSpec)

/-- ITS FALSE NEIGHBOUR: 'it returns false'. Refute it at one input. -/
def matchRunsWrong : ChangeSpec := { name := "matchRuns", fn := fun _ => fun
  | [d1, d2] => { results := [.lit (.bool false)], args := [d1, d2] }
  | _ => none }
def MatchRunsWrongFalsely : Prop := matchRunsRow.holds Try.pinned (OpenSpec.ofChange matchRunsWrong)

/-- 'packtrainkeep.MatchFar': WHATEVER THE INPUT: true; the input reads as it did. -/
def matchFarSpec : ChangeSpec := { name := "matchFar", fn := fun _ => fun
  | [d1, d2, d3] => { results := [.lit (.bool true)], args := [d1, d2, d3] }
  | _ => none }
def matchFarRow : OpenClaim := { program := "ythoaglemjleipaa", sum := "4f0d6a9ccbfcc0d13fa00154211ea66c9950e4457009191ff5d3bed46b6e3853", func := "packtrain/packtrainkeep.MatchFar", spec := "matchFar", inPlace := ["internal/abi.NoEscape", "internal/bytealg.MakeNoZero"], apart := false }
def MatchFarSaid : Prop := matchFarRow.holds Try.pinned (OpenSpec.ofChange matchFarSpec)

/-- ITS FALSE NEIGHBOUR: 'it returns false'. Refute it at one input. -/
def matchFarWrong : ChangeSpec := { name := "matchFar", fn := fun _ => fun
  | [d1, d2, d3] => { results := [.lit (.bool false)], args := [d1, d2, d3] }
  | _ => none }
def MatchFarWrongFalsely : Prop := matchFarRow.holds Try.pinned (OpenSpec.ofChange matchFarWrong)

/- THE SECOND FORM. 'bulk': how many values and letters a reading holds, each counted each time it is reached (what is shared counts as often as it is met; a slice's spare places count too). A statement '..UptoSaid' is the law's where the arguments, and the package variables that the reading takes, are together of bulk at most 1048576: NARROWER than '..Said'. Prove '..Said' where nothing that the law and all that it calls make is longer than what came in: it says more and counts as full. Else prove '..UptoSaid'. A law counts once. -/
mutual
def uptoBulk {H : Type} : DataW H → Nat
  | .lit (.string bytes) => bytes.length + 1
  | .lit _ => 1
  | .nil => 1
  | .ptr d => uptoBulk d + 1
  | .slice elems spare => uptoBulkAll elems + uptoBulkAll spare + 1
  | .agg parts => uptoBulkAll parts + 1
  | .iface _ d => uptoBulk d + 1
  | .map entries => uptoBulkEntries entries + 1
  | .held _ => 1
def uptoBulkAll {H : Type} : List (DataW H) → Nat
  | [] => 0
  | d :: r => uptoBulk d + uptoBulkAll r
def uptoBulkEntries {H : Type} : List (Lit × DataW H) → Nat
  | [] => 0
  | x :: r => uptoBulkEntry x + uptoBulkEntries r
def uptoBulkEntry {H : Type} : Lit × DataW H → Nat
  | (.string bytes, d) => bytes.length + uptoBulk d + 1
  | (_, d) => uptoBulk d + 1
 end
def uptoSmall : (H : Type) → List (DataW H) → Bool := fun _ ds => decide (uptoBulkAll ds ≤ 1048576)
def OpenSpec.upto (s : _root_.Go.ChangeSpec) : _root_.Go.OpenSpec := { _root_.Go.OpenSpec.ofChange s with cond := some uptoSmall }

/-- 'packtrainkeep.MatchReal', WHERE WHAT IT READS IS OF BULK AT MOST 1048576: true; the input reads as it did. -/
def matchRealUptoRow : OpenClaim := { program := "ythoaglemjleipaa", sum := "4f0d6a9ccbfcc0d13fa00154211ea66c9950e4457009191ff5d3bed46b6e3853", func := "packtrain/packtrainkeep.MatchReal", spec := "matchReal", apart := false, narrowed := true }
def MatchRealUptoSaid : Prop := matchRealUptoRow.holds Try.pinned (OpenSpec.upto matchRealSpec)

/-- 'packtrainkeep.MatchMost', WHERE WHAT IT READS IS OF BULK AT MOST 1048576: true; the input reads as it did. -/
def matchMostUptoRow : OpenClaim := { program := "ythoaglemjleipaa", sum := "4f0d6a9ccbfcc0d13fa00154211ea66c9950e4457009191ff5d3bed46b6e3853", func := "packtrain/packtrainkeep.MatchMost", spec := "matchMost", apart := false, narrowed := true }
def MatchMostUptoSaid : Prop := matchMostUptoRow.holds Try.pinned (OpenSpec.upto matchMostSpec)

/-- 'packtrainkeep.MatchText', WHERE WHAT IT READS IS OF BULK AT MOST 1048576: true; the input reads as it did. -/
def matchTextUptoRow : OpenClaim := { program := "ythoaglemjleipaa", sum := "4f0d6a9ccbfcc0d13fa00154211ea66c9950e4457009191ff5d3bed46b6e3853", func := "packtrain/packtrainkeep.MatchText", spec := "matchText", apart := false, narrowed := true }
def MatchTextUptoSaid : Prop := matchTextUptoRow.holds Try.pinned (OpenSpec.upto matchTextSpec)

/-- 'packtrainkeep.MatchCut', WHERE WHAT IT READS IS OF BULK AT MOST 1048576: true; the input reads as it did. -/
def matchCutUptoRow : OpenClaim := { program := "ythoaglemjleipaa", sum := "4f0d6a9ccbfcc0d13fa00154211ea66c9950e4457009191ff5d3bed46b6e3853", func := "packtrain/packtrainkeep.MatchCut", spec := "matchCut", apart := false, narrowed := true }
def MatchCutUptoSaid : Prop := matchCutUptoRow.holds Try.pinned (OpenSpec.upto matchCutSpec)

/-- 'packtrainkeep.MatchRuns', WHERE WHAT IT READS IS OF BULK AT MOST 1048576: true; the input reads as it did. -/
def matchRunsUptoRow : OpenClaim := { program := "ythoaglemjleipaa", sum := "4f0d6a9ccbfcc0d13fa00154211ea66c9950e4457009191ff5d3bed46b6e3853", func := "packtrain/packtrainkeep.MatchRuns", spec := "matchRuns", inPlace := ["internal/abi.NoEscape", "internal/bytealg.MakeNoZero"], apart := false, narrowed := true }
def MatchRunsUptoSaid : Prop := matchRunsUptoRow.holds Try.pinned (OpenSpec.upto matchRunsSpec)

/-- 'packtrainkeep.MatchFar', WHERE WHAT IT READS IS OF BULK AT MOST 1048576: true; the input reads as it did. -/
def matchFarUptoRow : OpenClaim := { program := "ythoaglemjleipaa", sum := "4f0d6a9ccbfcc0d13fa00154211ea66c9950e4457009191ff5d3bed46b6e3853", func := "packtrain/packtrainkeep.MatchFar", spec := "matchFar", inPlace := ["internal/abi.NoEscape", "internal/bytealg.MakeNoZero"], apart := false, narrowed := true }
def MatchFarUptoSaid : Prop := matchFarUptoRow.holds Try.pinned (OpenSpec.upto matchFarSpec)

end Rows
end Go.Proofs.Ythoaglemjleipaa
