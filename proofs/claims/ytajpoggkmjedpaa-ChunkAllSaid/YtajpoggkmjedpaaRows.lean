/-
  No cell of these rows narrows 'for every input' (looked for: loops, veiled, ifaces, maps, wideKeys, modest, calm, conditions, laid).
  DERIVED. THE GIVEN ROWS OF THIS SEAT. 6 by the template 'for every input the law returns true; each argument reads behind the call as it read before'; 0 by the template 'total and deterministic' (their statements: YtajpoggkmjedpaaTotals.lean).
  GIVEN WITH THE SEED: the statements are not yours to turn. If you find one false, say at which input.
  Laid BY PROGRAM, IN A SANDBOX (cutbox-rows.mjs): the forced cells as the released guide's own fill.sh prints them over the translation 8ca6794ff101075a… (all of the seat's roots in one cut). By AI agents, Wed Nov 11 2026. No macro, syntax, notation, axiom, sorry.
-/
import Derived.Test.YtajpoggkmjedpaaChecked
import GoSem.Claim
import GoSem.ClaimJoined
import GoSem.ClaimMapViews
import Derived.JoinedTies
import Derived.KernelRfl
namespace Go.Proofs.Ytajpoggkmjedpaa
/- THE CELL 'sum', in the pinned program and in every row, IS THE sha256 OF THE DUMP (.gsa) THAT YtajpoggkmjedpaaProg.lean LOADS. Nothing in Lean hashes anything: it is a label: what it is worth is what the hold of that sum in a sandbox is worth. -/
noncomputable def Try.pinned : Pinned := { name := "ytajpoggkmjedpaa", sum := "8ca6794ff101075af6bdda9ee990e2a77e2bfa0700d0f687b713a1f0fce56727", checked := Try.checked }
namespace Rows
def none {H : Type} : Left H := { results := [], args := [] }

/-- 'packtrainkeep.MatchCut': WHATEVER THE INPUT: true; the input reads as it did. -/
def matchCutSpec : ChangeSpec := { name := "matchCut", fn := fun _ => fun
  | [d1, d2] => { results := [.lit (.bool true)], args := [d1, d2] }
  | _ => none }
def matchCutRow : OpenClaim := { program := "ytajpoggkmjedpaa", sum := "8ca6794ff101075af6bdda9ee990e2a77e2bfa0700d0f687b713a1f0fce56727", func := "packtrain/packtrainkeep.MatchCut", spec := "matchCut", apart := false }
def MatchCutSaid : Prop := matchCutRow.holds Try.pinned (OpenSpec.ofChange matchCutSpec)

/-- ITS FALSE NEIGHBOUR: 'it returns false'. Refute it at one input. -/
def matchCutWrong : ChangeSpec := { name := "matchCut", fn := fun _ => fun
  | [d1, d2] => { results := [.lit (.bool false)], args := [d1, d2] }
  | _ => none }
def MatchCutWrongFalsely : Prop := matchCutRow.holds Try.pinned (OpenSpec.ofChange matchCutWrong)

/-- 'packtrainkeep.MatchRuns': WHATEVER THE INPUT: true; the input reads as it did. -/
def matchRunsSpec : ChangeSpec := { name := "matchRuns", fn := fun _ => fun
  | [d1, d2] => { results := [.lit (.bool true)], args := [d1, d2] }
  | _ => none }
def matchRunsRow : OpenClaim := { program := "ytajpoggkmjedpaa", sum := "8ca6794ff101075af6bdda9ee990e2a77e2bfa0700d0f687b713a1f0fce56727", func := "packtrain/packtrainkeep.MatchRuns", spec := "matchRuns", inPlace := ["internal/abi.NoEscape", "internal/bytealg.MakeNoZero"], apart := false }
def MatchRunsSaid : Prop := matchRunsRow.holds Try.pinned (OpenSpec.ofChange matchRunsSpec)

/-- ITS FALSE NEIGHBOUR: 'it returns false'. Refute it at one input. -/
def matchRunsWrong : ChangeSpec := { name := "matchRuns", fn := fun _ => fun
  | [d1, d2] => { results := [.lit (.bool false)], args := [d1, d2] }
  | _ => none }
def MatchRunsWrongFalsely : Prop := matchRunsRow.holds Try.pinned (OpenSpec.ofChange matchRunsWrong)

/-- 'packtrainkeep.ChunkBack': WHATEVER THE INPUT: true; the input reads as it did. -/
def chunkBackSpec : ChangeSpec := { name := "chunkBack", fn := fun _ => fun
  | [d1, d2] => { results := [.lit (.bool true)], args := [d1, d2] }
  | _ => none }
def chunkBackRow : OpenClaim := { program := "ytajpoggkmjedpaa", sum := "8ca6794ff101075af6bdda9ee990e2a77e2bfa0700d0f687b713a1f0fce56727", func := "packtrain/packtrainkeep.ChunkBack", spec := "chunkBack", apart := false }
def ChunkBackSaid : Prop := chunkBackRow.holds Try.pinned (OpenSpec.ofChange chunkBackSpec)

/-- ITS FALSE NEIGHBOUR: 'it returns false'. Refute it at one input. -/
def chunkBackWrong : ChangeSpec := { name := "chunkBack", fn := fun _ => fun
  | [d1, d2] => { results := [.lit (.bool false)], args := [d1, d2] }
  | _ => none }
def ChunkBackWrongFalsely : Prop := chunkBackRow.holds Try.pinned (OpenSpec.ofChange chunkBackWrong)

/-- 'packtrainkeep.ChunkAll': WHATEVER THE INPUT: true; the input reads as it did. -/
def chunkAllSpec : ChangeSpec := { name := "chunkAll", fn := fun _ => fun
  | [d1, d2] => { results := [.lit (.bool true)], args := [d1, d2] }
  | _ => none }
def chunkAllRow : OpenClaim := { program := "ytajpoggkmjedpaa", sum := "8ca6794ff101075af6bdda9ee990e2a77e2bfa0700d0f687b713a1f0fce56727", func := "packtrain/packtrainkeep.ChunkAll", spec := "chunkAll", apart := false }
def ChunkAllSaid : Prop := chunkAllRow.holds Try.pinned (OpenSpec.ofChange chunkAllSpec)

/-- ITS FALSE NEIGHBOUR: 'it returns false'. Refute it at one input. -/
def chunkAllWrong : ChangeSpec := { name := "chunkAll", fn := fun _ => fun
  | [d1, d2] => { results := [.lit (.bool false)], args := [d1, d2] }
  | _ => none }
def ChunkAllWrongFalsely : Prop := chunkAllRow.holds Try.pinned (OpenSpec.ofChange chunkAllWrong)

/-- 'packtrainkeep.ChunkTurned': WHATEVER THE INPUT: true; the input reads as it did. -/
def chunkTurnedSpec : ChangeSpec := { name := "chunkTurned", fn := fun _ => fun
  | [d1, d2, d3] => { results := [.lit (.bool true)], args := [d1, d2, d3] }
  | _ => none }
def chunkTurnedRow : OpenClaim := { program := "ytajpoggkmjedpaa", sum := "8ca6794ff101075af6bdda9ee990e2a77e2bfa0700d0f687b713a1f0fce56727", func := "packtrain/packtrainkeep.ChunkTurned", spec := "chunkTurned", apart := false }
def ChunkTurnedSaid : Prop := chunkTurnedRow.holds Try.pinned (OpenSpec.ofChange chunkTurnedSpec)

/-- ITS FALSE NEIGHBOUR: 'it returns false'. Refute it at one input. -/
def chunkTurnedWrong : ChangeSpec := { name := "chunkTurned", fn := fun _ => fun
  | [d1, d2, d3] => { results := [.lit (.bool false)], args := [d1, d2, d3] }
  | _ => none }
def ChunkTurnedWrongFalsely : Prop := chunkTurnedRow.holds Try.pinned (OpenSpec.ofChange chunkTurnedWrong)

/-- 'packtrainkeep.ChunkMany': WHATEVER THE INPUT: true; the input reads as it did. -/
def chunkManySpec : ChangeSpec := { name := "chunkMany", fn := fun _ => fun
  | [d1, d2] => { results := [.lit (.bool true)], args := [d1, d2] }
  | _ => none }
def chunkManyRow : OpenClaim := { program := "ytajpoggkmjedpaa", sum := "8ca6794ff101075af6bdda9ee990e2a77e2bfa0700d0f687b713a1f0fce56727", func := "packtrain/packtrainkeep.ChunkMany", spec := "chunkMany", inPlace := ["internal/abi.NoEscape", "internal/bytealg.MakeNoZero"], apart := false }
def ChunkManySaid : Prop := chunkManyRow.holds Try.pinned (OpenSpec.ofChange chunkManySpec)

/-- ITS FALSE NEIGHBOUR: 'it returns false'. Refute it at one input. -/
def chunkManyWrong : ChangeSpec := { name := "chunkMany", fn := fun _ => fun
  | [d1, d2] => { results := [.lit (.bool false)], args := [d1, d2] }
  | _ => none }
def ChunkManyWrongFalsely : Prop := chunkManyRow.holds Try.pinned (OpenSpec.ofChange chunkManyWrong)

/- THE SECOND FORM. 'bulk': how many values and letters a reading holds, each counted each time it is reached (what is shared counts as often as it is met; a slice's spare places count too). A statement '..UptoSaid' is the law's where the arguments, and the package variables that the reading takes, are together of bulk at most 1048576: NARROWER than '..Said'. Prove '..Said' where nothing that the law and all that it calls make is longer than what came in: it says more and counts as full. Else prove '..UptoSaid'. A law counts once. -/
mutual
def uptoBulk {H : Type} : DataW H → Nat
  | .lit (.string bytes) => bytes.length + 1
  | .lit _ => 1
  | .nil => 1
  | .ptr d => uptoBulk d + 1
  | .slice elems spare => uptoBulkAll elems + uptoBulkAll spare + 1
  | .agg parts => uptoBulkAll parts + 1
  | .iface _ d => uptoBulk d + 1
  | .map entries => uptoBulkEntries entries + 1
  | .held _ => 1
def uptoBulkAll {H : Type} : List (DataW H) → Nat
  | [] => 0
  | d :: r => uptoBulk d + uptoBulkAll r
def uptoBulkEntries {H : Type} : List (Lit × DataW H) → Nat
  | [] => 0
  | x :: r => uptoBulkEntry x + uptoBulkEntries r
def uptoBulkEntry {H : Type} : Lit × DataW H → Nat
  | (.string bytes, d) => bytes.length + uptoBulk d + 1
  | (_, d) => uptoBulk d + 1
 end
def uptoSmall : (H : Type) → List (DataW H) → Bool := fun _ ds => decide (uptoBulkAll ds ≤ 1048576)
def OpenSpec.upto (s : _root_.Go.ChangeSpec) : _root_.Go.OpenSpec := { _root_.Go.OpenSpec.ofChange s with cond := some uptoSmall }

/-- 'packtrainkeep.MatchCut', WHERE WHAT IT READS IS OF BULK AT MOST 1048576: true; the input reads as it did. -/
def matchCutUptoRow : OpenClaim := { program := "ytajpoggkmjedpaa", sum := "8ca6794ff101075af6bdda9ee990e2a77e2bfa0700d0f687b713a1f0fce56727", func := "packtrain/packtrainkeep.MatchCut", spec := "matchCut", apart := false, narrowed := true }
def MatchCutUptoSaid : Prop := matchCutUptoRow.holds Try.pinned (OpenSpec.upto matchCutSpec)

/-- 'packtrainkeep.MatchRuns', WHERE WHAT IT READS IS OF BULK AT MOST 1048576: true; the input reads as it did. -/
def matchRunsUptoRow : OpenClaim := { program := "ytajpoggkmjedpaa", sum := "8ca6794ff101075af6bdda9ee990e2a77e2bfa0700d0f687b713a1f0fce56727", func := "packtrain/packtrainkeep.MatchRuns", spec := "matchRuns", inPlace := ["internal/abi.NoEscape", "internal/bytealg.MakeNoZero"], apart := false, narrowed := true }
def MatchRunsUptoSaid : Prop := matchRunsUptoRow.holds Try.pinned (OpenSpec.upto matchRunsSpec)

/-- 'packtrainkeep.ChunkBack', WHERE WHAT IT READS IS OF BULK AT MOST 1048576: true; the input reads as it did. -/
def chunkBackUptoRow : OpenClaim := { program := "ytajpoggkmjedpaa", sum := "8ca6794ff101075af6bdda9ee990e2a77e2bfa0700d0f687b713a1f0fce56727", func := "packtrain/packtrainkeep.ChunkBack", spec := "chunkBack", apart := false, narrowed := true }
def ChunkBackUptoSaid : Prop := chunkBackUptoRow.holds Try.pinned (OpenSpec.upto chunkBackSpec)

/-- 'packtrainkeep.ChunkAll', WHERE WHAT IT READS IS OF BULK AT MOST 1048576: true; the input reads as it did. -/
def chunkAllUptoRow : OpenClaim := { program := "ytajpoggkmjedpaa", sum := "8ca6794ff101075af6bdda9ee990e2a77e2bfa0700d0f687b713a1f0fce56727", func := "packtrain/packtrainkeep.ChunkAll", spec := "chunkAll", apart := false, narrowed := true }
def ChunkAllUptoSaid : Prop := chunkAllUptoRow.holds Try.pinned (OpenSpec.upto chunkAllSpec)

/-- 'packtrainkeep.ChunkTurned', WHERE WHAT IT READS IS OF BULK AT MOST 1048576: true; the input reads as it did. -/
def chunkTurnedUptoRow : OpenClaim := { program := "ytajpoggkmjedpaa", sum := "8ca6794ff101075af6bdda9ee990e2a77e2bfa0700d0f687b713a1f0fce56727", func := "packtrain/packtrainkeep.ChunkTurned", spec := "chunkTurned", apart := false, narrowed := true }
def ChunkTurnedUptoSaid : Prop := chunkTurnedUptoRow.holds Try.pinned (OpenSpec.upto chunkTurnedSpec)

/-- 'packtrainkeep.ChunkMany', WHERE WHAT IT READS IS OF BULK AT MOST 1048576: true; the input reads as it did. -/
def chunkManyUptoRow : OpenClaim := { program := "ytajpoggkmjedpaa", sum := "8ca6794ff101075af6bdda9ee990e2a77e2bfa0700d0f687b713a1f0fce56727", func := "packtrain/packtrainkeep.ChunkMany", spec := "chunkMany", inPlace := ["internal/abi.NoEscape", "internal/bytealg.MakeNoZero"], apart := false, narrowed := true }
def ChunkManyUptoSaid : Prop := chunkManyUptoRow.holds Try.pinned (OpenSpec.upto chunkManySpec)

end Rows
end Go.Proofs.Ytajpoggkmjedpaa
