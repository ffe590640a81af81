/-
  No cell of these rows narrows 'for every input' (looked for: loops, veiled, ifaces, maps, wideKeys, modest, calm, conditions, laid).
  DERIVED. THE GIVEN ROWS OF THIS SEAT. 6 by the template 'for every input the law returns true; each argument reads behind the call as it read before'; 0 by the template 'total and deterministic' (their statements: YtnognjjbheoniabTotals.lean).
  GIVEN WITH THE SEED: the statements are not yours to turn. If you find one false, say at which input.
  Laid BY PROGRAM, IN A SANDBOX (cutbox-rows.mjs): the forced cells as the released guide's own fill.sh prints them over the translation aed0fc001fb7524c… (all of the seat's roots in one cut). By AI agents, Wed Nov 11 2026. No macro, syntax, notation, axiom, sorry.
-/
import Derived.Test.YtnognjjbheoniabChecked
import GoSem.Claim
import GoSem.ClaimJoined
import GoSem.ClaimMapViews
import Derived.JoinedTies
import Derived.KernelRfl
namespace Go.Proofs.Ytnognjjbheoniab
/- THE CELL 'sum', in the pinned program and in every row, IS THE sha256 OF THE DUMP (.gsa) THAT YtnognjjbheoniabProg.lean LOADS. Nothing in Lean hashes anything: it is a label: what it is worth is what the hold of that sum in a sandbox is worth. -/
noncomputable def Try.pinned : Pinned := { name := "ytnognjjbheoniab", sum := "aed0fc001fb7524c900a6860b6633393bdafdf94428869031bf5737c28fbfe8c", checked := Try.checked }
namespace Rows
def none {H : Type} : Left H := { results := [], args := [] }

/-- 'packtrainkeep.LinkLasts': WHATEVER THE INPUT: true; the input reads as it did. -/
def linkLastsSpec : ChangeSpec := { name := "linkLasts", fn := fun _ => fun
  | [d1, d2, d3, d4] => { results := [.lit (.bool true)], args := [d1, d2, d3, d4] }
  | _ => none }
def linkLastsRow : OpenClaim := { program := "ytnognjjbheoniab", sum := "aed0fc001fb7524c900a6860b6633393bdafdf94428869031bf5737c28fbfe8c", func := "packtrain/packtrainkeep.LinkLasts", spec := "linkLasts", apart := false }
def LinkLastsSaid : Prop := linkLastsRow.holds Try.pinned (OpenSpec.ofChange linkLastsSpec)

/-- ITS FALSE NEIGHBOUR: 'it returns false'. Refute it at one input. -/
def linkLastsWrong : ChangeSpec := { name := "linkLasts", fn := fun _ => fun
  | [d1, d2, d3, d4] => { results := [.lit (.bool false)], args := [d1, d2, d3, d4] }
  | _ => none }
def LinkLastsWrongFalsely : Prop := linkLastsRow.holds Try.pinned (OpenSpec.ofChange linkLastsWrong)

/-- 'packtrainkeep.LinkSpoilt': WHATEVER THE INPUT: true; the input reads as it did. -/
def linkSpoiltSpec : ChangeSpec := { name := "linkSpoilt", fn := fun _ => fun
  | [d1, d2, d3, d4, d5] => { results := [.lit (.bool true)], args := [d1, d2, d3, d4, d5] }
  | _ => none }
def linkSpoiltRow : OpenClaim := { program := "ytnognjjbheoniab", sum := "aed0fc001fb7524c900a6860b6633393bdafdf94428869031bf5737c28fbfe8c", func := "packtrain/packtrainkeep.LinkSpoilt", spec := "linkSpoilt", apart := false }
def LinkSpoiltSaid : Prop := linkSpoiltRow.holds Try.pinned (OpenSpec.ofChange linkSpoiltSpec)

/-- ITS FALSE NEIGHBOUR: 'it returns false'. Refute it at one input. -/
def linkSpoiltWrong : ChangeSpec := { name := "linkSpoilt", fn := fun _ => fun
  | [d1, d2, d3, d4, d5] => { results := [.lit (.bool false)], args := [d1, d2, d3, d4, d5] }
  | _ => none }
def LinkSpoiltWrongFalsely : Prop := linkSpoiltRow.holds Try.pinned (OpenSpec.ofChange linkSpoiltWrong)

/-- 'packtrainkeep.LinkLeft': WHATEVER THE INPUT: true; the input reads as it did. -/
def linkLeftSpec : ChangeSpec := { name := "linkLeft", fn := fun _ => fun
  | [d1, d2, d3] => { results := [.lit (.bool true)], args := [d1, d2, d3] }
  | _ => none }
def linkLeftRow : OpenClaim := { program := "ytnognjjbheoniab", sum := "aed0fc001fb7524c900a6860b6633393bdafdf94428869031bf5737c28fbfe8c", func := "packtrain/packtrainkeep.LinkLeft", spec := "linkLeft", apart := false }
def LinkLeftSaid : Prop := linkLeftRow.holds Try.pinned (OpenSpec.ofChange linkLeftSpec)

/-- ITS FALSE NEIGHBOUR: 'it returns false'. Refute it at one input. -/
def linkLeftWrong : ChangeSpec := { name := "linkLeft", fn := fun _ => fun
  | [d1, d2, d3] => { results := [.lit (.bool false)], args := [d1, d2, d3] }
  | _ => none }
def LinkLeftWrongFalsely : Prop := linkLeftRow.holds Try.pinned (OpenSpec.ofChange linkLeftWrong)

/-- 'packtrainkeep.LinkGrows': WHATEVER THE INPUT: true; the input reads as it did. -/
def linkGrowsSpec : ChangeSpec := { name := "linkGrows", fn := fun _ => fun
  | [d1, d2, d3] => { results := [.lit (.bool true)], args := [d1, d2, d3] }
  | _ => none }
def linkGrowsRow : OpenClaim := { program := "ytnognjjbheoniab", sum := "aed0fc001fb7524c900a6860b6633393bdafdf94428869031bf5737c28fbfe8c", func := "packtrain/packtrainkeep.LinkGrows", spec := "linkGrows", apart := false }
def LinkGrowsSaid : Prop := linkGrowsRow.holds Try.pinned (OpenSpec.ofChange linkGrowsSpec)

/-- ITS FALSE NEIGHBOUR: 'it returns false'. Refute it at one input. -/
def linkGrowsWrong : ChangeSpec := { name := "linkGrows", fn := fun _ => fun
  | [d1, d2, d3] => { results := [.lit (.bool false)], args := [d1, d2, d3] }
  | _ => none }
def LinkGrowsWrongFalsely : Prop := linkGrowsRow.holds Try.pinned (OpenSpec.ofChange linkGrowsWrong)

/-- 'packtrainkeep.LinkParts': WHATEVER THE INPUT: true; the input reads as it did. -/
def linkPartsSpec : ChangeSpec := { name := "linkParts", fn := fun _ => fun
  | [d1, d2, d3, d4] => { results := [.lit (.bool true)], args := [d1, d2, d3, d4] }
  | _ => none }
def linkPartsRow : OpenClaim := { program := "ytnognjjbheoniab", sum := "aed0fc001fb7524c900a6860b6633393bdafdf94428869031bf5737c28fbfe8c", func := "packtrain/packtrainkeep.LinkParts", spec := "linkParts", apart := false }
def LinkPartsSaid : Prop := linkPartsRow.holds Try.pinned (OpenSpec.ofChange linkPartsSpec)

/-- ITS FALSE NEIGHBOUR: 'it returns false'. Refute it at one input. -/
def linkPartsWrong : ChangeSpec := { name := "linkParts", fn := fun _ => fun
  | [d1, d2, d3, d4] => { results := [.lit (.bool false)], args := [d1, d2, d3, d4] }
  | _ => none }
def LinkPartsWrongFalsely : Prop := linkPartsRow.holds Try.pinned (OpenSpec.ofChange linkPartsWrong)

/-- 'packtrainkeep.LinkEnds': WHATEVER THE INPUT: true; the input reads as it did. -/
def linkEndsSpec : ChangeSpec := { name := "linkEnds", fn := fun _ => fun
  | [d1, d2, d3, d4] => { results := [.lit (.bool true)], args := [d1, d2, d3, d4] }
  | _ => none }
def linkEndsRow : OpenClaim := { program := "ytnognjjbheoniab", sum := "aed0fc001fb7524c900a6860b6633393bdafdf94428869031bf5737c28fbfe8c", func := "packtrain/packtrainkeep.LinkEnds", spec := "linkEnds", apart := false }
def LinkEndsSaid : Prop := linkEndsRow.holds Try.pinned (OpenSpec.ofChange linkEndsSpec)

/-- ITS FALSE NEIGHBOUR: 'it returns false'. Refute it at one input. -/
def linkEndsWrong : ChangeSpec := { name := "linkEnds", fn := fun _ => fun
  | [d1, d2, d3, d4] => { results := [.lit (.bool false)], args := [d1, d2, d3, d4] }
  | _ => none }
def LinkEndsWrongFalsely : Prop := linkEndsRow.holds Try.pinned (OpenSpec.ofChange linkEndsWrong)

/- THE SECOND FORM. 'bulk': how many values and letters a reading holds, each counted each time it is reached (what is shared counts as often as it is met; a slice's spare places count too). A statement '..UptoSaid' is the law's where the arguments, and the package variables that the reading takes, are together of bulk at most 1048576: NARROWER than '..Said'. Prove '..Said' where nothing that the law and all that it calls make is longer than what came in: it says more and counts as full. Else prove '..UptoSaid'. A law counts once. -/
mutual
def uptoBulk {H : Type} : DataW H → Nat
  | .lit (.string bytes) => bytes.length + 1
  | .lit _ => 1
  | .nil => 1
  | .ptr d => uptoBulk d + 1
  | .slice elems spare => uptoBulkAll elems + uptoBulkAll spare + 1
  | .agg parts => uptoBulkAll parts + 1
  | .iface _ d => uptoBulk d + 1
  | .map entries => uptoBulkEntries entries + 1
  | .held _ => 1
def uptoBulkAll {H : Type} : List (DataW H) → Nat
  | [] => 0
  | d :: r => uptoBulk d + uptoBulkAll r
def uptoBulkEntries {H : Type} : List (Lit × DataW H) → Nat
  | [] => 0
  | x :: r => uptoBulkEntry x + uptoBulkEntries r
def uptoBulkEntry {H : Type} : Lit × DataW H → Nat
  | (.string bytes, d) => bytes.length + uptoBulk d + 1
  | (_, d) => uptoBulk d + 1
 end
def uptoSmall : (H : Type) → List (DataW H) → Bool := fun _ ds => decide (uptoBulkAll ds ≤ 1048576)
def OpenSpec.upto (s : _root_.Go.ChangeSpec) : _root_.Go.OpenSpec := { _root_.Go.OpenSpec.ofChange s with cond := some uptoSmall }

/-- 'packtrainkeep.LinkLasts', WHERE WHAT IT READS IS OF BULK AT MOST 1048576: true; the input reads as it did. -/
def linkLastsUptoRow : OpenClaim := { program := "ytnognjjbheoniab", sum := "aed0fc001fb7524c900a6860b6633393bdafdf94428869031bf5737c28fbfe8c", func := "packtrain/packtrainkeep.LinkLasts", spec := "linkLasts", apart := false, narrowed := true }
def LinkLastsUptoSaid : Prop := linkLastsUptoRow.holds Try.pinned (OpenSpec.upto linkLastsSpec)

/-- 'packtrainkeep.LinkSpoilt', WHERE WHAT IT READS IS OF BULK AT MOST 1048576: true; the input reads as it did. -/
def linkSpoiltUptoRow : OpenClaim := { program := "ytnognjjbheoniab", sum := "aed0fc001fb7524c900a6860b6633393bdafdf94428869031bf5737c28fbfe8c", func := "packtrain/packtrainkeep.LinkSpoilt", spec := "linkSpoilt", apart := false, narrowed := true }
def LinkSpoiltUptoSaid : Prop := linkSpoiltUptoRow.holds Try.pinned (OpenSpec.upto linkSpoiltSpec)

/-- 'packtrainkeep.LinkLeft', WHERE WHAT IT READS IS OF BULK AT MOST 1048576: true; the input reads as it did. -/
def linkLeftUptoRow : OpenClaim := { program := "ytnognjjbheoniab", sum := "aed0fc001fb7524c900a6860b6633393bdafdf94428869031bf5737c28fbfe8c", func := "packtrain/packtrainkeep.LinkLeft", spec := "linkLeft", apart := false, narrowed := true }
def LinkLeftUptoSaid : Prop := linkLeftUptoRow.holds Try.pinned (OpenSpec.upto linkLeftSpec)

/-- 'packtrainkeep.LinkGrows', WHERE WHAT IT READS IS OF BULK AT MOST 1048576: true; the input reads as it did. -/
def linkGrowsUptoRow : OpenClaim := { program := "ytnognjjbheoniab", sum := "aed0fc001fb7524c900a6860b6633393bdafdf94428869031bf5737c28fbfe8c", func := "packtrain/packtrainkeep.LinkGrows", spec := "linkGrows", apart := false, narrowed := true }
def LinkGrowsUptoSaid : Prop := linkGrowsUptoRow.holds Try.pinned (OpenSpec.upto linkGrowsSpec)

/-- 'packtrainkeep.LinkParts', WHERE WHAT IT READS IS OF BULK AT MOST 1048576: true; the input reads as it did. -/
def linkPartsUptoRow : OpenClaim := { program := "ytnognjjbheoniab", sum := "aed0fc001fb7524c900a6860b6633393bdafdf94428869031bf5737c28fbfe8c", func := "packtrain/packtrainkeep.LinkParts", spec := "linkParts", apart := false, narrowed := true }
def LinkPartsUptoSaid : Prop := linkPartsUptoRow.holds Try.pinned (OpenSpec.upto linkPartsSpec)

/-- 'packtrainkeep.LinkEnds', WHERE WHAT IT READS IS OF BULK AT MOST 1048576: true; the input reads as it did. -/
def linkEndsUptoRow : OpenClaim := { program := "ytnognjjbheoniab", sum := "aed0fc001fb7524c900a6860b6633393bdafdf94428869031bf5737c28fbfe8c", func := "packtrain/packtrainkeep.LinkEnds", spec := "linkEnds", apart := false, narrowed := true }
def LinkEndsUptoSaid : Prop := linkEndsUptoRow.holds Try.pinned (OpenSpec.upto linkEndsSpec)

end Rows
end Go.Proofs.Ytnognjjbheoniab
