/- 'BatchTaken' holds of the program: for every input the call answers true, and each argument reads behind it as it read before. No condition. -/
import Derived.Test.YtognjohloobliaaGreatDoorLawsBatchT
import Derived.ProofKit
import Derived.OpenShut
import Derived.ShutString
import Derived.ChangeOld
import Derived.Below
import Derived.SizedLaws
import Derived.LaidLaws
import Derived.LaidHandle
import Derived.Stop.Joined
import Derived.JoinedOf
import Derived.Deep.DeepHandedRow
import Derived.SevenTiedAt
import Derived.Test.YtognjohloobliaaGreatDoorCards
import Derived.Test.YtognjohloobliaaGreatDoorTie
import Derived.Test.YtognjohloobliaaGreatDoorJ32
import Derived.Test.YtognjohloobliaaGreatDoorJ31
namespace Go.Proofs.YtognjohloobliaaGreatDoor.batchTaken
open Go.ChangeShapes Go.WideShapes Go.ChangeAt Go.RowKit
open Go.ChangeMaps (open_string shut_string)
set_option linter.unusedVariables false
theorem reads (os : Os) {H : Type} (enc : TypeId × Value → H) : ∃ places, DataW.whole enc Tryz.prog ((laidWorld os).forCall (fun _ _ => 0) ⟨#[], #[.agg #[Value.slice none 0 0, .slice none 0 0, .slice none 0 0], .slice none 0 0], []⟩).memory Tryz.f3.params.toList Rows.batchTakenSpec.vars false #[Value.agg #[Value.slice none 0 0, .slice none 0 0, .slice none 0 0], .slice none 0 0].toList 8 = some ([.agg [.nil, .nil, .nil], .nil], [], places) :=
  ⟨[], by kernel_rfl⟩
set_option maxRecDepth 100000 in
theorem lifted (os : Os) (started : os.Started) (H : Type) (enc : TypeId × Value → H) (F : Stop.Interp) :
    ReturnsInHanded {} Tryz.checked os 3 .any ((OpenSpec.ofChange Rows.batchTakenSpec).preRow enc Tryz.prog Tryz.f3 Rows.batchTakenRow.domain false Rows.batchTakenRow.laid) (((OpenSpec.ofChange Rows.batchTakenSpec).at F).post enc Tryz.prog Tryz.f3 false true false false) := by
  obtain ⟨places, hx⟩ := reads os enc
  refine returnsInHanded_of_row (C := Tryz.checked) (s := OpenSpec.ofChange Rows.batchTakenSpec) own started (by kernel_rfl) Tryz.func3
    (witness_row_at (enc := enc) (C := Tryz.checked) false (laidWorld os) #[.agg #[Value.slice none 0 0, .slice none 0 0, .slice none 0 0], .slice none 0 0] rfl (by kernel_rfl) (by kernel_rfl) (by kernel_rfl)
      (OpenSpec.preRow_of_cond 8 hx (by kernel_rfl) (fun k hk => by cases hk) (by kernel_rfl) (laidWorld_met os _))) ?_
  intro W base args ds gs before hval0 hW hcnd _ hsz0 hL0 _ _
  have hL : Laid W := handle_of_laid hL0
  have hsz : (DataW.weightsEach Tryz.prog (Tryz.f3.params.toList ++ (OpenSpec.ofChange Rows.batchTakenSpec).bare.plain.varTypes Tryz.prog) (ds ++ gs)).all (· ≤ reachBytes) = true := hsz0
  have hval : ∀ (j : Nat) t v, Tryz.f3.params[j]? = some t → args[j]? = some v → Value.okWide Tryz.prog W .any base t v := hval0
  have hW' := hW
  obtain ⟨p, q, hA0, hV, rfl, hfz, hnd⟩ := hW
  have hA : DataW.TrodAll enc Tryz.prog W 0 (fun _ => true) true Tryz.f3.params.toList args.toList ds p := hA0
  rw [Tryz.params3] at hA hval hsz
  obtain ⟨v0, vs0, d0, ds0, p0, q0, hargs, rfl, rfl, h0, r0⟩ := trodAll_cons hA
  obtain ⟨v1, vs1, d1, ds1, p1, q1, rfl, rfl, rfl, h1, r1⟩ := trodAll_cons r0
  obtain ⟨rfl, rfl, rfl⟩ := trodAll_nil r1
  obtain rfl : args = #[v0, v1] := by cases args; simp_all
  obtain ⟨rfl, rfl⟩ := trodVars_none hV
  have k0 := h0
  have lt0 : ∀ x ∈ p0, x.block < W.heap.size := by obtain ⟨m, hm⟩ := k0; exact DataW.trod_lt m _ _ _ hm
  obtain ⟨x0, rfl, q0⟩ := Opens.struct_param Tryz.underlying25 (hval 0 25 v0 rfl rfl) ((opens_struct (sz := 3) Tryz.underlying25 (opens_field (sz := 1) rfl (opens_slice (sz := 2) Tryz.underlying22 ((opens_struct (sz := 2) Tryz.underlying45 (opens_field (sz := 1) rfl (opens_int Tryz.underlying3) (by kernel_rfl) (fun _ => rfl) (opens_field (sz := 1) rfl (opens_int Tryz.underlying3) (by kernel_rfl) (fun _ => rfl) opens_none)) (by kernel_rfl) (fun _ => rfl)).as (g := entCells) (R := (fun _ x => (Lit.int .i64 x.r).wf = true ∧ (Lit.int .i64 x.t).wf = true)) (fun w a h => ⟨⟨a.1, a.2.1⟩, rfl, ⟨h.1, h.2.1⟩⟩)) (fun _ => rfl) (by kernel_rfl) (by decide) (of_decide_eq_true (by kernel_rfl))) (by kernel_rfl) (fun _ => rfl) (opens_field (sz := 1) rfl (opens_slice (sz := 2) Tryz.underlying22 ((opens_struct (sz := 2) Tryz.underlying45 (opens_field (sz := 1) rfl (opens_int Tryz.underlying3) (by kernel_rfl) (fun _ => rfl) (opens_field (sz := 1) rfl (opens_int Tryz.underlying3) (by kernel_rfl) (fun _ => rfl) opens_none)) (by kernel_rfl) (fun _ => rfl)).as (g := entCells) (R := (fun _ x => (Lit.int .i64 x.r).wf = true ∧ (Lit.int .i64 x.t).wf = true)) (fun w a h => ⟨⟨a.1, a.2.1⟩, rfl, ⟨h.1, h.2.1⟩⟩)) (fun _ => rfl) (by kernel_rfl) (by decide) (of_decide_eq_true (by kernel_rfl))) (by kernel_rfl) (fun _ => rfl) (opens_field (sz := 1) rfl (opens_slice (sz := 6) Tryz.underlying23 ((opens_struct (sz := 6) Tryz.underlying33 (opens_field (sz := 2) rfl ((opens_struct (sz := 2) Tryz.underlying31 (opens_field (sz := 1) rfl (opens_int Tryz.underlying3) (by kernel_rfl) (fun _ => rfl) (opens_field (sz := 1) rfl (opens_int Tryz.underlying3) (by kernel_rfl) (fun _ => rfl) opens_none)) (by kernel_rfl) (fun _ => rfl)).as (g := (fun p : Int × Int => [Value.int .i64 p.1, Value.int .i64 p.2])) (R := (fun _ p => (Lit.int .i64 p.1).wf = true ∧ (Lit.int .i64 p.2).wf = true)) (fun w a h => ⟨(a.1, a.2.1), rfl, ⟨h.1, h.2.1⟩⟩)) (by kernel_rfl) (fun _ => rfl) (opens_field (sz := 1) rfl (opens_int Tryz.underlying3) (by kernel_rfl) (fun _ => rfl) (opens_field (sz := 1) rfl (opens_string Tryz.underlying9) (by kernel_rfl) (fun _ => rfl) (opens_field (sz := 1) rfl (opens_string Tryz.underlying9) (by kernel_rfl) (fun _ => rfl) (opens_field (sz := 1) rfl (opens_int Tryz.underlying3) (by kernel_rfl) (fun _ => rfl) opens_none))))) (by kernel_rfl) (fun _ => rfl)).as (g := wrBCells) (R := (fun _ x => WrBOk x)) (fun w a h => ⟨⟨a.1.1, a.1.2, a.2.1, a.2.2.1, a.2.2.2.1, a.2.2.2.2.1⟩, rfl, ⟨h.1, h.2.1, h.2.2.1, h.2.2.2.1, h.2.2.2.2.1⟩⟩)) (fun _ => rfl) (by kernel_rfl) (by decide) (of_decide_eq_true (by kernel_rfl))) (by kernel_rfl) (fun _ => rfl) opens_none))) (by kernel_rfl) (fun _ => rfl)).as (g := (fun p : Value × Value × Value => [p.1, p.2.1, p.2.2])) (R := (fun w p => BatQ w p)) (fun w a h => ⟨(a.1, a.2.1, a.2.2.1), rfl, ⟨h.1, h.2.1, h.2.2.1⟩⟩)) k0 hsz (j := 0) rfl rfl
  have k1 := h1
  have lt1 : ∀ x ∈ p1, x.block < W.heap.size := by obtain ⟨m, hm⟩ := k1; exact DataW.trod_lt m _ _ _ hm
  obtain ⟨l1, L1, q1, z1⟩ := Opens.slice_param Tryz.underlying22 (hval 1 22 v1 rfl rfl) (opens_slice (sz := 2) Tryz.underlying22 ((opens_struct (sz := 2) Tryz.underlying45 (opens_field (sz := 1) rfl (opens_int Tryz.underlying3) (by kernel_rfl) (fun _ => rfl) (opens_field (sz := 1) rfl (opens_int Tryz.underlying3) (by kernel_rfl) (fun _ => rfl) opens_none)) (by kernel_rfl) (fun _ => rfl)).as (g := entCells) (R := (fun _ x => (Lit.int .i64 x.r).wf = true ∧ (Lit.int .i64 x.t).wf = true)) (fun w a h => ⟨⟨a.1, a.2.1⟩, rfl, ⟨h.1, h.2.1⟩⟩)) (fun _ => rfl) (by kernel_rfl) (by decide) (of_decide_eq_true (by kernel_rfl))) k1 hsz (j := 1) rfl rfl
  clear hA0 hval0 hsz hsz0
  refine (BatchTaken_walk x0.1 x0.2.1 x0.2.2 v1 l1 W q0 L1 q1 z1 hL).mono fun e W' ⟨he, bel⟩ => ?_
  subst he
  exact ⟨_, rfl, _, _, _, [], _, [], hW', trodAll_mk1 (shut_bool Tryz.underlying4 _), (trodAll_cons_mk (Below.trod laidOut (by kernel_rfl) (of_decide_eq_true (by kernel_rfl)) k0 bel lt0) (trodAll_cons_mk (Below.trod laidOut (by kernel_rfl) (of_decide_eq_true (by kernel_rfl)) k1 bel lt1) trodAll_mk0)), rfl, bel.frame _, fun h => by cases h⟩
theorem said : Rows.BatchTakenSaid :=
  OpenClaim.holds_of_cond 3 Tryz.f3 rfl rfl rfl rfl rfl rfl rfl ⟨rfl, rfl, rfl, rfl, rfl⟩ rfl rfl rfl rfl rfl (by kernel_rfl) Tryz.func3 (by kernel_rfl)
    (of_decide_eq_true (by kernel_rfl)) (by unfold Func.isWrapper; rw [if_neg (by decide +kernel)]; exact ⟨rfl, rfl⟩)
    (fun os started H enc _ F => by rw [OpenClaim.pre_eq_preRow]; exact lifted os started H enc F)
theorem plain (f : FuncId) (fn : Func) (hf : Tryz.pinned.checked.prog.funcNamed "packtrain/packtrainkeep.BatchTaken" = some f) (hfn : Tryz.pinned.checked.prog.funcs[f]? = some fn) :
    true = Tryz.pinned.checked.prog.looks [] ∧ ∀ (j : Nat) t, fn.params[j]? = some t → Tryz.pinned.checked.prog.wantsStandIn t = false := by
  obtain rfl : f = 3 := Option.some.inj ((show Tryz.prog.funcNamed "packtrain/packtrainkeep.BatchTaken" = some 3 by kernel_rfl).symm.trans hf) |>.symm
  obtain rfl : fn = Tryz.f3 := (Option.some.inj (Tryz.func3.symm.trans hfn)).symm
  refine ⟨by kernel_rfl, fun j t ht => ?_⟩
  rw [Tryz.params3] at ht
  have hm := Array.mem_of_getElem? ht
  have ht2 : t = 25 ∨ t = 22 := by simpa using hm
  rcases ht2 with rfl | rfl
  · exact (show Tryz.prog.wantsStandIn 25 = false by kernel_rfl)
  · exact (show Tryz.prog.wantsStandIn 22 = false by kernel_rfl)
/-- THE STATEMENT: the tied card. -/
theorem proved : Rows.BatchTakenCardSaid :=
  Claim7.holds_tied_plain_at .later [] _ _ _ _ said (fun _ h => by cases h) (by kernel_rfl) (fun _ h => by cases h) batchTaken_row_tie rfl ⟨rfl, rfl⟩ (by kernel_rfl) rfl plain (by kernel_rfl)
#print axioms proved
end Go.Proofs.YtognjohloobliaaGreatDoor.batchTaken
