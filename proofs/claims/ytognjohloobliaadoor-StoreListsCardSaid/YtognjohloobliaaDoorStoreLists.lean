/- 'StoreLists' holds of the program: for every input the call answers true, and each argument reads behind it as it read before. No condition. -/
import Derived.Test.YtognjohloobliaaDoorLawsStoreV
import Derived.ProofKit
import Derived.OpenShut
import Derived.ShutString
import Derived.ChangeOld
import Derived.Below
import Derived.SizedLaws
import Derived.LaidLaws
import Derived.LaidHandle
import Derived.Stop.Joined
import Derived.JoinedOf
import Derived.Deep.DeepHandedRow
import Derived.SevenTiedAt
import Derived.Test.YtognjohloobliaaDoorCards
import Derived.Test.YtognjohloobliaaDoorTie
import Derived.Test.YtognjohloobliaaDoorLaid
import Derived.Test.YtognjohloobliaaDoorOpen
namespace Go.Proofs.YtognjohloobliaaDoor.storeLists
open Go.ChangeShapes Go.WideShapes Go.ChangeAt Go.RowKit
open Go.ChangeMaps (open_string shut_string)
set_option linter.unusedVariables false
theorem reads (os : Os) {H : Type} (enc : TypeId × Value → H) : ∃ places, DataW.whole enc Tryd.prog ((laidWorld os).forCall (fun _ _ => 0) ⟨#[], #[.slice none 0 0], []⟩).memory Tryd.f3.params.toList Rows.storeListsSpec.vars false #[Value.slice none 0 0].toList 8 = some ([.nil], [], places) :=
  ⟨[], by kernel_rfl⟩
set_option maxRecDepth 100000 in
theorem lifted (os : Os) (started : os.Started) (H : Type) (enc : TypeId × Value → H) (F : Stop.Interp) :
    ReturnsInHanded {} Tryd.checked os 3 .any ((OpenSpec.ofChange Rows.storeListsSpec).preRow enc Tryd.prog Tryd.f3 Rows.storeListsRow.domain false Rows.storeListsRow.laid) (((OpenSpec.ofChange Rows.storeListsSpec).at F).post enc Tryd.prog Tryd.f3 false true false false) := by
  obtain ⟨places, hx⟩ := reads os enc
  refine returnsInHanded_of_row (C := Tryd.checked) (s := OpenSpec.ofChange Rows.storeListsSpec) own started (by kernel_rfl) Tryd.func3
    (witness_row_at (enc := enc) (C := Tryd.checked) false (laidWorld os) #[.slice none 0 0] rfl (by kernel_rfl) (by kernel_rfl) (by kernel_rfl)
      (OpenSpec.preRow_of_cond 8 hx (by kernel_rfl) (fun k hk => by cases hk) (by kernel_rfl) (laidWorld_met os _))) ?_
  intro W base args ds gs before hval0 hW hcnd _ hsz0 hL0 _ _
  have hL : Laid W := handle_of_laid hL0
  have hsz : (DataW.weightsEach Tryd.prog (Tryd.f3.params.toList ++ (OpenSpec.ofChange Rows.storeListsSpec).bare.plain.varTypes Tryd.prog) (ds ++ gs)).all (· ≤ reachBytes) = true := hsz0
  have hval : ∀ (j : Nat) t v, Tryd.f3.params[j]? = some t → args[j]? = some v → Value.okWide Tryd.prog W .any base t v := hval0
  have hW' := hW
  obtain ⟨p, q, hA0, hV, rfl, hfz, hnd⟩ := hW
  have hA : DataW.TrodAll enc Tryd.prog W 0 (fun _ => true) true Tryd.f3.params.toList args.toList ds p := hA0
  rw [Tryd.params3] at hA hval hsz
  obtain ⟨v0, vs0, d0, ds0, p0, q0, hargs, rfl, rfl, h0, r0⟩ := trodAll_cons hA
  obtain ⟨rfl, rfl, rfl⟩ := trodAll_nil r0
  obtain rfl : args = #[v0] := by cases args; simp_all
  obtain ⟨rfl, rfl⟩ := trodVars_none hV
  have k0 := h0
  have lt0 : ∀ x ∈ p0, x.block < W.heap.size := by obtain ⟨m, hm⟩ := k0; exact DataW.trod_lt m _ _ _ hm
  obtain ⟨l0, L0, q0, z0⟩ := Opens.slice_param Tryd.underlying22 (hval 0 22 v0 rfl rfl) (opens_slice (sz := 6) Tryd.underlying22 ((opens_struct (sz := 6) Tryd.underlying29 (opens_field (sz := 2) rfl ((opens_struct (sz := 2) Tryd.underlying27 (opens_field (sz := 1) rfl (opens_int Tryd.underlying3) (by kernel_rfl) (fun _ => rfl) (opens_field (sz := 1) rfl (opens_int Tryd.underlying3) (by kernel_rfl) (fun _ => rfl) opens_none)) (by kernel_rfl) (fun _ => rfl)).as (g := (fun p : Int × Int => [Value.int .i64 p.1, Value.int .i64 p.2])) (R := (fun _ p => (Lit.int .i64 p.1).wf = true ∧ (Lit.int .i64 p.2).wf = true)) (fun w a h => ⟨(a.1, a.2.1), rfl, ⟨h.1, h.2.1⟩⟩)) (by kernel_rfl) (fun _ => rfl) (opens_field (sz := 1) rfl (opens_int Tryd.underlying3) (by kernel_rfl) (fun _ => rfl) (opens_field (sz := 1) rfl (opens_string Tryd.underlying9) (by kernel_rfl) (fun _ => rfl) (opens_field (sz := 1) rfl (opens_string Tryd.underlying9) (by kernel_rfl) (fun _ => rfl) (opens_field (sz := 1) rfl (opens_int Tryd.underlying3) (by kernel_rfl) (fun _ => rfl) opens_none))))) (by kernel_rfl) (fun _ => rfl)).as (g := wrBCells) (R := (fun _ x => WrBOk x)) (fun w a h => ⟨⟨a.1.1, a.1.2, a.2.1, a.2.2.1, a.2.2.2.1, a.2.2.2.2.1⟩, rfl, ⟨h.1, h.2.1, h.2.2.1, h.2.2.2.1, h.2.2.2.2.1⟩⟩)) (fun _ => rfl) (by kernel_rfl) (by decide) (of_decide_eq_true (by kernel_rfl))) k0 hsz (j := 0) rfl rfl
  clear hA0 hval0 hsz hsz0
  refine (StoreLists_walk v0 l0 W L0 q0 z0 hL).mono fun e W' ⟨he, bel⟩ => ?_
  subst he
  exact ⟨_, rfl, _, _, _, [], _, [], hW', trodAll_mk1 (shut_bool Tryd.underlying4 _), (trodAll_cons_mk (Below.trod laidOut (by kernel_rfl) (of_decide_eq_true (by kernel_rfl)) k0 bel lt0) trodAll_mk0), rfl, bel.frame _, fun h => by cases h⟩
theorem said : Rows.StoreListsSaid :=
  OpenClaim.holds_of_cond 3 Tryd.f3 rfl rfl rfl rfl rfl rfl rfl ⟨rfl, rfl, rfl, rfl, rfl⟩ rfl rfl rfl rfl rfl (by kernel_rfl) Tryd.func3 (by kernel_rfl)
    (of_decide_eq_true (by kernel_rfl)) (by unfold Func.isWrapper; rw [if_neg (by decide +kernel)]; exact ⟨rfl, rfl⟩)
    (fun os started H enc _ F => by rw [OpenClaim.pre_eq_preRow]; exact lifted os started H enc F)
theorem plain (f : FuncId) (fn : Func) (hf : Tryd.pinned.checked.prog.funcNamed "packtrain/packtrainkeep.StoreLists" = some f) (hfn : Tryd.pinned.checked.prog.funcs[f]? = some fn) :
    true = Tryd.pinned.checked.prog.looks [] ∧ ∀ (j : Nat) t, fn.params[j]? = some t → Tryd.pinned.checked.prog.wantsStandIn t = false := by
  obtain rfl : f = 3 := Option.some.inj ((show Tryd.prog.funcNamed "packtrain/packtrainkeep.StoreLists" = some 3 by kernel_rfl).symm.trans hf) |>.symm
  obtain rfl : fn = Tryd.f3 := (Option.some.inj (Tryd.func3.symm.trans hfn)).symm
  refine ⟨by kernel_rfl, fun j t ht => ?_⟩
  rw [Tryd.params3] at ht
  have hm := Array.mem_of_getElem? ht
  have ht2 : t = 22 := by simpa using hm
  rcases ht2 with rfl
  · exact (show Tryd.prog.wantsStandIn 22 = false by kernel_rfl)
/-- THE STATEMENT: the tied card. -/
theorem proved : Rows.StoreListsCardSaid :=
  Claim7.holds_tied_plain_at .later [] _ _ _ _ said (fun _ h => by cases h) (by kernel_rfl) (fun _ h => by cases h) storeLists_row_tie rfl ⟨rfl, rfl⟩ (by kernel_rfl) rfl plain (by kernel_rfl)
#print axioms proved
end Go.Proofs.YtognjohloobliaaDoor.storeLists
