/- 'DiskEach' holds of the program: for every input the call answers true, and each argument reads behind it as it read before. No condition. -/
import Derived.Test.YtdpdnkjpjoccmaaLawsDiskE
import Derived.ProofKit
import Derived.OpenShut
import Derived.ShutString
import Derived.ChangeOld
import Derived.Below
import Derived.SizedLaws
import Derived.Test.YtdpdnkjpjoccmaaOpen
namespace Go.Proofs.Ytdpdnkjpjoccmaa.diskEach
open Go.ChangeShapes Go.WideShapes Go.ChangeAt Go.RowKit
open Go.ChangeMaps (open_string shut_string)
set_option linter.unusedVariables false
theorem own : ownKnob Try.prog.godebug = none := by kernel_rfl
theorem laidOut : laidOutB Try.prog = true := by kernel_rfl
set_option maxRecDepth 100000 in
theorem lifted (os : Os) (started : os.Started) (H : Type) (enc : TypeId × Value → H) :
    ReturnsInHanded {} Try.checked os 3 .any (Rows.diskEachSpec.pre6 enc Try.prog Try.f3 Rows.diskEachRow.domain false) (Rows.diskEachSpec.post enc Try.prog Try.f3 false true false false) := by
  refine returnsInHanded_of_change_sized (C := Try.checked) own started (by kernel_rfl) Try.func3
    (ChangeSpec.witness6 (enc := enc) (C := Try.checked) false ⟨#[], #[.slice none 0 0, .slice none 0 0, .int .u64 0], []⟩ 8 (by kernel_rfl) (by kernel_rfl) (by kernel_rfl) (by kernel_rfl)) ?_
  intro W base args ds gs before hval0 hW hcnd hsz0 _
  have hsz : (DataW.weightsEach Try.prog (Try.f3.params.toList ++ Rows.diskEachSpec.plain.varTypes Try.prog) (ds ++ gs)).all (· ≤ reachBytes) = true := hsz0
  have hval : ∀ (j : Nat) t v, Try.f3.params[j]? = some t → args[j]? = some v → Value.okWide Try.prog W .any base t v := hval0
  have hW' := hW
  obtain ⟨p, q, hA0, hV, rfl, hfz, hnd⟩ := hW
  have hA : DataW.TrodAll enc Try.prog W 0 (fun _ => true) true Try.f3.params.toList args.toList ds p := hA0
  rw [Try.params3] at hA hval hsz
  obtain ⟨v0, vs0, d0, ds0, p0, q0, hargs, rfl, rfl, h0, r0⟩ := trodAll_cons hA
  obtain ⟨v1, vs1, d1, ds1, p1, q1, rfl, rfl, rfl, h1, r1⟩ := trodAll_cons r0
  obtain ⟨v2, vs2, d2, ds2, p2, q2, rfl, rfl, rfl, h2, r2⟩ := trodAll_cons r1
  obtain ⟨rfl, rfl, rfl⟩ := trodAll_nil r2
  obtain rfl : args = #[v0, v1, v2] := by cases args; simp_all
  obtain ⟨rfl, rfl⟩ := trodVars_none hV
  have k0 := h0
  have lt0 : ∀ x ∈ p0, x.block < W.heap.size := by obtain ⟨m, hm⟩ := k0; exact DataW.trod_lt m _ _ _ hm
  obtain ⟨l0, L0, q0, z0⟩ := Opens.slice_param Try.underlying22 (hval 0 22 v0 rfl rfl) (opens_slice (sz := 3) Try.underlying22 ((opens_struct (sz := 3) Try.underlying28 (opens_field (sz := 1) rfl (opens_int Try.underlying3) (by kernel_rfl) (fun _ => rfl) (opens_field (sz := 1) rfl (opens_string Try.underlying9) (by kernel_rfl) (fun _ => rfl) (opens_field (sz := 1) rfl (opens_bool Try.underlying4) (by kernel_rfl) (fun _ => rfl) opens_none))) (by kernel_rfl) (fun _ => rfl)).as (g := dabCells) (R := (fun _ x => DabOk x)) (fun w a h => ⟨⟨a.1, a.2.1, a.2.2.1⟩, rfl, ⟨h.1, h.2.1⟩⟩)) (fun _ => rfl) (by kernel_rfl) (by decide) (of_decide_eq_true (by kernel_rfl))) k0 hsz (j := 0) rfl rfl
  have k1 := h1
  have lt1 : ∀ x ∈ p1, x.block < W.heap.size := by obtain ⟨m, hm⟩ := k1; exact DataW.trod_lt m _ _ _ hm
  obtain ⟨l1, L1, q1, z1⟩ := Opens.slice_param Try.underlying22 (hval 1 22 v1 rfl rfl) (opens_slice (sz := 3) Try.underlying22 ((opens_struct (sz := 3) Try.underlying28 (opens_field (sz := 1) rfl (opens_int Try.underlying3) (by kernel_rfl) (fun _ => rfl) (opens_field (sz := 1) rfl (opens_string Try.underlying9) (by kernel_rfl) (fun _ => rfl) (opens_field (sz := 1) rfl (opens_bool Try.underlying4) (by kernel_rfl) (fun _ => rfl) opens_none))) (by kernel_rfl) (fun _ => rfl)).as (g := dabCells) (R := (fun _ x => DabOk x)) (fun w a h => ⟨⟨a.1, a.2.1, a.2.2.1⟩, rfl, ⟨h.1, h.2.1⟩⟩)) (fun _ => rfl) (by kernel_rfl) (by decide) (of_decide_eq_true (by kernel_rfl))) k1 hsz (j := 1) rfl rfl
  have k2 := h2
  have lt2 : ∀ x ∈ p2, x.block < W.heap.size := by obtain ⟨m, hm⟩ := k2; exact DataW.trod_lt m _ _ _ hm
  obtain ⟨a2, rfl, rfl, rfl, w2⟩ := open_int Try.underlying23 (hval 2 23 v2 rfl rfl) h2
  clear hA0 hval0 hsz hsz0
  refine (DiskEach_walk v0 l0 v1 l1 a2 W L0 q0 z0 L1 q1 z1 w2).mono fun e W' ⟨he, bel⟩ => ?_
  subst he
  exact ⟨_, rfl, _, _, _, [], _, [], hW', trodAll_mk1 (shut_bool Try.underlying4 _), (trodAll_cons_mk (Below.trod laidOut (by kernel_rfl) (of_decide_eq_true (by kernel_rfl)) k0 bel lt0) (trodAll_cons_mk (Below.trod laidOut (by kernel_rfl) (of_decide_eq_true (by kernel_rfl)) k1 bel lt1) (trodAll_cons_mk (Below.trod laidOut (by kernel_rfl) (of_decide_eq_true (by kernel_rfl)) k2 bel lt2) trodAll_mk0))), rfl, bel.frame _, fun h => by cases h⟩
theorem over : Rows.diskEachRow.holds Try.pinned (OpenSpec.ofChange Rows.diskEachSpec) :=
  OpenClaim.holds_of_wide 3 Try.f3 rfl rfl rfl rfl rfl rfl rfl ⟨rfl, rfl, rfl, rfl, rfl⟩ rfl rfl rfl rfl rfl (by kernel_rfl) Try.func3 (by kernel_rfl)
    (of_decide_eq_true (by kernel_rfl)) (by unfold Func.isWrapper; rw [if_neg (by decide +kernel)]; exact ⟨rfl, rfl⟩)
    (fun os started H enc _ => lifted os started H enc)
/-- THE STATEMENT. -/
theorem proved : Rows.DiskEachSaid := over
#print axioms proved
end Go.Proofs.Ytdpdnkjpjoccmaa.diskEach
