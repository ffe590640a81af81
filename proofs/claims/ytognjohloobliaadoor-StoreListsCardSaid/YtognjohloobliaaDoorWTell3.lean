/- errors.As at the target *Errno, of an error at a place; and Tell of one. -/
import Derived.Test.YtognjohloobliaaDoorWTell2
import Derived.Test.YtognjohloobliaaDoorLib4
namespace Go.Proofs.YtognjohloobliaaDoor
open Go.RowKit Go.Extern.Stop Go.Stop Go.Extern
set_option linter.unusedVariables false
theorem As.typeOfAt (v : Value) (w : World) : (ReflectliteType.typeOf #[.iface 47 v]).run Tryd.prog w = .ok (.iface 99 (.agg #[.pointer (some ⟨2, 47, none⟩)])) w := by kernel_rfl
theorem As.assignableAt (w : World) : (ReflectliteType.relation "AssignableTo" ReflectliteType.assignableTo #[.agg #[.pointer (some ⟨2, 47, none⟩)], .iface 99 (.agg #[.pointer (some ⟨2, 48, none⟩)])]).run Tryd.prog w = .ok (.bool false) w := by kernel_rfl
theorem As.noAs (v : Value) (w : World) : (Instr.typeAssert (.iface 47 v) 33 104 true).run Tryd.prog w = .ok (.tuple #[.nilIface, .bool false]) w := run_typeAssert_lacksB Tryd.underlying104 (by kernel_rfl) (by kernel_rfl) v 33 w
theorem As.hasUnwrap (v : Value) (w : World) : (Instr.typeAssert (.iface 47 v) 33 107 true).run Tryd.prog w = .ok (.tuple #[.iface 47 v, .bool true]) w := run_typeAssert_hasB Tryd.underlying107 (by kernel_rfl) v 33 w
theorem As.methodUnwrap (v : Value) (w : World) : (Go.method 258 47 v "Unwrap").run Tryd.prog w = .ok (90, v) w := by kernel_rfl
set_option maxHeartbeats 4000000 in
theorem as_at (n : Int) (g : Nat) (t : Addr) (old : Value) (w : World) (hg0 : Laid w) (hrow : w.cell? ⟨g, 0, none⟩ = some (.int .i64 n)) (ht0 : w.cell? t = some old) (hf0 : w.frozen? t = false) :
    Calls Tryd.prog 20 #[.iface 47 (.pointer (some ⟨g, 0, none⟩)), .iface 62 (.pointer (some t))] w fun ev w' => ev = .returned (.bool true) ∧ (w'.cell? t = some (.int .i64 n) ∧ (∀ B, B ≤ t.block → B ≤ w.heap.size → Below B w w')) := by
  have hg : w.cell? ⟨0, 0, none⟩ = some (.iface 99 (.agg #[.pointer (some ⟨2, 33, none⟩)])) := hg0
  have h6 := @run_callFunc_extern Tryd.prog 30 _ (fun args => ReflectliteValue.unpack (args.getD 0 (.tuple #[]))) Tryd.func30 (by kernel_rfl) (by kernel_rfl) (by kernel_rfl) (by kernel_rfl)
  have h7 := @run_callFunc_extern Tryd.prog 31 _ (ReflectliteValue.methodAny (ReflectliteValue.valueError "reflectlite.Value.Type" 0) (fun t _ _ _ => ReflectliteType.toType t)) Tryd.func31 (by kernel_rfl) (by kernel_rfl) (by kernel_rfl) (by kernel_rfl)
  have h8 := @run_callFunc_extern Tryd.prog 32 _ (ReflectliteValue.method (ReflectliteValue.valueError "reflectlite.Value.IsNil" 0) ReflectliteValue.isNil) Tryd.func32 (by kernel_rfl) (by kernel_rfl) (by kernel_rfl) (by kernel_rfl)
  have h27 := @run_callFunc_extern Tryd.prog 86 _ (ReflectliteType.abiMethod fun t => do pure (.int .u8 (← Rtype.kind t))) Tryd.func86 (by kernel_rfl) (by kernel_rfl) (by kernel_rfl) (by kernel_rfl)
  have h37 := @run_callFunc_extern Tryd.prog 98 _ (ReflectliteType.method ReflectliteType.elem) Tryd.func98 (by kernel_rfl) (by kernel_rfl) (by kernel_rfl) (by kernel_rfl)
  have h38 := @run_callFunc_extern Tryd.prog 99 _ (ReflectliteType.relation "Implements" ReflectliteType.implements_) Tryd.func99 (by kernel_rfl) (by kernel_rfl) (by kernel_rfl) (by kernel_rfl)
  have h10 := @run_callFunc_extern Tryd.prog 48 _ ReflectliteType.typeOf Tryd.func48 (by kernel_rfl) (by kernel_rfl) (by kernel_rfl) (by kernel_rfl)
  have h35 := @run_callFunc_extern Tryd.prog 96 _ (ReflectliteType.relation "AssignableTo" ReflectliteType.assignableTo) Tryd.func96 (by kernel_rfl) (by kernel_rfl) (by kernel_rfl) (by kernel_rfl)
  have h11 := @run_callFunc_extern Tryd.prog 49 _ (ReflectliteValue.method (ReflectliteValue.valueError "reflectlite.Value.Elem" 0) ReflectliteValue.elem) Tryd.func49 (by kernel_rfl) (by kernel_rfl) (by kernel_rfl) (by kernel_rfl)
  have h12 := @run_callFunc_extern Tryd.prog 50 _ ReflectliteValue.set Tryd.func50 (by kernel_rfl) (by kernel_rfl) (by kernel_rfl) (by kernel_rfl)
  have tO := As.typeOfE
  have mA := As.methodAssignableTo
  have a25 := As.assignableE
  have v25 := As.valueOfE
  have f6 := As.valueOfP
  have f7 := As.typeP
  have mK := As.methodKind
  have mE := As.methodElem
  have mI := As.methodImplements
  have k27 := As.kindP
  have k25 := As.kindE
  have e27 := As.elemP
  have i25 := As.implementsE
  have n8 := As.isNilP ⟨w.heap.size, 0, none⟩ t ((w.alloc (.cells #[.pointer (some t)] 62)).alloc (.cells #[.pointer (some ⟨2, 62, none⟩), .pointer (some ⟨w.heap.size, 0, none⟩), .int .u64 150] 75)) (by simp)
  have hlt := hg0.lt
  have hg2 : ((w.alloc (.cells #[.pointer (some t)] 62)).alloc (.cells #[.pointer (some ⟨2, 62, none⟩), .pointer (some ⟨w.heap.size, 0, none⟩), .int .u64 150] 75)).cell? ⟨0, 0, none⟩ = some (.iface 99 (.agg #[.pointer (some ⟨2, 33, none⟩)])) :=
    (hg0.alloc _).alloc _
  have htl : t.block < w.heap.size := World.block_lt_of_cell? w _ ht0
  have el := As.elemVP ⟨w.heap.size, 0, none⟩ t (((w.alloc (.cells #[.pointer (some t)] 62)).alloc (.cells #[.pointer (some ⟨2, 62, none⟩), .pointer (some ⟨w.heap.size, 0, none⟩), .int .u64 150] 75)).alloc (.cells #[.pointer (some ⟨2, 62, none⟩), .pointer (some ⟨w.heap.size, 0, none⟩), .int .u64 150] 75)) (by rw [World.cell?_alloc_lt _ _ ⟨w.heap.size, 0, none⟩ (by simp; omega)]; simp)
  have hst : ((((w.alloc (.cells #[.pointer (some t)] 62)).alloc (.cells #[.pointer (some ⟨2, 62, none⟩), .pointer (some ⟨w.heap.size, 0, none⟩), .int .u64 150] 75)).alloc (.cells #[.pointer (some ⟨2, 62, none⟩), .pointer (some ⟨w.heap.size, 0, none⟩), .int .u64 150] 75)).alloc (.cells #[.int .i64 n] 48)).cell? t = some old := by
    rw [World.cell?_alloc_lt _ _ t (by simp; omega), World.cell?_alloc_lt _ _ t (by simp; omega), World.cell?_alloc_lt _ _ t (by simp; omega), World.cell?_alloc_lt _ _ t htl]; exact ht0
  have st := As.setE t ⟨w.heap.size + 1 + 1 + 1, 0, none⟩ n old ((((w.alloc (.cells #[.pointer (some t)] 62)).alloc (.cells #[.pointer (some ⟨2, 62, none⟩), .pointer (some ⟨w.heap.size, 0, none⟩), .int .u64 150] 75)).alloc (.cells #[.pointer (some ⟨2, 62, none⟩), .pointer (some ⟨w.heap.size, 0, none⟩), .int .u64 150] 75)).alloc (.cells #[.int .i64 n] 48))
    (by rw [World.cell?_alloc_at _ _ _ _ (by simp)]; rfl)
    hst
    (by rw [World.frozen?_alloc_old _ _ t (by simp; omega), World.frozen?_alloc_old _ _ t (by simp; omega), World.frozen?_alloc_old _ _ t (by simp; omega), World.frozen?_alloc_old _ _ t (Nat.ne_of_lt htl)]; exact hf0)
  have hst := Lib.hid hst
  have tOA := As.typeOfAt (.pointer (some ⟨g, 0, none⟩))
  have aA := As.assignableAt
  have nA := As.noAs (.pointer (some ⟨g, 0, none⟩))
  have yU := As.hasUnwrap (.pointer (some ⟨g, 0, none⟩))
  have mU := As.methodUnwrap (.pointer (some ⟨g, 0, none⟩))
  have hrow3 : (((w.alloc (.cells #[.pointer (some t)] 62)).alloc (.cells #[.pointer (some ⟨2, 62, none⟩), .pointer (some ⟨w.heap.size, 0, none⟩), .int .u64 150] 75)).alloc (.cells #[.pointer (some ⟨2, 62, none⟩), .pointer (some ⟨w.heap.size, 0, none⟩), .int .u64 150] 75)).cell? ⟨g, 0, none⟩ = some (.int .i64 n) := by
    have hgl : g < w.heap.size := World.block_lt_of_cell? w _ hrow
    rw [World.cell?_alloc_lt _ _ ⟨g, 0, none⟩ (by simp; omega), World.cell?_alloc_lt _ _ ⟨g, 0, none⟩ (by simp; omega), World.cell?_alloc_lt _ _ ⟨g, 0, none⟩ hgl]; exact hrow
  go_enter Tryd.func20, Tryd.ntmps20
  go_wp2
  refine wp_loop_rounds 2 ?_
  rw [rounds_succ]
  go_wp2
  rw [rounds_succ]
  go_wp2
  go_ret
  refine ⟨rfl, World.cell?_setCell_same _ _ _ hst.out, fun B hB hB2 => ?_⟩
  exact Below.setCell (((((Below.refl _ _).alloc hB2 _).alloc (by simp; omega) _).alloc (by simp; omega) _).alloc (by simp; omega) _) hB _
set_option maxHeartbeats 1000000 in
theorem tell_at (n : Int) (g : Nat) (w : World) (hL : Laid w) (hrow : w.cell? ⟨g, 0, none⟩ = some (.int .i64 n)) :
    Calls Tryd.prog 13 #[.iface 47 (.pointer (some ⟨g, 0, none⟩))] w fun e w' => e = .returned (.int .i64 n) ∧ Below w.heap.size w w' := by
  have hL1 := hL.alloc (.cells #[.int .i64 0] 48)
  have hr1 := cell_alloc hrow (.cells #[.int .i64 0] 48)
  go_enter Tryd.func13, Tryd.ntmps13
  go_wp2_with (go_at_call 20; go_must (refine (as_at n g ⟨w.heap.size, 0, none⟩ (.int .i64 0) _ hL1 hr1 (by simp) (by simp)).mono ?_); rintro e w1 ⟨rfl, hc, hb⟩)
  go_ret
  exact ⟨rfl, ((Below.refl _ _).alloc (Nat.le_refl _) _).trans (hb w.heap.size (Nat.le_refl _) (by simp))⟩
end Go.Proofs.YtognjohloobliaaDoor
