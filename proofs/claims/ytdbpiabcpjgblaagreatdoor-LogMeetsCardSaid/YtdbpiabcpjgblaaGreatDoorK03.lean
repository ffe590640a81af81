/- errors.As at the target *Errno, and Tell: lines of the guide's worked toy 'toyas', turned to a target that is a number. -/
import Derived.Test.YtdbpiabcpjgblaaGreatDoorRows
import Derived.Test.YtdbpiabcpjgblaaGreatDoorK01
import Derived.LaidEql
import Derived.Stop.Asserts
import Derived.RowKitTokens
namespace Go.Proofs.YtdbpiabcpjgblaaGreatDoor
open Go.RowKit Go.Extern.Stop Go.Stop Go.Extern
set_option linter.unusedVariables false
/-- errors' one variable holds the type 'error', as its initialiser lays it. -/
def Laid (w : World) : Prop := w.cell? ⟨0, 0, none⟩ = some (.iface 147 (.agg #[.pointer (some ⟨2, 37, none⟩)]))
theorem Laid.lt {w : World} (h : Laid w) : 0 < w.heap.size := World.block_lt_of_cell? w _ h
theorem Laid.below {w w' : World} (h : Laid w) (hb : Below w.heap.size w w') : Laid w' := (hb.cell (p := ⟨0, 0, none⟩) h.lt).trans h
theorem Laid.alloc {w : World} (h : Laid w) (o : Obj) : Laid (w.alloc o) := h.below ((Below.refl _ _).alloc (Nat.le_refl _) o)
theorem As.valueOfP (t : Addr) (w : World) : (ReflectliteValue.unpack (.iface 102 (.pointer (some t)))).run Tryz.prog w
    = .ok (.agg #[.pointer (some ⟨2, 102, none⟩), .pointer (some ⟨w.heap.size, 0, none⟩), .int .u64 150]) (w.alloc (.cells #[.pointer (some t)] 102)) := by kernel_rfl
theorem As.typeP (a : Addr) (w : World) : (ReflectliteValue.methodAny (ReflectliteValue.valueError "reflectlite.Value.Type" 0) (fun t _ _ _ => ReflectliteType.toType t) #[.agg #[.pointer (some ⟨2, 102, none⟩), .pointer (some a), .int .u64 150]]).run Tryz.prog w
    = .ok (.iface 147 (.agg #[.pointer (some ⟨2, 102, none⟩)])) w := by kernel_rfl
theorem As.methodKind (h : Value) (w : World) : (Go.method 358 147 (.agg #[h]) "Kind").run Tryz.prog w = .ok (166, h) w := by kernel_rfl
theorem As.kindP (w : World) : ((ReflectliteType.abiMethod fun t => (fun a : Nat => Value.int IntKind.u8 (a : Int)) <$> Rtype.kind t) #[.pointer (some ⟨2, 102, none⟩)]).run Tryz.prog w = .ok (.int .u8 22) w := by kernel_rfl
theorem As.kindE (w : World) : ((ReflectliteType.abiMethod fun t => (fun a : Nat => Value.int IntKind.u8 (a : Int)) <$> Rtype.kind t) #[.pointer (some ⟨2, 66, none⟩)]).run Tryz.prog w = .ok (.int .u8 2) w := by kernel_rfl
theorem As.rlm (z : Sem Value) (f : TypeId → Addr → Nat → Nat → Sem Value) (v : Value) :
    ReflectliteValue.method z f #[v] = (do match ← ReflectliteValue.parts v with | none => z | some (t, a, fl) => f t a fl (fl % 32)) := rfl
theorem As.partsP (a : Addr) (w : World) : (ReflectliteValue.parts (.agg #[.pointer (some ⟨2, 102, none⟩), .pointer (some a), .int .u64 150])).run Tryz.prog w = .ok (some (102, a, 150)) w := by kernel_rfl
theorem As.isNilP (a p : Addr) (W : World) (ha : W.cell? a = some (.pointer (some p))) :
    (ReflectliteValue.method (ReflectliteValue.valueError "reflectlite.Value.IsNil" 0) ReflectliteValue.isNil #[.agg #[.pointer (some ⟨2, 102, none⟩), .pointer (some a), .int .u64 150]]).run Tryz.prog W = .ok (.bool false) W := by
  rw [As.rlm]
  simp only [Sem.run_bind, As.partsP, Result.andThen]
  simp [ReflectliteValue.isNil, loadVar, isAgg, underlying, Tryz.underlying102, ha, Result.andThen]
theorem As.methodElem (h : Value) (w : World) : (Go.method 358 147 (.agg #[h]) "Elem").run Tryz.prog w = .ok (178, .agg #[h]) w := by kernel_rfl
theorem As.methodImplements (h : Value) (w : World) : (Go.method 358 147 (.agg #[h]) "Implements").run Tryz.prog w = .ok (179, .agg #[h]) w := by kernel_rfl
theorem As.methodAssignableTo (h : Value) (w : World) : (Go.method 358 147 (.agg #[h]) "AssignableTo").run Tryz.prog w = .ok (176, .agg #[h]) w := by kernel_rfl
theorem As.elemP (w : World) : (ReflectliteType.method ReflectliteType.elem #[.agg #[.pointer (some ⟨2, 102, none⟩)]]).run Tryz.prog w = .ok (.iface 147 (.agg #[.pointer (some ⟨2, 66, none⟩)])) w := by kernel_rfl
theorem As.implementsE (w : World) : (ReflectliteType.relation "Implements" ReflectliteType.implements_ #[.agg #[.pointer (some ⟨2, 66, none⟩)], .iface 147 (.agg #[.pointer (some ⟨2, 37, none⟩)])]).run Tryz.prog w = .ok (.bool true) w := by kernel_rfl
theorem As.typeOfE (v : Value) (w : World) : (ReflectliteType.typeOf #[.iface 66 v]).run Tryz.prog w = .ok (.iface 147 (.agg #[.pointer (some ⟨2, 66, none⟩)])) w := by kernel_rfl
theorem As.assignableE (w : World) : (ReflectliteType.relation "AssignableTo" ReflectliteType.assignableTo #[.agg #[.pointer (some ⟨2, 66, none⟩)], .iface 147 (.agg #[.pointer (some ⟨2, 66, none⟩)])]).run Tryz.prog w = .ok (.bool true) w := by kernel_rfl
theorem As.valueOfE (n : Int) (w : World) : (ReflectliteValue.unpack (.iface 66 (.int .i64 n))).run Tryz.prog w
    = .ok (.agg #[.pointer (some ⟨2, 66, none⟩), .pointer (some ⟨w.heap.size, 0, none⟩), .int .u64 130]) (w.alloc (.cells #[.int .i64 n] 66)) := by kernel_rfl
theorem As.elemOfP (w : World) : (Rtype.elem? 102).run Tryz.prog w = .ok (some 66) w := by kernel_rfl
theorem As.mkE (p : Addr) (w : World) : (ReflectliteValue.mk 66 p ReflectliteValue.flagAddr).run Tryz.prog w = .ok (.agg #[.pointer (some ⟨2, 66, none⟩), .pointer (some p), .int .u64 386]) w := by kernel_rfl
theorem As.elemVP (a p : Addr) (W : World) (ha : W.cell? a = some (.pointer (some p))) :
    (ReflectliteValue.method (ReflectliteValue.valueError "reflectlite.Value.Elem" 0) ReflectliteValue.elem #[.agg #[.pointer (some ⟨2, 102, none⟩), .pointer (some a), .int .u64 150]]).run Tryz.prog W
      = .ok (.agg #[.pointer (some ⟨2, 66, none⟩), .pointer (some p), .int .u64 386]) W := by
  rw [As.rlm]
  simp only [Sem.run_bind, As.partsP, Result.andThen]
  simp [ReflectliteValue.elem, loadVar, isAgg, underlying, Tryz.underlying102, ha, Result.andThen, As.elemOfP, As.mkE]
theorem As.rls (v x : Value) : ReflectliteValue.set #[v, x] = (do
    let (some (dst, a, fl), some (src, b, _)) := (← ReflectliteValue.parts v, ← ReflectliteValue.parts x)
      | unsupported (.noEntry "extern/(internal/reflectlite.Value).Set.zeroValue")
    if fl / ReflectliteValue.flagAddr % 2 == 0 then unsupported (.noEntry "extern/(internal/reflectlite.Value).Set.unaddressable")
    let val ← loadVar src b
    if ← Rtype.directlyAssignable dst src then storeVar dst a val
    else if ← Rtype.implements dst src then
      if (← Rtype.kind src) == 20 then
        match val with
        | .nilIface => unsupported (.noEntry "extern/reflectlite: a nil value of one interface type handed on as a value of another")
        | _ => storeVar dst a val
      else storeVar dst a (.iface src val)
    else panicString ("reflectlite.Set: value of type " ++ (← Rtype.spelt src) ++ " is not assignable to type " ++ (← Rtype.spelt dst))
    pure (.tuple #[])) := rfl
theorem As.partsEa (a : Addr) (w : World) : (ReflectliteValue.parts (.agg #[.pointer (some ⟨2, 66, none⟩), .pointer (some a), .int .u64 386])).run Tryz.prog w = .ok (some (66, a, 386)) w := by kernel_rfl
theorem As.partsE (a : Addr) (w : World) : (ReflectliteValue.parts (.agg #[.pointer (some ⟨2, 66, none⟩), .pointer (some a), .int .u64 130])).run Tryz.prog w = .ok (some (66, a, 130)) w := by kernel_rfl
theorem As.directE (w : World) : (Rtype.directlyAssignable 66 66).run Tryz.prog w = .ok true w := by kernel_rfl
theorem As.setE (ta b : Addr) (n : Int) (old : Value) (W : World) (hb : W.cell? b = some (.int .i64 n)) (ht : W.cell? ta = some old) (hf : W.frozen? ta = false) :
    (ReflectliteValue.set #[.agg #[.pointer (some ⟨2, 66, none⟩), .pointer (some ta), .int .u64 386], .agg #[.pointer (some ⟨2, 66, none⟩), .pointer (some b), .int .u64 130]]).run Tryz.prog W
      = .ok (.tuple #[]) (W.setCell ta (.int .i64 n)) := by
  rw [As.rls]
  simp only [Sem.run_bind, As.partsEa, As.partsE, Result.andThen]
  simp [ReflectliteValue.flagAddr, loadVar, isAgg, underlying, Tryz.underlying66, hb, Result.andThen, As.directE, storeVar, Value.cells, storeCells, Addr.add]
  rw [run_store Tryz.prog W ta _ _ (by rfl)]
  simp [ht, hf]
end Go.Proofs.YtdbpiabcpjgblaaGreatDoor
/- errors.As at the target *Errno, hit at once; and Tell of nothing, and of a number. -/
namespace Go.Proofs.YtdbpiabcpjgblaaGreatDoor
open Go.RowKit Go.Extern.Stop Go.Stop Go.Extern
set_option linter.unusedVariables false
set_option maxHeartbeats 4000000 in
theorem as_hit (n : Int) (t : Addr) (old : Value) (w : World) (hg0 : Laid w) (ht0 : w.cell? t = some old) (hf0 : w.frozen? t = false) :
    Calls Tryz.prog 56 #[.iface 66 (.int .i64 n), .iface 102 (.pointer (some t))] w fun ev w' => ev = .returned (.bool true) ∧ (w'.cell? t = some (.int .i64 n) ∧ (∀ B, B ≤ t.block → B ≤ w.heap.size → Below B w w')) := by
  have hg : w.cell? ⟨0, 0, none⟩ = some (.iface 147 (.agg #[.pointer (some ⟨2, 37, none⟩)])) := hg0
  have h6 := @run_callFunc_extern Tryz.prog 72 _ (fun args => ReflectliteValue.unpack (args.getD 0 (.tuple #[]))) Tryz.func72 (by kernel_rfl) (by kernel_rfl) (by kernel_rfl) (by kernel_rfl)
  have h7 := @run_callFunc_extern Tryz.prog 73 _ (ReflectliteValue.methodAny (ReflectliteValue.valueError "reflectlite.Value.Type" 0) (fun t _ _ _ => ReflectliteType.toType t)) Tryz.func73 (by kernel_rfl) (by kernel_rfl) (by kernel_rfl) (by kernel_rfl)
  have h8 := @run_callFunc_extern Tryz.prog 74 _ (ReflectliteValue.method (ReflectliteValue.valueError "reflectlite.Value.IsNil" 0) ReflectliteValue.isNil) Tryz.func74 (by kernel_rfl) (by kernel_rfl) (by kernel_rfl) (by kernel_rfl)
  have h27 := @run_callFunc_extern Tryz.prog 166 _ (ReflectliteType.abiMethod fun t => do pure (.int .u8 (← Rtype.kind t))) Tryz.func166 (by kernel_rfl) (by kernel_rfl) (by kernel_rfl) (by kernel_rfl)
  have h37 := @run_callFunc_extern Tryz.prog 178 _ (ReflectliteType.method ReflectliteType.elem) Tryz.func178 (by kernel_rfl) (by kernel_rfl) (by kernel_rfl) (by kernel_rfl)
  have h38 := @run_callFunc_extern Tryz.prog 179 _ (ReflectliteType.relation "Implements" ReflectliteType.implements_) Tryz.func179 (by kernel_rfl) (by kernel_rfl) (by kernel_rfl) (by kernel_rfl)
  have h10 := @run_callFunc_extern Tryz.prog 91 _ ReflectliteType.typeOf Tryz.func91 (by kernel_rfl) (by kernel_rfl) (by kernel_rfl) (by kernel_rfl)
  have h35 := @run_callFunc_extern Tryz.prog 176 _ (ReflectliteType.relation "AssignableTo" ReflectliteType.assignableTo) Tryz.func176 (by kernel_rfl) (by kernel_rfl) (by kernel_rfl) (by kernel_rfl)
  have h11 := @run_callFunc_extern Tryz.prog 92 _ (ReflectliteValue.method (ReflectliteValue.valueError "reflectlite.Value.Elem" 0) ReflectliteValue.elem) Tryz.func92 (by kernel_rfl) (by kernel_rfl) (by kernel_rfl) (by kernel_rfl)
  have h12 := @run_callFunc_extern Tryz.prog 93 _ ReflectliteValue.set Tryz.func93 (by kernel_rfl) (by kernel_rfl) (by kernel_rfl) (by kernel_rfl)
  have tO := As.typeOfE
  have mA := As.methodAssignableTo
  have a25 := As.assignableE
  have v25 := As.valueOfE
  have f6 := As.valueOfP
  have f7 := As.typeP
  have mK := As.methodKind
  have mE := As.methodElem
  have mI := As.methodImplements
  have k27 := As.kindP
  have k25 := As.kindE
  have e27 := As.elemP
  have i25 := As.implementsE
  have n8 := As.isNilP ⟨w.heap.size, 0, none⟩ t ((w.alloc (.cells #[.pointer (some t)] 102)).alloc (.cells #[.pointer (some ⟨2, 102, none⟩), .pointer (some ⟨w.heap.size, 0, none⟩), .int .u64 150] 122)) (by simp)
  have hlt := hg0.lt
  have hg2 : ((w.alloc (.cells #[.pointer (some t)] 102)).alloc (.cells #[.pointer (some ⟨2, 102, none⟩), .pointer (some ⟨w.heap.size, 0, none⟩), .int .u64 150] 122)).cell? ⟨0, 0, none⟩ = some (.iface 147 (.agg #[.pointer (some ⟨2, 37, none⟩)])) :=
    (hg0.alloc _).alloc _
  have htl : t.block < w.heap.size := World.block_lt_of_cell? w _ ht0
  have el := As.elemVP ⟨w.heap.size, 0, none⟩ t (((w.alloc (.cells #[.pointer (some t)] 102)).alloc (.cells #[.pointer (some ⟨2, 102, none⟩), .pointer (some ⟨w.heap.size, 0, none⟩), .int .u64 150] 122)).alloc (.cells #[.pointer (some ⟨2, 102, none⟩), .pointer (some ⟨w.heap.size, 0, none⟩), .int .u64 150] 122)) (by rw [World.cell?_alloc_lt _ _ ⟨w.heap.size, 0, none⟩ (by simp; omega)]; simp)
  have hst : ((((w.alloc (.cells #[.pointer (some t)] 102)).alloc (.cells #[.pointer (some ⟨2, 102, none⟩), .pointer (some ⟨w.heap.size, 0, none⟩), .int .u64 150] 122)).alloc (.cells #[.pointer (some ⟨2, 102, none⟩), .pointer (some ⟨w.heap.size, 0, none⟩), .int .u64 150] 122)).alloc (.cells #[.int .i64 n] 66)).cell? t = some old := by
    rw [World.cell?_alloc_lt _ _ t (by simp; omega), World.cell?_alloc_lt _ _ t (by simp; omega), World.cell?_alloc_lt _ _ t (by simp; omega), World.cell?_alloc_lt _ _ t htl]; exact ht0
  have st := As.setE t ⟨w.heap.size + 1 + 1 + 1, 0, none⟩ n old ((((w.alloc (.cells #[.pointer (some t)] 102)).alloc (.cells #[.pointer (some ⟨2, 102, none⟩), .pointer (some ⟨w.heap.size, 0, none⟩), .int .u64 150] 122)).alloc (.cells #[.pointer (some ⟨2, 102, none⟩), .pointer (some ⟨w.heap.size, 0, none⟩), .int .u64 150] 122)).alloc (.cells #[.int .i64 n] 66))
    (by rw [World.cell?_alloc_at _ _ _ _ (by simp)]; rfl)
    hst
    (by rw [World.frozen?_alloc_old _ _ t (by simp; omega), World.frozen?_alloc_old _ _ t (by simp; omega), World.frozen?_alloc_old _ _ t (by simp; omega), World.frozen?_alloc_old _ _ t (Nat.ne_of_lt htl)]; exact hf0)
  have hst := Lib.hid hst
  go_enter Tryz.func56, Tryz.ntmps56
  go_wp2
  refine wp_loop_rounds 1 ?_
  rw [rounds_succ]
  go_wp2
  go_ret
  refine ⟨rfl, World.cell?_setCell_same _ _ _ hst.out, fun B hB hB2 => ?_⟩
  exact Below.setCell (((((Below.refl _ _).alloc hB2 _).alloc (by simp; omega) _).alloc (by simp; omega) _).alloc (by simp; omega) _) hB _
set_option maxHeartbeats 1000000 in
theorem tell_nil (w : World) :
    Calls Tryz.prog 36 #[.nilIface] w fun e w' => e = .returned (.int .i64 0) ∧ w = w' := by
  go_enter Tryz.func36, Tryz.ntmps36
  go_wp2
  go_ret
  exact ⟨rfl, rfl⟩
set_option maxHeartbeats 1000000 in
theorem tell_errno (n : Int) (w : World) (hL : Laid w) :
    Calls Tryz.prog 36 #[.iface 66 (.int .i64 n)] w fun e w' => e = .returned (.int .i64 n) ∧ Below w.heap.size w w' := by
  have hL1 := hL.alloc (.cells #[.int .i64 0] 66)
  go_enter Tryz.func36, Tryz.ntmps36
  go_wp2_with (go_at_call 56; go_must (refine (as_hit n ⟨w.heap.size, 0, none⟩ (.int .i64 0) _ hL1 (by simp) (by simp)).mono ?_); rintro e w1 ⟨rfl, hc, hb⟩)
  go_ret
  exact ⟨rfl, ((Below.refl _ _).alloc (Nat.le_refl _) _).trans (hb w.heap.size (Nat.le_refl _) (by simp))⟩
end Go.Proofs.YtdbpiabcpjgblaaGreatDoor
/- errors.As at the target *Errno, of an error at a place; and Tell of one. -/
namespace Go.Proofs.YtdbpiabcpjgblaaGreatDoor
open Go.RowKit Go.Extern.Stop Go.Stop Go.Extern
set_option linter.unusedVariables false
theorem As.typeOfAt (v : Value) (w : World) : (ReflectliteType.typeOf #[.iface 88 v]).run Tryz.prog w = .ok (.iface 147 (.agg #[.pointer (some ⟨2, 88, none⟩)])) w := by kernel_rfl
theorem As.assignableAt (w : World) : (ReflectliteType.relation "AssignableTo" ReflectliteType.assignableTo #[.agg #[.pointer (some ⟨2, 88, none⟩)], .iface 147 (.agg #[.pointer (some ⟨2, 66, none⟩)])]).run Tryz.prog w = .ok (.bool false) w := by kernel_rfl
theorem As.noAs (v : Value) (w : World) : (Instr.typeAssert (.iface 88 v) 37 152 true).run Tryz.prog w = .ok (.tuple #[.nilIface, .bool false]) w := run_typeAssert_lacksB Tryz.underlying152 (by kernel_rfl) (by kernel_rfl) v 37 w
theorem As.hasUnwrap (v : Value) (w : World) : (Instr.typeAssert (.iface 88 v) 37 155 true).run Tryz.prog w = .ok (.tuple #[.iface 88 v, .bool true]) w := run_typeAssert_hasB Tryz.underlying155 (by kernel_rfl) v 37 w
theorem As.methodUnwrap (v : Value) (w : World) : (Go.method 358 88 v "Unwrap").run Tryz.prog w = .ok (171, v) w := by kernel_rfl
set_option maxHeartbeats 4000000 in
theorem as_at (n : Int) (g : Nat) (t : Addr) (old : Value) (w : World) (hg0 : Laid w) (hrow : w.cell? ⟨g, 0, none⟩ = some (.int .i64 n)) (ht0 : w.cell? t = some old) (hf0 : w.frozen? t = false) :
    Calls Tryz.prog 56 #[.iface 88 (.pointer (some ⟨g, 0, none⟩)), .iface 102 (.pointer (some t))] w fun ev w' => ev = .returned (.bool true) ∧ (w'.cell? t = some (.int .i64 n) ∧ (∀ B, B ≤ t.block → B ≤ w.heap.size → Below B w w')) := by
  have hg : w.cell? ⟨0, 0, none⟩ = some (.iface 147 (.agg #[.pointer (some ⟨2, 37, none⟩)])) := hg0
  have h6 := @run_callFunc_extern Tryz.prog 72 _ (fun args => ReflectliteValue.unpack (args.getD 0 (.tuple #[]))) Tryz.func72 (by kernel_rfl) (by kernel_rfl) (by kernel_rfl) (by kernel_rfl)
  have h7 := @run_callFunc_extern Tryz.prog 73 _ (ReflectliteValue.methodAny (ReflectliteValue.valueError "reflectlite.Value.Type" 0) (fun t _ _ _ => ReflectliteType.toType t)) Tryz.func73 (by kernel_rfl) (by kernel_rfl) (by kernel_rfl) (by kernel_rfl)
  have h8 := @run_callFunc_extern Tryz.prog 74 _ (ReflectliteValue.method (ReflectliteValue.valueError "reflectlite.Value.IsNil" 0) ReflectliteValue.isNil) Tryz.func74 (by kernel_rfl) (by kernel_rfl) (by kernel_rfl) (by kernel_rfl)
  have h27 := @run_callFunc_extern Tryz.prog 166 _ (ReflectliteType.abiMethod fun t => do pure (.int .u8 (← Rtype.kind t))) Tryz.func166 (by kernel_rfl) (by kernel_rfl) (by kernel_rfl) (by kernel_rfl)
  have h37 := @run_callFunc_extern Tryz.prog 178 _ (ReflectliteType.method ReflectliteType.elem) Tryz.func178 (by kernel_rfl) (by kernel_rfl) (by kernel_rfl) (by kernel_rfl)
  have h38 := @run_callFunc_extern Tryz.prog 179 _ (ReflectliteType.relation "Implements" ReflectliteType.implements_) Tryz.func179 (by kernel_rfl) (by kernel_rfl) (by kernel_rfl) (by kernel_rfl)
  have h10 := @run_callFunc_extern Tryz.prog 91 _ ReflectliteType.typeOf Tryz.func91 (by kernel_rfl) (by kernel_rfl) (by kernel_rfl) (by kernel_rfl)
  have h35 := @run_callFunc_extern Tryz.prog 176 _ (ReflectliteType.relation "AssignableTo" ReflectliteType.assignableTo) Tryz.func176 (by kernel_rfl) (by kernel_rfl) (by kernel_rfl) (by kernel_rfl)
  have h11 := @run_callFunc_extern Tryz.prog 92 _ (ReflectliteValue.method (ReflectliteValue.valueError "reflectlite.Value.Elem" 0) ReflectliteValue.elem) Tryz.func92 (by kernel_rfl) (by kernel_rfl) (by kernel_rfl) (by kernel_rfl)
  have h12 := @run_callFunc_extern Tryz.prog 93 _ ReflectliteValue.set Tryz.func93 (by kernel_rfl) (by kernel_rfl) (by kernel_rfl) (by kernel_rfl)
  have tO := As.typeOfE
  have mA := As.methodAssignableTo
  have a25 := As.assignableE
  have v25 := As.valueOfE
  have f6 := As.valueOfP
  have f7 := As.typeP
  have mK := As.methodKind
  have mE := As.methodElem
  have mI := As.methodImplements
  have k27 := As.kindP
  have k25 := As.kindE
  have e27 := As.elemP
  have i25 := As.implementsE
  have n8 := As.isNilP ⟨w.heap.size, 0, none⟩ t ((w.alloc (.cells #[.pointer (some t)] 102)).alloc (.cells #[.pointer (some ⟨2, 102, none⟩), .pointer (some ⟨w.heap.size, 0, none⟩), .int .u64 150] 122)) (by simp)
  have hlt := hg0.lt
  have hg2 : ((w.alloc (.cells #[.pointer (some t)] 102)).alloc (.cells #[.pointer (some ⟨2, 102, none⟩), .pointer (some ⟨w.heap.size, 0, none⟩), .int .u64 150] 122)).cell? ⟨0, 0, none⟩ = some (.iface 147 (.agg #[.pointer (some ⟨2, 37, none⟩)])) :=
    (hg0.alloc _).alloc _
  have htl : t.block < w.heap.size := World.block_lt_of_cell? w _ ht0
  have el := As.elemVP ⟨w.heap.size, 0, none⟩ t (((w.alloc (.cells #[.pointer (some t)] 102)).alloc (.cells #[.pointer (some ⟨2, 102, none⟩), .pointer (some ⟨w.heap.size, 0, none⟩), .int .u64 150] 122)).alloc (.cells #[.pointer (some ⟨2, 102, none⟩), .pointer (some ⟨w.heap.size, 0, none⟩), .int .u64 150] 122)) (by rw [World.cell?_alloc_lt _ _ ⟨w.heap.size, 0, none⟩ (by simp; omega)]; simp)
  have hst : ((((w.alloc (.cells #[.pointer (some t)] 102)).alloc (.cells #[.pointer (some ⟨2, 102, none⟩), .pointer (some ⟨w.heap.size, 0, none⟩), .int .u64 150] 122)).alloc (.cells #[.pointer (some ⟨2, 102, none⟩), .pointer (some ⟨w.heap.size, 0, none⟩), .int .u64 150] 122)).alloc (.cells #[.int .i64 n] 66)).cell? t = some old := by
    rw [World.cell?_alloc_lt _ _ t (by simp; omega), World.cell?_alloc_lt _ _ t (by simp; omega), World.cell?_alloc_lt _ _ t (by simp; omega), World.cell?_alloc_lt _ _ t htl]; exact ht0
  have st := As.setE t ⟨w.heap.size + 1 + 1 + 1, 0, none⟩ n old ((((w.alloc (.cells #[.pointer (some t)] 102)).alloc (.cells #[.pointer (some ⟨2, 102, none⟩), .pointer (some ⟨w.heap.size, 0, none⟩), .int .u64 150] 122)).alloc (.cells #[.pointer (some ⟨2, 102, none⟩), .pointer (some ⟨w.heap.size, 0, none⟩), .int .u64 150] 122)).alloc (.cells #[.int .i64 n] 66))
    (by rw [World.cell?_alloc_at _ _ _ _ (by simp)]; rfl)
    hst
    (by rw [World.frozen?_alloc_old _ _ t (by simp; omega), World.frozen?_alloc_old _ _ t (by simp; omega), World.frozen?_alloc_old _ _ t (by simp; omega), World.frozen?_alloc_old _ _ t (Nat.ne_of_lt htl)]; exact hf0)
  have hst := Lib.hid hst
  have tOA := As.typeOfAt (.pointer (some ⟨g, 0, none⟩))
  have aA := As.assignableAt
  have nA := As.noAs (.pointer (some ⟨g, 0, none⟩))
  have yU := As.hasUnwrap (.pointer (some ⟨g, 0, none⟩))
  have mU := As.methodUnwrap (.pointer (some ⟨g, 0, none⟩))
  have hrow3 : (((w.alloc (.cells #[.pointer (some t)] 102)).alloc (.cells #[.pointer (some ⟨2, 102, none⟩), .pointer (some ⟨w.heap.size, 0, none⟩), .int .u64 150] 122)).alloc (.cells #[.pointer (some ⟨2, 102, none⟩), .pointer (some ⟨w.heap.size, 0, none⟩), .int .u64 150] 122)).cell? ⟨g, 0, none⟩ = some (.int .i64 n) := by
    have hgl : g < w.heap.size := World.block_lt_of_cell? w _ hrow
    rw [World.cell?_alloc_lt _ _ ⟨g, 0, none⟩ (by simp; omega), World.cell?_alloc_lt _ _ ⟨g, 0, none⟩ (by simp; omega), World.cell?_alloc_lt _ _ ⟨g, 0, none⟩ hgl]; exact hrow
  go_enter Tryz.func56, Tryz.ntmps56
  go_wp2
  refine wp_loop_rounds 2 ?_
  rw [rounds_succ]
  go_wp2
  rw [rounds_succ]
  go_wp2
  go_ret
  refine ⟨rfl, World.cell?_setCell_same _ _ _ hst.out, fun B hB hB2 => ?_⟩
  exact Below.setCell (((((Below.refl _ _).alloc hB2 _).alloc (by simp; omega) _).alloc (by simp; omega) _).alloc (by simp; omega) _) hB _
set_option maxHeartbeats 1000000 in
theorem tell_at (n : Int) (g : Nat) (w : World) (hL : Laid w) (hrow : w.cell? ⟨g, 0, none⟩ = some (.int .i64 n)) :
    Calls Tryz.prog 36 #[.iface 88 (.pointer (some ⟨g, 0, none⟩))] w fun e w' => e = .returned (.int .i64 n) ∧ Below w.heap.size w w' := by
  have hL1 := hL.alloc (.cells #[.int .i64 0] 66)
  have hr1 := cell_alloc hrow (.cells #[.int .i64 0] 66)
  go_enter Tryz.func36, Tryz.ntmps36
  go_wp2_with (go_at_call 56; go_must (refine (as_at n g ⟨w.heap.size, 0, none⟩ (.int .i64 0) _ hL1 hr1 (by simp) (by simp)).mono ?_); rintro e w1 ⟨rfl, hc, hb⟩)
  go_ret
  exact ⟨rfl, ((Below.refl _ _).alloc (Nat.le_refl _) _).trans (hb w.heap.size (Nat.le_refl _) (by simp))⟩
end Go.Proofs.YtdbpiabcpjgblaaGreatDoor
/- Plain laws of numbers in as few bytes as they need. -/
namespace Go.Proofs.YtdbpiabcpjgblaaGreatDoor
namespace Vary
/-- A number, seven bits a byte. -/
def put (n : Nat) : List UInt8 := if n < 128 then [UInt8.ofNat n] else UInt8.ofNat (n % 128 + 128) :: put (n / 128)
termination_by n
theorem put_small {n : Nat} (h : n < 128) : put n = [UInt8.ofNat n] := by rw [put, if_pos h]
theorem put_big {n : Nat} (h : ¬ n < 128) : put n = UInt8.ofNat (n % 128 + 128) :: put (n / 128) := by rw [put, if_neg h]
theorem put_ne (n : Nat) : put n ≠ [] := by
  by_cases h : n < 128
  · rw [put_small h]; simp
  · rw [put_big h]; simp
theorem put_pos (n : Nat) : 1 ≤ (put n).length := by
  have := put_ne n
  cases h : put n with
  | nil => exact absurd h this
  | cons _ _ => simp
inductive Got where
  | ok (n k : Nat)
  | bad (e : Nat)
deriving DecidableEq
/-- Byte by byte, from the i-th on, with what was gathered so far. -/
def go : List UInt8 → Nat → Nat → Got
  | [], _, _ => .bad 7
  | c :: r, i, acc =>
    if i = 9 ∧ 1 < c.toNat then .bad 4
    else if c.toNat < 128 then
      if c.toNat = 0 ∧ 0 < i then .bad 3 else .ok (acc + c.toNat % 128 * 2 ^ (7 * i)) (i + 1)
    else go r (i + 1) (acc + c.toNat % 128 * 2 ^ (7 * i))
def get (l : List UInt8) : Got := go l 0 0
theorem u8_small {n : Nat} (h : n < 256) : (UInt8.ofNat n).toNat = n := by
  rw [UInt8.toNat_ofNat']; exact Nat.mod_eq_of_lt h
/-- How much room there is from the i-th byte on. -/
def room (i : Nat) : Nat := 2 ^ (64 - 7 * i)
theorem room_succ {i : Nat} (h : i < 9) : room i = 128 * room (i + 1) := by
  unfold room
  rw [show 64 - 7 * i = 7 + (64 - 7 * (i + 1)) by omega, Nat.pow_add]
theorem room_nine : room 9 = 2 := rfl
theorem room_ge {i : Nat} (h : i < 9) : 256 ≤ room i := by
  rw [room_succ h]
  have : 2 ≤ room (i + 1) := by
    unfold room
    calc 2 = 2 ^ 1 := rfl
      _ ≤ _ := Nat.pow_le_pow_right (by omega) (by omega)
  omega
theorem shift_succ (i m : Nat) : m * 2 ^ (7 * (i + 1)) = m * 128 * 2 ^ (7 * i) := by
  rw [Nat.mul_add, Nat.pow_add, show (2 : Nat) ^ (7 * 1) = 128 from rfl, Nat.mul_comm (2 ^ (7 * i)) 128, Nat.mul_assoc]
theorem go_put (m : Nat) : ∀ (i acc : Nat) (r : List UInt8), i ≤ 9 → m < room i → (0 < m ∨ i = 0) → go (put m ++ r) i acc = .ok (acc + m * 2 ^ (7 * i)) (i + (put m).length) := by
  induction m using Nat.strongRecOn with
  | ind m ih =>
    intro i acc r hi hm h0
    by_cases h : m < 128
    · rw [put_small h, List.singleton_append]
      simp only [go, List.length_singleton]
      rw [u8_small (by omega), if_neg (fun hh => by obtain ⟨rfl, h1⟩ := hh; rw [room_nine] at hm; omega), if_pos h, if_neg (fun hh => by omega), Nat.mod_eq_of_lt h]
    · have hi9 : i < 9 := by
        rcases Nat.lt_or_ge i 9 with h9 | h9
        · exact h9
        · have : i = 9 := by omega
          subst this; rw [room_nine] at hm; omega
      rw [put_big h, List.cons_append]
      simp only [go]
      rw [u8_small (by omega), if_neg (by omega), if_neg (by omega), ih (m / 128) (by omega) (i + 1) _ r (by omega) (by rw [room_succ hi9] at hm; omega) (Or.inl (by omega)), shift_succ]
      have e1 : (m % 128 + 128) % 128 = m % 128 := by omega
      have e2 : acc + (m % 128 + 128) % 128 * 2 ^ (7 * i) + m / 128 * 128 * 2 ^ (7 * i) = acc + m * 2 ^ (7 * i) := by
        rw [e1, Nat.add_assoc, ← Nat.add_mul]
        congr 2; omega
      rw [e2, List.length_cons]
      congr 1; omega
theorem room_zero : room 0 = 18446744073709551616 := rfl
/-- What is written is read, whatever stands behind it. -/
theorem get_put (n : Nat) (r : List UInt8) (h : n < 18446744073709551616) : get (put n ++ r) = .ok n (put n).length := by
  have := go_put n 0 0 r (by omega) (by rw [room_zero]; exact h) (Or.inr rfl)
  simpa [get] using this
theorem go_ok (l : List UInt8) : ∀ (i acc n k : Nat), i ≤ 9 → go l i acc = .ok n k → ∃ m, n = acc + m * 2 ^ (7 * i) ∧ i < k ∧ k ≤ i + l.length ∧ put m = l.take (k - i) ∧ m < room i ∧ (0 < i → 0 < m) := by
  induction l with
  | nil => intro i acc n k _ h; simp [go] at h
  | cons c r ih =>
    intro i acc n k hi h
    have hc := c.toNat_lt
    simp only [go] at h
    by_cases h9 : i = 9 ∧ 1 < c.toNat
    · rw [if_pos h9] at h; cases h
    · rw [if_neg h9] at h
      by_cases h1 : c.toNat < 128
      · rw [if_pos h1] at h
        by_cases h0 : c.toNat = 0 ∧ 0 < i
        · rw [if_pos h0] at h; cases h
        · rw [if_neg h0] at h
          injection h with e1 e2
          refine ⟨c.toNat, by rw [← e1, Nat.mod_eq_of_lt h1], by omega, by simp; omega, ?_, ?_, by omega⟩
          · rw [put_small h1, ← e2, show i + 1 - i = 1 by omega, List.take_succ_cons, List.take_zero, UInt8.ofNat_toNat]
          · rcases Nat.lt_or_ge i 9 with hlt | hge
            · have := room_ge hlt; omega
            · have : i = 9 := by omega
              subst this; rw [room_nine]; omega
      · rw [if_neg h1] at h
        have hi9 : i < 9 := by omega
        obtain ⟨m, e1, e2, e3, e4, e5, e6⟩ := ih (i + 1) _ n k (by omega) h
        have hm := e6 (by omega)
        refine ⟨c.toNat % 128 + 128 * m, ?_, by omega, by simp; omega, ?_, by rw [room_succ hi9]; omega, by omega⟩
        · rw [e1, shift_succ, Nat.add_assoc, ← Nat.add_mul, Nat.mul_comm m 128]
        · rw [put_big (by omega)]
          have e7 : (c.toNat % 128 + 128 * m) % 128 + 128 = c.toNat := by omega
          have e8 : (c.toNat % 128 + 128 * m) / 128 = m := by omega
          rw [e7, e8, e4, UInt8.ofNat_toNat, show k - i = (k - (i + 1)) + 1 by omega, List.take_succ_cons]
/-- What is read is written so. -/
theorem get_ok (l : List UInt8) (n k : Nat) (h : get l = .ok n k) : 1 ≤ k ∧ k ≤ l.length ∧ put n = l.take k ∧ n < 18446744073709551616 := by
  obtain ⟨m, e1, e2, e3, e4, e5, _⟩ := go_ok l 0 0 n k (by omega) h
  have : n = m := by simpa using e1
  subst this
  exact ⟨by omega, by omega, by simpa using e4, by rw [← room_zero]; exact e5⟩
theorem put_len (n : Nat) (h : n < 18446744073709551616) : (put n).length ≤ 10 := by
  have h1 := get_put n [] h
  have hk : ∀ (l : List UInt8) (i acc n k : Nat), i ≤ 9 → go l i acc = .ok n k → k ≤ 10 := by
    intro l
    induction l with
    | nil => intro i acc n k _ h; simp [go] at h
    | cons c r ih =>
      intro i acc n k hi h
      simp only [go] at h
      split at h
      · cases h
      · rename_i h9
        split at h
        · split at h
          · cases h
          · injection h with e1 e2; omega
        · exact ih (i + 1) _ n k (by omega) h
  exact hk _ 0 0 _ _ (by omega) h1
/-- A number of no more than so much. -/
def int (l : List UInt8) (most : Int) : Got :=
  match get l with
  | .bad e => .bad e
  | .ok n k => if most < 0 ∨ most < (n : Int) then .bad 2 else .ok n k
theorem int_bad {l : List UInt8} {most : Int} {e : Nat} (h : get l = .bad e) : int l most = .bad e := by simp only [int, h]
theorem int_ok {l : List UInt8} {most : Int} {n k : Nat} (h : get l = .ok n k) (hm : ¬ (most < 0 ∨ most < (n : Int))) : int l most = .ok n k := by simp only [int, h]; rw [if_neg hm]
theorem int_range {l : List UInt8} {most : Int} {n k : Nat} (h : get l = .ok n k) (hm : most < 0 ∨ most < (n : Int)) : int l most = .bad 2 := by simp only [int, h]; rw [if_pos hm]
/-- A sign below. -/
def zig (n : Int) : Nat := if 0 ≤ n then (2 * n).toNat else (-2 * n - 1).toNat
def zag (u : Nat) : Int := if u % 2 = 0 then ((u / 2 : Nat) : Int) else -((u / 2 : Nat) : Int) - 1
theorem zag_zig (n : Int) : zag (zig n) = n := by
  unfold zig
  by_cases h : 0 ≤ n
  · rw [if_pos h]; unfold zag; rw [if_pos (by omega)]; omega
  · rw [if_neg h]; unfold zag; rw [if_neg (by omega)]; omega
theorem zig_zag (u : Nat) : zig (zag u) = u := by
  unfold zag
  by_cases h : u % 2 = 0
  · rw [if_pos h]; unfold zig; rw [if_pos (by omega)]; omega
  · rw [if_neg h]; unfold zig; rw [if_neg (by omega)]; omega
theorem zig_lt (n : Int) (h1 : -9223372036854775808 ≤ n) (h2 : n ≤ 9223372036854775807) : zig n < 18446744073709551616 := by
  unfold zig; split <;> omega
end Vary
end Go.Proofs.YtdbpiabcpjgblaaGreatDoor
/- Plain laws of texts with their lengths ahead. -/
namespace Go.Proofs.YtdbpiabcpjgblaaGreatDoor
namespace Span
inductive Got where
  | ok (t : List UInt8) (k : Nat)
  | bad (e : Nat)
def put (l : List UInt8) : List UInt8 := Vary.put l.length ++ l
def get (l : List UInt8) : Got :=
  match Vary.int l 2000 with
  | .bad e => if e = 2 then .bad 4 else .bad e
  | .ok n k => if l.length < k + n then .bad 7 else .ok ((l.drop k).take n) (k + n)
theorem get_bad {l : List UInt8} {e : Nat} (h : Vary.int l 2000 = .bad e) : get l = if e = 2 then .bad 4 else .bad e := by simp only [get, h]
theorem get_short {l : List UInt8} {n k : Nat} (h : Vary.int l 2000 = .ok n k) (hl : l.length < k + n) : get l = .bad 7 := by simp only [get, h]; rw [if_pos hl]
theorem get_full {l : List UInt8} {n k : Nat} (h : Vary.int l 2000 = .ok n k) (hl : ¬ l.length < k + n) : get l = .ok ((l.drop k).take n) (k + n) := by simp only [get, h]; rw [if_neg hl]
theorem int_inv {l : List UInt8} {n k : Nat} {m : Int} (h : Vary.int l m = .ok n k) : Vary.get l = .ok n k ∧ (n : Int) ≤ m := by
  simp only [Vary.int] at h
  split at h
  · cases h
  · rename_i n' k' hg
    split at h
    · cases h
    · injection h with e1 e2
      subst e1; subst e2
      exact ⟨hg, by omega⟩
/-- What is written is read, whatever stands behind. -/
theorem get_put (l r : List UInt8) (h : l.length ≤ 2000) : get (put l ++ r) = .ok l (put l).length := by
  have h1 := Vary.get_put l.length (l ++ r) (by omega)
  rw [← List.append_assoc] at h1
  have h2 : Vary.int (put l ++ r) 2000 = .ok l.length (Vary.put l.length).length := Vary.int_ok h1 (by omega)
  have hl : (put l ++ r).length = (Vary.put l.length).length + l.length + r.length := by simp [put]; omega
  rw [get_full h2 (by omega)]
  congr 1
  · unfold put
    rw [List.append_assoc, List.drop_left, List.take_left]
  · simp [put]
/-- What is read is written so. -/
theorem get_ok {l t : List UInt8} {k : Nat} (h : get l = .ok t k) : t.length ≤ 2000 ∧ 1 ≤ k ∧ k ≤ l.length ∧ put t = l.take k ∧ (put t).length = k := by
  simp only [get] at h
  split at h
  · split at h <;> cases h
  · rename_i n k' hi
    split at h
    · cases h
    · rename_i hl
      injection h with e1 e2
      obtain ⟨hg, hn⟩ := int_inv hi
      obtain ⟨h1, h2, h3, h4⟩ := Vary.get_ok _ _ _ hg
      have ht : t.length = n := by rw [← e1]; simp; omega
      refine ⟨by omega, by omega, by omega, ?_, ?_⟩
      · unfold put
        rw [ht, h3, ← e1, ← e2, List.take_add]
      · unfold put
        rw [List.length_append, ht, h3, ← e2]; simp; omega
end Span
end Go.Proofs.YtdbpiabcpjgblaaGreatDoor
