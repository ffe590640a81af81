/- A map of the call's own that holds what a function tells. -/
import Derived.Maps.OwnSet
import Derived.Maps.StringElems
import Derived.StringKeys
import Derived.Test.YtognjohloobliaaDoorLib4
namespace Go.Proofs.YtognjohloobliaaDoor
open Go.RowKit Go.Maps Go.ChangeMaps Go.MapKept Go.WideShapes Go.WideMaps
open Go.WideElems (Fit)
set_option linter.unusedVariables false
set_option linter.unusedSectionVars false
/-- What a map's keys are. -/
structure MKey (P : Program) (k : TypeId) {κ : Type} (kv : κ → Value) (kl : κ → Lit) (ok : κ → Prop) : Prop where
  keyed : Keyed P k
  inj : ∀ a b, kl a = kl b → a = b
  read : ∀ s, ok s → keyOf P k (kv s) = some (kl s)
/-- What a map's elements are. -/
structure MElem (P : Program) (e : TypeId) {α : Type} (vv : α → Value) (vl : α → Lit) (x0 : α) (ok : α → Prop) : Prop where
  read : ∀ x, ok x → plainElem (H := Unit) P e (vv x) = some (.lit (vl x), [])
  inv : ∀ v x ps, plainElem (H := Unit) P e v = some (.lit (vl x), ps) → v = vv x
  zero : ∀ w, (zeroValue e).run P w = .ok (vv x0) w
  ok0 : ok x0
theorem key_str {P : Program} {k : TypeId} (h : P.underlying k = some .string) : MKey P k Value.string (fun s => .string s.data.toList) (fun s => s.size ≤ maxLen) :=
  ⟨string_keyed h, fun a b e => by injection e with e; exact ba_ext e, fun s hs => keyOf_string_mk h hs⟩
theorem key_nat {P : Program} {k : TypeId} (h : P.underlying k = some (.int .i64)) : MKey P k (fun n : Nat => Value.int .i64 n) (fun n => .int .i64 n) (fun n => n ≤ maxLen) :=
  ⟨int_keyed h, fun a b e => by injection e with _ e; omega, fun s hs => keyOf_int_mk h (WalkArith.wf_i64 (by unfold maxLen at hs; omega))⟩
theorem elem_int {P : Program} {e : TypeId} (h : P.underlying e = some (.int .i64)) (hz : ∀ w, (zeroValue e).run P w = .ok (.int .i64 0) w) : MElem P e (fun n : Nat => Value.int .i64 n) (fun n => .int .i64 n) 0 (fun n => n ≤ maxLen) :=
  ⟨fun x hx => plainElem_int h (WalkArith.wf_i64 (by unfold maxLen at hx; omega)), fun v x ps hv => by
    obtain ⟨a, rfl, he, _⟩ := plainElem_int_inv h hv
    simp only [Prod.mk.injEq, DataW.lit.injEq, Lit.int.injEq] at he
    rw [he.1.2], hz, by unfold maxLen; omega⟩
theorem elem_bool {P : Program} {e : TypeId} (h : P.underlying e = some .bool) (hz : ∀ w, (zeroValue e).run P w = .ok (.bool false) w) : MElem P e Value.bool Lit.bool false (fun _ => True) :=
  ⟨fun x _ => plainElem_bool h x, fun v x ps hv => by
    unfold plainElem at hv
    rw [h] at hv
    cases v <;> simp at hv
    rw [hv.1], hz, trivial⟩
theorem elem_str {P : Program} {e : TypeId} (h : P.underlying e = some .string) (hz : ∀ w, (zeroValue e).run P w = .ok (.string ⟨#[]⟩) w) : MElem P e Value.string (fun s => .string s.data.toList) ⟨#[]⟩ (fun s => s.size ≤ maxLen) :=
  ⟨fun x hx => plainElem_string h hx, fun v x ps hv => by
    obtain ⟨s, rfl, he, _⟩ := plainElem_string_inv h hv
    simp only [Prod.mk.injEq, DataW.lit.injEq, Lit.string.injEq] at he
    rw [ba_ext he.1], hz, by unfold maxLen; exact Nat.zero_le _⟩
section
variable {P : Program} {k e t : TypeId} {κ α : Type} {kv : κ → Value} {kl : κ → Lit} {okk : κ → Prop} {vv : α → Value} {vl : α → Lit} {x0 : α} {okv : α → Prop} {w : World} {b n : Nat} {f : κ → Option α}
/-- Block b of w is a map of at most n entries that holds at s what f tells. -/
def MapIs (P : Program) (k e : TypeId) {κ α : Type} (kl : κ → Lit) (vl : α → Lit) (w : World) (b n : Nat) (f : κ → Option α) : Prop :=
  ∃ D : DataW Unit, w.ownsMap P k (plainElem P e) b n D ∧ ∀ s, has D (kl s) = (f s).isSome ∧ ∀ x, f s = some x → ∀ z, D.atKey (kl s) z = .lit (vl x)
theorem MapIs.made (w : World) (P : Program) (k e : TypeId) {κ α : Type} (kl : κ → Lit) (vl : α → Lit) : MapIs P k e kl vl (w.alloc (.map #[] 0)) w.heap.size 0 (fun _ => none) :=
  ⟨.map [], World.ownsMap_made _ _ _ _, fun s => ⟨rfl, fun x h => by cases h⟩⟩
theorem MapIs.lt (h : MapIs P k e kl vl w b n f) : b < w.heap.size := by obtain ⟨D, h, _⟩ := h; exact h.lt
theorem MapIs.mono (h : MapIs P k e kl vl w b n f) {n' : Nat} (hn : n ≤ n') : MapIs P k e kl vl w b n' f := by obtain ⟨D, h, h2⟩ := h; exact ⟨D, h.mono hn, h2⟩
theorem MapIs.of_block {w' : World} (h : MapIs P k e kl vl w b n f) (hb : w'.heap[b]? = w.heap[b]?) : MapIs P k e kl vl w' b n f := by
  obtain ⟨D, ⟨es, clock, hb', F, hs, hD⟩, h2⟩ := h
  exact ⟨D, ⟨es, clock, hb.trans hb', F, hs, hD⟩, h2⟩
theorem MapIs.grown {w' : World} {row : Option Nat} (h : MapIs P k e kl vl w b n f) (hg : w.grownBy w' row) (hne : some b ≠ row) : MapIs P k e kl vl w' b n f := h.of_block (hg.block b h.lt hne)
theorem MapIs.alloc (h : MapIs P k e kl vl w b n f) (o : Obj) : MapIs P k e kl vl (w.alloc o) b n f := by obtain ⟨D, h, h2⟩ := h; exact ⟨D, h.alloc o, h2⟩
theorem MapIs.drew (h : MapIs P k e kl vl w b n f) : MapIs P k e kl vl w.drew b n f := h
theorem MapIs.below {w' : World} (h : MapIs P k e kl vl w b n f) (hb : Below w.heap.size w w') : MapIs P k e kl vl w' b n f := h.of_block (hb.block b h.lt)
theorem MapIs.update [DecidableEq κ] (h : MapIs P k e kl vl w b n f) (K : MKey P k kv kl okk) (E : MElem P e vv vl x0 okv) (ht : P.underlying t = some (.map k e)) (hn : n < maxLen) (s : κ) (hs : okk s) (x : α) (hx : okv x) :
    ∃ w', (Instr.mapUpdate t (.map (some b)) (kv s) (vv x)).run P w = .ok () w' ∧ MapIs P k e kl vl w' b (n + 1) (fun s' => if s' = s then some x else f s') ∧ w.grownBy w' (some b) := by
  obtain ⟨D, ho, hD⟩ := h
  obtain ⟨w', hrun, ho', hg⟩ := ho.update K.keyed ht hn (K.read s hs) (E.read x hx)
  have hI := ho.isMap
  have hk := K.keyed.key (K.read s hs)
  refine ⟨w', hrun, ⟨_, ho', fun s' => ?_⟩, hg⟩
  by_cases he : s' = s
  · subst he
    simp only [if_true, Option.isSome_some]
    refine ⟨has_put_same hI hk _, fun y hy z => ?_⟩
    injection hy with hy
    rw [atKey_put_same hI hk, hy]
  · have hne : kl s' ≠ kl s := fun h => he (K.inj _ _ h)
    simp only [if_neg he]
    refine ⟨(has_put_other hne _).trans (hD s').1, fun y hy z => ?_⟩
    rw [atKey_put_other hne]; exact (hD s').2 y hy z
theorem MapIs.look (h : MapIs P k e kl vl w b n f) (K : MKey P k kv kl okk) (E : MElem P e vv vl x0 okv) (ht : P.underlying t = some (.map k e)) (s : κ) (hs : okk s) :
    (Instr.lookup t (.map (some b)) (kv s) true).run P w = .ok (.tuple #[vv ((f s).getD x0), .bool (f s).isSome]) w ∧ (Instr.lookup t (.map (some b)) (kv s) false).run P w = .ok (vv ((f s).getD x0)) w := by
  obtain ⟨D, ho, hD⟩ := h
  have key : ∀ v ps, plainElem (H := Unit) P e v = some (D.atKey (kl s) (.lit (vl x0)), ps) → v = vv ((f s).getD x0) := by
    intro v ps hv
    cases hf : f s with
    | none =>
      have h1 : has D (kl s) = false := by rw [(hD s).1, hf]; rfl
      rw [atKey_of_not_has h1] at hv
      exact E.inv _ _ _ hv
    | some x =>
      rw [(hD s).2 x hf] at hv
      exact E.inv _ _ _ hv
  constructor
  · obtain ⟨v, ps, hrun, hv⟩ := ho.look_ok K.keyed ht (E.zero w) (E.read x0 E.ok0) (K.read s hs)
    rw [hrun, (hD s).1, key v ps hv]
  · obtain ⟨v, ps, hrun, hv⟩ := ho.lookup K.keyed ht (E.zero w) (E.read x0 E.ok0) (K.read s hs)
    rw [hrun, key v ps hv]
/-- 'clear(m)'. -/
theorem MapIs.clear (h : MapIs P k e kl vl w b n f) (ht : P.underlying t = some (.map k e)) (ty : TypeId) :
    ∃ w', (Builtin.clear_ #[t] ty #[.map (some b)]).run P w = .ok (.tuple #[]) w' ∧ MapIs P k e kl vl w' b 0 (fun _ => none) ∧ w.grownBy w' (some b) := by
  obtain ⟨D, ⟨es, clock, hb, F, hs, rfl⟩, hD⟩ := h
  refine ⟨setBlock w b (.map #[] clock), ?_, ⟨.map [], ⟨#[], clock, heap_setBlock_same hb _, ⟨by simp, MapKept.stamped_empty clock, by simp⟩, Nat.le_refl _, rfl⟩, fun s => ⟨rfl, fun x h => by cases h⟩⟩, ⟨rfl, rfl, rfl, by simp [setBlock], fun i _ hi => heap_setBlock_other hb _ (fun e => hi (by rw [e]))⟩⟩
  simp [Builtin.clear_, run_underlying ht, MapKept.run_getObj_map hb, MapKept.run_setObj_map _ hb, Result.andThen, setBlock]
section
variable {ops : Array Oper} {rest : List Oper} {o : Oper} {a : Act} {Q : Exit → Act → World → Prop}
/-- 'v, ok := m[k]' at the operation, where there is one. -/
theorem wp_look_yes (hg : o.guard = none) (m x : Operand) (t : TypeId) (hop : o.op = Op.lookup t m x true) (h : MapIs P k e kl vl w b n f) (K : MKey P k kv kl okk) (E : MElem P e vv vl x0 okv) (ht : P.underlying t = some (.map k e)) (s : κ) (hs : okk s) (y : α) (hr : f s = some y)
    (hm : a.eval m = .map (some b)) (hx : a.eval x = kv s) (hK : wpList P ops Q rest (a.put o.dst (.tuple #[vv y, .bool true])) w) : wpList P ops Q (o :: rest) a w := by
  refine wpList_plain hg fun K' hK' => ?_
  have hrun := (h.look K E ht s hs).1
  rw [hr] at hrun
  unfold Oper.wp
  simp [execOp, hop, hm, hx, hrun, Result.andThen]
  exact hK' _ _ hK
theorem wp_look_no (hg : o.guard = none) (m x : Operand) (t : TypeId) (hop : o.op = Op.lookup t m x true) (h : MapIs P k e kl vl w b n f) (K : MKey P k kv kl okk) (E : MElem P e vv vl x0 okv) (ht : P.underlying t = some (.map k e)) (s : κ) (hs : okk s) (hr : f s = none)
    (hm : a.eval m = .map (some b)) (hx : a.eval x = kv s) (hK : wpList P ops Q rest (a.put o.dst (.tuple #[vv x0, .bool false])) w) : wpList P ops Q (o :: rest) a w := by
  refine wpList_plain hg fun K' hK' => ?_
  have hrun := (h.look K E ht s hs).1
  rw [hr] at hrun
  unfold Oper.wp
  simp [execOp, hop, hm, hx, hrun, Result.andThen]
  exact hK' _ _ hK
/-- 'm[k]' at the operation. -/
theorem wp_look (hg : o.guard = none) (m x : Operand) (t : TypeId) (hop : o.op = Op.lookup t m x false) (h : MapIs P k e kl vl w b n f) (K : MKey P k kv kl okk) (E : MElem P e vv vl x0 okv) (ht : P.underlying t = some (.map k e)) (s : κ) (hs : okk s) (y : α) (hr : (f s).getD x0 = y)
    (hm : a.eval m = .map (some b)) (hx : a.eval x = kv s) (hK : wpList P ops Q rest (a.put o.dst (vv y)) w) : wpList P ops Q (o :: rest) a w := by
  refine wpList_plain hg fun K' hK' => ?_
  have hrun := (h.look K E ht s hs).2
  rw [hr] at hrun
  unfold Oper.wp
  simp [execOp, hop, hm, hx, hrun, Result.andThen]
  exact hK' _ _ hK
/-- 'm[k] = v' at the operation. -/
theorem wp_update [DecidableEq κ] (hg : o.guard = none) (m x v : Operand) (t : TypeId) (hop : o.op = Op.mapUpdate t m x v) (h : MapIs P k e kl vl w b n f) (K : MKey P k kv kl okk) (E : MElem P e vv vl x0 okv) (ht : P.underlying t = some (.map k e)) (hn : n < 1000000000) (s : κ) (hs : okk s) (y : α) (hy : okv y)
    (hm : a.eval m = .map (some b)) (hx : a.eval x = kv s) (hv : a.eval v = vv y)
    (hK : ∀ w', MapIs P k e kl vl w' b (n + 1) (fun s' => if s' = s then some y else f s') → w.grownBy w' (some b) → wpList P ops Q rest (a.put o.dst undef) w') : wpList P ops Q (o :: rest) a w := by
  refine wpList_plain hg fun K' hK' => ?_
  obtain ⟨w', hrun, r1, r2⟩ := h.update K E ht (by unfold maxLen; omega) s hs y hy
  unfold Oper.wp
  simp [execOp, hop, hm, hx, hv, hrun, Result.andThen]
  exact hK' _ _ (hK w' r1 r2)
/-- 'clear(m)' at the operation. -/
theorem wp_clear (hg : o.guard = none) (m : Operand) (t : TypeId) (hop : o.op = Op.call { callee := Callee.builtin Builtin.clear, args := #[m], argTypes := #[t] }) (h : MapIs P k e kl vl w b n f) (ht : P.underlying t = some (.map k e))
    (hm : a.eval m = .map (some b)) (hK : ∀ w', MapIs P k e kl vl w' b 0 (fun _ => none) → w.grownBy w' (some b) → wpList P ops Q rest (a.put o.dst (.tuple #[])) w') : wpList P ops Q (o :: rest) a w := by
  refine wpList_plain hg fun K' hK' => ?_
  obtain ⟨w', hrun, r1, r2⟩ := h.clear ht o.type
  unfold Oper.wp
  simp [execOp, hop, resolve, invoke, builtin, hm, hrun, Result.andThen]
  exact hK' _ _ (hK w' r1 r2)
end
end
end Go.Proofs.YtognjohloobliaaDoor
