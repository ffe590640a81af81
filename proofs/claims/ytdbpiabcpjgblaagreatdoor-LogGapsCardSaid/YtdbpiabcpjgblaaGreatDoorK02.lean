/- A map of the call's own that holds what a function tells. -/
import Derived.Maps.OwnSet
import Derived.Maps.StringElems
import Derived.StringKeys
import Derived.Test.YtdbpiabcpjgblaaGreatDoorK01
import Derived.Maps.RangeWalk
import Derived.Lib.Bytealg
namespace Go.Proofs.YtdbpiabcpjgblaaGreatDoor
open Go.RowKit Go.Maps Go.ChangeMaps Go.MapKept Go.WideShapes Go.WideMaps
open Go.WideElems (Fit)
set_option linter.unusedVariables false
set_option linter.unusedSectionVars false
/-- What a map's keys are. -/
structure MKey (P : Program) (k : TypeId) {κ : Type} (kv : κ → Value) (kl : κ → Lit) (ok : κ → Prop) : Prop where
  keyed : Keyed P k
  inj : ∀ a b, kl a = kl b → a = b
  read : ∀ s, ok s → keyOf P k (kv s) = some (kl s)
/-- What a map's elements are. -/
structure MElem (P : Program) (e : TypeId) {α : Type} (vv : α → Value) (vl : α → Lit) (x0 : α) (ok : α → Prop) : Prop where
  read : ∀ x, ok x → plainElem (H := Unit) P e (vv x) = some (.lit (vl x), [])
  inv : ∀ v x ps, plainElem (H := Unit) P e v = some (.lit (vl x), ps) → v = vv x
  zero : ∀ w, (zeroValue e).run P w = .ok (vv x0) w
  ok0 : ok x0
theorem key_str {P : Program} {k : TypeId} (h : P.underlying k = some .string) : MKey P k Value.string (fun s => .string s.data.toList) (fun s => s.size ≤ maxLen) :=
  ⟨string_keyed h, fun a b e => by injection e with e; exact ba_ext e, fun s hs => keyOf_string_mk h hs⟩
theorem key_nat {P : Program} {k : TypeId} (h : P.underlying k = some (.int .i64)) : MKey P k (fun n : Nat => Value.int .i64 n) (fun n => .int .i64 n) (fun n => n ≤ maxLen) :=
  ⟨int_keyed h, fun a b e => by injection e with _ e; omega, fun s hs => keyOf_int_mk h (WalkArith.wf_i64 (by unfold maxLen at hs; omega))⟩
theorem elem_int {P : Program} {e : TypeId} (h : P.underlying e = some (.int .i64)) (hz : ∀ w, (zeroValue e).run P w = .ok (.int .i64 0) w) : MElem P e (fun n : Nat => Value.int .i64 n) (fun n => .int .i64 n) 0 (fun n => n ≤ maxLen) :=
  ⟨fun x hx => plainElem_int h (WalkArith.wf_i64 (by unfold maxLen at hx; omega)), fun v x ps hv => by
    obtain ⟨a, rfl, he, _⟩ := plainElem_int_inv h hv
    simp only [Prod.mk.injEq, DataW.lit.injEq, Lit.int.injEq] at he
    rw [he.1.2], hz, by unfold maxLen; omega⟩
theorem elem_bool {P : Program} {e : TypeId} (h : P.underlying e = some .bool) (hz : ∀ w, (zeroValue e).run P w = .ok (.bool false) w) : MElem P e Value.bool Lit.bool false (fun _ => True) :=
  ⟨fun x _ => plainElem_bool h x, fun v x ps hv => by
    unfold plainElem at hv
    rw [h] at hv
    cases v <;> simp at hv
    rw [hv.1], hz, trivial⟩
section
variable {P : Program} {k e t : TypeId} {κ α : Type} {kv : κ → Value} {kl : κ → Lit} {okk : κ → Prop} {vv : α → Value} {vl : α → Lit} {x0 : α} {okv : α → Prop} {w : World} {b n : Nat} {f : κ → Option α}
/-- Block b of w is a map of at most n entries that holds at s what f tells. -/
def MapIs (P : Program) (k e : TypeId) {κ α : Type} (kl : κ → Lit) (vl : α → Lit) (w : World) (b n : Nat) (f : κ → Option α) : Prop :=
  ∃ D : DataW Unit, w.ownsMap P k (plainElem P e) b n D ∧ ∀ s, has D (kl s) = (f s).isSome ∧ ∀ x, f s = some x → ∀ z, D.atKey (kl s) z = .lit (vl x)
theorem MapIs.made (w : World) (P : Program) (k e : TypeId) {κ α : Type} (kl : κ → Lit) (vl : α → Lit) : MapIs P k e kl vl (w.alloc (.map #[] 0)) w.heap.size 0 (fun _ => none) :=
  ⟨.map [], World.ownsMap_made _ _ _ _, fun s => ⟨rfl, fun x h => by cases h⟩⟩
theorem MapIs.lt (h : MapIs P k e kl vl w b n f) : b < w.heap.size := by obtain ⟨D, h, _⟩ := h; exact h.lt
theorem MapIs.mono (h : MapIs P k e kl vl w b n f) {n' : Nat} (hn : n ≤ n') : MapIs P k e kl vl w b n' f := by obtain ⟨D, h, h2⟩ := h; exact ⟨D, h.mono hn, h2⟩
theorem MapIs.of_block {w' : World} (h : MapIs P k e kl vl w b n f) (hb : w'.heap[b]? = w.heap[b]?) : MapIs P k e kl vl w' b n f := by
  obtain ⟨D, ⟨es, clock, hb', F, hs, hD⟩, h2⟩ := h
  exact ⟨D, ⟨es, clock, hb.trans hb', F, hs, hD⟩, h2⟩
theorem MapIs.grown {w' : World} {row : Option Nat} (h : MapIs P k e kl vl w b n f) (hg : w.grownBy w' row) (hne : some b ≠ row) : MapIs P k e kl vl w' b n f := h.of_block (hg.block b h.lt hne)
theorem MapIs.update [DecidableEq κ] (h : MapIs P k e kl vl w b n f) (K : MKey P k kv kl okk) (E : MElem P e vv vl x0 okv) (ht : P.underlying t = some (.map k e)) (hn : n < maxLen) (s : κ) (hs : okk s) (x : α) (hx : okv x) :
    ∃ w', (Instr.mapUpdate t (.map (some b)) (kv s) (vv x)).run P w = .ok () w' ∧ MapIs P k e kl vl w' b (n + 1) (fun s' => if s' = s then some x else f s') ∧ w.grownBy w' (some b) := by
  obtain ⟨D, ho, hD⟩ := h
  obtain ⟨w', hrun, ho', hg⟩ := ho.update K.keyed ht hn (K.read s hs) (E.read x hx)
  have hI := ho.isMap
  have hk := K.keyed.key (K.read s hs)
  refine ⟨w', hrun, ⟨_, ho', fun s' => ?_⟩, hg⟩
  by_cases he : s' = s
  · subst he
    simp only [if_true, Option.isSome_some]
    refine ⟨has_put_same hI hk _, fun y hy z => ?_⟩
    injection hy with hy
    rw [atKey_put_same hI hk, hy]
  · have hne : kl s' ≠ kl s := fun h => he (K.inj _ _ h)
    simp only [if_neg he]
    refine ⟨(has_put_other hne _).trans (hD s').1, fun y hy z => ?_⟩
    rw [atKey_put_other hne]; exact (hD s').2 y hy z
theorem MapIs.look (h : MapIs P k e kl vl w b n f) (K : MKey P k kv kl okk) (E : MElem P e vv vl x0 okv) (ht : P.underlying t = some (.map k e)) (s : κ) (hs : okk s) :
    (Instr.lookup t (.map (some b)) (kv s) true).run P w = .ok (.tuple #[vv ((f s).getD x0), .bool (f s).isSome]) w ∧ (Instr.lookup t (.map (some b)) (kv s) false).run P w = .ok (vv ((f s).getD x0)) w := by
  obtain ⟨D, ho, hD⟩ := h
  have key : ∀ v ps, plainElem (H := Unit) P e v = some (D.atKey (kl s) (.lit (vl x0)), ps) → v = vv ((f s).getD x0) := by
    intro v ps hv
    cases hf : f s with
    | none =>
      have h1 : has D (kl s) = false := by rw [(hD s).1, hf]; rfl
      rw [atKey_of_not_has h1] at hv
      exact E.inv _ _ _ hv
    | some x =>
      rw [(hD s).2 x hf] at hv
      exact E.inv _ _ _ hv
  constructor
  · obtain ⟨v, ps, hrun, hv⟩ := ho.look_ok K.keyed ht (E.zero w) (E.read x0 E.ok0) (K.read s hs)
    rw [hrun, (hD s).1, key v ps hv]
  · obtain ⟨v, ps, hrun, hv⟩ := ho.lookup K.keyed ht (E.zero w) (E.read x0 E.ok0) (K.read s hs)
    rw [hrun, key v ps hv]
section
variable {ops : Array Oper} {rest : List Oper} {o : Oper} {a : Act} {Q : Exit → Act → World → Prop}
/-- 'v, ok := m[k]' at the operation, where there is one. -/
theorem wp_look_yes (hg : o.guard = none) (m x : Operand) (t : TypeId) (hop : o.op = Op.lookup t m x true) (h : MapIs P k e kl vl w b n f) (K : MKey P k kv kl okk) (E : MElem P e vv vl x0 okv) (ht : P.underlying t = some (.map k e)) (s : κ) (hs : okk s) (y : α) (hr : f s = some y)
    (hm : a.eval m = .map (some b)) (hx : a.eval x = kv s) (hK : wpList P ops Q rest (a.put o.dst (.tuple #[vv y, .bool true])) w) : wpList P ops Q (o :: rest) a w := by
  refine wpList_plain hg fun K' hK' => ?_
  have hrun := (h.look K E ht s hs).1
  rw [hr] at hrun
  unfold Oper.wp
  simp [execOp, hop, hm, hx, hrun, Result.andThen]
  exact hK' _ _ hK
theorem wp_look_no (hg : o.guard = none) (m x : Operand) (t : TypeId) (hop : o.op = Op.lookup t m x true) (h : MapIs P k e kl vl w b n f) (K : MKey P k kv kl okk) (E : MElem P e vv vl x0 okv) (ht : P.underlying t = some (.map k e)) (s : κ) (hs : okk s) (hr : f s = none)
    (hm : a.eval m = .map (some b)) (hx : a.eval x = kv s) (hK : wpList P ops Q rest (a.put o.dst (.tuple #[vv x0, .bool false])) w) : wpList P ops Q (o :: rest) a w := by
  refine wpList_plain hg fun K' hK' => ?_
  have hrun := (h.look K E ht s hs).1
  rw [hr] at hrun
  unfold Oper.wp
  simp [execOp, hop, hm, hx, hrun, Result.andThen]
  exact hK' _ _ hK
/-- 'm[k]' at the operation. -/
theorem wp_look (hg : o.guard = none) (m x : Operand) (t : TypeId) (hop : o.op = Op.lookup t m x false) (h : MapIs P k e kl vl w b n f) (K : MKey P k kv kl okk) (E : MElem P e vv vl x0 okv) (ht : P.underlying t = some (.map k e)) (s : κ) (hs : okk s) (y : α) (hr : (f s).getD x0 = y)
    (hm : a.eval m = .map (some b)) (hx : a.eval x = kv s) (hK : wpList P ops Q rest (a.put o.dst (vv y)) w) : wpList P ops Q (o :: rest) a w := by
  refine wpList_plain hg fun K' hK' => ?_
  have hrun := (h.look K E ht s hs).2
  rw [hr] at hrun
  unfold Oper.wp
  simp [execOp, hop, hm, hx, hrun, Result.andThen]
  exact hK' _ _ hK
/-- 'm[k] = v' at the operation. -/
theorem wp_update [DecidableEq κ] (hg : o.guard = none) (m x v : Operand) (t : TypeId) (hop : o.op = Op.mapUpdate t m x v) (h : MapIs P k e kl vl w b n f) (K : MKey P k kv kl okk) (E : MElem P e vv vl x0 okv) (ht : P.underlying t = some (.map k e)) (hn : n < 1000000000) (s : κ) (hs : okk s) (y : α) (hy : okv y)
    (hm : a.eval m = .map (some b)) (hx : a.eval x = kv s) (hv : a.eval v = vv y)
    (hK : ∀ w', MapIs P k e kl vl w' b (n + 1) (fun s' => if s' = s then some y else f s') → w.grownBy w' (some b) → wpList P ops Q rest (a.put o.dst undef) w') : wpList P ops Q (o :: rest) a w := by
  refine wpList_plain hg fun K' hK' => ?_
  obtain ⟨w', hrun, r1, r2⟩ := h.update K E ht (by unfold maxLen; omega) s hs y hy
  unfold Oper.wp
  simp [execOp, hop, hm, hx, hv, hrun, Result.andThen]
  exact hK' _ _ (hK w' r1 r2)
end
end
end Go.Proofs.YtdbpiabcpjgblaaGreatDoor
/- A map of the call's own, keys strings, elements whatever values: what it holds; ranging over it. -/
namespace Go.Proofs.YtdbpiabcpjgblaaGreatDoor
set_option linter.unusedSimpArgs false
open Go.RowKit Go.Maps Go.ChangeMaps Go.MapKept Go.WideShapes Go.WideMaps
open Go.WideElems (Fit)
set_option linter.unusedVariables false
set_option linter.unusedSectionVars false
def valElem (v : Value) : Option (DataW Value × List MemPlace) := some (.held v, [])
theorem valElem_inv {v u : Value} {ps : List MemPlace} (h : valElem v = some (.held u, ps)) : v = u := by
  simp only [valElem, Option.some.injEq, Prod.mk.injEq, DataW.held.injEq] at h
  exact h.1
def strLit (s : ByteArray) : Lit := .string s.data.toList
theorem strLit_inj {a b : ByteArray} (h : strLit a = strLit b) : a = b := by
  injection h with e; exact ba_ext e
theorem keyOf_str_inv {P : Program} {k : TypeId} (hk : P.underlying k = some .string) {key : Value} {kl : Lit} (h : keyOf P k key = some kl) : ∃ s, key = .string s ∧ kl = strLit s ∧ s.size ≤ maxLen := by
  rw [keyOf_string hk] at h
  unfold mapKey at h
  rw [hk] at h
  cases key <;> simp at h
  exact ⟨_, rfl, h.2.symm, h.1⟩
section
variable {P : Program} {k e t : TypeId} {w : World} {b n : Nat} {f : ByteArray → Option Value}
/-- What a datum holds, key by key, with its keys. -/
structure Holds_ (D : DataW Value) (f : ByteArray → Option Value) : Prop where
  has_ : ∀ s, has D (strLit s) = (f s).isSome
  at_ : ∀ s v, f s = some v → ∀ z, D.atKey (strLit s) z = .held v
  keys : ∃ ks : List ByteArray, ks.Nodup ∧ (∀ s, s ∈ ks ↔ (f s).isSome = true) ∧ size D = ks.length
theorem strike_len : ∀ (ks : List ByteArray) (s : ByteArray), ks.Nodup → s ∈ ks → (ks.filter fun s' => !decide (s' = s)).length + 1 = ks.length
  | [], s, _, h => by cases h
  | a :: ks, s, hn, h => by
    obtain ⟨h1, h2⟩ := List.nodup_cons.1 hn
    by_cases he : a = s
    · subst he
      rw [List.filter_cons_of_neg (by simp), List.length_cons]
      congr 2
      exact List.filter_eq_self.2 fun x hx => by
        have : x ≠ a := fun e => h1 (e ▸ hx)
        simp [this]
    · rw [List.filter_cons_of_pos (by simp [he]), List.length_cons, List.length_cons]
      have := strike_len ks s h2 (by rcases List.mem_cons.1 h with e | e; exact absurd e.symm he; exact e)
      omega
/-- Block b of w is a map of at most n entries that holds at s what f tells. -/
def MapV (P : Program) (k : TypeId) (w : World) (b n : Nat) (f : ByteArray → Option Value) : Prop :=
  ∃ D : DataW Value, w.ownsMap P k valElem b n D ∧ Holds_ D f
theorem MapV.made (w : World) (P : Program) (k : TypeId) : MapV P k (w.alloc (.map #[] 0)) w.heap.size 0 (fun _ => none) :=
  ⟨.map [], World.ownsMap_made _ _ _ _, ⟨fun _ => rfl, (fun _ _ h => by cases h), ⟨[], List.nodup_nil, by simp, rfl⟩⟩⟩
theorem MapV.lt (h : MapV P k w b n f) : b < w.heap.size := by obtain ⟨D, h, _⟩ := h; exact h.lt
theorem MapV.mono (h : MapV P k w b n f) {n' : Nat} (hn : n ≤ n') : MapV P k w b n' f := by obtain ⟨D, h, h2⟩ := h; exact ⟨D, h.mono hn, h2⟩
theorem MapV.of_block {w' : World} (h : MapV P k w b n f) (hb : w'.heap[b]? = w.heap[b]?) : MapV P k w' b n f := by
  obtain ⟨D, ⟨es, clock, hb', F, hs, hD⟩, h2⟩ := h
  exact ⟨D, ⟨es, clock, hb.trans hb', F, hs, hD⟩, h2⟩
theorem MapV.alloc (h : MapV P k w b n f) (o : Obj) : MapV P k (w.alloc o) b n f := by obtain ⟨D, h, h2⟩ := h; exact ⟨D, h.alloc o, h2⟩
theorem MapV.drew (h : MapV P k w b n f) : MapV P k w.drew b n f := h
theorem isKey_str (s : ByteArray) (K : Keyed P k) (hk : P.underlying k = some .string) (hs : s.size ≤ maxLen) : WideAt.IsKeyLit (strLit s) := K.key (keyOf_string_mk hk hs)
theorem MapV.update (h : MapV P k w b n f) (hk : P.underlying k = some .string) (ht : P.underlying t = some (.map k e)) (hn : n < maxLen) (s : ByteArray) (hs : s.size ≤ maxLen) (x : Value) :
    ∃ w', (Instr.mapUpdate t (.map (some b)) (.string s) x).run P w = .ok () w' ∧ MapV P k w' b (n + 1) (fun s' => if s' = s then some x else f s') ∧ w.grownBy w' (some b) := by
  obtain ⟨D, ho, hD⟩ := h
  have K := string_keyed (P := P) hk
  obtain ⟨w', hrun, ho', hg⟩ := ho.update K ht hn (keyOf_string_mk hk hs) (show valElem x = some (.held x, []) from rfl)
  have hI := ho.isMap
  have hki := isKey_str s K hk hs
  have hT := ho.tidy K
  refine ⟨w', hrun, ⟨_, ho', ?_, ?_, ?_⟩, hg⟩
  · intro s'
    by_cases he : s' = s
    · subst he
      simp only [if_true, Option.isSome_some]
      exact has_put_same hI hki _
    · simp only [if_neg he]
      exact (has_put_other (fun h => he (strLit_inj h)) _).trans (hD.has_ s')
  · intro s' v hv z
    by_cases he : s' = s
    · subst he
      simp only [if_true, Option.some.injEq] at hv
      rw [show Lit.string s'.data.toList = strLit s' from rfl, atKey_put_same hI hki, hv]
    · simp only [if_neg he] at hv
      rw [show Lit.string s.data.toList = strLit s from rfl, atKey_put_other (fun h => he (strLit_inj h))]
      exact hD.at_ s' v hv z
  · obtain ⟨ks, h1, h2, h3⟩ := hD.keys
    rw [show Lit.string s.data.toList = strLit s from rfl, size_put hT, hD.has_ s]
    by_cases hin : (f s).isSome = true
    · rw [if_pos hin]
      refine ⟨ks, h1, fun s' => ?_, h3⟩
      by_cases he : s' = s
      · subst he; simp only [if_true]; exact ⟨fun _ => rfl, fun _ => (h2 s').2 hin⟩
      · simp only [if_neg he]; exact h2 s'
    · rw [if_neg hin]
      have hni : s ∉ ks := fun h => hin ((h2 s).1 h)
      refine ⟨s :: ks, List.nodup_cons.2 ⟨hni, h1⟩, fun s' => ?_, by rw [h3]; rfl⟩
      by_cases he : s' = s
      · subst he; simp
      · simp only [if_neg he, List.mem_cons, he, false_or]; exact h2 s'
theorem MapV.look (h : MapV P k w b n f) (hk : P.underlying k = some .string) (ht : P.underlying t = some (.map k e)) (z : Value) (hz : (zeroValue e).run P w = .ok z w) (s : ByteArray) (hs : s.size ≤ maxLen) :
    (Instr.lookup t (.map (some b)) (.string s) false).run P w = .ok ((f s).getD z) w := by
  obtain ⟨D, ho, hD⟩ := h
  obtain ⟨v, ps, hrun, hv⟩ := ho.lookup (string_keyed (P := P) hk) ht hz (show valElem z = some (.held z, []) from rfl) (keyOf_string_mk hk hs)
  rw [hrun]
  cases hf : f s with
  | none =>
    have h1 : has D (strLit s) = false := by rw [hD.has_, hf]; rfl
    rw [show Lit.string s.data.toList = strLit s from rfl, atKey_of_not_has h1] at hv
    rw [valElem_inv hv]; rfl
  | some x =>
    rw [show Lit.string s.data.toList = strLit s from rfl, hD.at_ s x hf] at hv
    rw [valElem_inv hv]; rfl
theorem MapV.drop (h : MapV P k w b n f) (hk : P.underlying k = some .string) (ht : P.underlying t = some (.map k e)) (s : ByteArray) (hs : s.size ≤ maxLen) (ty : TypeId) :
    ∃ w', (Builtin.delete_ #[t, k] ty #[.map (some b), .string s]).run P w = .ok (.tuple #[]) w' ∧ MapV P k w' b n (fun s' => if s' = s then none else f s') ∧ w.grownBy w' (some b) := by
  obtain ⟨D, ho, hD⟩ := h
  have K := string_keyed (P := P) hk
  obtain ⟨w', hrun, ho', hg⟩ := ho.drop K ht (keyOf_string_mk hk hs) ty
  refine ⟨w', hrun, ⟨_, ho', ?_, ?_, ?_⟩, hg.grown⟩
  · intro s'
    by_cases he : s' = s
    · subst he; simp only [if_true]; exact has_del_same
    · simp only [if_neg he]; exact (has_del_other (fun h => he (strLit_inj h))).trans (hD.has_ s')
  · intro s' v hv z
    by_cases he : s' = s
    · subst he; simp at hv
    · simp only [if_neg he] at hv
      exact (atKey_del_other (fun h => he (strLit_inj h)) z).trans (hD.at_ s' v hv z)
  · obtain ⟨ks, h1, h2, h3⟩ := hD.keys
    have hsd := size_del (k := strLit s) (ho.tidy K)
    rw [hD.has_ s] at hsd
    refine ⟨ks.filter fun s' => !decide (s' = s), h1.filter _, fun s' => ?_, ?_⟩
    · by_cases he : s' = s
      · subst he; simp
      · simp only [List.mem_filter, he, decide_false, Bool.not_false, and_true, if_neg he]; exact h2 s'
    · have hlen : (ks.filter fun s' => !decide (s' = s)).length + (if (f s).isSome = true then 1 else 0) = ks.length := by
        by_cases hin : (f s).isSome = true
        · rw [if_pos hin]
          have hm := (h2 s).2 hin
          exact strike_len ks s h1 hm
        · rw [if_neg hin]
          have : ks.filter (fun s' => !decide (s' = s)) = ks := List.filter_eq_self.2 fun a ha => by
            have : a ≠ s := fun e => hin ((h2 s).1 (e ▸ ha))
            simp [this]
          rw [this]; rfl
      have e0 : (Lit.string s.data.toList) = strLit s := rfl
      rw [e0]
      omega
/-- 'for k, v := range m' under way. -/
def RangeV (P : Program) (k : TypeId) (w : World) (b r n : Nat) (f : ByteArray → Option Value) (left : ByteArray → Bool) (cnt : Nat) : Prop :=
  ∃ (D : DataW Value) (L : Lit → Bool), w.ranges P k valElem b r n D L cnt ∧ Holds_ D f ∧ ∀ s, L (strLit s) = left s
theorem RangeV.left_eq {r cnt : Nat} {left : ByteArray → Bool} (h : RangeV P k w b r n f left cnt) : w.rangeLeft b r = cnt := by
  obtain ⟨D, L, h1, h2, _⟩ := h; exact h1.left_eq
theorem RangeV.lt {r cnt : Nat} {left : ByteArray → Bool} (h : RangeV P k w b r n f left cnt) : r < w.heap.size := by
  obtain ⟨D, L, h1, h2, _⟩ := h; exact h1.lt
section
variable {ops : Array Oper} {rest : List Oper} {o : Oper} {a : Act} {Q : Exit → Act → World → Prop}
/-- 'range m' at the operation. -/
theorem wp_rangev (hg : o.guard = none) (m : Operand) (t : TypeId) (hop : o.op = Op.range t m) (h : MapV P k w b n f) (hk : P.underlying k = some .string) (ht : P.underlying t = some (.map k e)) (hm : a.eval m = .map (some b))
    (hK : ∀ w' cnt, RangeV P k w' b w.heap.size n f (fun s => (f s).isSome) cnt → w.grownBy w' none → w'.heap.size = w.heap.size + 1 → wpList P ops Q rest (a.put o.dst (.pointer (some ⟨w.heap.size, 0, none⟩))) w') : wpList P ops Q (o :: rest) a w := by
  obtain ⟨D, ho, hD⟩ := h
  exact wpList_range_own w hg m t hop k e (string_keyed (P := P) hk) ht valElem b n D hm ho fun w' h1 h2 h3 => hK w' _ ⟨D, _, h1, hD, hD.has_⟩ h2 h3
/-- The step. -/
theorem wp_nextv {r cnt : Nat} {left : ByteArray → Bool} (hg : o.guard = none) (it : Operand) (hop : o.op = Op.next it false) (hk : P.underlying k = some .string) (hit : a.eval it = .pointer (some ⟨r, 0, none⟩)) (h : RangeV P k w b r n f left cnt)
    (hDone : (∀ s, left s = false) → wpList P ops Q rest (a.put o.dst (.tuple #[.bool false])) w)
    (hMore : ∀ (s : ByteArray) (v : Value) (w' : World) (cnt' : Nat), left s = true → (f s).isSome = true → (∀ u, f s = some u → v = u) → s.size ≤ maxLen → RangeV P k w' b r n f (fun s' => left s' && !decide (s' = s)) cnt' → cnt' < cnt →
      w.grownBy w' (some r) → w'.heap.size = w.heap.size → (Instr.entry (.pointer (some ⟨r, 0, none⟩))).run P w' = .ok (.tuple #[.string s, v]) w' → wpList P ops Q rest (a.put o.dst (.tuple #[.bool true, .string s, v])) w') :
    wpList P ops Q (o :: rest) a w := by
  have K := string_keyed (P := P) hk
  obtain ⟨D, L, hr, hD, hL⟩ := h
  refine wpList_plain hg fun K' hK' => ?_
  have hent := hr.owns.entries K
  unfold Oper.wp
  rcases hr.next K o.type with ⟨h0, hl, hrun⟩ | ⟨key, v, kl, y, w', cnt', hkey, hlk, hv, hat, hrun, hrg, hlt, hgr, hsz, hen⟩
  · simp [execOp, hop, hit, hrun, Result.andThen]
    exact hK' _ _ (hDone fun s => (hL s).symm.trans (hl _))
  · obtain ⟨s, rfl, rfl, hs⟩ := keyOf_str_inv hk hkey
    simp [execOp, hop, hit, hrun, Result.andThen]
    have hy : y = (.held v, []) := by unfold valElem at hv; injection hv with hv; exact hv.symm
    have hhas : has D (strLit s) = true := has_true_of_atKey (y := y.1) hat
    refine hK' _ _ (hMore s v w' cnt' ((hL s).symm.trans hlk) ((hD.has_ s).symm.trans hhas) (fun u hu => ?_) hs ⟨D, _, hrg, hD, fun s' => ?_⟩ hlt hgr hsz hen)
    · have h1 := hat (.lit (.bool true))
      rw [hD.at_ s u hu, hy] at h1
      injection h1 with h1; exact h1.symm
    · rw [hL s']
      congr 1
      congr 1
      by_cases he : s' = s
      · subst he; rw [WideAt.sameKey_self (isKey_str s' K hk hs)]; simp
      · have : strLit s' ≠ strLit s := fun h => he (strLit_inj h)
        rw [sameKey_ne this]; simp [he]
end
end
end Go.Proofs.YtdbpiabcpjgblaaGreatDoor
/- Worlds that differ in some blocks alone. -/
namespace Go.Proofs.YtdbpiabcpjgblaaGreatDoor
open Go.RowKit
set_option linter.unusedVariables false
/-- All that stood is as it was, but for the blocks of S. -/
structure Only (S : Nat → Prop) (w w' : World) : Prop where
  os : w'.os = w.os
  tape : w'.tape = w.tape
  output : w'.output = w.output
  size : w.heap.size ≤ w'.heap.size
  block : ∀ k, k < w.heap.size → ¬ S k → w'.heap[k]? = w.heap[k]?
namespace Only
variable {S : Nat → Prop} {w a b : World}
theorem refl (S : Nat → Prop) (w : World) : Only S w w := ⟨rfl, rfl, rfl, Nat.le_refl _, fun _ _ _ => rfl⟩
theorem trans (h : Only S w a) (k : Only S a b) : Only S w b :=
  ⟨k.os.trans h.os, k.tape.trans h.tape, k.output.trans h.output, Nat.le_trans h.size k.size, fun i hi hn => (k.block i (Nat.lt_of_lt_of_le hi h.size) hn).trans (h.block i hi hn)⟩
theorem of_below (S : Nat → Prop) (h : Below w.heap.size w a) : Only S w a := ⟨h.os, h.tape, h.output, h.size, fun i hi _ => h.block i hi⟩
theorem chain (h : Only S w a) (k : Below a.heap.size a b) : Only S w b := h.trans (of_below S k)
theorem below {B : Nat} (h : Only S w a) (hS : ∀ k, S k → B ≤ k) (hB : B ≤ w.heap.size) : Below B w a :=
  ⟨h.os, h.tape, h.output, h.size, fun i hi => h.block i (Nat.lt_of_lt_of_le hi hB) fun hs => by have := hS i hs; omega⟩
theorem alloc (h : Only S w a) (o : Obj) : Only S w (a.alloc o) := h.chain ((Below.refl _ a).alloc (Nat.le_refl _) o)
theorem drew (h : Only S w a) : Only S w a.drew := ⟨h.os, h.tape, h.output, h.size, h.block⟩
theorem grown {row : Option Nat} (h : Only S w a) (hg : a.grownBy b row) (hr : ∀ k, row = some k → S k ∨ w.heap.size ≤ k) : Only S w b :=
  ⟨hg.os.trans h.os, hg.tape.trans h.tape, hg.output.trans h.output, Nat.le_trans h.size hg.size, fun i hi hn =>
    (hg.block i (Nat.lt_of_lt_of_le hi h.size) (fun e => by
      rcases hr i e.symm with hs | hs
      · exact hn hs
      · omega)).trans (h.block i hi hn)⟩
theorem set (h : Only S w a) {p : Addr} (hp : S p.block ∨ w.heap.size ≤ p.block) (v : Value) : Only S w (a.setCell p v) :=
  ⟨h.os, h.tape, h.output, by have := h.size; simpa [World.setCell] using this, fun i hi hn => (Below.heap_setCell a p v i (fun e => by
      rcases hp with hs | hs
      · exact hn (e ▸ hs)
      · omega)).trans (h.block i hi hn)⟩
theorem mono {S' : Nat → Prop} (h : Only S w a) (hS : ∀ k, k < w.heap.size → S k → S' k) : Only S' w a := ⟨h.os, h.tape, h.output, h.size, fun i hi hn => h.block i hi fun hs => hn (hS i hi hs)⟩
theorem cell (h : Only S w a) {p : Addr} {v : Value} (hc : w.cell? p = some v) (hn : ¬ S p.block) : a.cell? p = some v :=
  (World.cell?_of_block (w := w) (h.block p.block (World.block_lt_of_cell? w p hc) hn)).trans hc
end Only
theorem Only.step {S T : Nat → Prop} {w a b : World} (h : Only S w a) (k : Only T a b) (hT : ∀ j, T j → S j ∨ w.heap.size ≤ j) : Only S w b :=
  ⟨k.os.trans h.os, k.tape.trans h.tape, k.output.trans h.output, Nat.le_trans h.size k.size, fun i hi hn => (k.block i (Nat.lt_of_lt_of_le hi h.size) (fun hs => by
    rcases hT i hs with h1 | h1
    · exact hn h1
    · omega)).trans (h.block i hi hn)⟩
theorem Row.only {S : Nat → Prop} {w a : World} {g : Nat} {e : TypeId} {cs : List Value} (h : Row w g e cs) (ho : Only S w a) (hn : ¬ S g) : Row a g e cs := h.of_block (ho.block g h.lt hn)
theorem owns_only {S : Nat → Prop} {w w' : World} {base : Nat} {e : TypeId} {sz n : Nat} {v : Value} {xs : List Value} (h : w.ownsRow base e sz v n xs) (ho : Only S w w') (hn : ∀ k, v.ownBlock = some k → ¬ S k) : w'.ownsRow base e sz v n xs := by
  refine ⟨h.1, ?_⟩
  rcases h.2 with hn0 | ⟨g, cap, cur, rfl, hb1, hg, rest⟩
  · exact .inl hn0
  · exact .inr ⟨g, cap, cur, rfl, hb1, (ho.block g (Array.getElem?_eq_some_iff.1 hg).1 (hn g rfl)).trans hg, rest⟩
end Go.Proofs.YtdbpiabcpjgblaaGreatDoor
/- Stores in plain words: what writes come to, key by key; lists of cells by rising keys. No program. -/
namespace Go.Proofs.YtdbpiabcpjgblaaGreatDoor
set_option linter.unusedVariables false
set_option linter.unusedSimpArgs false
namespace St
open Go.Lib
def lt (a b : ByteArray) : Bool := decide (compareBytes a.data.toList b.data.toList < 0)
theorem ext_ {a b : ByteArray} (h : a.data.toList = b.data.toList) : a = b := by
  cases a; cases b; simp_all
theorem cmp_refl : ∀ a : List UInt8, compareBytes a a = 0
  | [] => by simp [compareBytes]
  | a :: l => by simp [compareBytes, cmp_refl l]
theorem cmp_eq : ∀ a b : List UInt8, compareBytes a b = 0 → a = b
  | [], [], _ => rfl
  | [], _ :: _, h => by simp [compareBytes] at h
  | _ :: _, [], h => by simp [compareBytes] at h
  | a :: l, b :: m, h => by
    rw [compareBytes] at h
    by_cases h1 : a < b
    · rw [if_pos h1] at h; cases h
    · rw [if_neg h1] at h
      by_cases h2 : b < a
      · rw [if_pos h2] at h; cases h
      · rw [if_neg h2] at h
        have e : a = b := by
          rw [UInt8.lt_iff_toNat_lt] at h1 h2
          exact UInt8.toNat_inj.1 (by omega)
        rw [e, cmp_eq l m h]
theorem cmp_neg : ∀ a b : List UInt8, compareBytes b a = - compareBytes a b
  | [], [] => by simp [compareBytes]
  | [], _ :: _ => by simp [compareBytes]
  | _ :: _, [] => by simp [compareBytes]
  | a :: l, b :: m => by
    rw [compareBytes, compareBytes]
    by_cases h1 : a < b
    · have h2 : ¬ b < a := by rw [UInt8.lt_iff_toNat_lt] at h1 ⊢; omega
      rw [if_neg h2, if_pos h1, if_pos h1]; rfl
    · by_cases h2 : b < a
      · rw [if_pos h2, if_neg h1, if_pos h2]
      · rw [if_neg h2, if_neg h1, if_neg h1, if_neg h2, cmp_neg l m]
theorem cmp_trans : ∀ a b c : List UInt8, compareBytes a b < 0 → compareBytes b c < 0 → compareBytes a c < 0
  | [], b, [], h1, h2 => by
    rw [cmp_neg] at h2; omega
  | [], _, _ :: _, _, _ => by simp [compareBytes]
  | _ :: _, [], _, h1, _ => by simp [compareBytes] at h1
  | _ :: _, _ :: _, [], _, h2 => by simp [compareBytes] at h2
  | a :: l, b :: m, c :: n, h1, h2 => by
    rw [compareBytes] at h1 h2 ⊢
    have key : ∀ x y : UInt8, x < y ↔ x.toNat < y.toNat := fun x y => UInt8.lt_iff_toNat_lt
    simp only [key] at *
    by_cases e1 : a.toNat < c.toNat
    · rw [if_pos e1]; decide
    · rw [if_neg e1]
      by_cases e2 : a.toNat < b.toNat
      · have e3 : c.toNat < b.toNat := by omega
        rw [if_neg (by omega), if_pos e3] at h2; omega
      · rw [if_neg e2] at h1
        by_cases e3 : b.toNat < a.toNat
        · rw [if_pos e3] at h1; omega
        · rw [if_neg e3] at h1
          rw [if_neg (by omega)] at h2
          by_cases e4 : c.toNat < b.toNat
          · rw [if_pos e4] at h2; omega
          · rw [if_neg e4] at h2
            rw [if_neg (by omega)]
            exact cmp_trans l m n h1 h2
theorem lt_irrefl (a : ByteArray) : lt a a = false := by simp [lt, cmp_refl]
theorem lt_asymm {a b : ByteArray} (h : lt a b = true) : lt b a = false := by
  simp only [lt, decide_eq_true_eq, decide_eq_false_iff_not] at *
  rw [cmp_neg]; omega
theorem lt_trans {a b c : ByteArray} (h : lt a b = true) (k : lt b c = true) : lt a c = true := by
  simp only [lt, decide_eq_true_eq] at *
  exact cmp_trans _ _ _ h k
theorem lt_total {a b : ByteArray} (h : a ≠ b) (k : lt b a = false) : lt a b = true := by
  simp only [lt, decide_eq_true_eq, decide_eq_false_iff_not] at *
  rw [cmp_neg] at k
  have : compareBytes a.data.toList b.data.toList ≠ 0 := fun e => h (ext_ (cmp_eq _ _ e))
  omega
structure W where
  k : Int
  key : ByteArray
  val : ByteArray
  n : Int
structure Val where
  has : Bool
  text : ByteArray
  sum : Int
  list : List ByteArray
structure Cel where
  key : ByteArray
  val : Val
def no : Val := ⟨false, ⟨#[]⟩, 0, []⟩
def ins (l : List ByteArray) (i : Nat) (x : ByteArray) : List ByteArray := l.take i ++ [x] ++ l.drop i
def step (v : Val) (x : W) : Val :=
  if x.k = 1 then { v with has := true, text := x.val }
  else if x.k = 2 then no
  else if x.k = 3 then { v with sum := v.sum + x.n }
  else { v with list := ins v.list (min x.n.toNat v.list.length) x.val }
/-- What writes come to under a key. -/
def at_ (l : List W) (key : ByteArray) : Val := (l.filter fun x => decide (x.key = key)).foldl step no
def Val.some_ (v : Val) : Bool := v.has || decide (v.sum ≠ 0) || decide (0 < v.list.length)
def IsCells (C : List Cel) (F : ByteArray → Val) : Prop := C.Pairwise (fun a b => lt a.key b.key = true) ∧ ∀ c, c ∈ C ↔ (c.val.some_ = true ∧ F c.key = c.val)
theorem sorted_ext {α : Type} {R : α → α → Prop} (irr : ∀ a, ¬ R a a) (asym : ∀ a b, R a b → ¬ R b a) : ∀ {l m : List α}, l.Pairwise R → m.Pairwise R → (∀ a, a ∈ l ↔ a ∈ m) → l = m
  | [], [], _, _, _ => rfl
  | [], b :: m, _, _, h => by have := (h b).2 (by simp); cases this
  | a :: l, [], _, _, h => by have := (h a).1 (by simp); cases this
  | a :: l, b :: m, h1, h2, h => by
    obtain ⟨p1, p2⟩ := List.pairwise_cons.1 h1
    obtain ⟨q1, q2⟩ := List.pairwise_cons.1 h2
    have hab : a = b := by
      rcases List.mem_cons.1 ((h a).1 (by simp)) with e | e
      · exact e
      · rcases List.mem_cons.1 ((h b).2 (by simp)) with e' | e'
        · exact e'.symm
        · exact absurd (p1 b e') (asym _ _ (q1 a e))
    subst hab
    rw [sorted_ext irr asym p2 q2 fun c => ?_]
    constructor
    · intro hc
      rcases List.mem_cons.1 ((h c).1 (List.mem_cons_of_mem _ hc)) with e | e
      · exact absurd (e ▸ p1 c hc) (irr a)
      · exact e
    · intro hc
      rcases List.mem_cons.1 ((h c).2 (List.mem_cons_of_mem _ hc)) with e | e
      · exact absurd (e ▸ q1 c hc) (irr a)
      · exact e
theorem IsCells.unique {C C' : List Cel} {F : ByteArray → Val} (h : IsCells C F) (h' : IsCells C' F) : C = C' :=
  sorted_ext (fun a e => by rw [lt_irrefl] at e; cases e) (fun a b e e' => by rw [lt_asymm e] at e'; cases e') h.1 h'.1 fun c => (h.2 c).trans (h'.2 c).symm
theorem IsCells.congr {C : List Cel} {F G : ByteArray → Val} (h : IsCells C F) (hF : ∀ s, F s = G s) : IsCells C G := by
  rw [← show F = G from funext hF]; exact h
theorem at_snoc (l : List W) (x : W) (key : ByteArray) : at_ (l ++ [x]) key = if x.key = key then step (at_ l key) x else at_ l key := by
  unfold at_
  rw [List.filter_append, List.foldl_append]
  by_cases h : x.key = key
  · rw [if_pos h, List.filter_cons_of_pos (by simpa using h)]; rfl
  · rw [if_neg h, List.filter_cons_of_neg (by simpa using h)]; rfl
theorem ins_len (l : List ByteArray) (i : Nat) (x : ByteArray) : (ins l i x).length = l.length + 1 := by
  unfold ins
  simp only [List.length_append, List.length_take, List.length_drop, List.length_singleton]; omega
/-- How much sums and lists can be. -/
structure Fits (v : Val) (m : Nat) : Prop where
  lo : -(m * 1125899906842624 : Int) ≤ v.sum
  hi : v.sum ≤ (m * 1125899906842624 : Int)
  len : v.list.length ≤ m
  text : v.text.size ≤ 300
  each : ∀ s ∈ v.list, s.size ≤ 300
structure Good (x : W) : Prop where
  k1 : 1 ≤ x.k
  k4 : x.k ≤ 4
  key : x.key.size ≤ 40
  val : x.val.size ≤ 300
  add : x.k = 3 → -1125899906842624 ≤ x.n ∧ x.n ≤ 1125899906842624
  ins : x.k = 4 → 0 ≤ x.n ∧ x.n ≤ 1000
theorem Fits.no (m : Nat) : Fits no m := ⟨by unfold St.no; simp only; omega, by unfold St.no; simp only; omega, Nat.zero_le _, by simp [St.no, ByteArray.size], fun s h => by cases h⟩
theorem Fits.mono {v : Val} {m n : Nat} (h : Fits v m) (hn : m ≤ n) : Fits v n := ⟨by have := h.lo; omega, by have := h.hi; omega, by have := h.len; omega, h.text, h.each⟩
theorem Fits.step {v : Val} {m : Nat} (h : Fits v m) {x : W} (hx : Good x) : Fits (step v x) (m + 1) := by
  have h1 := h.lo; have h2 := h.hi; have h3 := h.len; have g := hx.add
  unfold St.step
  split
  · exact ⟨by simp only; omega, by simp only; omega, by simp only; omega, hx.val, h.each⟩
  split
  · exact Fits.no _
  split
  · rename_i h3'
    have := g h3'
    exact ⟨by simp only; omega, by simp only; omega, by simp only; omega, h.text, h.each⟩
  · refine ⟨by simp only; omega, by simp only; omega, by simp only [ins_len]; omega, h.text, fun s hs => ?_⟩
    simp only [St.ins, List.mem_append, List.mem_singleton] at hs
    rcases hs with (hs | hs) | hs
    · exact h.each s (List.mem_of_mem_take hs)
    · rw [hs]; exact hx.val
    · exact h.each s (List.mem_of_mem_drop hs)
theorem fold_fits : ∀ (l : List W) (v : Val) (m : Nat), (∀ x ∈ l, Good x) → Fits v m → Fits (l.foldl St.step v) (m + l.length)
  | [], v, m, _, h => h
  | x :: l, v, m, hl, h => by
    have := fold_fits l _ _ (fun y hy => hl y (List.mem_cons_of_mem _ hy)) (h.step (hl x (by simp)))
    rw [List.foldl_cons, List.length_cons, show m + (l.length + 1) = m + 1 + l.length by omega]
    exact this
theorem at_fits (l : List W) (hl : ∀ x ∈ l, Good x) (key : ByteArray) : Fits (at_ l key) l.length := by
  have := fold_fits (l.filter fun x => decide (x.key = key)) no 0 (fun x hx => hl x (List.mem_filter.1 hx).1) (Fits.no 0)
  exact this.mono (by have := List.length_filter_le (fun x : W => decide (x.key = key)) l; omega)
/-- A key of which something is told was written. -/
theorem at_none (l : List W) (key : ByteArray) (h : ∀ x ∈ l, x.key ≠ key) : at_ l key = no := by
  unfold at_
  rw [List.filter_eq_nil_iff.2 fun x hx => by simpa using h x hx]; rfl
theorem at_mem {l : List W} {key : ByteArray} (h : (at_ l key).some_ = true) : ∃ x ∈ l, x.key = key := by
  by_cases hn : ∃ x ∈ l, x.key = key
  · exact hn
  · rw [at_none l key fun x hx e => hn ⟨x, hx, e⟩] at h
    cases h
/-- Some cells are all that have something. -/
theorem cells_of {C : List Cel} {F : ByteArray → Val} (D : List Cel) (hp : C.Perm D) (hs : C.Pairwise fun a b => lt b.key a.key = false) (hn : (D.map (·.key)).Nodup) (hD : ∀ c, c ∈ D ↔ (c.val.some_ = true ∧ F c.key = c.val)) : IsCells C F := by
  have hn' : (C.map (·.key)).Nodup := ((hp.map _).nodup_iff).2 hn
  refine ⟨?_, fun c => (hp.mem_iff).trans (hD c)⟩
  rw [List.Nodup, List.pairwise_map] at hn'
  exact (List.Pairwise.and hs hn').imp fun h => lt_total h.2 h.1
end St
end Go.Proofs.YtdbpiabcpjgblaaGreatDoor
