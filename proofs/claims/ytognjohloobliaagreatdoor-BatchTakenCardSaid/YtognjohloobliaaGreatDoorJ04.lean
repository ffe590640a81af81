/- A map of the call's own, keys strings, elements whatever values: what it holds; ranging over it. -/
import Derived.Maps.RangeWalk
import Derived.Test.YtognjohloobliaaGreatDoorJ03
namespace Go.Proofs.YtognjohloobliaaGreatDoor
set_option linter.unusedSimpArgs false
open Go.RowKit Go.Maps Go.ChangeMaps Go.MapKept Go.WideShapes Go.WideMaps
open Go.WideElems (Fit)
set_option linter.unusedVariables false
set_option linter.unusedSectionVars false
def valElem (v : Value) : Option (DataW Value × List MemPlace) := some (.held v, [])
theorem valElem_inv {v u : Value} {ps : List MemPlace} (h : valElem v = some (.held u, ps)) : v = u := by
 simp only [valElem, Option.some.injEq, Prod.mk.injEq, DataW.held.injEq] at h
 exact h.1
def strLit (s : ByteArray) : Lit := .string s.data.toList
theorem strLit_inj {a b : ByteArray} (h : strLit a = strLit b) : a = b := by
 injection h with e; exact ba_ext e
theorem keyOf_str_inv {P : Program} {k : TypeId} (hk : P.underlying k = some .string) {key : Value} {kl : Lit} (h : keyOf P k key = some kl) : ∃ s, key = .string s ∧ kl = strLit s ∧ s.size ≤ maxLen := by
 rw [keyOf_string hk] at h
 unfold mapKey at h
 rw [hk] at h
 cases key <;> simp at h
 exact ⟨_, rfl, h.2.symm, h.1⟩
section
variable {P : Program} {k e t : TypeId} {w : World} {b n : Nat} {f : ByteArray → Option Value}
/-- What a datum holds, key by key, with its keys. -/
structure Holds_ (D : DataW Value) (f : ByteArray → Option Value) : Prop where
 has_ : ∀ s, has D (strLit s) = (f s).isSome
 at_ : ∀ s v, f s = some v → ∀ z, D.atKey (strLit s) z = .held v
 keys : ∃ ks : List ByteArray, ks.Nodup ∧ (∀ s, s ∈ ks ↔ (f s).isSome = true) ∧ size D = ks.length
theorem strike_len : ∀ (ks : List ByteArray) (s : ByteArray), ks.Nodup → s ∈ ks → (ks.filter fun s' => !decide (s' = s)).length + 1 = ks.length
 | [], s, _, h => by cases h
 | a :: ks, s, hn, h => by
  obtain ⟨h1, h2⟩ := List.nodup_cons.1 hn
  by_cases he : a = s
  ·subst he
   rw [List.filter_cons_of_neg (by simp), List.length_cons]
   congr 2
   exact List.filter_eq_self.2 fun x hx => by
    have : x ≠ a := fun e => h1 (e ▸ hx)
    simp [this]
  ·rw [List.filter_cons_of_pos (by simp [he]), List.length_cons, List.length_cons]
   have := strike_len ks s h2 (by rcases List.mem_cons.1 h with e | e; exact absurd e.symm he; exact e)
   omega
/-- Block b of w is a map of at most n entries that holds at s what f tells. -/
def MapV (P : Program) (k : TypeId) (w : World) (b n : Nat) (f : ByteArray → Option Value) : Prop :=
 ∃ D : DataW Value, w.ownsMap P k valElem b n D ∧ Holds_ D f
theorem MapV.made (w : World) (P : Program) (k : TypeId) : MapV P k (w.alloc (.map #[] 0)) w.heap.size 0 (fun _ => none) :=
 ⟨.map [], World.ownsMap_made _ _ _ _, ⟨fun _ => rfl, (fun _ _ h => by cases h), ⟨[], List.nodup_nil, by simp, rfl⟩⟩⟩
theorem MapV.lt (h : MapV P k w b n f) : b < w.heap.size := by obtain ⟨D, h, _⟩ := h; exact h.lt
theorem MapV.mono (h : MapV P k w b n f) {n' : Nat} (hn : n ≤ n') : MapV P k w b n' f := by obtain ⟨D, h, h2⟩ := h; exact ⟨D, h.mono hn, h2⟩
theorem MapV.of_block {w' : World} (h : MapV P k w b n f) (hb : w'.heap[b]? = w.heap[b]?) : MapV P k w' b n f := by
 obtain ⟨D, ⟨es, clock, hb', F, hs, hD⟩, h2⟩ := h
 exact ⟨D, ⟨es, clock, hb.trans hb', F, hs, hD⟩, h2⟩
theorem MapV.alloc (h : MapV P k w b n f) (o : Obj) : MapV P k (w.alloc o) b n f := by obtain ⟨D, h, h2⟩ := h; exact ⟨D, h.alloc o, h2⟩
theorem MapV.drew (h : MapV P k w b n f) : MapV P k w.drew b n f := h
theorem isKey_str (s : ByteArray) (K : Keyed P k) (hk : P.underlying k = some .string) (hs : s.size ≤ maxLen) : WideAt.IsKeyLit (strLit s) := K.key (keyOf_string_mk hk hs)
theorem MapV.update (h : MapV P k w b n f) (hk : P.underlying k = some .string) (ht : P.underlying t = some (.map k e)) (hn : n < maxLen) (s : ByteArray) (hs : s.size ≤ maxLen) (x : Value) :
  ∃ w', (Instr.mapUpdate t (.map (some b)) (.string s) x).run P w = .ok () w' ∧ MapV P k w' b (n + 1) (fun s' => if s' = s then some x else f s') ∧ w.grownBy w' (some b) := by
 obtain ⟨D, ho, hD⟩ := h
 have K := string_keyed (P := P) hk
 obtain ⟨w', hrun, ho', hg⟩ := ho.update K ht hn (keyOf_string_mk hk hs) (show valElem x = some (.held x, []) from rfl)
 have hI := ho.isMap
 have hki := isKey_str s K hk hs
 have hT := ho.tidy K
 refine ⟨w', hrun, ⟨_, ho', ?_, ?_, ?_⟩, hg⟩
 ·intro s'
  by_cases he : s' = s
  ·subst he
   simp only [if_true, Option.isSome_some]
   exact has_put_same hI hki _
  ·simp only [if_neg he]
   exact (has_put_other (fun h => he (strLit_inj h)) _).trans (hD.has_ s')
 ·intro s' v hv z
  by_cases he : s' = s
  ·subst he
   simp only [if_true, Option.some.injEq] at hv
   rw [show Lit.string s'.data.toList = strLit s' from rfl, atKey_put_same hI hki, hv]
  ·simp only [if_neg he] at hv
   rw [show Lit.string s.data.toList = strLit s from rfl, atKey_put_other (fun h => he (strLit_inj h))]
   exact hD.at_ s' v hv z
 ·obtain ⟨ks, h1, h2, h3⟩ := hD.keys
  rw [show Lit.string s.data.toList = strLit s from rfl, size_put hT, hD.has_ s]
  by_cases hin : (f s).isSome = true
  ·rw [if_pos hin]
   refine ⟨ks, h1, fun s' => ?_, h3⟩
   by_cases he : s' = s
   ·subst he; simp only [if_true]; exact ⟨fun _ => rfl, fun _ => (h2 s').2 hin⟩
   ·simp only [if_neg he]; exact h2 s'
  ·rw [if_neg hin]
   have hni : s ∉ ks := fun h => hin ((h2 s).1 h)
   refine ⟨s :: ks, List.nodup_cons.2 ⟨hni, h1⟩, fun s' => ?_, by rw [h3]; rfl⟩
   by_cases he : s' = s
   ·subst he; simp
   ·simp only [if_neg he, List.mem_cons, he, false_or]; exact h2 s'
theorem MapV.look (h : MapV P k w b n f) (hk : P.underlying k = some .string) (ht : P.underlying t = some (.map k e)) (z : Value) (hz : (zeroValue e).run P w = .ok z w) (s : ByteArray) (hs : s.size ≤ maxLen) :
  (Instr.lookup t (.map (some b)) (.string s) false).run P w = .ok ((f s).getD z) w := by
 obtain ⟨D, ho, hD⟩ := h
 obtain ⟨v, ps, hrun, hv⟩ := ho.lookup (string_keyed (P := P) hk) ht hz (show valElem z = some (.held z, []) from rfl) (keyOf_string_mk hk hs)
 rw [hrun]
 cases hf : f s with
 | none =>
  have h1 : has D (strLit s) = false := by rw [hD.has_, hf]; rfl
  rw [show Lit.string s.data.toList = strLit s from rfl, atKey_of_not_has h1] at hv
  rw [valElem_inv hv]; rfl
 | some x =>
  rw [show Lit.string s.data.toList = strLit s from rfl, hD.at_ s x hf] at hv
  rw [valElem_inv hv]; rfl
theorem MapV.drop (h : MapV P k w b n f) (hk : P.underlying k = some .string) (ht : P.underlying t = some (.map k e)) (s : ByteArray) (hs : s.size ≤ maxLen) (ty : TypeId) :
  ∃ w', (Builtin.delete_ #[t, k] ty #[.map (some b), .string s]).run P w = .ok (.tuple #[]) w' ∧ MapV P k w' b n (fun s' => if s' = s then none else f s') ∧ w.grownBy w' (some b) := by
 obtain ⟨D, ho, hD⟩ := h
 have K := string_keyed (P := P) hk
 obtain ⟨w', hrun, ho', hg⟩ := ho.drop K ht (keyOf_string_mk hk hs) ty
 refine ⟨w', hrun, ⟨_, ho', ?_, ?_, ?_⟩, hg.grown⟩
 ·intro s'
  by_cases he : s' = s
  ·subst he; simp only [if_true]; exact has_del_same
  ·simp only [if_neg he]; exact (has_del_other (fun h => he (strLit_inj h))).trans (hD.has_ s')
 ·intro s' v hv z
  by_cases he : s' = s
  ·subst he; simp at hv
  ·simp only [if_neg he] at hv
   exact (atKey_del_other (fun h => he (strLit_inj h)) z).trans (hD.at_ s' v hv z)
 ·obtain ⟨ks, h1, h2, h3⟩ := hD.keys
  have hsd := size_del (k := strLit s) (ho.tidy K)
  rw [hD.has_ s] at hsd
  refine ⟨ks.filter fun s' => !decide (s' = s), h1.filter _, fun s' => ?_, ?_⟩
  ·by_cases he : s' = s
   ·subst he; simp
   ·simp only [List.mem_filter, he, decide_false, Bool.not_false, and_true, if_neg he]; exact h2 s'
  ·have hlen : (ks.filter fun s' => !decide (s' = s)).length + (if (f s).isSome = true then 1 else 0) = ks.length := by
    by_cases hin : (f s).isSome = true
    ·rw [if_pos hin]
     have hm := (h2 s).2 hin
     exact strike_len ks s h1 hm
    ·rw [if_neg hin]
     have : ks.filter (fun s' => !decide (s' = s)) = ks := List.filter_eq_self.2 fun a ha => by
      have : a ≠ s := fun e => hin ((h2 s).1 (e ▸ ha))
      simp [this]
     rw [this]; rfl
   have e0 : (Lit.string s.data.toList) = strLit s := rfl
   rw [e0]
   omega
/-- 'for k, v := range m' under way. -/
def RangeV (P : Program) (k : TypeId) (w : World) (b r n : Nat) (f : ByteArray → Option Value) (left : ByteArray → Bool) (cnt : Nat) : Prop :=
 ∃ (D : DataW Value) (L : Lit → Bool), w.ranges P k valElem b r n D L cnt ∧ Holds_ D f ∧ ∀ s, L (strLit s) = left s
theorem RangeV.left_eq {r cnt : Nat} {left : ByteArray → Bool} (h : RangeV P k w b r n f left cnt) : w.rangeLeft b r = cnt := by
 obtain ⟨D, L, h1, h2, _⟩ := h; exact h1.left_eq
theorem RangeV.lt {r cnt : Nat} {left : ByteArray → Bool} (h : RangeV P k w b r n f left cnt) : r < w.heap.size := by
 obtain ⟨D, L, h1, h2, _⟩ := h; exact h1.lt
section
variable {ops : Array Oper} {rest : List Oper} {o : Oper} {a : Act} {Q : Exit → Act → World → Prop}
/-- 'range m' at the operation. -/
theorem wp_rangev (hg : o.guard = none) (m : Operand) (t : TypeId) (hop : o.op = Op.range t m) (h : MapV P k w b n f) (hk : P.underlying k = some .string) (ht : P.underlying t = some (.map k e)) (hm : a.eval m = .map (some b))
  (hK : ∀ w' cnt, RangeV P k w' b w.heap.size n f (fun s => (f s).isSome) cnt → w.grownBy w' none → w'.heap.size = w.heap.size + 1 → wpList P ops Q rest (a.put o.dst (.pointer (some ⟨w.heap.size, 0, none⟩))) w') : wpList P ops Q (o :: rest) a w := by
 obtain ⟨D, ho, hD⟩ := h
 exact wpList_range_own w hg m t hop k e (string_keyed (P := P) hk) ht valElem b n D hm ho fun w' h1 h2 h3 => hK w' _ ⟨D, _, h1, hD, hD.has_⟩ h2 h3
/-- The step. -/
theorem wp_nextv {r cnt : Nat} {left : ByteArray → Bool} (hg : o.guard = none) (it : Operand) (hop : o.op = Op.next it false) (hk : P.underlying k = some .string) (hit : a.eval it = .pointer (some ⟨r, 0, none⟩)) (h : RangeV P k w b r n f left cnt)
  (hDone : (∀ s, left s = false) → wpList P ops Q rest (a.put o.dst (.tuple #[.bool false])) w)
  (hMore : ∀ (s : ByteArray) (v : Value) (w' : World) (cnt' : Nat), left s = true → (f s).isSome = true → (∀ u, f s = some u → v = u) → s.size ≤ maxLen → RangeV P k w' b r n f (fun s' => left s' && !decide (s' = s)) cnt' → cnt' < cnt →
   w.grownBy w' (some r) → w'.heap.size = w.heap.size → (Instr.entry (.pointer (some ⟨r, 0, none⟩))).run P w' = .ok (.tuple #[.string s, v]) w' → wpList P ops Q rest (a.put o.dst (.tuple #[.bool true, .string s, v])) w') :
  wpList P ops Q (o :: rest) a w := by
 have K := string_keyed (P := P) hk
 obtain ⟨D, L, hr, hD, hL⟩ := h
 refine wpList_plain hg fun K' hK' => ?_
 have hent := hr.owns.entries K
 unfold Oper.wp
 rcases hr.next K o.type with ⟨h0, hl, hrun⟩ | ⟨key, v, kl, y, w', cnt', hkey, hlk, hv, hat, hrun, hrg, hlt, hgr, hsz, hen⟩
 ·simp [execOp, hop, hit, hrun, Result.andThen]
  exact hK' _ _ (hDone fun s => (hL s).symm.trans (hl _))
 ·obtain ⟨s, rfl, rfl, hs⟩ := keyOf_str_inv hk hkey
  simp [execOp, hop, hit, hrun, Result.andThen]
  have hy : y = (.held v, []) := by unfold valElem at hv; injection hv with hv; exact hv.symm
  have hhas : has D (strLit s) = true := has_true_of_atKey (y := y.1) hat
  refine hK' _ _ (hMore s v w' cnt' ((hL s).symm.trans hlk) ((hD.has_ s).symm.trans hhas) (fun u hu => ?_) hs ⟨D, _, hrg, hD, fun s' => ?_⟩ hlt hgr hsz hen)
  ·have h1 := hat (.lit (.bool true))
   rw [hD.at_ s u hu, hy] at h1
   injection h1 with h1; exact h1.symm
  ·rw [hL s']
   congr 1
   congr 1
   by_cases he : s' = s
   ·subst he; rw [WideAt.sameKey_self (isKey_str s' K hk hs)]; simp
   ·have : strLit s' ≠ strLit s := fun h => he (strLit_inj h)
    rw [sameKey_ne this]; simp [he]
end
end
end Go.Proofs.YtognjohloobliaaGreatDoor
