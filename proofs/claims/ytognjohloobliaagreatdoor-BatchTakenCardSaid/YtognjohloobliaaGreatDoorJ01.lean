/- Small laws of any program: new byte rows turned into strings; small equations. -/
import Derived.WalkKit
import Derived.WalkSpells
import Derived.WalkLawsBesides
import Derived.Lib.Hide
import Derived.SizedLaws
import Derived.Deep.OwnRows
import Derived.Deep.QuietTactic
import Derived.BigQuiet
import Derived.Laws.IdiomStrings
import Derived.Deep.AppendSrc
import Derived.Laws.AppendOwn
import Derived.Laws.BytesArg
import Derived.Deep.Quiet
import Derived.Deep.RegionHeldLaw
import Derived.Test.YtognjohloobliaaGreatDoorRows
namespace Go.Proofs.YtognjohloobliaaGreatDoor
open Go.RowKit
theorem ret_int {k : IntKind} {a b : Int} (h : a = b) : Ending.returned (.int k a) = .returned (.int k b) := by rw [h]
theorem ret_bool {a b : Bool} (h : a = b) : Ending.returned (.bool a) = .returned (.bool b) := by rw [h]
theorem ba_ext {a b : ByteArray} (h : a.data.toList = b.data.toList) : a = b := by
 cases a; cases b; simp_all
theorem bch {w a b : World} (h : Below w.heap.size w a) (k : Below a.heap.size a b) : Below w.heap.size w b := h.trans (k.mono h.size)
theorem bal {w a : World} (h : Below w.heap.size w a) (o : Obj) : Below w.heap.size w (a.alloc o) := h.alloc h.size o
theorem bdr {w a : World} (h : Below w.heap.size w a) : Below w.heap.size w a.drew := h.drew
/-- Block g is a row of these cells, none of them frozen. -/
def Row (w : World) (g : Nat) (e : TypeId) (cs : List Value) : Prop :=
 ∃ fr : Nat × Nat, w.heap[g]? = some (.cells cs.toArray e fr) ∧ (fr = (0, 0) ∨ cs.length ≤ fr.1)
theorem Row.lt {w : World} {g : Nat} {e : TypeId} {cs : List Value} (h : Row w g e cs) : g < w.heap.size := by
 obtain ⟨fr, h, _⟩ := h; exact (Array.getElem?_eq_some_iff.1 h).1
theorem Row.cell {w : World} {g : Nat} {e : TypeId} {cs : List Value} (h : Row w g e cs) (j : Nat) : w.cell? ⟨g, j, none⟩ = cs[j]? := by
 obtain ⟨fr, h, _⟩ := h
 simp [World.cell?, h]
theorem Row.c2 {w : World} {g : Nat} {e : TypeId} {cs : List Value} {x0 x1 : Value} (h : Row w g e cs) (he : cs = [x0, x1] := by ((try simp only [List.set_cons_succ, List.set_cons_zero]); rfl)) : w.cell? ⟨g, 0, none⟩ = some x0 ∧ w.cell? ⟨g, 1, none⟩ = some x1 := by
 subst he; exact ⟨h.cell 0, h.cell 1⟩
theorem Row.c3 {w : World} {g : Nat} {e : TypeId} {cs : List Value} {x0 x1 x2 : Value} (h : Row w g e cs) (he : cs = [x0, x1, x2] := by ((try simp only [List.set_cons_succ, List.set_cons_zero]); rfl)) : w.cell? ⟨g, 0, none⟩ = some x0 ∧ w.cell? ⟨g, 1, none⟩ = some x1 ∧ w.cell? ⟨g, 2, none⟩ = some x2 := by
 subst he; exact ⟨h.cell 0, h.cell 1, h.cell 2⟩
theorem Row.c5 {w : World} {g : Nat} {e : TypeId} {cs : List Value} {x0 x1 x2 x3 x4 : Value} (h : Row w g e cs) (he : cs = [x0, x1, x2, x3, x4] := by ((try simp only [List.set_cons_succ, List.set_cons_zero]); rfl)) : w.cell? ⟨g, 0, none⟩ = some x0 ∧ w.cell? ⟨g, 1, none⟩ = some x1 ∧ w.cell? ⟨g, 2, none⟩ = some x2 ∧ w.cell? ⟨g, 3, none⟩ = some x3 ∧ w.cell? ⟨g, 4, none⟩ = some x4 := by
 subst he; exact ⟨h.cell 0, h.cell 1, h.cell 2, h.cell 3, h.cell 4⟩
theorem Row.c6 {w : World} {g : Nat} {e : TypeId} {cs : List Value} {x0 x1 x2 x3 x4 x5 : Value} (h : Row w g e cs) (he : cs = [x0, x1, x2, x3, x4, x5] := by ((try simp only [List.set_cons_succ, List.set_cons_zero]); rfl)) : w.cell? ⟨g, 0, none⟩ = some x0 ∧ w.cell? ⟨g, 1, none⟩ = some x1 ∧ w.cell? ⟨g, 2, none⟩ = some x2 ∧ w.cell? ⟨g, 3, none⟩ = some x3 ∧ w.cell? ⟨g, 4, none⟩ = some x4 ∧ w.cell? ⟨g, 5, none⟩ = some x5 := by
 subst he; exact ⟨h.cell 0, h.cell 1, h.cell 2, h.cell 3, h.cell 4, h.cell 5⟩
theorem Row.frozen {w : World} {g : Nat} {e : TypeId} {cs : List Value} (h : Row w g e cs) (j : Nat) (hj : j < cs.length) : w.frozen? ⟨g, j, none⟩ = false := by
 obtain ⟨⟨lo, hi⟩, h, hf⟩ := h
 simp only [World.frozen?, h]
 rcases hf with hf | hf
 ·simp only [Prod.mk.injEq] at hf
  obtain ⟨rfl, rfl⟩ := hf
  simp
 ·simp at hf
  simp; omega
theorem Row.of_block {w w' : World} {g : Nat} {e : TypeId} {cs : List Value} (h : Row w g e cs) (hb : w'.heap[g]? = w.heap[g]?) : Row w' g e cs := by
 obtain ⟨fr, h, hf⟩ := h; exact ⟨fr, hb.trans h, hf⟩
theorem Row.alloc {w : World} {g : Nat} {e : TypeId} {cs : List Value} (h : Row w g e cs) (o : Obj) : Row (w.alloc o) g e cs :=
 h.of_block (Below.heap_alloc w o g h.lt)
theorem Row.drew {w : World} {g : Nat} {e : TypeId} {cs : List Value} (h : Row w g e cs) : Row w.drew g e cs := h
theorem Row.below {w w' : World} {g : Nat} {e : TypeId} {cs : List Value} (h : Row w g e cs) (hb : Below w.heap.size w w') : Row w' g e cs :=
 h.of_block (hb.block g h.lt)
theorem Row.set {w : World} {g : Nat} {e : TypeId} {cs : List Value} (h : Row w g e cs) (j : Nat) (v : Value) : Row (w.setCell ⟨g, j, none⟩ v) g e (cs.set j v) := by
 obtain ⟨fr, h, hf⟩ := h
 refine ⟨fr, ?_, by simpa using hf⟩
 simp only [World.setCell, Array.getElem?_modify, if_pos, h, Option.map_some]
 simp
theorem Row.other {w : World} {g : Nat} {e : TypeId} {cs : List Value} (h : Row w g e cs) {p : Addr} (hp : p.block ≠ g) (v : Value) : Row (w.setCell p v) g e cs :=
 h.of_block (Below.heap_setCell w p v g (fun he => hp he.symm))
theorem row_alloc (w : World) (cs : Array Value) (e : TypeId) : Row (w.alloc (.cells cs e)) w.heap.size e cs.toList :=
 ⟨(0, 0), by rw [heap_alloc_new], .inl rfl⟩
theorem bdn {w a : World} (h : Below w.heap.size w a) (n : Nat) : Below w.heap.size w (a.drewN n) := ⟨h.os, h.tape, h.output, h.size, h.block⟩
/-- What stood is as it was: out of the facts at hand. -/
theorem blw {w w' : World} (h : Below w.heap.size w w' := by (repeat (first | exact Below.refl _ _ | assumption | refine bal ?_ _ | refine bdr ?_ | refine bdn ?_ _ | refine bst ?_ (by first | assumption | exact Nat.le_refl _ | omega) _ | refine bch ?_ (by assumption)))) : Below w.heap.size w w' := h
/-- Block g is a row that begins with these cells, none of which is frozen. -/
def PRow (w : World) (g : Nat) (e : TypeId) (cs : List Value) : Prop :=
 ∃ (C : List Value) (fr : Nat × Nat), w.heap[g]? = some (.cells (cs ++ C).toArray e fr) ∧ (fr = (0, 0) ∨ cs.length ≤ fr.1)
theorem PRow.cell {w : World} {g : Nat} {e : TypeId} {cs : List Value} (h : PRow w g e cs) (j : Nat) (hj : j < cs.length) : w.cell? ⟨g, j, none⟩ = some cs[j] := by
 obtain ⟨C, fr, h, _⟩ := h
 simp [World.cell?, h, List.getElem?_append_left hj]
def byteVals (l : List UInt8) : List Value := l.map fun b => Value.int .u8 b.toNat
theorem str_of_prow {P : Program} {w : World} {g : Nat} {e : TypeId} {l : List UInt8} (h : PRow w g e (byteVals l)) (src dst : TypeId) (hs : P.underlying src = some (.slice e)) (he : P.underlying e = some (.int .u8)) (hd : P.underlying dst = some .string) (n c : Nat) (hn : n = l.length) :
  Sem.run P (convert src dst (.slice (some ⟨g, 0, none⟩) n c)) w = .ok (.string ⟨l.toArray⟩) w := by
 subst hn
 have := run_convert_bytes_arg w src e hs he g 0 l.length c (l.map fun b => (b.toNat : Int)) (by simp) (fun i hi => by
  rw [Nat.zero_add, h.cell i (by simpa [byteVals] using hi)]
  simp [byteVals, List.getD, List.getElem?_eq_getElem hi]) dst hd
 rw [this]
 congr 2
 apply ba_ext
 rw [strOfNums_data, List.map_map]
 refine (List.map_congr_left (g := id) fun b _ => ?_).trans (List.map_id l)
 simp
/-- 'out = append(out, x)', out nil or the call's own: one element more, of so many cells, which have just been laid. -/
theorem app_new {P : Program} {w0 : World} {ops : Array Oper} {rest : List Oper} {o : Oper} {a : Act} {Q : Exit → Act → World → Prop} (hgd : o.guard = none) (s x : Operand) (t e : TypeId)
  (ho : o.op = .call { callee := .builtin .append, args := #[s, x], argTypes := #[t, t] }) (base : Nat) (z : Value) (size bytes : Nat)
  (ht : P.underlying t = some (.slice e)) (hinfo : (P.info? e).map (fun i => (i.zero, i.size, i.bytes)) = some (some z, size, bytes)) (hzs : z.cells.size = size) (hsz : 0 < size)
  (v : Value) (n : Nat) (xs : List Value) (hs : a.eval s = v) (hown : w0.ownsRow base e size v n xs)
  (us : Array Value) (hx : a.eval x = .slice (some ⟨w0.heap.size, 0, none⟩) 1 1) (hus : us.size = size) (h1 : ∀ u ∈ us.toList, u.oneCell' = true)
  (h63 : n + 1 ≤ 1000000000) (hby : bytes ≤ 1000) (hbase : base ≤ w0.heap.size)
  (h : ∀ v' w', w'.ownsRow base e size v' (n + 1) (xs ++ us.toList) → Below base w0 w' → v' ≠ .slice none 0 0 → wpList P ops Q rest (a.put o.dst v') w') :
  wpList P ops Q (o :: rest) a (w0.alloc (.cells us e)) := by
 obtain ⟨i, hi, hz, hsize, hb⟩ := info_parts hinfo
 refine wpList_append_own _ hgd s x t ho base e i z size bytes ht hi hz hsize hb hzs hsz v n xs hs (hown.alloc _) ⟨w0.heap.size, 0, none⟩ 1 1 us.toList hx (by simp [hus]) ?_ h1 (by unfold maxLen; omega) ?_ (by simp; omega) ?_
 ·intro j u hj
  have e1 : (⟨w0.heap.size, 0, none⟩ : Addr).add j = ⟨w0.heap.size, j, none⟩ := by unfold Addr.add; split <;> simp_all
  rw [e1, World.cell?_alloc_at _ _ _ _ rfl]
  simpa using hj
 ·have := Nat.mul_le_mul (show n + 1 ≤ 1000000000 from h63) hby
  omega
 ·intro v' w' r1 r2 r3
  refine h v' w' r1 ?_ (fun e => by have := r3.1 e; omega)
  refine ((Below.refl base w0).alloc hbase _).grown r2 (by simp; omega) (fun k hk => (hown.lt k hk).1)
/-- What a slice of the call's own owns, as an owned row says it, reads as a row. -/
theorem prow_of_owns {w : World} {base : Nat} {e : TypeId} {g n cap : Nat} {xs : List Value} (h : w.ownsRow base e 1 (.slice (some ⟨g, 0, none⟩) n cap) n xs) : PRow w g e xs ∧ base ≤ g := by
 rcases h.2 with ⟨h', _⟩ | ⟨g', cap', cur, h', hb, hg, hn, hm, hs, htake⟩
 ·simp at h'
 ·simp only [Value.slice.injEq, Option.some.injEq, Addr.mk.injEq, and_true, true_and] at h'
  obtain ⟨rfl, rfl⟩ := h'
  refine ⟨⟨cur.toList.drop (n * 1), (0, 0), ?_, .inl rfl⟩, hb⟩
  rw [hg]
  congr 2
  apply Array.toList_inj.1
  show cur.toList = xs ++ cur.toList.drop (n * 1)
  rw [← htake, List.take_append_drop]
/-- A slice of the call's own that is not nil, by its address. -/
theorem owns_addr {w : World} {base : Nat} {e : TypeId} {size : Nat} {v : Value} {n : Nat} {xs : List Value} (h : w.ownsRow base e size v n xs) (hv : v ≠ .slice none 0 0) : ∃ g cap, v = .slice (some ⟨g, 0, none⟩) n cap := by
 rcases h.2 with ⟨h', _⟩ | ⟨g', cap', cur, h', _⟩
 ·exact absurd h' hv
 ·exact ⟨g', cap', h'⟩
/-- A slice that reads as so many elements, of so many cells each. -/
def SliceIs (w : World) (v : Value) (n sz : Nat) (cs : List Value) : Prop :=
 cs.length = n * sz ∧ ((n = 0 ∧ ∃ a cap, v = .slice a 0 cap) ∨ (0 < n ∧ ∃ b off cap, v = .slice (some ⟨b, off, none⟩) n cap ∧ n ≤ cap ∧ cap ≤ maxLen ∧ ∀ (j : Nat) (h : j < cs.length), w.cell? ⟨b, off + j, none⟩ = some cs[j]))
theorem SliceIs.below {w w' : World} {v : Value} {n sz : Nat} {cs : List Value} (h : SliceIs w v n sz cs) (_hsz : 0 < sz) (hb : Below w.heap.size w w') : SliceIs w' v n sz cs := by
 refine ⟨h.1, ?_⟩
 rcases h.2 with h2 | ⟨h0, b, off, cap, rfl, h3, h4, h5⟩
 ·exact .inl h2
 ·refine .inr ⟨h0, b, off, cap, rfl, h3, h4, fun j hj => ?_⟩
  have hlt : b < w.heap.size := World.block_lt_of_cell? w _ (h5 j hj)
  rw [hb.cell (p := ⟨b, off + j, none⟩) hlt]
  exact h5 j hj
theorem SliceIs.nil (w : World) (sz : Nat) : SliceIs w (.slice none 0 0) 0 sz [] := ⟨by simp, .inl ⟨rfl, none, 0, rfl⟩⟩
theorem SliceIs.of_row {w : World} {g : Nat} {e : TypeId} {cs : List Value} {n sz cap : Nat} (h : Row w g e cs) (hn : cs.length = n * sz) (h0 : 0 < n) (hc : n ≤ cap) (hm : cap ≤ maxLen) : SliceIs w (.slice (some ⟨g, 0, none⟩) n cap) n sz cs :=
 ⟨hn, .inr ⟨h0, g, 0, cap, rfl, hc, hm, fun j hj => by rw [Nat.zero_add, h.cell, List.getElem?_eq_getElem hj]⟩⟩
end Go.Proofs.YtognjohloobliaaGreatDoor
/- Lists in memory: a slice that reads as a list of so many cells an element. -/
namespace Go.Proofs.YtognjohloobliaaGreatDoor
open Go.RowKit
def ListIs {α : Type} (f : α → List Value) (sz : Nat) (w : World) (v : Value) (l : List α) : Prop := SliceIs w v l.length sz (l.flatMap f)
theorem flat_len {α : Type} {f : α → List Value} {sz : Nat} (hf : ∀ x, (f x).length = sz) (l : List α) : (l.flatMap f).length = l.length * sz := by
 induction l with
 | nil => simp
 | cons x l ih => rw [List.flatMap_cons, List.length_append, ih, hf, List.length_cons, Nat.add_mul, Nat.one_mul, Nat.add_comm]
theorem flat_get {α : Type} {f : α → List Value} {sz : Nat} (hf : ∀ x, (f x).length = sz) (l : List α) (k i : Nat) (h : k < l.length) (hi : i < sz) : (l.flatMap f)[k * sz + i]? = (f l[k])[i]? := by
 induction l generalizing k with
 | nil => simp at h
 | cons x l ih =>
  rw [List.flatMap_cons]
  cases k with
  | zero => rw [Nat.zero_mul, Nat.zero_add, List.getElem?_append_left (by rw [hf]; exact hi)]; rfl
  | succ k =>
   rw [List.getElem?_append_right (by rw [hf, Nat.add_mul]; omega), hf]
   rw [show (k + 1) * sz + i - sz = k * sz + i by rw [Nat.add_mul]; omega]
   exact ih k (by simpa using h)
theorem ListIs.below {α : Type} {f : α → List Value} {sz : Nat} {w w' : World} {v : Value} {l : List α} (h : ListIs f sz w v l) (hsz : 0 < sz) (hb : Below w.heap.size w w') : ListIs f sz w' v l := SliceIs.below h hsz hb
theorem ListIs.nil {α : Type} (f : α → List Value) (sz : Nat) (w : World) : ListIs f sz w (.slice none 0 0) [] := SliceIs.nil w sz
/-- A slice that reads as a list: where its elements' cells lie. -/
theorem ListIs.at {α : Type} {f : α → List Value} {sz : Nat} {w : World} {v : Value} {l : List α} (h : ListIs f sz w v l) (hf : ∀ x, (f x).length = sz) :
  ∃ (a : Option Addr) (cap : Nat), v = .slice a l.length cap ∧ (0 < l.length → l.length ≤ cap ∧ cap ≤ maxLen) ∧ (∀ k (hk : k < l.length), ∃ b off, a = some ⟨b, off, none⟩ ∧ (0 < sz → b < w.heap.size) ∧ ∀ i u, (f l[k])[i]? = some u → w.cell? ⟨b, off + k * sz + i, none⟩ = some u) := by
 obtain ⟨hlen, h⟩ := h
 rcases h with ⟨h0, a, cap, rfl⟩ | ⟨h0, b, off, cap, rfl, h3, h4, h5⟩
 ·exact ⟨a, cap, by rw [h0], fun h => by omega, fun k hk => by omega⟩
 ·have hcell : ∀ k (hk : k < l.length) i u, (f l[k])[i]? = some u → w.cell? ⟨b, off + k * sz + i, none⟩ = some u := fun k hk i u hu => by
   have hi : i < sz := by
    rw [← hf l[k]]; exact (List.getElem?_eq_some_iff.1 hu).1
   have hg := flat_get hf l k i hk hi
   rw [hu] at hg
   have hlt := (List.getElem?_eq_some_iff.1 hg).1
   have := h5 (k * sz + i) hlt
   rw [Nat.add_assoc, this, ← List.getElem?_eq_getElem, hg]
  refine ⟨some ⟨b, off, none⟩, cap, rfl, fun _ => ⟨h3, h4⟩, fun k hk => ⟨b, off, rfl, fun hs => ?_, hcell k hk⟩⟩
  have hne : 0 < (f l[k]).length := by rw [hf]; exact hs
  exact World.block_lt_of_cell? w _ (hcell k hk 0 _ (List.getElem?_eq_getElem hne))
theorem ListIs.of_owns {α : Type} {f : α → List Value} {sz : Nat} {w : World} {base : Nat} {e : TypeId} {v : Value} {l : List α} (h : w.ownsRow base e sz v l.length (l.flatMap f)) : ListIs f sz w v l := by
 refine ⟨h.1, ?_⟩
 rcases h.2 with ⟨rfl, hn⟩ | ⟨g, cap, cur, rfl, hb, hg, hc, hm, hs, htake⟩
 ·rw [hn]; exact .inl ⟨rfl, none, 0, rfl⟩
 ·rcases Nat.eq_zero_or_pos l.length with hz | hp
  ·rw [hz]; exact .inl ⟨rfl, _, cap, rfl⟩
  ·refine .inr ⟨hp, g, 0, cap, rfl, hc, hm, fun j hj => ?_⟩
   rw [Nat.zero_add]
   have e1 : w.cell? ⟨g, j, none⟩ = cur[j]? := by simp [World.cell?, hg]
   rw [e1]
   have e2 : cur[j]? = cur.toList[j]? := by simp
   rw [e2, ← List.getElem?_eq_getElem, ← htake, List.getElem?_take, if_pos]
   rw [← h.1]; exact hj
/-- A list that has just been laid whole. -/
theorem ListIs.of_alloc {α : Type} {f : α → List Value} {sz : Nat} (w : World) (e : TypeId) (l : List α) (cs : Array Value) (hcs : cs.toList = l.flatMap f) (hf : ∀ x, (f x).length = sz) (hl : l.length ≤ maxLen) (n : Nat) (hn : n = l.length) : ListIs f sz (w.alloc (.cells cs e)) (.slice (some ⟨w.heap.size, 0, none⟩) n n) l := by
 subst hn
 refine ⟨flat_len hf l, ?_⟩
 rcases Nat.eq_zero_or_pos l.length with hz | hp
 ·rw [hz]; exact .inl ⟨rfl, _, _, rfl⟩
 ·refine .inr ⟨hp, w.heap.size, 0, l.length, rfl, Nat.le_refl _, hl, fun j hj => ?_⟩
  rw [Nat.zero_add, World.cell?_alloc_at _ _ _ _ rfl]
  have e2 : cs[j]? = cs.toList[j]? := by simp
  simp only [e2, hcs]
  exact List.getElem?_eq_getElem hj
/-- An end. -/
theorem ListIs.drop {α : Type} {f : α → List Value} {sz : Nat} {w : World} {b off n cap : Nat} {l : List α} (h : ListIs f sz w (.slice (some ⟨b, off, none⟩) n cap) l) (hf : ∀ x, (f x).length = sz) (k : Nat) (hk : k ≤ l.length) (m cap' : Nat) (hm : m = l.length - k) (hc : m ≤ cap') (hc2 : cap' ≤ maxLen) : ListIs f sz w (.slice (some ⟨b, off + k * sz, none⟩) m cap') (l.drop k) := by
 subst hm
 have hlen : (l.drop k).length = l.length - k := by simp
 refine ⟨flat_len hf _, ?_⟩
 rw [hlen]
 rcases Nat.eq_zero_or_pos (l.length - k) with hz | hp
 ·rw [hz]; exact .inl ⟨rfl, _, _, rfl⟩
 rcases h.2 with ⟨h0, a', cap', hv⟩ | ⟨h0, b', off', cap', hv, h3, h4, h5⟩
 ·omega
 ·simp only [Value.slice.injEq, Option.some.injEq, Addr.mk.injEq, and_true] at hv
  obtain ⟨⟨rfl, rfl⟩, rfl, rfl⟩ := hv
  refine .inr ⟨hp, b, off + k * sz, _, rfl, hc, hc2, fun j hj => ?_⟩
  have hle : ((l.drop k).flatMap f) = (l.flatMap f).drop (k * sz) := by
   conv => rhs; rw [← List.take_append_drop k l, List.flatMap_append]
   rw [List.drop_left' (by rw [flat_len hf, List.length_take, Nat.min_eq_left hk])]
  have hj2 : k * sz + j < (l.flatMap f).length := by rw [hle, List.length_drop] at hj; omega
  rw [Nat.add_assoc, h5 _ hj2]
  congr 1
  simp only [hle]
  rw [List.getElem_drop]
theorem owns_below {w w' : World} {base : Nat} {e : TypeId} {sz n : Nat} {v : Value} {xs : List Value} (h : w.ownsRow base e sz v n xs) (hb : Below w.heap.size w w') : w'.ownsRow base e sz v n xs := by
 refine ⟨h.1, ?_⟩
 rcases h.2 with hn | ⟨g, cap, cur, rfl, hb1, hg, rest⟩
 ·exact .inl hn
 ·exact .inr ⟨g, cap, cur, rfl, hb1, (hb.block g (Array.getElem?_eq_some_iff.1 hg).1).trans hg, rest⟩
end Go.Proofs.YtognjohloobliaaGreatDoor
/- 'out = append(out, x..)' of whatever is appended, out nil or the call's own. -/
namespace Go.Proofs.YtognjohloobliaaGreatDoor
open Go.RowKit
theorem run_append_src {P : Program} (w : World) (base : Nat) (t tx ty e : TypeId) (i : TypeInfo) (z : Value) (ht : P.underlying t = some (.slice e)) (hi : P.info? e = some i) (hz : i.zero = some z)
  (hzs : z.cells.size = i.size) (v : Value) (n : Nat) (xs : List Value) (hown : w.ownsRow base e i.size v n xs)
  (x : Value) (m : Nat) (news : List Value) (hs : Src P i.size tx x m news w)
  (h63 : n + m ≤ maxLen) (hbytes : (n + m) * i.bytes ≤ 140737488355328) (hbase : base ≤ w.heap.size) :
  ∃ v' w', (Builtin.append_ #[t, tx] ty #[v, x]).run P w = .ok v' w' ∧ w'.ownsRow base e i.size v' (n + m) (xs ++ news) ∧ w.grownBy w' v.ownBlock ∧ (v' = .slice none 0 0 ↔ v = .slice none 0 0 ∧ m = 0) ∧ (v'.ownBlock = v.ownBlock ∨ v'.ownBlock = some w.heap.size) := by
 have hsmall : n + m ≤ 9223372036854775807 := by simp only [maxLen] at h63; omega
 have hlen : (xs ++ news).length = (n + m) * i.size := by rw [List.length_append, hown.1, hs.newsLen, Nat.add_mul]
 have grown : ∀ (old : Nat), old < n + m → ∀ (row : Option Nat),
   (w.drew.alloc (.cells ((xs ++ news).toArray ++ Builtin.zeroCells z.cells (grownCap w (n + m) old e - (n + m))) e)).ownsRow base e i.size
    (.slice (some ⟨w.heap.size, 0, none⟩) (n + m) (grownCap w (n + m) old e)) (n + m) (xs ++ news) ∧
   w.grownBy (w.drew.alloc (.cells ((xs ++ news).toArray ++ Builtin.zeroCells z.cells (grownCap w (n + m) old e - (n + m))) e)) row := by
  intro old ho row
  have hge := grownCap_ge w (n + m) old e
  have hcm : grownCap w (n + m) old e ≤ maxLen := grownCap_le_maxLen w (n + m) old e h63
  refine ⟨⟨hlen, .inr ⟨w.heap.size, _, _, rfl, hbase, heap_alloc_new w.drew _, hge, hcm, ?_, ?_⟩⟩, ⟨rfl, rfl, rfl, by simp, fun k hk _ => Go.heap_alloc_old w.drew _ hk⟩⟩
  ·rw [Array.size_append, List.size_toArray, hlen, size_zeroCells, hzs, ← Nat.add_mul]
   congr 1
   omega
  ·rw [Array.toList_append, List.take_append_of_le_length (by simp [hlen]), ← hlen]
   exact List.take_length
 rcases hown.2 with ⟨rfl, rfl⟩ | ⟨g, cap, cur, rfl, hbg, hg, hnc, hcm, hcs, htake⟩
 ·have hx : xs = [] := List.eq_nil_of_length_eq_zero (by simpa using hown.1)
  subst hx
  by_cases hm : m = 0
  ·subst hm
   have hn : news = [] := List.eq_nil_of_length_eq_zero (by simpa using hs.newsLen)
   subst hn
   refine ⟨.slice none 0 0, w, ?_, World.ownsRow_nil w base e i.size, ⟨rfl, rfl, rfl, Nat.le_refl _, fun _ _ _ => rfl⟩, by simp, .inl rfl⟩
   have hc := hs.cells
   rcases hs.kind with ⟨e', hk⟩ | hk <;> simp [Builtin.append_, run_underlying ht, run_underlying hk, sizeOf, typeInfo, hi, hs.len, hc]
  ·have hr := run_append_grow_src (P := P) w t tx ty e i z ht hi hz none 0 0 [] (run_firstCells_none w.drew i.size 0 0 0) x m news hs (by omega) (by omega) (growslice_fits (by omega) hbytes)
   have hgr := grown 0 (by omega) (Value.ownBlock (.slice none 0 0))
   exact ⟨_, _, hr, hgr.1, hgr.2, by simp [hm], .inr rfl⟩
 ·by_cases hroom : n + m ≤ cap
  ·have hfit : n * i.size + news.length ≤ cur.size := by rw [hs.newsLen, hcs, ← Nat.add_mul]; exact Nat.mul_le_mul_right _ hroom
   have hst := run_storeCells_at P g (n * i.size) e news 0 cur w hg (by simpa using hfit) hs.one
   simp only [Nat.add_zero] at hst
   have hr : (Builtin.append_ #[t, tx] ty #[.slice (some ⟨g, 0, none⟩) n cap, x]).run P w = .ok (.slice (some ⟨g, 0, none⟩) (n + m) cap) (w.setRow g (cur.toList.take (n * i.size) ++ news ++ cur.toList.drop (n * i.size + news.length)).toArray) := by
    rcases hs.kind with ⟨e', hk⟩ | hk <;> simp [Builtin.append_, run_underlying ht, run_underlying hk, sizeOf, typeInfo, hi, hs.len, hroom, hs.cells, Addr.add_lit, hst]
   refine ⟨_, _, hr, ⟨hlen, .inr ⟨g, cap, _, rfl, hbg, setRow_heap w g cur _ e _ hg, hroom, hcm, ?_, ?_⟩⟩, ⟨rfl, rfl, rfl, by simp, fun k _ hk => setRow_other w g k _ (fun e => hk (by simp [Value.ownBlock, e]))⟩, by simp, .inl rfl⟩
   ·simp only [List.size_toArray, List.length_append, List.length_take, List.length_drop, Array.length_toList]
    omega
   ·rw [htake, ← hlen]
    exact List.take_left
  ·have holds : ∀ j u, xs[j]? = some u → w.cell? ((⟨g, 0, none⟩ : Addr).add j) = some u := hown.cells (g := g) rfl
   have hr := run_append_grow_src (P := P) w t tx ty e i z ht hi hz (some ⟨g, 0, none⟩) n cap xs (run_firstCells_some w.drew i.size n ⟨g, 0, none⟩ n cap xs hown.1 (by simpa using holds)) x m news hs (by omega) (by omega) (growslice_fits (by omega) hbytes)
   have hgr := grown cap (by omega) (Value.ownBlock (.slice (some ⟨g, 0, none⟩) n cap))
   exact ⟨_, _, hr, hgr.1, hgr.2, by simp, .inr rfl⟩
/-- An append of whatever: what the walk takes. -/
theorem app_any {P : Program} {w0 : World} {ops : Array Oper} {rest : List Oper} {o : Oper} {a : Act} {Q : Exit → Act → World → Prop} (hgd : o.guard = none) (s x : Operand) (t tx e : TypeId)
  (ho : o.op = .call { callee := .builtin .append, args := #[s, x], argTypes := #[t, tx] }) (base : Nat) (z : Value) (size bytes : Nat)
  (ht : P.underlying t = some (.slice e)) (hinfo : (P.info? e).map (fun i => (i.zero, i.size, i.bytes)) = some (some z, size, bytes)) (hzs : z.cells.size = size)
  (v : Value) (n : Nat) (xs : List Value) (hs : a.eval s = v) (hown : w0.ownsRow base e size v n xs)
  (m : Nat) (news : List Value) (hsrc : Src P size tx (a.eval x) m news w0)
  (h63 : n + m ≤ 1000000000) (hby : bytes ≤ 1000) (hbase : base ≤ w0.heap.size)
  (h : ∀ v' w', w'.ownsRow base e size v' (n + m) (xs ++ news) → w0.grownBy w' v.ownBlock → (v'.ownBlock = v.ownBlock ∨ v'.ownBlock = some w0.heap.size) → (v' = .slice none 0 0 ↔ v = .slice none 0 0 ∧ m = 0) → Below base w0 w' → wpList P ops Q rest (a.put o.dst v') w') :
  wpList P ops Q (o :: rest) a w0 := by
 obtain ⟨i, hi, hz, hsize, hb⟩ := info_parts hinfo
 subst hsize
 obtain ⟨v', w', hr, h2, h3, h4, h5⟩ := run_append_src (P := P) w0 base t tx o.type e i z ht hi hz hzs v n xs hown (a.eval x) m news hsrc (by unfold maxLen; omega) (by
  have := Nat.mul_le_mul (show n + m ≤ 1000000000 from h63) hby
  rw [hb]; omega) hbase
 refine wpList_plain hgd fun K hK => ?_
 unfold Oper.wp execOp
 simp only [ho, resolve, invoke, builtin, Sem.run_bind, Sem.run_pure, Result.andThen_ok, List.map_toArray, List.map_cons, List.map_nil, hs, hr]
 exact hK _ _ (h v' w' h2 h3 h5 h4 ((Below.refl base w0).grown h3 hbase (fun k hk => (hown.lt k hk).1)))
/-- The same of one element, whose cells have just been laid. -/
theorem app_one {P : Program} {w0 : World} {ops : Array Oper} {rest : List Oper} {o : Oper} {a : Act} {Q : Exit → Act → World → Prop} (hgd : o.guard = none) (s x : Operand) (t e : TypeId)
  (ho : o.op = .call { callee := .builtin .append, args := #[s, x], argTypes := #[t, t] }) (base : Nat) (z : Value) (size bytes : Nat)
  (ht : P.underlying t = some (.slice e)) (hinfo : (P.info? e).map (fun i => (i.zero, i.size, i.bytes)) = some (some z, size, bytes)) (hzs : z.cells.size = size)
  (v : Value) (n : Nat) (xs : List Value) (hs : a.eval s = v) (hown : w0.ownsRow base e size v n xs)
  (us : Array Value) (hx : a.eval x = .slice (some ⟨w0.heap.size, 0, none⟩) 1 1) (hus : us.size = size) (h1 : ∀ u ∈ us.toList, u.oneCell' = true)
  (h63 : n + 1 ≤ 1000000000) (hby : bytes ≤ 1000) (hbase : base ≤ w0.heap.size)
  (h : ∀ v' w', w'.ownsRow base e size v' (n + 1) (xs ++ us.toList) → w0.grownBy w' v.ownBlock → (v'.ownBlock = v.ownBlock ∨ v'.ownBlock = some (w0.heap.size + 1)) → v' ≠ .slice none 0 0 → Below base w0 w' → wpList P ops Q rest (a.put o.dst v') w') :
  wpList P ops Q (o :: rest) a (w0.alloc (.cells us e)) := by
 refine app_any hgd s x t t e ho base z size bytes ht hinfo hzs v n xs hs (hown.alloc _) 1 us.toList (hx ▸ Src.ofSlice (w0.alloc _) ht _ 1 1 us.toList (by simp [hus]) ?_ h1) h63 hby (by simp; omega) ?_
 ·intro j u hj
  have e1 : (⟨w0.heap.size, 0, none⟩ : Addr).add j = ⟨w0.heap.size, j, none⟩ := by unfold Addr.add; split <;> simp_all
  rw [e1, World.cell?_alloc_at _ _ _ _ rfl]
  simpa using hj
 ·intro v' w' r1 r2 r3 r4 r5
  have hz : (w0.alloc (.cells us e)).heap.size = w0.heap.size + 1 := by simp
  refine h v' w' r1 ⟨r2.os, r2.tape, r2.output, by have := r2.size; omega, fun k hk hne => (r2.block k (by omega) hne).trans (Go.heap_alloc_old w0 _ hk)⟩ (by rw [← hz]; exact r3) (fun e => by have := r4.1 e; omega) (((Below.refl base w0).alloc hbase _).trans r5)
theorem Row.grown {w w' : World} {g : Nat} {e : TypeId} {cs : List Value} {row : Option Nat} (h : Row w g e cs) (hg : w.grownBy w' row) (hne : row ≠ some g) : Row w' g e cs :=
 h.of_block (hg.block g h.lt (fun e => hne e.symm))
/-- What a slice of the call's own owns lies below the heap's end. -/
theorem owns_lt {w : World} {base : Nat} {e : TypeId} {sz n : Nat} {v : Value} {xs : List Value} (h : w.ownsRow base e sz v n xs) (k : Nat) (hk : w.heap.size ≤ k) : v.ownBlock ≠ some k := fun e => by
 have := (h.lt k e).2; omega
end Go.Proofs.YtognjohloobliaaGreatDoor
/- A region that draws its order and whose calls make memory, walked once: every world that meets S is one of the class. -/
namespace Go.Proofs.YtognjohloobliaaGreatDoor
open Go.RowKit
set_option linter.unusedVariables false
/-- A world that meets S. -/
structure Kept (S : World → Prop) where
 val : World
 ok : S val
theorem wp_region_kept {P : Program} (S : World → Prop) {id : Nat} {Q : Exit → Act → World → Prop} {a : Act} {w : World} {l : List Oper} (hm : P.follows .mixedOrders = true) (hB : Region.lexB .any l.toArray = true) (hS : S w.drew)
  (h : wpQuiet P l.toArray (fun w' => ∃ x : Kept S, w' = x.val) (fun a' => ∀ w', (∃ x : Kept S, w' = x.val) → Q .normal a' w') l a) : (Code.region id l.toArray true).wp P Q a w :=
 wp_region_quiet (C := fun w' => ∃ x : Kept S, w' = x.val) hm hB ⟨⟨w.drew, hS⟩, rfl⟩ (by simpa using h)
theorem calls_kept {P : Program} {S : World → Prop} {f : FuncId} {args : Array Value} {x : Kept S} {v : Value}
  (h : Calls P f args x.val fun e w' => e = .returned v ∧ Below x.val.heap.size x.val w') (hk : ∀ W W', S W → Below W.heap.size W W' → S W') : Calls P f args x.val fun e w'' => e = .returned v ∧ ∃ y : Kept S, w'' = y.val :=
 h.mono fun _ w' ⟨he, hb⟩ => ⟨he, ⟨w', hk _ _ x.ok hb⟩, rfl⟩
/-- The class to use: nothing that stood in w below B has changed. -/
def Old (B : Nat) (w W : World) : Prop := B ≤ w.heap.size ∧ Below B w W
theorem Old.below {B : Nat} {w : World} : ∀ W W', Old B w W → Below W.heap.size W W' → Old B w W' := fun W W' h hb =>
 ⟨h.1, h.2.trans (hb.mono (Nat.le_trans h.1 h.2.size))⟩
theorem Old.start (w : World) : Old w.heap.size w w.drew := ⟨Nat.le_refl _, (Below.refl _ w).drew⟩
theorem Old.ne (w : World) : Nonempty (Kept (Old w.heap.size w)) := ⟨⟨w.drew, Old.start w⟩⟩
/-- A cell that stood reads as it did in every world of the class. -/
theorem Old.cell {w : World} {p : Addr} {v : Value} (h : w.cell? p = some v) (x : Kept (Old w.heap.size w)) : x.val.cell? p = some v :=
 (x.ok.2.cell (World.block_lt_of_cell? w p h)).trans h
theorem cell_below {w w' : World} {p : Addr} {v : Value} (hb : Below w.heap.size w w') (h : w.cell? p = some v) : w'.cell? p = some v := (hb.cell (World.block_lt_of_cell? w p h)).trans h
theorem cell_alloc {w : World} {p : Addr} {v : Value} (h : w.cell? p = some v) (o : Obj) : (w.alloc o).cell? p = some v := by
 rw [World.cell?_alloc_lt _ _ p (World.block_lt_of_cell? w p h)]; exact h
/-- 'append(out, x)' of one element that has just been laid, in a region that draws. -/
theorem step_app_one {P : Program} {w0 : World} {ops : Array Oper} {o : Oper} {a : Act} {K : Act → World → Prop} {Q : Exit → Act → World → Prop} {E : Prop} (hgd : o.guard = none) (s x : Operand) (t e : TypeId)
  (ho : o.op = .call { callee := .builtin .append, args := #[s, x], argTypes := #[t, t] }) (base : Nat) (z : Value) (size bytes : Nat)
  (ht : P.underlying t = some (.slice e)) (hinfo : (P.info? e).map (fun i => (i.zero, i.size, i.bytes)) = some (some z, size, bytes)) (hzs : z.cells.size = size)
  (v : Value) (n : Nat) (xs : List Value) (hs : a.eval s = v) (hown : w0.ownsRow base e size v n xs)
  (us : Array Value) (g : Nat) (hg : g = w0.heap.size) (hx : a.eval x = .slice (some ⟨g, 0, none⟩) 1 1) (hus : us.size = size) (h1 : ∀ u ∈ us.toList, u.oneCell' = true)
  (h63 : n + 1 ≤ 1000000000) (hby : bytes ≤ 1000) (hbase : base ≤ w0.heap.size)
  (h : ∀ v' w', w'.ownsRow base e size v' (n + 1) (xs ++ us.toList) → w0.grownBy w' v.ownBlock → (v'.ownBlock = v.ownBlock ∨ v'.ownBlock = some (w0.heap.size + 1)) → v' ≠ .slice none 0 0 → Below base w0 w' → K (a.put o.dst v') w') :
  if Region.wanted o (yielded ops a.tmps) = true then Oper.wp P o a (w0.alloc (.cells us e)) K Q else E := by
 subst hg
 have hw : Region.wanted o (yielded ops a.tmps) = true := by simp [Region.wanted, hgd]
 rw [if_pos hw]
 have hz : (w0.alloc (.cells us e)).heap.size = w0.heap.size + 1 := by simp
 obtain ⟨i, hi, hzi, hsize, hb⟩ := info_parts hinfo
 subst hsize
 obtain ⟨v', w', hr, r1, r2, r4, r3⟩ := run_append_src (P := P) (w0.alloc (.cells us e)) base t t o.type e i z ht hi hzi hzs v n xs (hown.alloc _) (a.eval x) 1 us.toList (hx ▸ Src.ofSlice (w0.alloc _) ht _ 1 1 us.toList (by simp [hus]) (fun j u hj => by
  have e1 : (⟨w0.heap.size, 0, none⟩ : Addr).add j = ⟨w0.heap.size, j, none⟩ := by unfold Addr.add; split <;> simp_all
  rw [e1, World.cell?_alloc_at _ _ _ _ rfl]
  simpa using hj) h1) (by unfold maxLen; omega) (by
  have := Nat.mul_le_mul (show n + 1 ≤ 1000000000 from h63) hby
  rw [hb]; omega) (by omega)
 unfold Oper.wp execOp
 simp only [ho, resolve, invoke, builtin, Sem.run_bind, Sem.run_pure, Result.andThen_ok, List.map_toArray, List.map_cons, List.map_nil, hs, hr]
 exact h v' w' r1 ⟨r2.os, r2.tape, r2.output, by have := r2.size; omega, fun k hk hne => (r2.block k (by omega) hne).trans (Go.heap_alloc_old w0 _ hk)⟩ (by rw [← hz]; exact r3) (fun e => by have := r4.1 e; omega) (((Below.refl base w0).alloc hbase _).trans ((Below.refl base _).grown r2 (by omega) (fun k hk => (hown.lt k hk).1)))
theorem row_at {w : World} {g : Nat} (cs : Array Value) (e : TypeId) (hg : g = w.heap.size) : Row (w.alloc (.cells cs e)) g e cs.toList := hg ▸ row_alloc w cs e
end Go.Proofs.YtognjohloobliaaGreatDoor
/- The held walk of a drawn region step by step: the operation is read off the list, so that it stands written out. -/
namespace Go.Proofs.YtognjohloobliaaGreatDoor
open Go.RowKit
set_option linter.unusedVariables false
theorem drop_get {l : List Oper} {i : Nat} {o : Oper} (h : (l.drop i).head? = some o) : l.toArray[i]? = some o := by
 rw [List.head?_drop] at h
 simpa using h
section
variable {P : Program} {l : List Oper} {Q : Exit → Act → World → Prop} {S : World → Prop}
theorem held_take {i : Nat} {oi : Oper} {v : Value} {fuel : Nat} {listed : Array Bool} {a : Act} {w : World} (hi : (l.drop i).head? = some oi)
  (hs : Region.noSelect l.toArray = true) (hf : Region.free .any l.toArray listed i = true) (hr : (Region.ready .any l.toArray listed).contains i = true)
  (hQ : ∀ c a w, Q (.panic c) (a.put oi.dst v) w → Q (.panic c) a w) (hw : Region.wanted oi (yielded l.toArray a.tmps) = true) (hS : S w) (hy : ∀ w, S w → (execOp a.eval oi).run P w = .ok (.value v) w)
  (h : wpAnyH P .any l.toArray Q S fuel (listed.setIfInBounds i true) (a.put oi.dst v) w) : wpAnyH P .any l.toArray Q S (fuel + 1) listed a w :=
 wpAnyH_take (drop_get hi) hs hf hr hQ (Or.inl ⟨hw, hy⟩) hS h
theorem held_off {i : Nat} {oi : Oper} {fuel : Nat} {listed : Array Bool} {a : Act} {w : World} (hi : (l.drop i).head? = some oi)
  (hs : Region.noSelect l.toArray = true) (hf : Region.free .any l.toArray listed i = true) (hr : (Region.ready .any l.toArray listed).contains i = true)
  (hQ : ∀ c a w, Q (.panic c) (a.put oi.dst undef) w → Q (.panic c) a w) (hw : Region.wanted oi (yielded l.toArray a.tmps) = false) (hS : S w)
  (h : wpAnyH P .any l.toArray Q S fuel (listed.setIfInBounds i true) (a.put oi.dst undef) w) : wpAnyH P .any l.toArray Q S (fuel + 1) listed a w :=
 wpAnyH_take (drop_get hi) hs hf hr hQ (Or.inr ⟨hw, rfl⟩) hS h
theorem held_cons {fuel : Nat} {listed : Array Bool} {a : Act} {w : World} {i : Nat} {o : Oper} {rs : List Nat} (ho : (l.drop i).head? = some o) (hw : Region.wanted o (yielded l.toArray a.tmps) = true)
  (h : ∀ K' : Act → World → Prop, Shut (∀ a w, S w → (S w → wpAnyH P .any l.toArray Q S fuel (listed.setIfInBounds i true) a w) → K' a w) → Oper.wp P o a w K' Q)
  (hs : AllReadyH P .any l.toArray Q S fuel listed a w rs) : AllReadyH P .any l.toArray Q S fuel listed a w (i :: rs) :=
 AllReadyH.cons (drop_get ho) (fun K' hK => by rw [if_pos hw]; exact h K' hK) hs
/-- One operation more: number i, which yields in every world of S. -/
theorem tkO (i : Nat) {oi : Oper} {v : Value} {fuel : Nat} {listed listed' : Array Bool} {a a' : Act} {w : World} (h : wpAnyH P .any l.toArray Q S fuel listed' a' w)
  (hi : (l.drop i).head? = some oi := by rfl) (hs : Region.noSelect l.toArray = true := by kernel_rfl) (hf : Region.free .any l.toArray listed i = true := by kernel_rfl) (hr : (Region.ready .any l.toArray listed).contains i = true := by kernel_rfl)
  (hw : Region.wanted oi (yielded l.toArray a.tmps) = true := by kernel_rfl) (hS : S w := by assumption)
  (hy : ∀ w, S w → (execOp a.eval oi).run P w = .ok (.value v) w := by (intro w hSw; (try unfold SC at hSw); (try unfold FC at hSw); (try unfold LC at hSw); (try unfold TC at hSw); (try unfold MC at hSw); (try unfold BC at hSw); (try unfold RC at hSw); (try unfold KC at hSw); (try unfold KD at hSw); (try dsimp only at hSw); go_simp; (try with_reducible rfl); done))
  (hl : listed.setIfInBounds i true = listed' := by ((try simp only [List.setIfInBounds_toArray, List.set_cons_zero, List.set_cons_succ]); try rfl))
  (ha : a.put oi.dst v = a' := by ((try simp only [Act.put, List.setIfInBounds_toArray, List.set_cons_zero, List.set_cons_succ]); try rfl))
  (hQ : ∀ c a w, Q (.panic c) (a.put oi.dst v) w → Q (.panic c) a w := by exact fun _ _ _ h => h) : wpAnyH P .any l.toArray Q S (fuel + 1) listed a w := by
 subst hl ha
 exact held_take hi hs hf hr hQ hw hS hy h
/-- A guard that is off. -/
theorem tofO (i : Nat) {oi : Oper} {fuel : Nat} {listed listed' : Array Bool} {a a' : Act} {w : World} (h : wpAnyH P .any l.toArray Q S fuel listed' a' w)
  (hi : (l.drop i).head? = some oi := by rfl) (hs : Region.noSelect l.toArray = true := by kernel_rfl) (hf : Region.free .any l.toArray listed i = true := by kernel_rfl) (hr : (Region.ready .any l.toArray listed).contains i = true := by kernel_rfl)
  (hw : Region.wanted oi (yielded l.toArray a.tmps) = false := by kernel_rfl) (hS : S w := by assumption)
  (hl : listed.setIfInBounds i true = listed' := by ((try simp only [List.setIfInBounds_toArray, List.set_cons_zero, List.set_cons_succ]); try rfl))
  (ha : a.put oi.dst undef = a' := by ((try simp only [Act.put, List.setIfInBounds_toArray, List.set_cons_zero, List.set_cons_succ]); try rfl))
  (hQ : ∀ c a w, Q (.panic c) (a.put oi.dst undef) w → Q (.panic c) a w := by exact fun _ _ _ h => h) : wpAnyH P .any l.toArray Q S (fuel + 1) listed a w := by
 subst hl ha
 exact held_off hi hs hf hr hQ hw hS h
/-- The one operation that is ready is carried out. -/
theorem tdoO (i : Nat) {o : Oper} {fuel : Nat} {listed : Array Bool} {a : Act} {w : World}
  (h : ∀ K' : Act → World → Prop, Shut (∀ a w, S w → (S w → wpAnyH P .any l.toArray Q S fuel (listed.setIfInBounds i true) a w) → K' a w) → Oper.wp P o a w K' Q)
  (ho : (l.drop i).head? = some o := by rfl) (hr : Region.ready .any l.toArray listed = [i] := by kernel_rfl) (hw : Region.wanted o (yielded l.toArray a.tmps) = true := by kernel_rfl) : wpAnyH P .any l.toArray Q S (fuel + 1) listed a w :=
 wpAnyH_ready hr (by simp) (held_cons ho hw h AllReadyH.nil)
end
end Go.Proofs.YtognjohloobliaaGreatDoor
/- Lists of strings, and of ints, in memory. -/
namespace Go.Proofs.YtognjohloobliaaGreatDoor
open Go.RowKit
def strCells (s : ByteArray) : List Value := [.string s]
theorem strCells_len (s : ByteArray) : (strCells s).length = 1 := rfl
abbrev StrsIs (w : World) (v : Value) (l : List ByteArray) : Prop := ListIs strCells 1 w v l
end Go.Proofs.YtognjohloobliaaGreatDoor
/- Worlds that differ in some blocks alone. -/
namespace Go.Proofs.YtognjohloobliaaGreatDoor
open Go.RowKit
set_option linter.unusedVariables false
/-- All that stood is as it was, but for the blocks of S. -/
structure Only (S : Nat → Prop) (w w' : World) : Prop where
 os : w'.os = w.os
 tape : w'.tape = w.tape
 output : w'.output = w.output
 size : w.heap.size ≤ w'.heap.size
 block : ∀ k, k < w.heap.size → ¬ S k → w'.heap[k]? = w.heap[k]?
namespace Only
variable {S : Nat → Prop} {w a b : World}
theorem refl (S : Nat → Prop) (w : World) : Only S w w := ⟨rfl, rfl, rfl, Nat.le_refl _, fun _ _ _ => rfl⟩
theorem trans (h : Only S w a) (k : Only S a b) : Only S w b :=
 ⟨k.os.trans h.os, k.tape.trans h.tape, k.output.trans h.output, Nat.le_trans h.size k.size, fun i hi hn => (k.block i (Nat.lt_of_lt_of_le hi h.size) hn).trans (h.block i hi hn)⟩
theorem of_below (S : Nat → Prop) (h : Below w.heap.size w a) : Only S w a := ⟨h.os, h.tape, h.output, h.size, fun i hi _ => h.block i hi⟩
theorem chain (h : Only S w a) (k : Below a.heap.size a b) : Only S w b := h.trans (of_below S k)
theorem below {B : Nat} (h : Only S w a) (hS : ∀ k, S k → B ≤ k) (hB : B ≤ w.heap.size) : Below B w a :=
 ⟨h.os, h.tape, h.output, h.size, fun i hi => h.block i (Nat.lt_of_lt_of_le hi hB) fun hs => by have := hS i hs; omega⟩
theorem alloc (h : Only S w a) (o : Obj) : Only S w (a.alloc o) := h.chain ((Below.refl _ a).alloc (Nat.le_refl _) o)
theorem drew (h : Only S w a) : Only S w a.drew := ⟨h.os, h.tape, h.output, h.size, h.block⟩
theorem grown {row : Option Nat} (h : Only S w a) (hg : a.grownBy b row) (hr : ∀ k, row = some k → S k ∨ w.heap.size ≤ k) : Only S w b :=
 ⟨hg.os.trans h.os, hg.tape.trans h.tape, hg.output.trans h.output, Nat.le_trans h.size hg.size, fun i hi hn =>
  (hg.block i (Nat.lt_of_lt_of_le hi h.size) (fun e => by
   rcases hr i e.symm with hs | hs
   ·exact hn hs
   ·omega)).trans (h.block i hi hn)⟩
theorem set (h : Only S w a) {p : Addr} (hp : S p.block ∨ w.heap.size ≤ p.block) (v : Value) : Only S w (a.setCell p v) :=
 ⟨h.os, h.tape, h.output, by have := h.size; simpa [World.setCell] using this, fun i hi hn => (Below.heap_setCell a p v i (fun e => by
   rcases hp with hs | hs
   ·exact hn (e ▸ hs)
   ·omega)).trans (h.block i hi hn)⟩
theorem mono {S' : Nat → Prop} (h : Only S w a) (hS : ∀ k, k < w.heap.size → S k → S' k) : Only S' w a := ⟨h.os, h.tape, h.output, h.size, fun i hi hn => h.block i hi fun hs => hn (hS i hi hs)⟩
theorem cell (h : Only S w a) {p : Addr} {v : Value} (hc : w.cell? p = some v) (hn : ¬ S p.block) : a.cell? p = some v :=
 (World.cell?_of_block (w := w) (h.block p.block (World.block_lt_of_cell? w p hc) hn)).trans hc
end Only
theorem Only.step {S T : Nat → Prop} {w a b : World} (h : Only S w a) (k : Only T a b) (hT : ∀ j, T j → S j ∨ w.heap.size ≤ j) : Only S w b :=
 ⟨k.os.trans h.os, k.tape.trans h.tape, k.output.trans h.output, Nat.le_trans h.size k.size, fun i hi hn => (k.block i (Nat.lt_of_lt_of_le hi h.size) (fun hs => by
  rcases hT i hs with h1 | h1
  ·exact hn h1
  ·omega)).trans (h.block i hi hn)⟩
theorem Row.only {S : Nat → Prop} {w a : World} {g : Nat} {e : TypeId} {cs : List Value} (h : Row w g e cs) (ho : Only S w a) (hn : ¬ S g) : Row a g e cs := h.of_block (ho.block g h.lt hn)
theorem owns_only {S : Nat → Prop} {w w' : World} {base : Nat} {e : TypeId} {sz n : Nat} {v : Value} {xs : List Value} (h : w.ownsRow base e sz v n xs) (ho : Only S w w') (hn : ∀ k, v.ownBlock = some k → ¬ S k) : w'.ownsRow base e sz v n xs := by
 refine ⟨h.1, ?_⟩
 rcases h.2 with hn0 | ⟨g, cap, cur, rfl, hb1, hg, rest⟩
 ·exact .inl hn0
 ·exact .inr ⟨g, cap, cur, rfl, hb1, (ho.block g (Array.getElem?_eq_some_iff.1 hg).1 (hn g rfl)).trans hg, rest⟩
end Go.Proofs.YtognjohloobliaaGreatDoor
