/- Arguments of whatever shape, opened: what lies in them, and that it can be held. -/
import Derived.Test.YtognjohloobliaaGreatDoorJ01
import Derived.Test.YtognjohloobliaaGreatDoorRows
import Derived.SizedLaws
import Derived.Deep.Slices
import Derived.ChangeArms
import Derived.ProofKit
import Derived.OpenShut
namespace Go.Proofs.YtognjohloobliaaGreatDoor
open Go.RowKit
set_option linter.unusedVariables false
/-- Whatever is read as of type t is laid as f says, and Q holds of it. -/
def Opens {α H : Type} (enc : TypeId × Value → H) (P : Program) (t : TypeId) (f : α → List Value) (Q : World → α → Prop) : Prop :=
 ∀ (w : World) (base : Nat) (spare : Nat → Bool) (held : Bool) (fuel : Nat) (cs : List Value) (x : DataW H × List MemPlace), DataW.trod enc P w base spare held fuel t cs = some x → (∀ n ∈ x.1.weights P t, n ≤ reachBytes) → ∃ a, cs = f a ∧ Q w a
section
variable {H : Type} {enc : TypeId × Value → H} {P : Program}
theorem opens_int {t : TypeId} {k : IntKind} (ht : P.underlying t = some (.int k)) : Opens enc P t (fun n : Int => [.int k n]) (fun _ n => (Lit.int k n).wf = true) := by
 intro w base spare held fuel cs x h _
 obtain ⟨n, rfl, _, hw⟩ := DataW.trod_int ht h
 exact ⟨n, rfl, hw⟩
theorem opens_bool {t : TypeId} (ht : P.underlying t = some .bool) : Opens enc P t (fun b : Bool => [.bool b]) (fun _ _ => True) := by
 intro w base spare held fuel cs x h _
 obtain ⟨b, rfl, _⟩ := DataW.trod_bool ht h
 exact ⟨b, rfl, trivial⟩
theorem opens_string {t : TypeId} (ht : P.underlying t = some .string) : Opens enc P t (fun s : ByteArray => [.string s]) (fun _ s => s.size ≤ 140737488351232) := by
 intro w base spare held fuel cs x h hw
 obtain ⟨s, rfl, rfl, _⟩ := DataW.trod_string ht h
 refine ⟨s, rfl, ?_⟩
 have := hw s.data.toList.length (by simp [DataW.weights])
 rw [Array.length_toList] at this
 exact this
theorem weights_all_mem {e : TypeId} {d : DataW H} {l : List (DataW H)} (hd : d ∈ l) : ∀ n ∈ d.weights P e, n ∈ DataW.weightsAll P e l := by
 induction l with
 | nil => cases hd
 | cons x r ih =>
  intro n hn
  simp only [DataW.weightsAll, List.mem_append]
  rcases List.mem_cons.1 hd with rfl | h
  ·exact .inl hn
  ·exact .inr (ih h n hn)
theorem cell_plain {w : World} {a : Addr} {v : Value} (h : w.cell? a = some v) : a = ⟨a.block, a.off, none⟩ := by
 obtain ⟨b, o, s⟩ := a
 cases s with
 | none => rfl
 | some y =>
  unfold World.cell? at h
  split at h <;> simp at h
theorem choose_list {α β : Type} (l : List α) (R : Nat → α → β → Prop) (h : ∀ i (hi : i < l.length), ∃ b, R i l[i] b) : ∃ m : List β, m.length = l.length ∧ ∀ i (hi : i < l.length) (hm : i < m.length), R i l[i] m[i] := by
 induction l generalizing R with
 | nil => exact ⟨[], rfl, fun i hi => by cases hi⟩
 | cons x r ih =>
  obtain ⟨b, hb⟩ := h 0 (by simp)
  obtain ⟨m, hm, hr⟩ := ih (fun i => R (i + 1)) (fun i hi => h (i + 1) (by simpa using hi))
  refine ⟨b :: m, by simp [hm], fun i hi hm' => ?_⟩
  cases i with
  | zero => exact hb
  | succ i => exact hr i (by simpa using hi) (by simpa using hm')
/-- A slice. -/
theorem opens_slice {α : Type} {t e : TypeId} {f : α → List Value} {Q : World → α → Prop} {sz : Nat} (ht : P.underlying t = some (.slice e)) (ho : Opens enc P e f Q) (hf : ∀ x, (f x).length = sz) (hc : P.cellsOf e = sz) (h0 : 0 < sz) (hby : 0 < P.bytesOf e) :
  Opens enc P t (fun v : Value => [v]) (fun w v => ∃ l : List α, ListIs f sz w v l ∧ (∀ x ∈ l, Q w x) ∧ l.length ≤ 140737488351232) := by
 intro w base spare held fuel cs x h hw
 rcases DataW.trod_slice ht h with ⟨rfl, rfl⟩ | ⟨a, len, cap, elems, rest, n, _, rfl, rfl, hb, hl, hm, hlen, hel, hsp, hns⟩
 ·exact ⟨_, rfl, [], ListIs.nil f sz w, by simp, by simp⟩
 ·have hwe : ∀ y ∈ elems, ∀ n ∈ y.1.weights P e, n ≤ reachBytes := fun y hy n hn => hw n (by
   simp only [DataW.weights, ht, List.mem_cons, List.mem_append]
   exact .inr (.inl (weights_all_mem (List.mem_map_of_mem hy) n hn)))
  have hlb : (elems.length + rest.length) * P.bytesOf e ≤ reachBytes := hw _ (by simp [DataW.weights, ht])
  have hlb2 : elems.length ≤ 140737488351232 := by
   have h1 : elems.length * 1 ≤ (elems.length + rest.length) * P.bytesOf e := Nat.mul_le_mul (by omega) hby
   have h2 : reachBytes = 140737488351232 := rfl
   omega
  have hex : ∀ i (hi : i < elems.length), ∃ b : α, Q w b ∧ ∀ j u, (f b)[j]? = some u → w.cell? (a.add (i * sz + j)) = some u := by
   intro i hi
   have h1 := hel i (by omega)
   rw [List.getElem?_eq_getElem hi] at h1
   obtain ⟨cs', hc1, hc2⟩ := Option.bind_eq_some_iff.1 h1
   obtain ⟨b, hb1, hb2⟩ := ho w base spare held n cs' _ hc2 (hwe _ (List.getElem_mem hi))
   obtain ⟨_, hcl, hat⟩ := World.cells?_some hc1
   refine ⟨b, hb2, fun j u hj => ?_⟩
   have hjl : j < sz := by rw [← hf b]; exact (List.getElem?_eq_some_iff.1 hj).1
   have h3 := hat j (by rw [hc]; exact hjl)
   rw [hb1, hj, hc] at h3
   rw [← Go.Deep.add_add]; exact h3
  obtain ⟨m, hml, hmr⟩ := choose_list elems (fun i _ b => Q w b ∧ ∀ j u, (f b)[j]? = some u → w.cell? (a.add (i * sz + j)) = some u) hex
  refine ⟨_, rfl, m, ⟨flat_len hf m, ?_⟩, fun y hy => ?_, by omega⟩
  ·rcases Nat.eq_zero_or_pos m.length with hz | hp
   ·exact .inl ⟨hz, some a, cap, by rw [show len = 0 by omega]⟩
   ·have hcell : ∀ i (hi : i < m.length) j u, (f m[i])[j]? = some u → w.cell? (a.add (i * sz + j)) = some u := fun i hi j u hu => (hmr i (by omega) hi).2 j u hu
    have hfirst : ∃ v, w.cell? a = some v := by
     have hne : 0 < (f m[0]).length := by rw [hf]; exact h0
     have := hcell 0 hp 0 _ (List.getElem?_eq_getElem hne)
     rw [Nat.zero_mul, Nat.add_zero] at this
     exact ⟨_, (show a.add 0 = a from if_pos rfl) ▸ this⟩
    obtain ⟨v0, hv0⟩ := hfirst
    have ha := cell_plain hv0
    have hadd : ∀ j, a.add j = ⟨a.block, a.off + j, none⟩ := fun j => by
     unfold Addr.add
     split
     ·rename_i h; subst h; exact ha
     ·rfl
    refine .inr ⟨hp, a.block, a.off, cap, by rw [← ha, show len = m.length by omega], by omega, hm, fun j hj => ?_⟩
    have hj2 : j < m.length * sz := by rw [← flat_len hf m]; exact hj
    have hq : j / sz < m.length := (Nat.div_lt_iff_lt_mul h0).2 hj2
    have hr := Nat.mod_lt j h0
    have hdm : j / sz * sz + j % sz = j := by rw [Nat.mul_comm]; exact Nat.div_add_mod j sz
    have hg := flat_get hf m (j / sz) (j % sz) hq hr
    rw [hdm, List.getElem?_eq_getElem hj] at hg
    have := hcell (j / sz) hq (j % sz) _ hg.symm
    rw [hdm, hadd] at this
    exact this
  ·obtain ⟨i, hi, rfl⟩ := List.getElem_of_mem hy
   exact (hmr i (by omega) hi).1
/-- One field after another: a struct's fields from the i-th on. -/
def OpensFields {α : Type} (enc : TypeId × Value → H) (P : Program) (fs : List Field) (off : Nat) (f : α → List Value) (Q : World → α → Prop) : Prop :=
 ∀ (w : World) (base : Nat) (spare : Nat → Bool) (held : Bool) (n : Nat) (cs : List Value) (xs : List (DataW H × List MemPlace)),
  xs.length = fs.length → (∀ (i : Nat) (g : Field), fs[i]? = some g → DataW.trod enc P w base spare held n g.type ((cs.drop g.offset).take (P.cellsOf g.type)) = xs[i]?) →
  (∀ n ∈ DataW.weightsEach P (fs.map (·.type)) (xs.map (·.1)), n ≤ reachBytes) → ∃ a, cs.drop off = f a ++ cs.drop (off + (f a).length) ∧ Q w a
theorem opens_none {off : Nat} : OpensFields enc P [] off (fun _ : Unit => []) (fun _ _ => True) := by
 intro w base spare held n cs xs _ _ _
 exact ⟨(), by simp, trivial⟩
theorem opens_field {α β : Type} {g : Field} {fs : List Field} {off : Nat} {f : α → List Value} {Q : World → α → Prop} {f' : β → List Value} {Q' : World → β → Prop} {sz : Nat} (hg : g.offset = off) (h1 : Opens enc P g.type f Q) (hc : P.cellsOf g.type = sz) (hf : ∀ x, (f x).length = sz) (h2 : OpensFields enc P fs (off + sz) f' Q') :
  OpensFields enc P (g :: fs) off (fun p : α × β => f p.1 ++ f' p.2) (fun w p => Q w p.1 ∧ Q' w p.2) := by
 intro w base spare held n cs xs hl ht hw
 match xs, hl with
 | y :: ys, hl =>
  have e0 := ht 0 g rfl
  simp only [List.getElem?_cons_zero] at e0
  obtain ⟨a, ha, hq⟩ := h1 w base spare held n _ _ e0 (fun k hk => hw k (by simp only [List.map_cons, DataW.weightsEach, List.mem_append]; exact .inl hk))
  obtain ⟨b, hb, hq'⟩ := h2 w base spare held n cs ys (by simpa using hl) (fun i g' hi => ht (i + 1) g' hi) (fun k hk => hw k (by simp only [List.map_cons, DataW.weightsEach, List.mem_append]; exact .inr hk))
  refine ⟨(a, b), ?_, hq, hq'⟩
  rw [hg, hc] at ha
  have e1 : cs.drop off = f a ++ cs.drop (off + sz) := by
   rw [← ha, ← List.drop_drop, List.take_append_drop]
  rw [e1, hb, List.append_assoc, List.length_append, hf a, ← Nat.add_assoc]
/-- A struct. -/
theorem opens_struct {α : Type} {t : TypeId} {fs : Array Field} {f : α → List Value} {Q : World → α → Prop} {sz : Nat} (ht : P.underlying t = some (.struct fs)) (h : OpensFields enc P fs.toList 0 f Q) (hc : P.cellsOf t = sz) (hf : ∀ x, (f x).length = sz) : Opens enc P t f Q := by
 intro w base spare held fuel cs x hx hw
 obtain ⟨xs, n, _, rfl, hlen, hxl, hat⟩ := DataW.trod_struct ht hx
 obtain ⟨a, ha, hq⟩ := h w base spare held n cs xs (by simpa using hxl) (fun i g hi => hat i g (by simpa using hi)) (fun k hk => hw k (by simpa [DataW.weights, ht] using hk))
 refine ⟨a, ?_, hq⟩
 simp only [List.drop_zero, Nat.zero_add] at ha
 rw [ha, List.drop_of_length_le (by rw [hf, hlen, hc]; exact Nat.le_refl _), List.append_nil]
/-- The same by another list of cells. -/
theorem Opens.as {α β : Type} {t : TypeId} {f : α → List Value} {Q : World → α → Prop} {g : β → List Value} {R : World → β → Prop} (h : Opens enc P t f Q) (hm : ∀ w a, Q w a → ∃ b, f a = g b ∧ R w b) : Opens enc P t g R := by
 intro w base spare held fuel cs x hx hw
 obtain ⟨a, ha, hq⟩ := h w base spare held fuel cs x hx hw
 obtain ⟨b, hb, hr⟩ := hm w a hq
 exact ⟨b, ha.trans hb, hr⟩
/-- A parameter: one value. -/
theorem Opens.param {α : Type} {t : TypeId} {f : α → List Value} {Q : World → α → Prop} (h : Opens enc P t f Q) {w : World} {base : Nat} {spare : Nat → Bool} {held : Bool} {v : Value} {d : DataW H} {p : List MemPlace} (hv : DataW.Trod enc P w base spare held t v d p) {ts : List TypeId} {ds : List (DataW H)} (hsz : (DataW.weightsEach P ts ds).all (· ≤ reachBytes) = true) {j : Nat} (hj : ts[j]? = some t) (hd : ds[j]? = some d) : ∃ a, v.cells.toList = f a ∧ Q w a := by
 obtain ⟨fuel, hf⟩ := hv
 exact h w base spare held fuel _ _ hf (fun n hn => by
  have := List.all_eq_true.1 hsz _ (DataW.weights_mem_each hj hd n hn)
  simpa using this)
theorem Opens.slice_param {t e : TypeId} {Q : World → Value → Prop} {w : World} {base : Nat} {spare : Nat → Bool} {held : Bool} {v : Value} {d : DataW H} {p : List MemPlace} {r : Reach} {W : World} {b0 : Nat} (ht : P.underlying t = some (.slice e)) (hok : Value.okWide P W r b0 t v) (h : Opens enc P t (fun v : Value => [v]) Q)
  (hv : DataW.Trod enc P w base spare held t v d p) {ts : List TypeId} {ds : List (DataW H)} (hsz : (DataW.weightsEach P ts ds).all (· ≤ reachBytes) = true) {j : Nat} (hj : ts[j]? = some t) (hd : ds[j]? = some d) : Q w v := by
 obtain ⟨a, ha, hq⟩ := h.param hv hsz hj hd
 obtain ⟨x, l, c, rfl⟩ := Go.WideShapes.okWide_slice ht hok
 have ha : [Value.slice x l c] = [a] := ha
 injection ha with ha _
 rw [ha]; exact hq
theorem Opens.struct_param {α : Type} {t : TypeId} {fs : Array Field} {f : α → List Value} {Q : World → α → Prop} {w : World} {base : Nat} {spare : Nat → Bool} {held : Bool} {v : Value} {d : DataW H} {p : List MemPlace} {r : Reach} {W : World} {b0 : Nat} (ht : P.underlying t = some (.struct fs)) (hok : Value.okWide P W r b0 t v) (h : Opens enc P t f Q)
  (hv : DataW.Trod enc P w base spare held t v d p) {ts : List TypeId} {ds : List (DataW H)} (hsz : (DataW.weightsEach P ts ds).all (· ≤ reachBytes) = true) {j : Nat} (hj : ts[j]? = some t) (hd : ds[j]? = some d) : ∃ a, v = .agg (f a).toArray ∧ Q w a := by
 obtain ⟨a, ha, hq⟩ := h.param hv hsz hj hd
 obtain ⟨cs, rfl, _⟩ := Go.WideShapes.okWide_struct ht hok
 refine ⟨a, ?_, hq⟩
 have ha : cs.toList = f a := ha
 rw [← ha]
end
end Go.Proofs.YtognjohloobliaaGreatDoor
