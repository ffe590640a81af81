/- Lists in memory: a slice that reads as a list of so many cells an element. -/
import Derived.Test.YtdpdnkjpjoccmaaDoorLib
namespace Go.Proofs.YtdpdnkjpjoccmaaDoor
open Go.RowKit
def ListIs {α : Type} (f : α → List Value) (sz : Nat) (w : World) (v : Value) (l : List α) : Prop := SliceIs w v l.length sz (l.flatMap f)
theorem flat_len {α : Type} {f : α → List Value} {sz : Nat} (hf : ∀ x, (f x).length = sz) (l : List α) : (l.flatMap f).length = l.length * sz := by
  induction l with
  | nil => simp
  | cons x l ih => rw [List.flatMap_cons, List.length_append, ih, hf, List.length_cons, Nat.add_mul, Nat.one_mul, Nat.add_comm]
theorem flat_get {α : Type} {f : α → List Value} {sz : Nat} (hf : ∀ x, (f x).length = sz) (l : List α) (k i : Nat) (h : k < l.length) (hi : i < sz) : (l.flatMap f)[k * sz + i]? = (f l[k])[i]? := by
  induction l generalizing k with
  | nil => simp at h
  | cons x l ih =>
    rw [List.flatMap_cons]
    cases k with
    | zero => rw [Nat.zero_mul, Nat.zero_add, List.getElem?_append_left (by rw [hf]; exact hi)]; rfl
    | succ k =>
      rw [List.getElem?_append_right (by rw [hf, Nat.add_mul]; omega), hf]
      rw [show (k + 1) * sz + i - sz = k * sz + i by rw [Nat.add_mul]; omega]
      exact ih k (by simpa using h)
theorem ListIs.below {α : Type} {f : α → List Value} {sz : Nat} {w w' : World} {v : Value} {l : List α} (h : ListIs f sz w v l) (hsz : 0 < sz) (hb : Below w.heap.size w w') : ListIs f sz w' v l := SliceIs.below h hsz hb
theorem ListIs.nil {α : Type} (f : α → List Value) (sz : Nat) (w : World) : ListIs f sz w (.slice none 0 0) [] := SliceIs.nil w sz
/-- A slice that reads as a list: where its elements' cells lie. -/
theorem ListIs.at {α : Type} {f : α → List Value} {sz : Nat} {w : World} {v : Value} {l : List α} (h : ListIs f sz w v l) (hf : ∀ x, (f x).length = sz) :
    ∃ (a : Option Addr) (cap : Nat), v = .slice a l.length cap ∧ (0 < l.length → l.length ≤ cap ∧ cap ≤ maxLen) ∧ (∀ k (hk : k < l.length), ∃ b off, a = some ⟨b, off, none⟩ ∧ (0 < sz → b < w.heap.size) ∧ ∀ i u, (f l[k])[i]? = some u → w.cell? ⟨b, off + k * sz + i, none⟩ = some u) := by
  obtain ⟨hlen, h⟩ := h
  rcases h with ⟨h0, a, cap, rfl⟩ | ⟨h0, b, off, cap, rfl, h3, h4, h5⟩
  · exact ⟨a, cap, by rw [h0], fun h => by omega, fun k hk => by omega⟩
  · have hcell : ∀ k (hk : k < l.length) i u, (f l[k])[i]? = some u → w.cell? ⟨b, off + k * sz + i, none⟩ = some u := fun k hk i u hu => by
      have hi : i < sz := by
        rw [← hf l[k]]; exact (List.getElem?_eq_some_iff.1 hu).1
      have hg := flat_get hf l k i hk hi
      rw [hu] at hg
      have hlt := (List.getElem?_eq_some_iff.1 hg).1
      have := h5 (k * sz + i) hlt
      rw [Nat.add_assoc, this, ← List.getElem?_eq_getElem, hg]
    refine ⟨some ⟨b, off, none⟩, cap, rfl, fun _ => ⟨h3, h4⟩, fun k hk => ⟨b, off, rfl, fun hs => ?_, hcell k hk⟩⟩
    have hne : 0 < (f l[k]).length := by rw [hf]; exact hs
    exact World.block_lt_of_cell? w _ (hcell k hk 0 _ (List.getElem?_eq_getElem hne))
theorem ListIs.of_owns {α : Type} {f : α → List Value} {sz : Nat} {w : World} {base : Nat} {e : TypeId} {v : Value} {l : List α} (h : w.ownsRow base e sz v l.length (l.flatMap f)) : ListIs f sz w v l := by
  refine ⟨h.1, ?_⟩
  rcases h.2 with ⟨rfl, hn⟩ | ⟨g, cap, cur, rfl, hb, hg, hc, hm, hs, htake⟩
  · rw [hn]; exact .inl ⟨rfl, none, 0, rfl⟩
  · rcases Nat.eq_zero_or_pos l.length with hz | hp
    · rw [hz]; exact .inl ⟨rfl, _, cap, rfl⟩
    · refine .inr ⟨hp, g, 0, cap, rfl, hc, hm, fun j hj => ?_⟩
      rw [Nat.zero_add]
      have e1 : w.cell? ⟨g, j, none⟩ = cur[j]? := by simp [World.cell?, hg]
      rw [e1]
      have e2 : cur[j]? = cur.toList[j]? := by simp
      rw [e2, ← List.getElem?_eq_getElem, ← htake, List.getElem?_take, if_pos]
      rw [← h.1]; exact hj
/-- A list that has just been laid whole. -/
theorem ListIs.of_alloc {α : Type} {f : α → List Value} {sz : Nat} (w : World) (e : TypeId) (l : List α) (cs : Array Value) (hcs : cs.toList = l.flatMap f) (hf : ∀ x, (f x).length = sz) (hl : l.length ≤ maxLen) (n : Nat) (hn : n = l.length) : ListIs f sz (w.alloc (.cells cs e)) (.slice (some ⟨w.heap.size, 0, none⟩) n n) l := by
  subst hn
  refine ⟨flat_len hf l, ?_⟩
  rcases Nat.eq_zero_or_pos l.length with hz | hp
  · rw [hz]; exact .inl ⟨rfl, _, _, rfl⟩
  · refine .inr ⟨hp, w.heap.size, 0, l.length, rfl, Nat.le_refl _, hl, fun j hj => ?_⟩
    rw [Nat.zero_add, World.cell?_alloc_at _ _ _ _ rfl]
    have e2 : cs[j]? = cs.toList[j]? := by simp
    simp only [e2, hcs]
    exact List.getElem?_eq_getElem hj
/-- A beginning. -/
theorem ListIs.take {α : Type} {f : α → List Value} {sz : Nat} {w : World} {a : Option Addr} {n cap : Nat} {l : List α} (h : ListIs f sz w (.slice a n cap) l) (hf : ∀ x, (f x).length = sz) (k : Nat) (hk : k ≤ l.length) : ListIs f sz w (.slice a k cap) (l.take k) := by
  have hlen : (l.take k).length = k := by simp; omega
  refine ⟨flat_len hf _, ?_⟩
  rw [hlen]
  rcases h.2 with ⟨h0, a', cap', hv⟩ | ⟨h0, b, off, cap', hv, h3, h4, h5⟩
  · exact .inl ⟨by omega, a, cap, by rw [show k = 0 by omega]⟩
  · simp only [Value.slice.injEq] at hv
    obtain ⟨rfl, rfl, rfl⟩ := hv
    rcases Nat.eq_zero_or_pos k with hz | hp
    · subst hz; exact .inl ⟨rfl, _, _, rfl⟩
    · refine .inr ⟨hp, b, off, cap, rfl, by omega, h4, fun j hj => ?_⟩
      have hle : ((l.take k).flatMap f) = (l.flatMap f).take (k * sz) := by
        conv => rhs; rw [← List.take_append_drop k l, List.flatMap_append]
        rw [List.take_left' (by rw [flat_len hf, hlen])]
      have hj2 : j < (l.flatMap f).length := by rw [hle, List.length_take] at hj; omega
      rw [h5 j hj2]
      congr 1
      simp only [hle]
      rw [List.getElem_take]
/-- An end. -/
theorem ListIs.drop {α : Type} {f : α → List Value} {sz : Nat} {w : World} {b off n cap : Nat} {l : List α} (h : ListIs f sz w (.slice (some ⟨b, off, none⟩) n cap) l) (hf : ∀ x, (f x).length = sz) (k : Nat) (hk : k ≤ l.length) (m cap' : Nat) (hm : m = l.length - k) (hc : m ≤ cap') (hc2 : cap' ≤ maxLen) : ListIs f sz w (.slice (some ⟨b, off + k * sz, none⟩) m cap') (l.drop k) := by
  subst hm
  have hlen : (l.drop k).length = l.length - k := by simp
  refine ⟨flat_len hf _, ?_⟩
  rw [hlen]
  rcases Nat.eq_zero_or_pos (l.length - k) with hz | hp
  · rw [hz]; exact .inl ⟨rfl, _, _, rfl⟩
  rcases h.2 with ⟨h0, a', cap', hv⟩ | ⟨h0, b', off', cap', hv, h3, h4, h5⟩
  · omega
  · simp only [Value.slice.injEq, Option.some.injEq, Addr.mk.injEq, and_true] at hv
    obtain ⟨⟨rfl, rfl⟩, rfl, rfl⟩ := hv
    refine .inr ⟨hp, b, off + k * sz, _, rfl, hc, hc2, fun j hj => ?_⟩
    have hle : ((l.drop k).flatMap f) = (l.flatMap f).drop (k * sz) := by
      conv => rhs; rw [← List.take_append_drop k l, List.flatMap_append]
      rw [List.drop_left' (by rw [flat_len hf, List.length_take, Nat.min_eq_left hk])]
    have hj2 : k * sz + j < (l.flatMap f).length := by rw [hle, List.length_drop] at hj; omega
    rw [Nat.add_assoc, h5 _ hj2]
    congr 1
    simp only [hle]
    rw [List.getElem_drop]
theorem owns_below {w w' : World} {base : Nat} {e : TypeId} {sz n : Nat} {v : Value} {xs : List Value} (h : w.ownsRow base e sz v n xs) (hb : Below w.heap.size w w') : w'.ownsRow base e sz v n xs := by
  refine ⟨h.1, ?_⟩
  rcases h.2 with hn | ⟨g, cap, cur, rfl, hb1, hg, rest⟩
  · exact .inl hn
  · exact .inr ⟨g, cap, cur, rfl, hb1, (hb.block g (Array.getElem?_eq_some_iff.1 hg).1).trans hg, rest⟩
end Go.Proofs.YtdpdnkjpjoccmaaDoor
