/- A call's own slice: its first elements; 'clear(s[k:])'; three cells of an element stored. -/
import Derived.Test.YtpmedolndkidcaaDoorLib4
import Derived.Laws.CopyOwn
namespace Go.Proofs.YtpmedolndkidcaaDoor
open Go.RowKit
set_option linter.unusedVariables false
set_option linter.unusedSimpArgs false
theorem owns_take {w : World} {base : Nat} {e : TypeId} {sz n g cap : Nat} {xs : List Value} (h : w.ownsRow base e sz (.slice (some ⟨g, 0, none⟩) n cap) n xs) (k : Nat) (hk : k ≤ n) : w.ownsRow base e sz (.slice (some ⟨g, 0, none⟩) k cap) k (xs.take (k * sz)) := by
  obtain ⟨hl, h2⟩ := h
  have hm : k * sz ≤ n * sz := Nat.mul_le_mul_right _ hk
  refine ⟨by rw [List.length_take, hl]; omega, ?_⟩
  rcases h2 with ⟨hv, _⟩ | ⟨g', cap', cur, hv, hb, hg, hn, hm', hs, ht⟩
  · cases hv
  · injection hv with e1 e2 e3
    injection e1 with e1
    injection e1 with e4
    subst e4; subst e3
    refine .inr ⟨g, cap, cur, rfl, hb, hg, by omega, hm', hs, ?_⟩
    rw [← ht, List.take_take, Nat.min_eq_left hm]
theorem run_clear_own {P : Program} {w : World} {base : Nat} {e : TypeId} {sz n g cap : Nat} {xs : List Value} (h : w.ownsRow base e sz (.slice (some ⟨g, 0, none⟩) n cap) n xs) (t : TypeId) (ht : P.underlying t = some (.slice e)) (z : Value) (hz : ∀ w, (zeroValue e).run P w = .ok z w) (hzs : z.cells.size = sz) (h1 : ∀ u ∈ z.cells.toList, u.oneCell' = true) (k : Nat) (hk : k < n) :
    ∃ w', (∀ ty, (Builtin.clear_ #[t] ty #[.slice (some ⟨g, k * sz, none⟩) (n - k) (cap - k)]).run P w = .ok (.tuple #[]) w') ∧ w'.ownsRow base e sz (.slice (some ⟨g, 0, none⟩) k cap) k (xs.take (k * sz)) ∧ Below base w w' := by
  have hok := owns_take h k (by omega)
  obtain ⟨hl, h2⟩ := h
  rcases h2 with ⟨hv, _⟩ | ⟨g', cap', cur, hv, hb, hg, hn, hm', hs, htk⟩
  · cases hv
  injection hv with e1 e2 e3
  injection e1 with e1
  injection e1 with e4
  subst e4; subst e3
  have hzl : (Builtin.zeroCells z.cells (n - k)).toList.length = (n - k) * sz := by rw [Array.length_toList, size_zeroCells, hzs]
  have hfit : k * sz + 0 + (Builtin.zeroCells z.cells (n - k)).toList.length ≤ cur.size := by
    rw [hzl, hs, Nat.add_zero, ← Nat.add_mul]
    exact Nat.mul_le_mul_right _ (by omega)
  have hone : ∀ u ∈ (Builtin.zeroCells z.cells (n - k)).toList, u.oneCell' = true := by
    intro u hu
    unfold Builtin.zeroCells at hu
    simp only [Array.toList_map, List.mem_map, Array.mem_toList_iff, Array.mem_range] at hu
    obtain ⟨i, hi, rfl⟩ := hu
    have hp : 0 < z.cells.size := by
      rcases Nat.eq_zero_or_pos z.cells.size with h | h
      · rw [h, Nat.mul_zero] at hi; omega
      · exact h
    have hlt : i % z.cells.size < z.cells.size := Nat.mod_lt _ hp
    rw [getElem!_pos z.cells _ hlt]
    exact h1 _ (by rw [Array.mem_toList_iff]; exact Array.getElem_mem hlt)
  have hst := run_storeCells_at P g (k * sz) e (Builtin.zeroCells z.cells (n - k)).toList 0 cur w hg hfit hone
  obtain ⟨cs, hcs⟩ : ∃ cs, cs = (cur.toList.take (k * sz + 0) ++ (Builtin.zeroCells z.cells (n - k)).toList ++ cur.toList.drop (k * sz + 0 + (Builtin.zeroCells z.cells (n - k)).toList.length)).toArray := ⟨_, rfl⟩
  rw [← hcs] at hst
  obtain ⟨m, hmk⟩ : ∃ m, n - k = m + 1 := ⟨n - k - 1, by omega⟩
  refine ⟨w.setRow g cs, fun ty => ?_, ⟨hok.1, .inr ⟨g, cap, cs, rfl, hb, setRow_heap w g cur cs e (0, 0) hg, by omega, hm', ?_, ?_⟩⟩, ?_⟩
  · clear hcs
    rw [hmk] at hst ⊢
    simp only [Builtin.clear_, run_underlying ht, hz, hst, Sem.run_bind, Sem.run_pure, Result.andThen_ok, Array.getElem?_eq_getElem, List.getElem_toArray, List.getElem_cons_zero, List.size_toArray, List.length_cons, List.length_nil, Nat.zero_lt_succ]
  · rw [hcs]
    simp only [List.size_toArray, List.length_append, List.length_take, List.length_drop, Array.length_toList]
    have := hfit
    rw [Array.length_toList] at this
    omega
  · have hkc : k * sz ≤ cur.size := by omega
    rw [hcs]
    simp only [Nat.add_zero]
    rw [List.append_assoc, List.take_append_of_le_length (by simp; omega), List.take_take, Nat.min_self, ← htk, List.take_take, Nat.min_eq_left (Nat.mul_le_mul_right _ (by omega))]
  · exact below_setRow (Below.refl base w) hb _
theorem set_three (X : List Value) (i : Nat) (a b c : Value) (h : i * 3 + 3 ≤ X.length) : ((X.set (i * 3) a).set (i * 3 + 1) b).set (i * 3 + 2) c = X.take (i * 3) ++ [a, b, c] ++ X.drop (i * 3 + 3) := by
  apply List.ext_getElem?
  intro j
  simp only [List.getElem?_set, List.length_set, List.getElem?_append, List.length_append, List.length_take, List.length_cons, List.length_nil, List.getElem?_take, List.getElem?_drop]
  by_cases h1 : j < i * 3
  · have e1 : ¬ i * 3 + 2 = j := by omega
    have e2 : ¬ i * 3 + 1 = j := by omega
    have e3 : ¬ i * 3 = j := by omega
    have e4 : j < min (i * 3) X.length + (0 + 1 + 1 + 1) := by omega
    have e5 : j < min (i * 3) X.length := by omega
    simp [e1, e2, e3, e4, e5, h1]
  · by_cases h2 : j < i * 3 + 3
    · have e4 : j < min (i * 3) X.length + (0 + 1 + 1 + 1) := by omega
      have e5 : ¬ j < min (i * 3) X.length := by omega
      have hm : min (i * 3) X.length = i * 3 := by omega
      rw [if_pos e4, if_neg e5, hm]
      rcases (by omega : j = i * 3 ∨ j = i * 3 + 1 ∨ j = i * 3 + 2) with rfl | rfl | rfl
      · simp; omega
      · simp; omega
      · simp; omega
    · have e1 : ¬ i * 3 + 2 = j := by omega
      have e2 : ¬ i * 3 + 1 = j := by omega
      have e3 : ¬ i * 3 = j := by omega
      have e4 : ¬ j < min (i * 3) X.length + (0 + 1 + 1 + 1) := by omega
      rw [if_neg e1, if_neg e2, if_neg e3, if_neg e4]
      congr 1
      omega
theorem put_take (X : List Value) (i : Nat) (a b c : Value) (h : i * 3 + 3 ≤ X.length) : (X.take (i * 3) ++ [a, b, c] ++ X.drop (i * 3 + 3)).take ((i + 1) * 3) = X.take (i * 3) ++ [a, b, c] :=
  List.take_left' (by simp only [List.length_append, List.length_take, List.length_cons, List.length_nil]; omega)
theorem put_drop (X : List Value) (i j : Nat) (a b c : Value) (h : i * 3 + 3 ≤ X.length) (hij : i ≤ j) : (X.take (i * 3) ++ [a, b, c] ++ X.drop (i * 3 + 3)).drop ((j + 1) * 3) = X.drop ((j + 1) * 3) := by
  have hl : (X.take (i * 3) ++ [a, b, c]).length = i * 3 + 3 := by simp only [List.length_append, List.length_take, List.length_cons, List.length_nil]; omega
  rw [List.drop_append, hl, List.drop_of_length_le (by omega), List.nil_append, List.drop_drop]
  congr 1
  omega
end Go.Proofs.YtpmedolndkidcaaDoor
