/- Plain words for a log's Accept. -/
import Derived.Test.YtdbpiabcpjgblaaDoorPlainLog
import Derived.Test.YtdbpiabcpjgblaaDoorWLogF
namespace Go.Proofs.YtdbpiabcpjgblaaDoor
set_option linter.unusedVariables false
set_option linter.unusedSimpArgs false
namespace Lg
/-- Where a write stands among others. -/
def at_ (l : List WrB) (y : WrB) : Nat := (l.takeWhile fun x => decide (cmpW x y < 0)).length
theorem place_at : ∀ {l : List WrB} {y : WrB} {i : Nat}, Place l y i → i = at_ l y
  | [], y, i, h => by have := h.1; simp only [List.length_nil] at this; simp only [at_, List.takeWhile_nil, List.length_nil]; omega
  | x :: l, y, 0, h => by
    have h0 := h.2.2 0 (by simp) (by omega)
    simp only [List.getElem_cons_zero] at h0
    unfold at_
    rw [List.takeWhile_cons_of_neg (by simp; omega)]; rfl
  | x :: l, y, i + 1, h => by
    have h0 := h.2.1 0 (by simp) (by omega)
    simp only [List.getElem_cons_zero] at h0
    have ih : Place l y i := ⟨by have := h.1; simp only [List.length_cons] at this; omega, fun k hk hk2 => by
      have := h.2.1 (k + 1) (by simp; omega) (by omega)
      simpa using this, fun k hk hk2 => by
      have := h.2.2 (k + 1) (by simp; omega) (by omega)
      simpa using this⟩
    have := place_at ih
    unfold at_ at *
    rw [List.takeWhile_cons_of_pos (by simpa using h0), List.length_cons, ← this]
open Classical in
/-- The writes of a batch, one behind the other: what is written then, and how many were new; or what is wrong. -/
noncomputable def acc : List WrB → List WrB → Nat → Nat → Err ⊕ (List WrB × Nat)
  | next, [], _, many => .inr (next, many)
  | next, y :: ws, i, many =>
    if ∃ h : at_ next y < next.length, cmpW next[at_ next y] y = 0 then
      if next[at_ next y]? = some y then acc next ws (i + 1) many else .inl (.at_ 9 i)
    else acc (next.take (at_ next y) ++ [y] ++ next.drop (at_ next y)) ws (i + 1) (many + 1)
noncomputable def accept (m : Lg) (f h : List Vec.Entry) (ws : List WrB) : Err ⊕ (Lg × Nat) :=
  if Bat.right f h (ws.map WrB.plain) ≠ .ok then .inl (Bat.right f h (ws.map WrB.plain))
  else if coversB m.H f = false then .inl (.no 10)
  else match joined m.H h with
    | .inl e => .inl e
    | .inr H' => match acc m.W ws 0 0 with
      | .inl e => .inl e
      | .inr (W', n) => if 300 < W'.length then .inl (.no 12) else .inr (⟨m.rep, H', W'⟩, n)
/-- A list stays in order where a write is put at its place. -/
theorem put_sorted {l : List WrB} {y : WrB} {i : Nat} (hs : l.Pairwise fun a b => cmpW a b < 0) (hp : Place l y i) (hn : ¬ ∃ h : i < l.length, cmpW l[i] y = 0) : (l.take i ++ [y] ++ l.drop i).Pairwise fun a b => cmpW a b < 0 := by
  have hback : ∀ k (hk : k < l.length), i ≤ k → cmpW y l[k] < 0 := fun k hk hik => by
    have h0 := hp.2.2 k hk hik
    have hne : cmpW l[k] y ≠ 0 := fun e => by
      rcases Nat.lt_or_ge i k with h | h
      · have h1 := hp.2.2 i (by omega) (Nat.le_refl _)
        have h2 := pair_lt hs (by omega) hk h
        rw [cmpW_zero] at e
        rw [cmpW_neg] at h2
        have h3 : cmpW l[i] y < 0 := by rw [cmpW_neg]; omega
        omega
      · obtain rfl : i = k := by omega
        exact hn ⟨hk, e⟩
    rw [cmpW_neg]
    have h1 : ¬ cmpW l[k] y < 0 := by omega
    rw [cmpW_neg] at h1
    rw [Ne, cmpW_zero] at hne
    omega
  rw [List.append_assoc, List.pairwise_append]
  refine ⟨hs.sublist (List.take_sublist _ _), ?_, fun a ha b hb => ?_⟩
  · rw [List.singleton_append, List.pairwise_cons]
    refine ⟨fun b hb => ?_, hs.sublist (List.drop_sublist _ _)⟩
    obtain ⟨k, hk, rfl⟩ := List.getElem_of_mem hb
    rw [List.getElem_drop]
    exact hback _ _ (by omega)
  · obtain ⟨k, hk, rfl⟩ := List.getElem_of_mem ha
    rw [List.length_take] at hk
    rw [List.getElem_take]
    have hky := hp.2.1 k (by omega) (by omega)
    rw [List.singleton_append] at hb
    rcases List.mem_cons.1 hb with rfl | hb
    · exact hky
    · obtain ⟨j, hj, rfl⟩ := List.getElem_of_mem hb
      rw [List.getElem_drop]
      exact cmpW_trans hky (hback _ _ (by omega))
end Lg
end Go.Proofs.YtdbpiabcpjgblaaDoor
