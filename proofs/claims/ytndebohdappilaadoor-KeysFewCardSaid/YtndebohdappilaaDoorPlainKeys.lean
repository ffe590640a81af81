/- Plain laws of key tables. -/
namespace Go.Proofs.YtndebohdappilaaDoor
namespace Keys
set_option linter.unusedSectionVars false
set_option linter.unusedVariables false
section
variable {α : Type} [DecidableEq α]
/-- One key more. -/
def step (p : List α × List Nat) (k : α) : List α × List Nat := if k ∈ p.1 then (p.1, p.2 ++ [p.1.idxOf k]) else (p.1 ++ [k], p.2 ++ [p.1.length])
/-- All keys, as they come first, and of each which one it is. -/
def table (l : List α) : List α × List Nat := l.foldl step ([], [])
theorem table_snoc (l : List α) (k : α) : table (l ++ [k]) = step (table l) k := by simp [table]
/-- How many keys are told of, each at its time. -/
def chk : List Nat → Nat → Option Nat
  | [], n => some n
  | a :: r, n => if n < a then none else chk r (if a = n then n + 1 else n)
theorem chk_append (a b : List Nat) (n : Nat) : chk (a ++ b) n = (chk a n).bind (chk b) := by
  induction a generalizing n with
  | nil => rfl
  | cons x a ih =>
    rw [List.cons_append, chk, chk]
    split
    · rfl
    · exact ih _
theorem nodup_inj {T : List α} (h : T.Nodup) {i j : Nat} (hi : i < T.length) (hj : j < T.length) (e : T[i] = T[j]) : i = j := by
  rcases Nat.lt_trichotomy i j with hlt | hlt | hlt
  · exact absurd e (List.pairwise_iff_getElem.1 h i j hi hj hlt)
  · exact hlt
  · exact absurd e.symm (List.pairwise_iff_getElem.1 h j i hj hi hlt)
/-- What a table is. -/
structure Is (l : List α) (p : List α × List Nat) : Prop where
  nodup : p.1.Nodup
  len : p.2.length = l.length
  lt : ∀ a ∈ p.2, a < p.1.length
  map : p.2.map (fun a => p.1[a]?) = l.map some
  chk : chk p.2 0 = some p.1.length
theorem is_table (l : List α) : Is l (table l) := by
  have key : ∀ (r l : List α) (p : List α × List Nat), Is l p → Is (l ++ r) (r.foldl step p) := by
    intro r
    induction r with
    | nil => intro l p h; simpa using h
    | cons k r ih =>
      intro l p h
      have e : l ++ k :: r = (l ++ [k]) ++ r := by simp
      rw [e, List.foldl_cons]
      refine ih _ _ ?_
      obtain ⟨T, A⟩ := p
      obtain ⟨h1, h2, h3, h4, h5⟩ := h
      simp only at h1 h2 h3 h4 h5
      unfold step
      by_cases hk : k ∈ T
      · have hi : T.idxOf k < T.length := List.idxOf_lt_length_of_mem hk
        have hg : T[T.idxOf k]? = some k := by
          rw [List.getElem?_eq_getElem hi]
          exact congrArg some (List.getElem_idxOf hi)
        simp only [hk, if_true]
        refine ⟨h1, by simp [h2], fun a ha => ?_, by simp [h4, hg], ?_⟩
        · rcases List.mem_append.1 ha with ha | ha
          · exact h3 a ha
          · rw [List.mem_singleton.1 ha]; exact hi
        · show Keys.chk (A ++ [T.idxOf k]) 0 = _
          rw [chk_append, h5]
          simp only [Option.bind_some, Keys.chk]
          rw [if_neg (by omega), if_neg (by omega)]
      · simp only [hk, if_false]
        refine ⟨?_, by simp [h2], fun a ha => ?_, ?_, ?_⟩
        · rw [List.nodup_append]
          exact ⟨h1, by simp, fun a ha b hb => by rw [List.mem_singleton.1 hb]; intro e; exact hk (e ▸ ha)⟩
        · simp only [List.length_append, List.length_cons, List.length_nil]
          rcases List.mem_append.1 ha with ha | ha
          · have := h3 a ha; omega
          · rw [List.mem_singleton.1 ha]; omega
        · rw [List.map_append, List.map_append, ← h4]
          congr 1
          · refine List.map_congr_left fun a ha => ?_
            exact List.getElem?_append_left (h3 a ha)
          · simp
        · show Keys.chk (A ++ [T.length]) 0 = _
          rw [chk_append, h5]
          simp only [Option.bind_some, Keys.chk, List.length_append, List.length_cons, List.length_nil]
          simp
  have := key l [] ([], []) ⟨by simp, rfl, by simp, rfl, rfl⟩
  simpa [table] using this
theorem chk_le (a : List Nat) (n m : Nat) (h : chk a n = some m) : n ≤ m := by
  induction a generalizing n with
  | nil => injection h with h; omega
  | cons x a ih =>
    rw [chk] at h
    split at h
    · cases h
    · have := ih _ h
      split at this <;> omega
/-- Just one table: what tells a list is that list's. -/
theorem table_of (T : List α) (hT : T.Nodup) (A : List Nat) (l : List α) (m : Nat) (hl : A.map (fun a => T[a]?) = l.map some) (hc : chk A 0 = some m) (hm : m ≤ T.length) : table l = (T.take m, A) := by
  have key : ∀ (B : List Nat) (r : List α) (n : Nat) (A : List Nat), B.map (fun a => T[a]?) = r.map some → chk B n = some m → r.foldl step (T.take n, A) = (T.take m, A ++ B) := by
    intro B
    induction B with
    | nil =>
      intro r n A h hc
      have hr : r = [] := by cases r with
        | nil => rfl
        | cons x r => simp at h
      injection hc with hc
      rw [hr, hc]; simp
    | cons x B ih =>
      intro r n A h hc
      cases r with
      | nil => simp at h
      | cons k r =>
        rw [List.map_cons, List.map_cons] at h
        injection h with h1 h2
        rw [chk] at hc
        have hx : x < T.length := (List.getElem?_eq_some_iff.1 h1).1
        have hxk : T[x] = k := (List.getElem?_eq_some_iff.1 h1).2
        split at hc
        · cases hc
        · rename_i hn
          rw [List.foldl_cons]
          by_cases he : x = n
          · subst he
            rw [if_pos rfl] at hc
            have hk : k ∉ T.take x := fun hmem => by
              obtain ⟨i, hi, hik⟩ := List.getElem_of_mem hmem
              rw [List.length_take] at hi
              rw [List.getElem_take, ← hxk] at hik
              have := nodup_inj hT (by omega) hx hik
              omega
            have e : step (T.take x, A) k = (T.take (x + 1), A ++ [x]) := by
              unfold step
              simp only [hk, if_false]
              rw [List.take_succ_eq_append_getElem hx, hxk, List.length_take, Nat.min_eq_left (by omega)]
            rw [e, ih r (x + 1) (A ++ [x]) h2 hc]
            simp
          · rw [if_neg he] at hc
            have hxl : x < (T.take n).length := by
              rw [List.length_take]; omega
            have hk : k ∈ T.take n := by
              rw [← hxk, ← List.getElem_take (h := hxl)]
              exact List.getElem_mem hxl
            have hidx : (T.take n).idxOf k = x := by
              have hnd : (T.take n).Nodup := List.Nodup.sublist (List.take_sublist n T) hT
              have hi := List.idxOf_lt_length_of_mem hk
              have h3 : (T.take n)[(T.take n).idxOf k] = k := List.getElem_idxOf hi
              have h4 : (T.take n)[x] = k := by rw [List.getElem_take]; exact hxk
              exact nodup_inj hnd hi hxl (h3.trans h4.symm)
            have e : step (T.take n, A) k = (T.take n, A ++ [x]) := by
              unfold step
              simp only [hk, if_true, hidx]
            rw [e, ih r n (A ++ [x]) h2 hc]
            simp
  have := key A l 0 [] hl hc
  simpa [table] using this
end
end Keys
end Go.Proofs.YtndebohdappilaaDoor
