/- Plain law of StoreLists: what is inserted is there, each as often. -/
import Derived.Test.YtognjohloobliaaDoorPlainStore
namespace Go.Proofs.YtognjohloobliaaDoor
set_option linter.unusedVariables false
set_option linter.unusedSimpArgs false
namespace St
/-- What was inserted under a key. -/
def under (l : List W) (s : ByteArray) : List ByteArray := (l.filter fun x => decide (x.key = s)).map (·.val)
theorem under_snoc (l : List W) (x : W) (s : ByteArray) : under (l ++ [x]) s = if x.key = s then under l s ++ [x.val] else under l s := by
  unfold under
  rw [List.filter_append]
  by_cases h : x.key = s
  · rw [if_pos h, List.filter_cons_of_pos (by simpa using h)]; simp
  · rw [if_neg h, List.filter_cons_of_neg (by simpa using h)]; simp
theorem under_mem {l : List W} {s : ByteArray} : under l s ≠ [] ↔ ∃ x ∈ l, x.key = s := by
  unfold under
  rw [Ne, List.map_eq_nil_iff, List.filter_eq_nil_iff]
  simp
theorem at_under {l : List W} (h4 : ∀ x ∈ l, x.k = 4) (s : ByteArray) : (at_ l s).has = false ∧ (at_ l s).sum = 0 ∧ (at_ l s).list.Perm (under l s) := by
  have := fold_ins (l.filter fun x => decide (x.key = s)) no (fun x hx => h4 x (List.mem_filter.1 hx).1)
  exact ⟨this.2.1, this.2.2, this.1⟩
theorem cells_keys {l : List W} (h4 : ∀ x ∈ l, x.k = 4) {C : List Cel} (hC : IsCells C (at_ l)) : (C.map (·.key)).Nodup ∧ ∀ s, s ∈ C.map (·.key) ↔ ∃ x ∈ l, x.key = s := by
  constructor
  · rw [List.Nodup, List.pairwise_map]
    exact hC.1.imp fun hab e => by rw [e, lt_irrefl] at hab; cases hab
  · intro s
    have h := at_under h4 s
    have hsome : (at_ l s).some_ = true ↔ ∃ x ∈ l, x.key = s := by
      unfold Val.some_
      rw [h.1, h.2.1, ← under_mem]
      simp only [Bool.false_or, ne_eq, not_true_eq_false, decide_false, decide_eq_true_eq, h.2.2.length_eq]
      exact List.length_pos_iff
    rw [← hsome, List.mem_map]
    constructor
    · rintro ⟨c, hc, rfl⟩
      obtain ⟨h1, h2⟩ := (hC.2 c).1 hc
      rw [h2]; exact h1
    · intro h
      exact ⟨⟨s, at_ l s⟩, (hC.2 _).2 ⟨h, rfl⟩, rfl⟩
end St
end Go.Proofs.YtognjohloobliaaDoor
