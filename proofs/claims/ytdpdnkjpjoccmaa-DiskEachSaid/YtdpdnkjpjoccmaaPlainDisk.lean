/- Plain laws of sectors that last once they are synced. -/
namespace Go.Proofs.Ytdpdnkjpjoccmaa
namespace Disk
set_option linter.unusedVariables false
set_option linter.unusedSectionVars false
section
variable {α : Type}
/-- What lasts, and what was written since. -/
structure St (α : Type) where
  safe : List α
  next : Nat → Option α
/-- What a sector reads as. -/
def St.view (d : St α) (i : Nat) : Option α := if i < d.safe.length then (match d.next i with | some x => some x | none => d.safe[i]?) else none
def St.write (d : St α) (at' : Nat) (x : α) : St α := ⟨d.safe, fun i => if i = at' then some x else d.next i⟩
def St.dirty (d : St α) : List Nat := (List.range d.safe.length).filter fun i => (d.next i).isSome
/-- Some of what was written lasts. -/
def sink (keep : Nat → Bool) (next : Nat → Option α) : List α → List Nat → Nat → List α
  | c, [], _ => c
  | c, i :: l, k => sink keep next (match next i with | some x => if keep k then c.set i x else c | none => c) l (k + 1)
def St.crash (keep : Nat → Bool) (d : St α) : St α := ⟨sink keep d.next d.safe d.dirty 0, fun _ => none⟩
def St.sync (d : St α) : St α := d.crash fun _ => true
theorem sink_len (keep : Nat → Bool) (next : Nat → Option α) (c : List α) (l : List Nat) (k : Nat) : (sink keep next c l k).length = c.length := by
  induction l generalizing c k with
  | nil => rfl
  | cons i l ih =>
    rw [sink, ih]
    split
    · split
      · exact List.length_set
      · rfl
    · rfl
theorem sink_other (keep : Nat → Bool) (next : Nat → Option α) (c : List α) (l : List Nat) (k i : Nat) (h : i ∉ l) : (sink keep next c l k)[i]? = c[i]? := by
  induction l generalizing c k with
  | nil => rfl
  | cons j l ih =>
    simp only [List.mem_cons, not_or] at h
    rw [sink, ih _ _ h.2]
    split
    · split
      · rw [List.getElem?_set_ne (fun e => h.1 e.symm)]
      · rfl
    · rfl
theorem sink_at (keep : Nat → Bool) (next : Nat → Option α) (c : List α) (l : List Nat) (k j : Nat) (hl : l.Nodup) (hj : j < l.length) (x : α) (hx : next l[j] = some x) (hc : l[j] < c.length) :
    (sink keep next c l k)[l[j]]? = if keep (k + j) then some x else c[l[j]]? := by
  induction l generalizing c k j with
  | nil => simp at hj
  | cons i l ih =>
    rw [List.nodup_cons] at hl
    rw [sink]
    cases j with
    | zero =>
      simp only [List.getElem_cons_zero] at hx hc ⊢
      rw [sink_other _ _ _ _ _ _ hl.1, hx, Nat.add_zero]
      simp only
      by_cases hk : keep k = true
      · rw [if_pos hk, if_pos hk, List.getElem?_set_self hc]
      · rw [if_neg hk, if_neg hk]
    | succ j =>
      simp only [List.getElem_cons_succ] at hx hc ⊢
      have hj' : j < l.length := by simpa using hj
      have hne : i ≠ l[j] := fun e => hl.1 (e ▸ List.getElem_mem hj')
      rw [ih _ _ _ hl.2 hj' hx (by
        split
        · split
          · rw [List.length_set]; exact hc
          · exact hc
        · exact hc), show k + 1 + j = k + (j + 1) by omega]
      congr 1
      split
      · split
        · rw [List.getElem?_set_ne hne]
        · rfl
      · rfl
theorem dirty_nodup (d : St α) : d.dirty.Nodup := List.nodup_range.sublist (List.filter_sublist ..)
theorem dirty_mem (d : St α) (i : Nat) : i ∈ d.dirty ↔ i < d.safe.length ∧ (d.next i).isSome = true := by
  unfold St.dirty; rw [List.mem_filter, List.mem_range]
theorem crash_len (keep : Nat → Bool) (d : St α) : (d.crash keep).safe.length = d.safe.length := sink_len ..
theorem view_crash (keep : Nat → Bool) (d : St α) (i : Nat) : (d.crash keep).view i = if i < d.safe.length then (d.crash keep).safe[i]? else none := by
  unfold St.view
  rw [crash_len]
  rfl
theorem crash_in (keep : Nat → Bool) (d : St α) (j : Nat) (hj : j < d.dirty.length) : (d.crash keep).safe[d.dirty[j]]? = if keep j then d.view d.dirty[j] else d.safe[d.dirty[j]]? := by
  have hm := (dirty_mem d d.dirty[j]).1 (List.getElem_mem hj)
  obtain ⟨x, hx⟩ := Option.isSome_iff_exists.1 hm.2
  have := sink_at keep d.next d.safe d.dirty 0 j (dirty_nodup d) hj x hx hm.1
  rw [Nat.zero_add] at this
  unfold St.view
  rw [if_pos hm.1, hx]
  exact this
theorem crash_out (keep : Nat → Bool) (d : St α) (i : Nat) (h : i ∉ d.dirty) : (d.crash keep).safe[i]? = d.safe[i]? := sink_other _ _ _ _ _ _ h
theorem view_sync (d : St α) (i : Nat) : d.sync.view i = d.view i := by
  unfold St.sync
  rw [view_crash]
  by_cases hi : i < d.safe.length
  · rw [if_pos hi]
    by_cases hm : i ∈ d.dirty
    · obtain ⟨j, hj, rfl⟩ := List.getElem_of_mem hm
      rw [crash_in _ _ _ hj]; rfl
    · rw [crash_out _ _ _ hm]
      unfold St.view
      rw [if_pos hi]
      cases hn : d.next i with
      | none => rfl
      | some x => exact absurd ((dirty_mem d i).2 ⟨hi, by rw [hn]; rfl⟩) hm
  · rw [if_neg hi]; unfold St.view; rw [if_neg hi]
theorem view_write (d : St α) (k i : Nat) (x : α) : (d.write k x).view i = if i = k ∧ i < d.safe.length then some x else d.view i := by
  unfold St.view St.write
  simp only
  by_cases hi : i < d.safe.length
  · rw [if_pos hi]
    by_cases hk : i = k
    · simp [hk, show k < d.safe.length from hk ▸ hi]
    · simp [hk, hi]
  · simp [hi]
theorem dirty_clean (d : St α) (h : ∀ i, d.next i = none) : d.dirty = [] := by
  refine List.eq_nil_iff_forall_not_mem.2 fun i hi => ?_
  have := ((dirty_mem d i).1 hi).2
  rw [h i] at this; cases this
theorem dirty_crash (keep : Nat → Bool) (d : St α) : (d.crash keep).dirty = [] := dirty_clean _ fun _ => rfl
/-- Nothing to lose. -/
theorem crash_clean (keep : Nat → Bool) (d : St α) (h : ∀ i, d.next i = none) : d.crash keep = d := by
  obtain ⟨safe, next⟩ := d
  have hn : next = fun _ => none := funext h
  subst hn
  unfold St.crash
  rw [dirty_clean _ (fun _ => rfl)]
  rfl
end
end Disk
def keepM (mask k : Nat) : Bool := decide (mask / 2 ^ (min k 63) % 2 = 1)
end Go.Proofs.Ytdpdnkjpjoccmaa
