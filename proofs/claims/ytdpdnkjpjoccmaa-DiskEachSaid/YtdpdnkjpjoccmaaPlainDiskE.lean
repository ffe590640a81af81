/- What a script of sectors leaves, each sector for itself. -/
import Derived.Test.YtdpdnkjpjoccmaaWSpun
namespace Go.Proofs.Ytdpdnkjpjoccmaa
set_option linter.unusedVariables false
theorem spunSt_app (a b : List Dab) : spunSt (a ++ b) = b.foldl dab (spunSt a) := by unfold spunSt; rw [List.foldl_append]
theorem writes_safe (l : List Dab) (h : ∀ x ∈ l, x.y = false) (st : Disk.St ByteArray) : (l.foldl dab st).safe = st.safe := by
  induction l generalizing st with
  | nil => rfl
  | cons x l ih =>
    rw [List.foldl_cons, ih (fun y hy => h y (List.mem_cons_of_mem _ hy))]
    unfold dab
    rw [h x (List.mem_cons_self ..)]
    simp only [Bool.false_eq_true, if_false]
    split <;> rfl
def syDab : Dab := ⟨0, ⟨#[]⟩, true⟩
/-- Behind a crash each sector is as it was when all was synced, or, if it was to last, as it was last. -/
theorem each_sector (a b : List Dab) (hb : ∀ x ∈ b, x.y = false) (keep : Nat → Bool) (i : Nat) :
    ((spunSt (a ++ [syDab] ++ b)).crash keep).view i = if i ∈ (spunSt (a ++ [syDab] ++ b)).dirty then (if keep ((spunSt (a ++ [syDab] ++ b)).dirty.idxOf i) then (spunSt (a ++ [syDab] ++ b)).view i else (spunSt (a ++ [syDab])).view i) else (spunSt (a ++ [syDab])).view i := by
  have e1 : (spunSt (a ++ [syDab] ++ b)).safe = (spunSt (a ++ [syDab])).safe := by
    rw [spunSt_app (a ++ [syDab]) b]; exact writes_safe b hb _
  have e2 : (spunSt (a ++ [syDab])).next = fun _ => none := by rw [spunSt_app]; rfl
  generalize spunSt (a ++ [syDab] ++ b) = E at *
  generalize spunSt (a ++ [syDab]) = D at *
  have hD : D.view i = if i < D.safe.length then D.safe[i]? else none := by
    unfold Disk.St.view; rw [e2]
  rw [Disk.view_crash]
  by_cases hi : i < E.safe.length
  · rw [if_pos hi]
    have hi' := hi
    rw [e1] at hi'
    rw [hD, if_pos hi']
    by_cases hm : i ∈ E.dirty
    · rw [if_pos hm]
      have hj := List.idxOf_lt_length_of_mem hm
      have hg := List.getElem_idxOf hj
      have h := Disk.crash_in keep E (E.dirty.idxOf i) hj
      rw [hg] at h
      rw [h, e1]
    · rw [if_neg hm, Disk.crash_out _ _ _ hm, e1]
  · rw [if_neg hi]
    have hm : i ∉ E.dirty := fun hm => hi ((Disk.dirty_mem E i).1 hm).1
    rw [if_neg hm, hD, if_neg (by rw [← e1]; exact hi)]
theorem dirty_len (st : Disk.St ByteArray) : st.dirty.length ≤ st.safe.length := by
  unfold Disk.St.dirty
  have := List.length_filter_le (fun i => (st.next i).isSome) (List.range st.safe.length)
  rw [List.length_range] at this
  exact this
end Go.Proofs.Ytdpdnkjpjoccmaa
