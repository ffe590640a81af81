/- Plain laws of who gets the pieces, part three: what lasts by a record. -/
import Derived.Test.YtdpdnkjpjoccmaaDoorPlainRecv2
namespace Go.Proofs.YtdpdnkjpjoccmaaDoor
namespace Recv
set_option linter.unusedVariables false
set_option linter.unusedSectionVars false
/-- So many bytes last by a record that is on the disk, and not written anew. -/
def Lasting (R : Rec) (v : Nat) : Prop := ∃ i x m nm t, i < 2 ∧ R.disk.safe[i]? = some x ∧ R.disk.next i = none ∧ record x.data.toList = some (m, nm, t, v)
/-- The same by the latest one. -/
def Latest (R : Rec) (v : Nat) : Prop := ∃ i x m nm t, i < 2 ∧ R.disk.safe[i]? = some x ∧ R.disk.next i = none ∧ record x.data.toList = some (m, nm, t, v) ∧ m + 1 = R.mark ∧ m % 2 = i
theorem Latest.lasting {R : Rec} {v : Nat} (h : Latest R v) : Lasting R v := by
  obtain ⟨i, x, m, nm, t, h1, h2, h3, h4, _⟩ := h
  exact ⟨i, x, m, nm, t, h1, h2, h3, h4⟩
theorem not_dirty {d : Disk.St ByteArray} {i : Nat} (h : d.next i = none) : i ∉ d.dirty := fun hm => by
  have := ((Disk.dirty_mem d i).1 hm).2
  rw [h] at this; cases this
theorem lasting_crash (s : List UInt8) (R : Rec) (h : Inv s R) (keep : Nat → Bool) (v : Nat) (hl : Lasting R v) : v ≤ (R.crash keep).safe := by
  obtain ⟨i, x, m, nm, t, hi, hx, hn, hr⟩ := hl
  have hs : seen (R.disk.crash keep) i = some (m, nm, t, v) := by
    unfold seen
    rw [Disk.view_crash, if_pos (by rw [h.len]; omega), Disk.crash_out _ _ _ (not_dirty hn), hx]
    exact hr
  have e : (R.crash keep).safe = (best (R.disk.crash keep)).2.2.2 := rfl
  rcases best_spec (R.disk.crash keep) with ⟨_, h0, h1⟩ | ⟨i', m', nm', t', c', hi', hsi, hb, hmax⟩
  · rcases (show i = 0 ∨ i = 1 by omega) with rfl | rfl
    · rw [h0] at hs; cases hs
    · rw [h1] at hs; cases hs
  · rw [e, hb]
    show v ≤ c'
    have hm := hmax i _ hi hs
    simp only at hm
    obtain ⟨X, hX, hXr⟩ := seen_ver _ _ _ hsi
    have hX := ver_crash _ _ _ _ hX
    have hx : Ver R.disk i x := .inl hx
    have p1 := h.recs i x m nm t v hi hx hr
    have p2 := h.recs i' X m' nm' t' c' hi' hX hXr
    rcases (show i = 0 ∨ i = 1 by omega) with rfl | rfl <;> rcases (show i' = 0 ∨ i' = 1 by omega) with rfl | rfl
    · rw [hs] at hsi
      injection hsi with hsi
      simp only [Prod.mk.injEq] at hsi
      omega
    · exact (h.mono x X m nm t v m' nm' t' c' hx hX hr hXr).1 (by omega)
    · exact (h.mono X x m' nm' t' c' m nm t v hX hx hXr hr).2 (by omega)
    · rw [hs] at hsi
      injection hsi with hsi
      simp only [Prod.mk.injEq] at hsi
      omega
theorem latest_save {R : Rec} {v : Nat} (h : Latest R v) : Latest R.save v := by
  obtain ⟨i, x, m, nm, t, h1, h2, h3, h4, h5, h6⟩ := h
  exact ⟨i, x, m, nm, t, h1, by rw [show R.save.disk.safe = R.disk.safe from saveTo_safe ..]; exact h2, by rw [show R.save.disk.next i = R.disk.next i from saveTo_low _ _ _ _ _ _ h1]; exact h3, h4, h5, h6⟩
theorem latest_flush {R : Rec} {v : Nat} (h : Latest R v) : Latest R.flush v := by
  obtain ⟨i, x, m, nm, t, h1, h2, h3, h4, h5, h6⟩ := h
  exact ⟨i, x, m, nm, t, h1, (Disk.crash_out _ _ _ (not_dirty h3)).trans h2, rfl, h4, h5, h6⟩
theorem latest_marks {R : Rec} {v : Nat} (h : Latest R v) : Lasting R.marks v := by
  unfold Rec.marks
  by_cases hc : R.came = []
  · rw [if_pos hc]; exact h.lasting
  · rw [if_neg hc]
    obtain ⟨i, x, m, nm, t, h1, h2, h3, h4, h5, h6⟩ := h
    refine ⟨i, x, m, nm, t, h1, h2, ?_, h4⟩
    show (if i = R.mark % 2 then _ else _) = none
    rw [if_neg (by omega)]; exact h3
/-- Behind a Sync what is there lasts. -/
theorem sync_latest (s : List UInt8) (R : Rec) (h : Inv s R) (hm : R.mark ≤ 1125899906842624) (hsl : s.length ≤ 4096) (hc : R.came ≠ []) : Latest R.save.flush.marks.flush R.offer := by
  have h2 := inv_flush s _ (inv_save s R h) trivial
  obtain ⟨hn, hH⟩ := h.some_ hc
  have hl2 : R.came.length = s.length := hH.len2
  have hpos : 0 < s.length := by rw [← hl2]; exact List.length_pos_iff.2 hc
  have hof := inv_offer_le s R h
  have hc2 : R.save.flush.came ≠ [] := hc
  have e : R.save.flush.marks = { R.save.flush with disk := R.save.flush.disk.write (R.mark % 2) (pad (marked R.mark R.name R.came.length R.offer)), mark := R.mark + 1 } := by unfold Rec.marks; rw [if_neg hc2]; rfl
  have hrec : record (pad (marked R.mark R.name R.came.length R.offer)).data.toList = some (R.mark, Crc.sum s, s.length, R.offer) := by
    rw [pad_list, hn, hl2]
    exact record_marked _ _ _ _ _ hm (Crc.sum_lt _) hpos hsl hof
  have hlen := h2.len
  rw [e]
  refine ⟨R.mark % 2, _, R.mark, _, _, Nat.mod_lt _ (by omega), ?_, rfl, hrec, rfl, rfl⟩
  have hv := Disk.view_sync (R.save.flush.disk.write (R.mark % 2) (pad (marked R.mark R.name R.came.length R.offer))) (R.mark % 2)
  rw [Disk.view_write, if_pos ⟨rfl, by rw [hlen]; omega⟩] at hv
  rw [← hv]
  unfold Disk.St.sync
  rw [Disk.view_crash, if_pos]
  · rfl
  · show R.mark % 2 < R.save.flush.disk.safe.length
    rw [hlen]; omega
theorem sync_same (R : Rec) : R.save.flush.marks.flush.offer = R.offer ∧ R.save.flush.marks.flush.safe = R.offer ∧ R.save.flush.marks.flush.saved = R.offer := by
  unfold Rec.marks
  split <;> exact ⟨rfl, rfl, rfl⟩
theorem marks_same (R : Rec) : R.marks.offer = R.offer ∧ R.marks.safe = R.safe ∧ R.marks.saved = R.saved ∧ R.marks.came = R.came := by
  unfold Rec.marks
  split <;> exact ⟨rfl, rfl, rfl, rfl⟩
theorem marks_le (R : Rec) : R.marks.mark ≤ R.mark + 1 := by
  unfold Rec.marks
  split
  · exact Nat.le_succ _
  · exact Nat.le_refl _
end Recv
end Go.Proofs.YtdpdnkjpjoccmaaDoor
