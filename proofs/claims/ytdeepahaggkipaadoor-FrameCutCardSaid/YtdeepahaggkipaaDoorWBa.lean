/- A beginning of a text; a text that isn't empty. -/
import Derived.Test.YtdeepahaggkipaaDoorWTail
namespace Go.Proofs.YtdeepahaggkipaaDoor
set_option linter.unusedVariables false
theorem take_ba (s : ByteArray) (k : Nat) (hk : k ≤ s.size) : (s.extract 0 k).data.toList = s.data.toList.take k := by
  rw [ByteArray.data_extract, Array.toList_extract, List.extract_eq_take_drop, List.drop_zero]
  simp
theorem ba_full {B : ByteArray} (h : B ≠ ⟨#[]⟩) : B.toList.isEmpty = false := by
  cases hb : B.toList with
  | nil => exact absurd (ba_ext (by rw [← ByteArray.toList_eq, hb])) h
  | cons x l => rfl
end Go.Proofs.YtdeepahaggkipaaDoor
