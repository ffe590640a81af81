/- Walks of write.Right (whole), write.Tail. -/
import Derived.Test.YtognjohloobliaaDoorWWrite2
namespace Go.Proofs.YtognjohloobliaaDoor
open Go.RowKit
set_option linter.unusedVariables false
def wr (t r k : Int) (key val : ByteArray) (n : Int) : Wr := ⟨t, r, k, key.data.toList, val.data.toList, n⟩
def wrV (t r k : Int) (key val : ByteArray) (n : Int) : Value := .agg #[.int .i64 t, .int .i64 r, .int .i64 k, .string key, .string val, .int .i64 n]
theorem errW_ok : errW 0 = .nilIface := rfl
theorem errW_no {c : Nat} (h : c ≠ 0) : errW c = .iface 48 (.int .i64 c) := by unfold errW errV; rw [if_neg h]
theorem ba_len (s : ByteArray) : s.data.toList.length = s.size := Array.length_toList
theorem ba_nil {s : ByteArray} (h : s.data.toList = []) : s = ⟨#[]⟩ := ba_ext (by simpa using h)
theorem ba_notempty {s : ByteArray} (h : s.data.toList ≠ []) : s.toList.isEmpty = false := by
  rw [ByteArray.toList_eq, List.isEmpty_eq_false_iff]; exact h
theorem right_kind {x : Wr} (h : x.k < 1 ∨ 4 < x.k) : Wr.right x = 1 := by unfold Wr.right; rw [if_pos h]
theorem right_id {x : Wr} (h1 : 1 ≤ x.k) (h2 : x.k ≤ 4) (h : Wr.idRight x.t x.r = false) : Wr.right x = 2 := by
  unfold Wr.right; rw [if_neg (by omega), if_pos h]
theorem right_long {x : Wr} (h1 : 1 ≤ x.k) (h2 : x.k ≤ 4) (hi : Wr.idRight x.t x.r = true) (h : 40 < x.key.length ∨ 300 < x.val.length) : Wr.right x = 4 := by
  unfold Wr.right; rw [if_neg (by omega), if_neg (by simp [hi]), if_pos h]
theorem right_form {x : Wr} (h1 : 1 ≤ x.k) (h2 : x.k ≤ 4) (hi : Wr.idRight x.t x.r = true) (h3 : x.key.length ≤ 40) (h4 : x.val.length ≤ 300) (h : (x.k ≠ 1 ∧ x.k ≠ 4 ∧ x.val ≠ []) ∨ (x.k ≠ 3 ∧ x.k ≠ 4 ∧ x.n ≠ 0)) : Wr.right x = 3 := by
  unfold Wr.right; rw [if_neg (by omega), if_neg (by simp [hi]), if_neg (by omega), if_pos h]
theorem right_range {x : Wr} (h1 : 1 ≤ x.k) (h2 : x.k ≤ 4) (hi : Wr.idRight x.t x.r = true) (h3 : x.key.length ≤ 40) (h4 : x.val.length ≤ 300) (h5 : ¬ ((x.k ≠ 1 ∧ x.k ≠ 4 ∧ x.val ≠ []) ∨ (x.k ≠ 3 ∧ x.k ≠ 4 ∧ x.n ≠ 0))) (h : (x.k = 3 ∧ (x.n < -1125899906842624 ∨ 1125899906842624 < x.n)) ∨ (x.k = 4 ∧ (x.n < 0 ∨ 1000 < x.n))) : Wr.right x = 2 := by
  unfold Wr.right; rw [if_neg (by omega), if_neg (by simp [hi]), if_neg (by omega), if_neg h5, if_pos h]
theorem right_fine {x : Wr} (h1 : 1 ≤ x.k) (h2 : x.k ≤ 4) (hi : Wr.idRight x.t x.r = true) (h3 : x.key.length ≤ 40) (h4 : x.val.length ≤ 300) (h5 : ¬ ((x.k ≠ 1 ∧ x.k ≠ 4 ∧ x.val ≠ []) ∨ (x.k ≠ 3 ∧ x.k ≠ 4 ∧ x.n ≠ 0))) (h : ¬ ((x.k = 3 ∧ (x.n < -1125899906842624 ∨ 1125899906842624 < x.n)) ∨ (x.k = 4 ∧ (x.n < 0 ∨ 1000 < x.n)))) : Wr.right x = 0 := by
  unfold Wr.right; rw [if_neg (by omega), if_neg (by simp [hi]), if_neg (by omega), if_neg h5, if_neg h]
theorem write_right (t r k : Int) (key val : ByteArray) (n : Int) (w : World) :
    Calls Tryd.prog 10 #[wrV t r k key val n] w fun e w' => e = .returned (errW (Wr.right (wr t r k key val n))) ∧ Below w.heap.size w w' := by
  have lk : (wr t r k key val n).key.length = key.size := ba_len key
  have lv : (wr t r k key val n).val.length = val.size := ba_len val
  by_cases h1 : k < 1
  · rw [right_kind (.inl h1)]; exact wr_low t r key val k n w h1
  by_cases h4 : 4 < k
  · rw [right_kind (.inr h4)]; exact wr_high t r key val k n w h4
  have k1 : 1 ≤ (wr t r k key val n).k := by show 1 ≤ k; omega
  have k4 : (wr t r k key val n).k ≤ 4 := by show k ≤ 4; omega
  have hk : k = 1 ∨ k = 2 ∨ k = 3 ∨ k = 4 := by omega
  cases hi : Wr.idRight t r with
  | false =>
    rw [right_id k1 k4 hi]
    rcases hk with rfl | rfl | rfl | rfl
    · exact wr_id1 t r key val n w hi
    · exact wr_id2 t r key val n w hi
    · exact wr_id3 t r key val n w hi
    · exact wr_id4 t r key val n w hi
  | true =>
    by_cases h40 : 40 < key.size
    · rw [right_long k1 k4 hi (by omega)]
      rcases hk with rfl | rfl | rfl | rfl
      · exact wr_key1 t r key val n w hi h40
      · exact wr_key2 t r key val n w hi h40
      · exact wr_key3 t r key val n w hi h40
      · exact wr_key4 t r key val n w hi h40
    by_cases h300 : 300 < val.size
    · rw [right_long k1 k4 hi (by omega)]
      rcases hk with rfl | rfl | rfl | rfl
      · exact wr_val1 t r key val n w hi (by omega) h300
      · exact wr_val2 t r key val n w hi (by omega) h300
      · exact wr_val3 t r key val n w hi (by omega) h300
      · exact wr_val4 t r key val n w hi (by omega) h300
    have m1 : (wr t r k key val n).key.length ≤ 40 := by omega
    have m2 : (wr t r k key val n).val.length ≤ 300 := by omega
    have a1 : key.size ≤ 40 := by omega
    have a2 : val.size ≤ 300 := by omega
    by_cases hf : ((wr t r k key val n).k ≠ 1 ∧ (wr t r k key val n).k ≠ 4 ∧ (wr t r k key val n).val ≠ []) ∨ ((wr t r k key val n).k ≠ 3 ∧ (wr t r k key val n).k ≠ 4 ∧ (wr t r k key val n).n ≠ 0)
    · rw [right_form k1 k4 hi m1 m2 hf]
      simp only [wr] at hf
      rcases hk with rfl | rfl | rfl | rfl
      · exact wr_put_n t r key val n w hi a1 a2 (by omega)
      · by_cases hv : val.data.toList = []
        · obtain rfl := ba_nil hv
          have hn : n ≠ 0 := by
            rcases hf with hf | hf
            · exact absurd hv hf.2.2
            · exact hf.2.2
          exact wr_drop_n t r key key n w hi a1 hn
        · exact wr_drop_v t r key val n w hi a1 a2 (ba_notempty hv)
      · by_cases hv : val.data.toList = []
        · rcases hf with hf | hf
          · exact absurd hv hf.2.2
          · omega
        · exact wr_add_v t r key val n w hi a1 a2 (ba_notempty hv)
      · omega
    · have hf' := hf
      simp only [wr] at hf
      by_cases hr : ((wr t r k key val n).k = 3 ∧ ((wr t r k key val n).n < -1125899906842624 ∨ 1125899906842624 < (wr t r k key val n).n)) ∨ ((wr t r k key val n).k = 4 ∧ ((wr t r k key val n).n < 0 ∨ 1000 < (wr t r k key val n).n))
      · rw [right_range k1 k4 hi m1 m2 hf' hr]
        simp only [wr] at hr
        rcases hk with rfl | rfl | rfl | rfl
        · omega
        · omega
        · have hv : val.data.toList = [] := by
            by_cases hv : val.data.toList = []
            · exact hv
            · exact absurd (.inl ⟨by omega, by omega, hv⟩) hf
          obtain rfl := ba_nil hv
          by_cases hn : n < -1125899906842624
          · exact wr_add_lo t r key key n w hi a1 hn
          · exact wr_add_hi t r key key n w hi a1 (by omega)
        · by_cases hn : n < 0
          · exact wr_ins_lo t r key val n w hi a1 a2 hn
          · exact wr_ins_hi t r key val n w hi a1 a2 (by omega)
      · rw [right_fine k1 k4 hi m1 m2 hf' hr]
        simp only [wr] at hr
        rcases hk with rfl | rfl | rfl | rfl
        · obtain rfl : n = 0 := by omega
          exact wr_put t r key val w hi a1 a2
        · have hv : val.data.toList = [] := by
            by_cases hv : val.data.toList = []
            · exact hv
            · exact absurd (.inl ⟨by omega, by omega, hv⟩) hf
          obtain rfl := ba_nil hv
          obtain rfl : n = 0 := by omega
          exact wr_drop t r key key w hi a1
        · have hv : val.data.toList = [] := by
            by_cases hv : val.data.toList = []
            · exact hv
            · exact absurd (.inl ⟨by omega, by omega, hv⟩) hf
          obtain rfl := ba_nil hv
          exact wr_add t r key key n w hi a1 (by omega) (by omega)
        · exact wr_ins t r key val n w hi a1 a2 (by omega) (by omega)
end Go.Proofs.YtognjohloobliaaDoor
/- A write in memory, by its parts. -/
namespace Go.Proofs.YtognjohloobliaaDoor
open Go.RowKit
/-- A write in memory, by its parts. -/
structure WrB where
  t : Int
  r : Int
  k : Int
  key : ByteArray
  val : ByteArray
  n : Int
def wrBCells (x : WrB) : List Value := [.int .i64 x.t, .int .i64 x.r, .int .i64 x.k, .string x.key, .string x.val, .int .i64 x.n]
theorem wrBCells_len (x : WrB) : (wrBCells x).length = 6 := rfl
abbrev WrBOk (x : WrB) : Prop := ((Lit.int .i64 x.t).wf = true ∧ (Lit.int .i64 x.r).wf = true) ∧ (Lit.int .i64 x.k).wf = true ∧ x.key.size ≤ 140737488351232 ∧ x.val.size ≤ 140737488351232 ∧ (Lit.int .i64 x.n).wf = true
end Go.Proofs.YtognjohloobliaaDoor
