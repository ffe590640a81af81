/- Plain laws of texts with their lengths ahead. -/
import Derived.Test.YtdpdnkjpjoccmaaDoorPlainVary
namespace Go.Proofs.YtdpdnkjpjoccmaaDoor
namespace Span
inductive Got where
  | ok (t : List UInt8) (k : Nat)
  | bad (e : Nat)
def put (l : List UInt8) : List UInt8 := Vary.put l.length ++ l
def get (l : List UInt8) : Got :=
  match Vary.int l 2000 with
  | .bad e => if e = 2 then .bad 4 else .bad e
  | .ok n k => if l.length < k + n then .bad 7 else .ok ((l.drop k).take n) (k + n)
theorem get_bad {l : List UInt8} {e : Nat} (h : Vary.int l 2000 = .bad e) : get l = if e = 2 then .bad 4 else .bad e := by simp only [get, h]
theorem get_short {l : List UInt8} {n k : Nat} (h : Vary.int l 2000 = .ok n k) (hl : l.length < k + n) : get l = .bad 7 := by simp only [get, h]; rw [if_pos hl]
theorem get_full {l : List UInt8} {n k : Nat} (h : Vary.int l 2000 = .ok n k) (hl : ¬ l.length < k + n) : get l = .ok ((l.drop k).take n) (k + n) := by simp only [get, h]; rw [if_neg hl]
theorem int_inv {l : List UInt8} {n k : Nat} {m : Int} (h : Vary.int l m = .ok n k) : Vary.get l = .ok n k ∧ (n : Int) ≤ m := by
  simp only [Vary.int] at h
  split at h
  · cases h
  · rename_i n' k' hg
    split at h
    · cases h
    · injection h with e1 e2
      subst e1; subst e2
      exact ⟨hg, by omega⟩
/-- What is written is read, whatever stands behind. -/
theorem get_put (l r : List UInt8) (h : l.length ≤ 2000) : get (put l ++ r) = .ok l (put l).length := by
  have h1 := Vary.get_put l.length (l ++ r) (by omega)
  rw [← List.append_assoc] at h1
  have h2 : Vary.int (put l ++ r) 2000 = .ok l.length (Vary.put l.length).length := Vary.int_ok h1 (by omega)
  have hl : (put l ++ r).length = (Vary.put l.length).length + l.length + r.length := by simp [put]; omega
  rw [get_full h2 (by omega)]
  congr 1
  · unfold put
    rw [List.append_assoc, List.drop_left, List.take_left]
  · simp [put]
/-- What is read is written so. -/
theorem get_ok {l t : List UInt8} {k : Nat} (h : get l = .ok t k) : t.length ≤ 2000 ∧ 1 ≤ k ∧ k ≤ l.length ∧ put t = l.take k ∧ (put t).length = k := by
  simp only [get] at h
  split at h
  · split at h <;> cases h
  · rename_i n k' hi
    split at h
    · cases h
    · rename_i hl
      injection h with e1 e2
      obtain ⟨hg, hn⟩ := int_inv hi
      obtain ⟨h1, h2, h3, h4⟩ := Vary.get_ok _ _ _ hg
      have ht : t.length = n := by rw [← e1]; simp; omega
      refine ⟨by omega, by omega, by omega, ?_, ?_⟩
      · unfold put
        rw [ht, h3, ← e1, ← e2, List.take_add]
      · unfold put
        rw [List.length_append, ht, h3, ← e2]; simp; omega
/-- No beginning is one. -/
theorem get_cut (l : List UInt8) (j : Nat) (h : l.length ≤ 2000) (hj : j < (put l).length) : get ((put l).take j) = .bad 7 := by
  have hpl : (put l).length = (Vary.put l.length).length + l.length := by simp [put]
  by_cases hc : j < (Vary.put l.length).length
  · have e : (put l).take j = (Vary.put l.length).take j := by
      unfold put; rw [List.take_append_of_le_length (by omega)]
    have h1 := Vary.get_cut l.length j (by omega) hc
    rw [e, get_bad (Vary.int_bad h1), if_neg (by omega)]
  · have e : (put l).take j = Vary.put l.length ++ l.take (j - (Vary.put l.length).length) := by
      unfold put; rw [List.take_append, List.take_of_length_le (by omega)]
    have h1 := Vary.get_put l.length (l.take (j - (Vary.put l.length).length)) (by omega)
    rw [← e] at h1
    exact get_short (Vary.int_ok h1 (by omega)) (by rw [List.length_take]; omega)
end Span
end Go.Proofs.YtdpdnkjpjoccmaaDoor
