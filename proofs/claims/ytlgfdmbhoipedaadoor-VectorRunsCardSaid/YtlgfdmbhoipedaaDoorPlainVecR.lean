/- Plain law of VectorRuns: as many replicas beside each other have no more bytes than apart. -/
import Derived.Test.YtlgfdmbhoipedaaDoorPlainVecW
namespace Go.Proofs.YtlgfdmbhoipedaaDoor
namespace Vec
set_option linter.unusedVariables false
/-- So many entries of one time, each so far behind the one ahead. -/
def up (r g t : Int) : Nat → List Entry
  | 0 => []
  | n + 1 => ⟨r, t⟩ :: up (r + g) g t n
theorem up_len (r g t : Int) (n : Nat) : (up r g t n).length = n := by
  induction n generalizing r with
  | zero => rfl
  | succ n ih => simp only [up, List.length_cons, ih]
theorem up_snoc (r g t : Int) (n : Nat) : up r g t (n + 1) = up r g t n ++ [⟨r + g * n, t⟩] := by
  induction n generalizing r with
  | zero => simp [up]
  | succ n ih =>
    rw [up, ih (r + g), up, List.cons_append]
    congr 3
    rw [Int.natCast_add, Int.mul_add]; simp; omega
theorem ext_beside (r t : Int) (k n : Nat) : ext_ r k (up (r + k) 1 t n) = k + n := by
  induction n generalizing k with
  | zero => rfl
  | succ n ih =>
    rw [up, ext_, if_pos rfl]
    have e : r + (k : Int) + 1 = r + ((k + 1 : Nat) : Int) := by omega
    rw [e, ih]; omega
theorem ext_apart (r g t : Int) (n : Nat) (hg : 2 ≤ g) : ext_ r 1 (up (r + g) g t n) = 1 := by
  cases n with
  | zero => rfl
  | succ n => rw [up, ext_, if_neg]; show ¬ r + g = r + ((1 : Nat) : Int); omega
theorem times_same (l : List Entry) (t : Int) (h : ∀ x ∈ l, x.t = t) : (times l).length = l.length * (Vary.put t.toNat).length := by
  induction l with
  | nil => simp [times]
  | cons x l ih =>
    have h1 := ih fun y hy => h y (List.mem_cons_of_mem _ hy)
    have h2 := h x (List.mem_cons_self ..)
    unfold times at *
    rw [List.flatMap_cons, List.length_append, List.length_cons, h1, h2, Nat.succ_mul]; omega
theorem up_t (r g t : Int) (n : Nat) : ∀ x ∈ up r g t n, x.t = t := by
  induction n generalizing r with
  | zero => intro x hx; cases hx
  | succ n ih =>
    intro x hx
    rw [up] at hx
    rcases List.mem_cons.1 hx with rfl | hx
    · rfl
    · exact ih _ x hx
theorem enc_beside (t : Int) (n : Nat) (hn : n < 100) : (enc true 0 (up 0 1 t (n + 1))).1 = 1 ∧ (enc true 0 (up 0 1 t (n + 1))).2.length = 2 + (n + 1) * (Vary.put t.toNat).length := by
  have hx : ext_ 0 1 (up (0 + 1) 1 t n) = 1 + n := ext_beside 0 t 1 n
  have hu : up 0 1 t (n + 1) = ⟨0, t⟩ :: up (0 + 1) 1 t n := rfl
  have hd : (up (0 + 1) 1 t n).drop n = [] := by rw [List.drop_eq_nil_iff, up_len]; omega
  have ht : (times ((⟨0, t⟩ : Entry) :: up (0 + 1) 1 t n)).length = (n + 1) * (Vary.put t.toNat).length := by
    rw [← hu, times_same _ t (up_t 0 1 t (n + 1)), up_len]
  have hk : (((⟨0, t⟩ : Entry) :: up (0 + 1) 1 t n)).take (1 + n) = ⟨0, t⟩ :: up (0 + 1) 1 t n := List.take_of_length_le (by rw [List.length_cons, up_len]; omega)
  rw [hu, enc_cons]
  simp only [hx, show 1 + n - 1 = n from by omega, hd, enc_nil, hk]
  refine ⟨by simp, ?_⟩
  rw [List.length_append, List.length_append, List.length_append, ht, Vary.put_small (n := n) (by omega), Vary.put_small (by simp)]
  simp only [List.length_cons, List.length_nil]; omega
theorem enc_apart (g t : Int) (hg : 2 ≤ g) (hg2 : g < 100) (n : Nat) (first : Bool) (nx r : Int) (h0 : 0 ≤ r - nx - (if first then 0 else 1)) (h1 : r - nx - (if first then 0 else 1) < 128) :
    (enc first nx (up r g t n)).1 = n ∧ (enc first nx (up r g t n)).2.length = n * (2 + (Vary.put t.toNat).length) := by
  induction n generalizing first nx r with
  | zero => rw [up, enc_nil]; simp
  | succ n ih =>
    have hx := ext_apart r g t n hg
    obtain ⟨i1, i2⟩ := ih false (r + ((1 : Nat) : Int)) (r + g) (by simp; omega) (by simp; omega)
    rw [up, enc_cons]
    simp only [hx, Nat.sub_self, List.drop_zero]
    refine ⟨by rw [i1], ?_⟩
    rw [List.length_append, List.length_append, List.length_append, i2, Vary.put_small (n := 0) (by omega), Vary.put_small (by omega)]
    simp only [List.take_succ_cons, List.take_zero, times, List.flatMap_cons, List.flatMap_nil, List.append_nil, List.length_cons, List.length_nil]
    rw [Nat.succ_mul]; omega
theorem runs_law (g t : Int) (n : Nat) (hn : 1 ≤ n) (hn2 : n < 100) (hg : 2 ≤ g) (hg2 : g < 100) : (write (up 0 g t n)).length = (write (up 0 1 t n)).length + 2 * (n - 1) := by
  obtain ⟨m, rfl⟩ : ∃ m, n = m + 1 := ⟨n - 1, by omega⟩
  obtain ⟨a1, a2⟩ := enc_beside t m (by omega)
  obtain ⟨b1, b2⟩ := enc_apart g t hg hg2 (m + 1) true 0 0 (by simp) (by simp)
  unfold write
  rw [List.length_append, List.length_append, a1, a2, b1, b2, Vary.put_small (n := m + 1) (by omega), Vary.put_small (n := 1) (by omega), Nat.mul_add]
  simp only [List.length_cons, List.length_nil]; omega
end Vec
end Go.Proofs.YtlgfdmbhoipedaaDoor
