/- Plain laws of vectors as bytes. -/
import Derived.Test.YtdpdnkjpjoccmaaDoorPlainVec2
import Derived.Test.YtdpdnkjpjoccmaaDoorPlainVary
namespace Go.Proofs.YtdpdnkjpjoccmaaDoor
namespace Vec
set_option linter.unusedVariables false
/-- How long a run beside each other is, so many of which have been seen. -/
def ext_ (r : Int) (k : Nat) : List Entry → Nat
  | [] => k
  | y :: l => if y.r = r + k then ext_ r (k + 1) l else k
theorem ext_ge (r : Int) (k : Nat) (l : List Entry) : k ≤ ext_ r k l := by
  induction l generalizing k with
  | nil => exact Nat.le_refl _
  | cons y l ih =>
    simp only [ext_]
    split
    · have := ih (k + 1); omega
    · exact Nat.le_refl _
theorem ext_le (r : Int) (k : Nat) (l : List Entry) : ext_ r k l ≤ k + l.length := by
  induction l generalizing k with
  | nil => simp [ext_]
  | cons y l ih =>
    simp only [ext_]
    split
    · have := ih (k + 1); simp only [List.length_cons]; omega
    · omega
theorem ext_drop (l : List Entry) (r : Int) (i k : Nat) (h : i < l.length) : ext_ r k (l.drop i) = if l[i].r = r + k then ext_ r (k + 1) (l.drop (i + 1)) else k := by
  rw [List.drop_eq_getElem_cons h]; rfl
theorem ext_end (l : List Entry) (r : Int) (i k : Nat) (h : l.length ≤ i) : ext_ r k (l.drop i) = k := by
  rw [List.drop_of_length_le h]; rfl
def times (l : List Entry) : List UInt8 := l.flatMap fun x => Vary.put x.t.toNat
/-- Runs, and their bytes. -/
def enc (first : Bool) (next : Int) : List Entry → Nat × List UInt8
  | [] => (0, [])
  | x :: l =>
    ((enc false (x.r + (ext_ x.r 1 l : Nat)) (l.drop (ext_ x.r 1 l - 1))).1 + 1,
      Vary.put (x.r - next - (if first then 0 else 1)).toNat ++ (Vary.put (ext_ x.r 1 l - 1) ++ (times ((x :: l).take (ext_ x.r 1 l)) ++ (enc false (x.r + (ext_ x.r 1 l : Nat)) (l.drop (ext_ x.r 1 l - 1))).2)))
termination_by l => l.length
decreasing_by all_goals (simp only [List.length_drop, List.length_cons]; omega)
theorem enc_nil (first : Bool) (next : Int) : enc first next [] = (0, []) := by rw [enc]
theorem enc_cons (first : Bool) (next : Int) (x : Entry) (l : List Entry) : enc first next (x :: l) = ((enc false (x.r + (ext_ x.r 1 l : Nat)) (l.drop (ext_ x.r 1 l - 1))).1 + 1,
      Vary.put (x.r - next - (if first then 0 else 1)).toNat ++ (Vary.put (ext_ x.r 1 l - 1) ++ (times ((x :: l).take (ext_ x.r 1 l)) ++ (enc false (x.r + (ext_ x.r 1 l : Nat)) (l.drop (ext_ x.r 1 l - 1))).2))) := by rw [enc]
def write (l : List Entry) : List UInt8 := Vary.put (enc true 0 l).1 ++ (enc true 0 l).2
theorem times_len (l : List Entry) (h : ∀ x ∈ l, x.t ≤ 1099511627776) : (times l).length ≤ 10 * l.length := by
  induction l with
  | nil => simp [times]
  | cons x l ih =>
    have h1 := ih fun y hy => h y (List.mem_cons_of_mem _ hy)
    have h2 := Vary.put_len x.t.toNat (by have := h x (List.mem_cons_self ..); omega)
    unfold times at *
    rw [List.flatMap_cons, List.length_append, List.length_cons]; omega
theorem enc_len (first : Bool) (next : Int) (l : List Entry) (h : ∀ x ∈ l, 0 ≤ x.r ∧ x.r ≤ 200 ∧ x.t ≤ 1099511627776) (hn : 0 ≤ next) (hl : l.length ≤ 1000) : (enc first next l).2.length ≤ 30 * l.length ∧ (enc first next l).1 ≤ l.length := by
  match l with
  | [] => rw [enc_nil]; simp
  | x :: l =>
    rw [enc_cons]
    have hx := h x (List.mem_cons_self ..)
    have hg := ext_ge x.r 1 l
    have hle := ext_le x.r 1 l
    have hl' : l.length ≤ 1000 := by simp only [List.length_cons] at hl; omega
    obtain ⟨i1, i2⟩ := enc_len false (x.r + (ext_ x.r 1 l : Nat)) (l.drop (ext_ x.r 1 l - 1)) (fun y hy => h y (List.mem_cons_of_mem _ (List.mem_of_mem_drop hy))) (by omega) (by rw [List.length_drop]; omega)
    have p1 := Vary.put_len (x.r - next - (if first then 0 else 1)).toNat (by split <;> omega)
    have p2 := Vary.put_len (ext_ x.r 1 l - 1) (by omega)
    have p3 := times_len ((x :: l).take (ext_ x.r 1 l)) (fun y hy => (h y (List.mem_of_mem_take hy)).2.2)
    rw [List.length_take] at p3
    rw [List.length_drop] at i1 i2
    simp only [List.length_append, List.length_cons] at *
    refine ⟨?_, ?_⟩
    · omega
    · omega
termination_by l.length
decreasing_by all_goals (simp only [List.length_drop, List.length_cons]; omega)
/-- What comes behind a run is farther. -/
theorem run_next (l : List Entry) (hs : Sorted l) (i : Nat) (hi : i < l.length) (k : Nat) (hk : 1 ≤ k) (h : ∀ j, j < k → ∃ hj : i + j < l.length, l[i + j].r = l[i].r + j) (hn : i + k < l.length) : l[i].r + k ≤ l[i + k].r := by
  obtain ⟨hj, he⟩ := h (k - 1) (by omega)
  have := List.pairwise_iff_getElem.1 hs (i + (k - 1)) (i + k) hj hn (by omega)
  omega
end Vec
end Go.Proofs.YtdpdnkjpjoccmaaDoor
