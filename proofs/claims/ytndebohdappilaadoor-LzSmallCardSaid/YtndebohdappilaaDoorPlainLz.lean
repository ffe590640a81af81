/- Plain laws of tokens as bytes. -/
import Derived.Test.YtndebohdappilaaDoorPlainMatch
import Derived.Test.YtndebohdappilaaDoorPlainVary
namespace Go.Proofs.YtndebohdappilaaDoor
namespace Lz
open Match
set_option linter.unusedVariables false
/-- A token's bytes. -/
def put (t : Tok) : List UInt8 := if t.own.size ≠ 0 then Vary.put (2 * t.own.size) ++ t.own.data.toList else Vary.put (2 * (t.size - 4).toNat + 1) ++ Vary.put (t.back - 1).toNat
def write (l : List Tok) : List UInt8 := l.flatMap put
/-- The token that bytes begin with, and how many it has. -/
def one (l : List UInt8) : Option (Tok × Nat) :=
  match Vary.get l with
  | .bad _ => none
  | .ok n k =>
    if n % 2 = 0 then
      if n / 2 = 0 ∨ l.length - k < n / 2 then none else some (⟨⟨((l.drop k).take (n / 2)).toArray⟩, 0, 0⟩, k + n / 2)
    else if 63 < n / 2 then none
    else match Vary.int (l.drop k) 1023 with
      | .bad _ => none
      | .ok b j => some (⟨none_, (b : Int) + 1, (n / 2 : Nat) + 4⟩, k + j)
theorem int_get {b : List UInt8} {m : Int} {t j : Nat} (hi : Vary.int b m = .ok t j) : Vary.get b = .ok t j ∧ (t : Int) ≤ m := by
  unfold Vary.int at hi
  cases hg : Vary.get b with
  | bad e => rw [hg] at hi; cases hi
  | ok a d =>
    rw [hg] at hi
    simp only at hi
    split at hi
    · cases hi
    · injection hi with e1 e2
      subst e1; subst e2
      exact ⟨rfl, by omega⟩
theorem one_pos {l : List UInt8} {t : Tok} {k : Nat} (h : one l = some (t, k)) : 1 ≤ k ∧ k ≤ l.length ∧ put t = l.take k ∧ t.own.size ≤ l.length ∧
    ((t.own.size ≠ 0 ∧ t.size = 0 ∧ t.back = 0) ∨ (t.own.size = 0 ∧ 4 ≤ t.size ∧ t.size ≤ 67 ∧ 1 ≤ t.back ∧ t.back ≤ 1024)) := by
  unfold one at h
  cases hg : Vary.get l with
  | bad e => rw [hg] at h; cases h
  | ok n k' =>
    rw [hg] at h
    simp only at h
    obtain ⟨g1, g2, g3, g4⟩ := Vary.get_ok _ _ _ hg
    split at h
    · rename_i he
      split at h
      · cases h
      · rename_i hn
        injection h with h
        injection h with h1 h2
        subst h1; subst h2
        have hz : (ByteArray.mk ((l.drop k').take (n / 2)).toArray).size = n / 2 := by
          show ((l.drop k').take (n / 2)).toArray.size = _
          rw [List.size_toArray, List.length_take, List.length_drop]; omega
        refine ⟨by omega, by omega, ?_, by rw [hz]; omega, .inl ⟨by rw [hz]; omega, rfl, rfl⟩⟩
        unfold put
        simp only [hz]
        rw [if_pos (by omega), show 2 * (n / 2) = n by omega, g3, List.take_add]
    · split at h
      · cases h
      · rename_i he h63
        cases hi : Vary.int (l.drop k') 1023 with
        | bad e => rw [hi] at h; cases h
        | ok b j =>
          rw [hi] at h
          simp only at h
          injection h with h
          injection h with h1 h2
          subst h1; subst h2
          obtain ⟨i1, i2⟩ := int_get hi
          obtain ⟨j1, j2, j3, j4⟩ := Vary.get_ok _ _ _ i1
          rw [List.length_drop] at j2
          refine ⟨by omega, by omega, ?_, by show (none_).size ≤ _; exact Nat.zero_le _, .inr ⟨rfl, by simp only; omega, by simp only; omega, by simp only; omega, by simp only; omega⟩⟩
          unfold put
          rw [if_neg (by simp [none_, ByteArray.size])]
          simp only
          have e1 : 2 * (((n / 2 : Nat) : Int) + 4 - 4).toNat + 1 = n := by omega
          have e2 : ((b : Int) + 1 - 1).toNat = b := by omega
          rw [e1, e2, g3, j3, List.take_add]
/-- The tokens that bytes are. -/
def toks (f : Nat) (l : List UInt8) : Option (List Tok) :=
  match f with
  | 0 => some []
  | f + 1 => if l = [] then some [] else
    match one l with
    | none => none
    | some (t, k) => (toks f (l.drop k)).map (t :: ·)
theorem toks_more (f g : Nat) (l : List UInt8) (h : l.length ≤ f) (h2 : l.length ≤ g) : toks f l = toks g l := by
  induction f generalizing g l with
  | zero =>
    have : l = [] := List.eq_nil_of_length_eq_zero (by omega)
    subst this
    cases g <;> rfl
  | succ f ih =>
    by_cases hl : l = []
    · subst hl
      cases g with
      | zero => rfl
      | succ g => simp [toks]
    · have hp := List.length_pos_iff.2 hl
      cases g with
      | zero => omega
      | succ g =>
        simp only [toks, if_neg hl]
        cases ho : one l with
        | none => rfl
        | some x =>
          obtain ⟨t, k⟩ := x
          obtain ⟨h1, h2, -⟩ := one_pos ho
          simp only
          rw [ih g (l.drop k) (by rw [List.length_drop]; omega) (by rw [List.length_drop]; omega)]
/-- All of them. -/
def all (l : List UInt8) : Option (List Tok) := toks l.length l
theorem all_nil : all [] = some [] := rfl
theorem all_cons {l : List UInt8} (h : l ≠ []) : all l = match one l with
    | none => none
    | some (t, k) => (all (l.drop k)).map (t :: ·) := by
  have hp := List.length_pos_iff.2 h
  unfold all
  obtain ⟨n, hn⟩ : ∃ n, l.length = n + 1 := ⟨l.length - 1, by omega⟩
  rw [hn]
  simp only [toks, if_neg h]
  cases ho : one l with
  | none => rfl
  | some x =>
    obtain ⟨t, k⟩ := x
    obtain ⟨h1, h2, -⟩ := one_pos ho
    simp only
    rw [toks_more n (l.drop k).length (l.drop k) (by rw [List.length_drop]; omega) (Nat.le_refl _)]
/-- What is read: all tokens, if they are right. -/
def read (l : List UInt8) : Option (List Tok) :=
  match all l with
  | none => none
  | some ts => if right ts 0 0 = none then some ts else none
/-- A token that may be one. -/
def Good (t : Tok) : Prop := (t.own.size ≠ 0 ∧ t.size = 0 ∧ t.back = 0 ∧ t.own.size ≤ 20000) ∨ (t.own = none_ ∧ 4 ≤ t.size ∧ t.size ≤ 67 ∧ 1 ≤ t.back ∧ t.back ≤ 1024)
theorem none_of {s : ByteArray} (h : s.size = 0) : s = none_ := by
  unfold none_
  cases s with
  | mk d =>
    have : d.size = 0 := h
    rw [Array.eq_empty_of_size_eq_zero this]
theorem right_good (l : List Tok) (i n : Nat) (h : right l i n = none) (hn : n ≤ 20000) : ∀ t ∈ l, Good t := by
  induction l generalizing i n with
  | nil => intro t ht; cases ht
  | cons x l ih =>
    have hw : wrong x n = 0 := by
      unfold right at h
      split at h
      · cases h
      · rename_i hz; omega
    rw [right_cons hw] at h
    have hx := wrong_zero hw hn
    intro t ht
    rcases List.mem_cons.1 ht with rfl | ht
    · rcases hx with ⟨h1, h2, h3, h4⟩ | ⟨h1, h2, h3, h4, h5, h6, h7⟩
      · exact .inl ⟨h1, h2, h3, by omega⟩
      · exact .inr ⟨none_of h1, h2, h3, h4, h5⟩
    · refine ih (i + 1) (n + adv x) h ?_ t ht
      rcases hx with ⟨h1, h2, h3, h4⟩ | ⟨h1, h2, h3, h4, h5, h6, h7⟩
      · rw [adv_own h1]; omega
      · rw [adv_rep h1]; omega
theorem list_mk (s : ByteArray) : (⟨s.data.toList.toArray⟩ : ByteArray) = s := by cases s; simp
theorem one_put (t : Tok) (h : Good t) (r : List UInt8) : one (put t ++ r) = some (t, (put t).length) := by
  rcases h with ⟨h1, h2, h3, h4⟩ | ⟨h1, h2, h3, h4, h5⟩
  · have e : put t = Vary.put (2 * t.own.size) ++ t.own.data.toList := by unfold put; rw [if_pos h1]
    have hg := Vary.get_put (2 * t.own.size) (t.own.data.toList ++ r) (by omega)
    have hl := ba_len t.own
    rw [e, List.append_assoc]
    unfold one
    rw [hg]
    simp only
    rw [if_pos (by omega), show 2 * t.own.size / 2 = t.own.size by omega, if_neg (by simp only [List.length_append]; omega), List.drop_left, List.take_left' hl, list_mk]
    obtain ⟨a, b, c⟩ := t
    simp only at h2 h3 hl
    subst h2; subst h3
    rw [List.length_append, hl]
  · have hz : t.own.size = 0 := by rw [h1]; rfl
    have e : put t = Vary.put (2 * (t.size - 4).toNat + 1) ++ Vary.put (t.back - 1).toNat := by unfold put; rw [if_neg (by omega)]
    have hg := Vary.get_put (2 * (t.size - 4).toNat + 1) (Vary.put (t.back - 1).toNat ++ r) (by omega)
    have hi : Vary.int (Vary.put (t.back - 1).toNat ++ r) 1023 = .ok (t.back - 1).toNat (Vary.put (t.back - 1).toNat).length := Vary.int_ok (Vary.get_put _ r (by omega)) (by omega)
    rw [e, List.append_assoc]
    unfold one
    rw [hg]
    simp only
    rw [if_neg (by omega), show (2 * (t.size - 4).toNat + 1) / 2 = (t.size - 4).toNat by omega, if_neg (by omega), List.drop_left, hi]
    simp only
    obtain ⟨a, b, c⟩ := t
    simp only at h1 h2 h3 h4 h5
    subst h1
    have e1 : ((b - 1).toNat : Int) + 1 = b := by omega
    have e2 : ((c - 4).toNat : Int) + 4 = c := by omega
    simp only [e1, e2, List.length_append]
theorem put_ne (t : Tok) : put t ≠ [] := by
  unfold put
  split
  · intro h; exact Vary.put_ne _ (List.append_eq_nil_iff.1 h).1
  · intro h; exact Vary.put_ne _ (List.append_eq_nil_iff.1 h).1
theorem all_write (l : List Tok) (h : ∀ t ∈ l, Good t) (r : List UInt8) : all (write l ++ r) = (all r).map (l ++ ·) := by
  induction l with
  | nil => cases hr : all r <;> simp [write, hr]
  | cons t l ih =>
    have e : write (t :: l) ++ r = put t ++ (write l ++ r) := by simp [write]
    rw [e, all_cons (fun hn => put_ne t (List.append_eq_nil_iff.1 hn).1), one_put t (h t (List.mem_cons_self ..))]
    simp only
    rw [List.drop_left, ih fun y hy => h y (List.mem_cons_of_mem _ hy)]
    cases all r <;> simp
theorem all_write' (l : List Tok) (h : ∀ t ∈ l, Good t) : all (write l) = some l := by
  have := all_write l h []
  rw [List.append_nil, all_nil] at this
  simpa using this
theorem read_write (l : List Tok) (h : right l 0 0 = none) : read (write l) = some l := by
  unfold read
  rw [all_write' l (right_good l 0 0 h (by omega))]
  simp only
  rw [if_pos h]
theorem all_ok (l : List UInt8) (ts : List Tok) (h : all l = some ts) : write ts = l := by
  by_cases hl : l = []
  · subst hl
    rw [all_nil] at h
    injection h with h
    subst h; rfl
  · rw [all_cons hl] at h
    cases ho : one l with
    | none => rw [ho] at h; cases h
    | some x =>
      obtain ⟨t, k⟩ := x
      obtain ⟨h1, h2, h3, -⟩ := one_pos ho
      rw [ho] at h
      simp only at h
      cases ha : all (l.drop k) with
      | none => rw [ha] at h; cases h
      | some us =>
        rw [ha] at h
        injection h with h
        subst h
        have := all_ok (l.drop k) us ha
        show put t ++ write us = l
        rw [this, h3, List.take_append_drop]
termination_by l.length
decreasing_by have := List.length_pos_iff.2 hl; simp only [List.length_drop]; omega
theorem read_ok (l : List UInt8) (ts : List Tok) (h : read l = some ts) : right ts 0 0 = none ∧ write ts = l := by
  unfold read at h
  cases ha : all l with
  | none => rw [ha] at h; cases h
  | some us =>
    rw [ha] at h
    simp only at h
    split at h
    · rename_i hr
      injection h with h
      subst h
      exact ⟨hr, all_ok l us ha⟩
    · cases h
theorem right_later (b : List Tok) (i n j k : Nat) (h : right b j k = none) (hk : k ≤ n) (hb : n + (b.map adv).sum ≤ 20000) : right b i n = none := by
  induction b generalizing i n j k with
  | nil => rfl
  | cons x b ih =>
    have hw : wrong x k = 0 := by
      unfold right at h
      split at h
      · cases h
      · rename_i hz; omega
    rw [right_cons hw] at h
    have hx := wrong_zero hw (by omega)
    simp only [List.map_cons, List.sum_cons] at hb
    have hw2 : wrong x n = 0 := by
      rcases hx with ⟨g1, g2, g3, g4⟩ | ⟨g1, g2, g3, g4, g5, g6, g7⟩
      · exact wrong_own g1 g2 g3 (by rw [adv_own g1] at hb; omega)
      · exact wrong_rep g1 g2 g3 g4 g5 (by omega) (by rw [adv_rep g1] at hb; omega)
    rw [right_cons hw2]
    exact ih (i + 1) (n + adv x) (j + 1) (k + adv x) h (by omega) (by omega)
/-- One behind the other. -/
theorem right_join (a b : List Tok) (i n : Nat) (h1 : right a i n = none) (k : Nat) (hk : k ≤ n + (a.map adv).sum) (j : Nat) (h2 : right b j k = none) (hb : n + (a.map adv).sum + (b.map adv).sum ≤ 20000) : right (a ++ b) i n = none := by
  induction a generalizing i n with
  | nil =>
    simp only [List.map_nil, List.sum_nil, Nat.add_zero] at hk hb
    exact right_later b i n j k h2 hk hb
  | cons x a ih =>
    have hw : wrong x n = 0 := by
      unfold right at h1
      split at h1
      · cases h1
      · rename_i hz; omega
    rw [right_cons hw] at h1
    rw [List.cons_append, right_cons hw]
    simp only [List.map_cons, List.sum_cons] at hk hb
    exact ih (i + 1) (n + adv x) h1 (by omega) (by omega)
/-- A text's bytes do not hang on what stood ahead, if they are right alone. -/
theorem copy_ahead (p acc : List UInt8) (back k : Nat) (h : back ≤ acc.length) (h0 : 1 ≤ back) : copy (p ++ acc) back k = p ++ copy acc back k := by
  induction k generalizing acc with
  | zero => rfl
  | succ k ih =>
    have e : (p ++ acc).getD ((p ++ acc).length - back) 0 = acc.getD (acc.length - back) 0 := by
      rw [List.length_append, List.getD_eq_getElem?_getD, List.getD_eq_getElem?_getD, List.getElem?_append_right (by omega)]
      congr 2; omega
    show copy ((p ++ acc) ++ [(p ++ acc).getD ((p ++ acc).length - back) 0]) back k = p ++ copy (acc ++ [acc.getD (acc.length - back) 0]) back k
    rw [e, List.append_assoc]
    exact ih _ (by rw [List.length_append]; omega)
theorem text_ahead (l : List Tok) (p acc : List UInt8) (i : Nat) (h : right l i acc.length = none) (hn : acc.length ≤ 20000) : text (p ++ acc) l = p ++ text acc l := by
  induction l generalizing acc i with
  | nil => rfl
  | cons x l ih =>
    have hw : wrong x acc.length = 0 := by
      unfold right at h
      split at h
      · cases h
      · rename_i hz; omega
    rw [right_cons hw] at h
    have hx := wrong_zero hw hn
    show text (copy ((p ++ acc) ++ x.own.data.toList) x.back.toNat x.size.toNat) l = p ++ text (copy (acc ++ x.own.data.toList) x.back.toNat x.size.toNat) l
    have hl := ba_len x.own
    rcases hx with ⟨g1, g2, g3, g4⟩ | ⟨g1, g2, g3, g4, g5, g6, g7⟩
    · have e0 : x.size.toNat = 0 := by omega
      rw [e0]
      show text ((p ++ acc) ++ x.own.data.toList) l = p ++ text (acc ++ x.own.data.toList) l
      rw [List.append_assoc]
      refine ih _ (i + 1) ?_ (by rw [List.length_append]; omega)
      rw [List.length_append, hl, ← adv_own g1]; exact h
    · have e0 : x.own.data.toList = [] := List.eq_nil_of_length_eq_zero (by omega)
      rw [e0, List.append_nil, List.append_nil, copy_ahead p acc _ _ (by omega) (by omega)]
      refine ih _ (i + 1) ?_ (by rw [copy_len]; omega)
      rw [copy_len, ← adv_rep g1]; exact h
end Lz
end Go.Proofs.YtndebohdappilaaDoor
