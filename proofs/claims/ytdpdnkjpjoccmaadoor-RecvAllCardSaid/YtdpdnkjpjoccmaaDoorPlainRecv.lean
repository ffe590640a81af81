/- Plain laws of who gets the pieces. -/
namespace Go.Proofs.YtdpdnkjpjoccmaaDoor
namespace Recv
set_option linter.unusedVariables false
set_option linter.unusedSectionVars false
/-- How many are there from the beginning on. -/
def offer (c : List Bool) : Nat := (c.takeWhile id).length
theorem offer_le (c : List Bool) : offer c ≤ c.length := (List.takeWhile_sublist id).length_le
theorem offer_true (c : List Bool) (j : Nat) (h : j < offer c) : c[j]? = some true := by
  induction c generalizing j with
  | nil => simp [offer] at h
  | cons b c ih =>
    unfold offer at h
    rw [List.takeWhile_cons] at h
    cases b with
    | false => simp at h
    | true =>
      simp only [id, if_true, List.length_cons] at h
      cases j with
      | zero => rfl
      | succ j => rw [List.getElem?_cons_succ]; exact ih j (by unfold offer; omega)
theorem offer_stop (c : List Bool) (h : offer c < c.length) : c[offer c]? = some false := by
  induction c with
  | nil => simp at h
  | cons b c ih =>
    unfold offer at h ⊢
    rw [List.takeWhile_cons] at h ⊢
    cases b with
    | false => rfl
    | true =>
      simp only [id, if_true, List.length_cons, List.getElem?_cons_succ] at h ⊢
      exact ih (by unfold offer; omega)
theorem offer_eq (c : List Bool) (n : Nat) (hn : n ≤ c.length) (h1 : ∀ j, j < n → c[j]? = some true) (h2 : n < c.length → c[n]? ≠ some true) : offer c = n := by
  rcases Nat.lt_trichotomy (offer c) n with h | h | h
  · have h3 := offer_stop c (by omega)
    rw [h1 _ h] at h3; cases h3
  · exact h
  · exact absurd (offer_true c n h) (h2 (by have := offer_le c; omega))
theorem offer_ge (c : List Bool) (n : Nat) (hn : n ≤ c.length) (h1 : ∀ j, j < n → c[j]? = some true) : n ≤ offer c := by
  refine Nat.le_of_not_lt fun h => ?_
  have h3 := offer_stop c (by omega)
  rw [h1 _ h] at h3; cases h3
/-- A piece's bytes come. -/
def fill : List UInt8 → Nat → List UInt8 × List Bool → List UInt8 × List Bool
  | [], _, p => p
  | b :: x, i, p => fill x (i + 1) (if p.2[i]? = some true then p else (p.1.set i b, p.2.set i true))
theorem fill_len (x : List UInt8) (i : Nat) (p : List UInt8 × List Bool) : (fill x i p).1.length = p.1.length ∧ (fill x i p).2.length = p.2.length := by
  induction x generalizing i p with
  | nil => exact ⟨rfl, rfl⟩
  | cons b x ih =>
    rw [fill, (ih _ _).1, (ih _ _).2]
    split <;> simp
theorem fill_came (x : List UInt8) (i : Nat) (p : List UInt8 × List Bool) (j : Nat) (hj : i + x.length ≤ p.2.length) : (fill x i p).2[j]? = if i ≤ j ∧ j < i + x.length then some true else p.2[j]? := by
  induction x generalizing i p with
  | nil => rw [fill, if_neg (by simp only [List.length_nil]; omega)]
  | cons b x ih =>
    rw [List.length_cons] at hj
    have e : (if p.2[i]? = some true then p else (p.1.set i b, p.2.set i true)).2 = p.2.set i true := by
      by_cases h : p.2[i]? = some true
      · rw [if_pos h]
        apply List.ext_getElem?
        intro k
        by_cases hk : i = k
        · subst hk; rw [List.getElem?_set_self (by omega)]; exact h
        · rw [List.getElem?_set_ne hk]
      · rw [if_neg h]
    rw [fill, ih _ _ (by rw [e, List.length_set]; omega), e, List.length_cons]
    by_cases h1 : i + 1 ≤ j ∧ j < i + 1 + x.length
    · rw [if_pos h1, if_pos (by omega)]
    · rw [if_neg h1]
      by_cases h2 : j = i
      · subst h2
        rw [if_pos (by omega), List.getElem?_set_self (by omega)]
      · rw [if_neg (by omega), List.getElem?_set_ne (fun e => h2 e.symm)]
/-- What is there is the text's. -/
structure Holds (s : List UInt8) (p : List UInt8 × List Bool) : Prop where
  len : p.1.length = s.length
  len2 : p.2.length = s.length
  at_ : ∀ j : Nat, p.2[j]? = some true → p.1[j]? = s[j]?
theorem fill_holds (s x : List UInt8) (i : Nat) (p : List UInt8 × List Bool) (h : Holds s p) (hx : x <+: s.drop i) : Holds s (fill x i p) := by
  induction x generalizing i p with
  | nil => exact h
  | cons b x ih =>
    rw [fill]
    obtain ⟨r, hr⟩ := hx
    have hi : s[i]? = some b := by
      have h0 : (s.drop i)[0]? = s[i]? := by rw [List.getElem?_drop, Nat.add_zero]
      rw [← h0, ← hr]; rfl
    have hil : i < s.length := (List.getElem?_eq_some_iff.1 hi).1
    refine ih _ _ ?_ ⟨r, ?_⟩
    · by_cases hc : p.2[i]? = some true
      · rw [if_pos hc]; exact h
      · rw [if_neg hc]
        refine ⟨by simp [h.len], by simp [h.len2], fun j hj => ?_⟩
        simp only at hj ⊢
        by_cases hij : i = j
        · subst hij
          rw [List.getElem?_set_self (by rw [h.len]; exact hil), hi]
        · rw [List.getElem?_set_ne hij] at hj ⊢
          exact h.at_ j hj
    · rw [← List.drop_drop, ← hr]; rfl
theorem holds_new (s : List UInt8) : Holds s (List.replicate s.length 0, List.replicate s.length false) := ⟨by simp, by simp, fun j hj => by
  rw [List.getElem?_replicate] at hj
  split at hj <;> cases hj⟩
/-- All is there. -/
theorem holds_all (s : List UInt8) (p : List UInt8 × List Bool) (h : Holds s p) (ho : offer p.2 = s.length) : p.1 = s := by
  apply List.ext_getElem?
  intro j
  by_cases hj : j < s.length
  · exact h.at_ j (offer_true _ _ (by omega))
  · rw [List.getElem?_eq_none (by rw [h.len]; omega), List.getElem?_eq_none (by omega)]
theorem holds_pre (s : List UInt8) (p : List UInt8 × List Bool) (h : Holds s p) (n : Nat) (hn : n ≤ offer p.2) : p.1.take n = s.take n := by
  apply List.ext_getElem?
  intro j
  by_cases hj : j < n
  · rw [List.getElem?_take_of_lt hj, List.getElem?_take_of_lt hj]
    exact h.at_ j (offer_true _ _ (by omega))
  · rw [List.getElem?_eq_none (by rw [List.length_take]; omega), List.getElem?_eq_none (by rw [List.length_take]; omega)]
theorem fill_offer (x : List UInt8) (i : Nat) (p : List UInt8 × List Bool) (hj : i + x.length ≤ p.2.length) : offer p.2 ≤ offer (fill x i p).2 := by
  refine offer_ge _ _ (by rw [(fill_len x i p).2]; exact offer_le _) fun j h => ?_
  rw [fill_came x i p j hj]
  split
  · rfl
  · exact offer_true _ _ h
/-- Pieces of a size: the bytes that are there are those of the pieces that came. -/
theorem offer_pieces (c came : List Bool) (n : Nat) (hn : 0 < n) (hl : came.length = (c.length + n - 1) / n) (h : ∀ j, j < c.length → c[j]? = came[j / n]?) : offer c = min c.length (offer came * n) := by
  have hle := offer_le came
  have hmul : c.length ≤ came.length * n := by
    rw [hl]
    have := Nat.div_add_mod (c.length + n - 1) n
    have := Nat.mod_lt (c.length + n - 1) hn
    rw [Nat.mul_comm]; omega
  refine offer_eq _ _ (by omega) (fun j hj => ?_) fun hlt => ?_
  · rw [h j (by omega)]
    refine offer_true _ _ ?_
    exact Nat.div_lt_of_lt_mul (by rw [Nat.mul_comm]; omega)
  · have hm : min c.length (offer came * n) = offer came * n := by omega
    rw [hm] at hlt ⊢
    rw [h _ hlt, Nat.mul_div_cancel _ hn]
    have : offer came < came.length := by
      refine Nat.lt_of_not_le fun hge => ?_
      have : came.length * n ≤ offer came * n := Nat.mul_le_mul_right n hge
      omega
    rw [offer_stop came this]
    intro e; cases e
end Recv
end Go.Proofs.YtdpdnkjpjoccmaaDoor
