/- Plain laws of repetitions: one byte again and again; a word far back. -/
import Derived.Test.YtajpoggkmjedpaaPlainMatch
namespace Go.Proofs.Ytajpoggkmjedpaa
namespace Match
theorem rep_get (n : Nat) (c : UInt8) (i : Nat) (h : i < n) : (List.replicate n c)[i]? = some c := by
  rw [List.getElem?_replicate, if_pos h]
theorem alike_rep (n : Nat) (c : UInt8) (a b m : Nat) (hab : a ≤ b) (hb : b ≤ n) : alike (List.replicate n c) a b m = min m (n - b) := by
  have h1 := alike_le (List.replicate n c) a b m
  have h2 := alike_in (List.replicate n c) a b m (by simpa using hb)
  have h3 := alike_max (List.replicate n c) a b m (min m (n - b)) (by omega) (by simp; omega) (fun i hi => by
    rw [rep_get n c (a + i) (by omega), rep_get n c (b + i) (by omega)])
  rw [List.length_replicate] at h2
  omega
theorem findTo_rep (n : Nat) (c : UInt8) (p : Nat) (hp : p ≤ n) (k : Nat) (hk : k ≤ p) : findTo (List.replicate n c) p k = if 0 < k ∧ 4 ≤ min 67 (n - p) then (1, min 67 (n - p)) else (0, 0) := by
  induction k with
  | zero => rfl
  | succ k ih =>
    simp only [findTo]
    rw [alike_rep n c _ p 67 (by omega) hp, ih (by omega)]
    by_cases h4 : 4 ≤ min 67 (n - p)
    · by_cases h0 : 0 < k
      · have e : (if 0 < k ∧ 4 ≤ min 67 (n - p) then ((1, min 67 (n - p)) : Nat × Nat) else (0, 0)) = (1, min 67 (n - p)) := if_pos ⟨h0, h4⟩
        rw [e, if_neg (fun h => absurd h.2 (Nat.lt_irrefl _)), if_pos ⟨by omega, h4⟩]
      · obtain rfl : k = 0 := by omega
        have e : (if 0 < 0 ∧ 4 ≤ min 67 (n - p) then ((1, min 67 (n - p)) : Nat × Nat) else (0, 0)) = (0, 0) := if_neg (by omega)
        rw [e, if_pos ⟨h4, by show 0 < _; omega⟩, if_pos ⟨by omega, h4⟩]
    · have e : (if 0 < k ∧ 4 ≤ min 67 (n - p) then ((1, min 67 (n - p)) : Nat × Nat) else (0, 0)) = (0, 0) := if_neg (fun h => h4 h.2)
      rw [e, if_neg (fun h => h4 h.1), if_neg (fun h => h4 h.2)]
theorem find_rep (n : Nat) (c : UInt8) (p : Nat) (h1 : 1 ≤ p) (hp : p ≤ n) : find (List.replicate n c) p = if 4 ≤ min 67 (n - p) then (1, min 67 (n - p)) else (0, 0) := by
  unfold find
  rw [findTo_rep n c p hp _ (Nat.min_le_left _ _)]
  by_cases h4 : 4 ≤ min 67 (n - p)
  · rw [if_pos ⟨by omega, h4⟩, if_pos h4]
  · rw [if_neg (fun h => h4 h.2), if_neg h4]
/-- How many tokens there are from a place on at which a token begins. -/
theorem toks_rep_len (n : Nat) (c : UInt8) (p : Nat) (h1 : 1 ≤ p) (hp : p ≤ n) : (toks (List.replicate n c) p p).length = (n - p) / 67 + (if (n - p) % 67 = 0 then 0 else 1) := by
  have hl : (List.replicate n c).length = n := List.length_replicate
  by_cases hlt : p < n
  · have hf := find_rep n c p h1 hp
    by_cases h4 : 4 ≤ min 67 (n - p)
    · rw [if_pos h4] at hf
      have e2 : (find (List.replicate n c) p).2 = min 67 (n - p) := by rw [hf]
      rw [toks_rep (by rw [hl]; exact hlt) (by rw [e2]; omega), if_neg (by omega), List.nil_append, List.length_cons, e2]
      rw [toks_rep_len n c (p + min 67 (n - p)) (by omega) (by omega)]
      by_cases h67 : 67 ≤ n - p
      · have : min 67 (n - p) = 67 := by omega
        rw [this]
        have h3 : n - (p + 67) = n - p - 67 := by omega
        rw [h3]
        have h5 : (n - p - 67) % 67 = (n - p) % 67 := by omega
        have h6 : (n - p) / 67 = (n - p - 67) / 67 + 1 := by omega
        rw [h5, h6]; omega
      · have : min 67 (n - p) = n - p := by omega
        rw [this, show n - (p + (n - p)) = 0 by omega]
        rw [if_neg (by omega : ¬ (n - p) % 67 = 0)]
        have h6 : (n - p) / 67 = 0 := by omega
        rw [h6]; rfl
    · rw [if_neg h4] at hf
      have e2 : (find (List.replicate n c) p).2 = 0 := by rw [hf]
      have hend : ∀ q, p < q → q ≤ n → toks (List.replicate n c) p q = [ownTok (List.replicate n c) p n] := by
        intro q hq1 hq2
        induction hd : n - q generalizing q with
        | zero => rw [toks_end (by rw [hl]; omega), hl, if_pos hlt]
        | succ d ih =>
          have hf2 := find_rep n c q (by omega) hq2
          rw [if_neg (by omega)] at hf2
          rw [toks_none (by rw [hl]; omega) (by rw [hf2]), ih (q + 1) (by omega) (by omega) (by omega)]
      rw [toks_none (by rw [hl]; exact hlt) e2, hend (p + 1) (by omega) (by omega), List.length_singleton, if_neg (by omega)]
      have h6 : (n - p) / 67 = 0 := by omega
      rw [h6]
  · rw [toks_end (by rw [hl]; exact hlt), if_neg (by rw [hl]; exact hlt), show n - p = 0 by omega]; rfl
termination_by n - p
decreasing_by all_goals omega
theorem find_zero (l : List UInt8) : find l 0 = (0, 0) := rfl
theorem own_one (n : Nat) (c : UInt8) (h : 1 ≤ n) : (ownTok (List.replicate n c) 0 1).own = ⟨#[c]⟩ := by
  have : ((List.replicate n c).drop 0).take (1 - 0) = [c] := by
    rw [List.drop_zero]
    obtain ⟨m, rfl⟩ : ∃ m, n = m + 1 := ⟨n - 1, by omega⟩
    rw [List.replicate_succ]; rfl
  show ByteArray.mk (((List.replicate n c).drop 0).take (1 - 0)).toArray = _
  rw [this]
theorem runs_many (n : Nat) (c : UInt8) (h : 5 ≤ n) : ∃ r, tokens (List.replicate n c) = ⟨⟨#[c]⟩, 0, 0⟩ :: r ∧ r.length = (n - 1) / 67 + (if (n - 1) % 67 = 0 then 0 else 1) := by
  have hl : (List.replicate n c).length = n := List.length_replicate
  have hf := find_rep n c 1 (by omega) (by omega)
  rw [if_pos (by omega)] at hf
  have e2 : (find (List.replicate n c) 1).2 = min 67 (n - 1) := by rw [hf]
  have ho : ownTok (List.replicate n c) 0 1 = ⟨⟨#[c]⟩, 0, 0⟩ := by
    have := own_one n c (by omega)
    show (⟨(ownTok (List.replicate n c) 0 1).own, 0, 0⟩ : Tok) = _
    rw [this]
  have hlen := toks_rep_len n c 1 (by omega) (by omega)
  rw [toks_rep (by rw [hl]; omega) (by rw [e2]; omega), if_neg (by omega), List.nil_append] at hlen
  refine ⟨_, ?_, hlen⟩
  unfold tokens
  rw [toks_none (by rw [hl]; omega) (by rw [find_zero]), toks_rep (by rw [hl]; omega) (by rw [e2]; omega), if_pos (by omega), ho]
  rfl
theorem runs_few (n : Nat) (c : UInt8) (h1 : 1 ≤ n) (h : n < 5) : tokens (List.replicate n c) = [ownTok (List.replicate n c) 0 n] := by
  have hl : (List.replicate n c).length = n := List.length_replicate
  have hend : ∀ q, 1 ≤ q → q ≤ n → toks (List.replicate n c) 0 q = [ownTok (List.replicate n c) 0 n] := by
    intro q hq1 hq2
    induction hd : n - q generalizing q with
    | zero => rw [toks_end (by rw [hl]; omega), hl, if_pos (by omega)]
    | succ d ih =>
      have hf2 := find_rep n c q (by omega) hq2
      rw [if_neg (by omega)] at hf2
      rw [toks_none (by rw [hl]; omega) (by rw [hf2]), ih (q + 1) (by omega) (by omega) (by omega)]
  unfold tokens
  rw [toks_none (by rw [hl]; omega) (by rw [find_zero]), hend 1 (by omega) h1]
/-- A word far back. -/
theorem find_far (a m : List UInt8) (h : (a ++ m).length ≤ 1024) (h6 : a.length = 6) : 1 ≤ (find (a ++ m ++ a) (a ++ m).length).1 ∧ 6 ≤ (find (a ++ m ++ a) (a ++ m).length).2 := by
  have hl : (a ++ m ++ a).length = (a ++ m).length + 6 := by rw [List.length_append, h6]
  have hm : (a ++ m).length = 6 + m.length := by rw [List.length_append, h6]
  have ha : 6 ≤ alike (a ++ m ++ a) ((a ++ m).length - (a ++ m).length) (a ++ m).length 67 := by
    refine alike_max _ _ _ _ 6 (by omega) (by omega) (fun i hi => ?_)
    have e1 : (a ++ m ++ a)[(a ++ m).length + i]? = a[i]? := by
      rw [List.getElem?_append_right (by omega), Nat.add_sub_cancel_left]
    rw [Nat.sub_self, Nat.zero_add, e1, List.append_assoc, List.getElem?_append_left (by omega)]
  rcases find_spec (a ++ m ++ a) (a ++ m).length with ⟨_, h2⟩ | h2
  · have := h2 (a ++ m).length (by omega) (by omega); omega
  · have := (h2.max (a ++ m).length (by omega) (by omega)).1
    exact ⟨h2.b1, by omega⟩
end Match
end Go.Proofs.Ytajpoggkmjedpaa
