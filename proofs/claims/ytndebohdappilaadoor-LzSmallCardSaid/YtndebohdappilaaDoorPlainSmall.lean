/- Plain laws on how many bytes squeezed texts have. -/
import Derived.Test.YtndebohdappilaaDoorPlainLz
namespace Go.Proofs.YtndebohdappilaaDoor
namespace Small
open Match
set_option linter.unusedVariables false
/-- How many bytes tokens have. -/
def cost (l : List Tok) : Nat := (Lz.write l).length
theorem cost_nil : cost [] = 0 := rfl
theorem cost_cons (t : Tok) (l : List Tok) : cost (t :: l) = (Lz.put t).length + cost l := by
  unfold cost Lz.write; rw [List.flatMap_cons, List.length_append]
theorem cost_append (a b : List Tok) : cost (a ++ b) = cost a + cost b := by
  unfold cost Lz.write; rw [List.flatMap_append, List.length_append]
theorem vlen1 {n : Nat} (h : n < 128) : (Vary.put n).length = 1 := by rw [Vary.put_small h]; rfl
theorem vlen2 {n : Nat} (h1 : 128 ≤ n) (h2 : n < 16384) : (Vary.put n).length = 2 := by
  rw [Vary.put_big (by omega), List.length_cons, vlen1 (by omega)]
theorem own_cost (l : List UInt8) (a b : Nat) (hab : a < b) (hb : b ≤ l.length) : (Lz.put (ownTok l a b)).length = (Vary.put (2 * (b - a))).length + (b - a) := by
  have hs := ownTok_size l a b hb
  unfold Lz.put
  rw [if_pos (by omega), List.length_append, hs]
  congr 1
theorem rep_cost (k n : Nat) (h : n ≤ 67) (hk : k ≤ 1024) : (Lz.put (repTok k n)).length ≤ 3 ∧ 2 ≤ (Lz.put (repTok k n)).length := by
  have h1 : (repTok k n).own.size = 0 := rfl
  have e : Lz.put (repTok k n) = Vary.put (2 * ((n : Int) - 4).toNat + 1) ++ Vary.put ((k : Int) - 1).toNat := by
    unfold Lz.put; rw [if_neg (by omega)]; rfl
  rw [e, List.length_append, vlen1 (by omega)]
  rcases Nat.lt_or_ge ((k : Int) - 1).toNat 128 with h2 | h2
  · rw [vlen1 h2]; omega
  · rw [vlen2 h2 (by omega)]; omega
def ownIf (l : List UInt8) (a b : Nat) : List Tok := if a < b then [ownTok l a b] else []
theorem ownIf_cost (l : List UInt8) (a b : Nat) (hb : b ≤ l.length) (h4 : b - a ≤ 1000) : cost (ownIf l a b) ≤ (b - a) + 1 + (b - a) / 64 := by
  unfold ownIf
  by_cases h : a < b
  · rw [if_pos h, cost_cons, cost_nil, own_cost l a b h hb]
    rcases Nat.lt_or_ge (2 * (b - a)) 128 with h2 | h2
    · rw [vlen1 h2]; omega
    · rw [vlen2 h2 (by omega)]; omega
  · rw [if_neg h, cost_nil]; omega
theorem ownIf_none (l : List UInt8) (a b : Nat) (h : ¬ a < b) : cost (ownIf l a b) = 0 := by unfold ownIf; rw [if_neg h]; rfl
theorem find_four (l : List UInt8) (p k : Nat) : (findTo l p k).2 = 0 ∨ 4 ≤ (findTo l p k).2 := by
  rcases findTo_spec l p k with ⟨h, _⟩ | h
  · exact .inl (by rw [h])
  · exact .inr h.n4
theorem toks_rep' {l : List UInt8} {own p : Nat} (h : p < l.length) (hf : (find l p).2 ≠ 0) : toks l own p = ownIf l own p ++ repTok (find l p).1 (find l p).2 :: toks l (p + (find l p).2) (p + (find l p).2) := toks_rep h hf
theorem toks_end' {l : List UInt8} {own p : Nat} (h : ¬ p < l.length) : toks l own p = ownIf l own l.length := toks_end h
/-- Not much more than it was. -/
theorem toks_cost (l : List UInt8) (own p : Nat) (h1 : own ≤ p) (h2 : p ≤ l.length) (h3 : l.length ≤ 1000) : cost (toks l own p) ≤ (l.length - own) + 2 + (l.length - own) / 4 := by
  by_cases hp : p < l.length
  · by_cases hf : (find l p).2 = 0
    · rw [toks_none hp hf]; exact toks_cost l own (p + 1) (by omega) (by omega) h3
    · have hin := find_in l p h2
      have h4 := (find_four l p (min p 1024)).resolve_left hf
      have hle := find_le l p
      rw [toks_rep' hp hf, cost_append, cost_cons]
      have i1 := toks_cost l (p + (find l p).2) (p + (find l p).2) (Nat.le_refl _) hin h3
      have i2 := (rep_cost (find l p).1 (find l p).2 hle.1 hle.2).1
      have i3 := ownIf_cost l own p h2 (by omega)
      have i4 : 4 ≤ (find l p).2 := h4
      generalize (find l p).2 = n at *
      omega
  · rw [toks_end' hp]
    have := ownIf_cost l own l.length (Nat.le_refl _) (by omega)
    omega
termination_by l.length - p
decreasing_by all_goals omega
section
variable (s : List UInt8)
theorem app_left (i : Nat) (h : i < s.length) : (s ++ s)[i]? = s[i]? := List.getElem?_append_left h
theorem alike_min (a b m : Nat) (hab : a < b) (hb : b ≤ s.length) : alike s a b m = min (alike (s ++ s) a b m) (s.length - b) := by
  induction m generalizing a b with
  | zero => simp [alike]
  | succ m ih =>
    by_cases hbl : b < s.length
    · have e1 := app_left s a (by omega)
      have e2 := app_left s b hbl
      by_cases he : s[a]? = s[b]?
      · rw [alike_yes hbl he, alike_yes (l := s ++ s) (by rw [List.length_append]; omega) (by rw [e1, e2, he]), ih (a + 1) (b + 1) (by omega) (by omega)]
        omega
      · rw [alike_no (l := s) (fun h => he h.2), alike_no (l := s ++ s) (fun h => he (by rw [← e1, ← e2]; exact h.2))]
        omega
    · rw [alike_no (l := s) (fun h => hbl h.1)]; omega
theorem findTo_min (p k : Nat) (hk : k ≤ p) (hp : p < s.length) : ((findTo (s ++ s) p k).2 < s.length - p → findTo s p k = findTo (s ++ s) p k) ∧ (s.length - p ≤ (findTo (s ++ s) p k).2 → (findTo s p k).2 = if s.length - p < 4 then 0 else s.length - p) := by
  induction k with
  | zero =>
    refine ⟨fun _ => rfl, fun h => ?_⟩
    have h0 : (findTo (s ++ s) p 0).2 = 0 := rfl
    omega
  | succ k ih =>
    obtain ⟨i1, i2⟩ := ih (by omega)
    have ha := alike_min s (p - (k + 1)) p 67 (by omega) (by omega)
    have h4 := find_four (s ++ s) p k
    simp only [findTo]
    rw [ha]
    generalize alike (s ++ s) (p - (k + 1)) p 67 = x at *
    generalize findTo (s ++ s) p k = X at *
    generalize findTo s p k = S at *
    by_cases hx : 4 ≤ x ∧ X.2 < x
    · rw [if_pos hx]
      constructor
      · intro h
        have h : x < s.length - p := h
        have hS := i1 (by omega)
        rw [hS, show min x (s.length - p) = x by omega, if_pos hx]
      · intro h
        have h : s.length - p ≤ x := h
        rw [show min x (s.length - p) = s.length - p by omega]
        by_cases hX : X.2 < s.length - p
        · have hS := i1 hX
          rw [hS]
          by_cases h5 : s.length - p < 4
          · rw [if_neg (by omega), if_pos h5]; omega
          · rw [if_pos (by omega), if_neg h5]
        · have hS := i2 (by omega)
          by_cases h5 : s.length - p < 4
          · rw [if_neg (by omega), if_pos h5, hS, if_pos h5]
          · rw [if_neg h5] at hS ⊢
            rw [if_neg (by omega), hS]
    · rw [if_neg hx]
      constructor
      · intro h
        have hS := i1 h
        rw [hS, if_neg (by omega)]
      · intro h
        have hS := i2 h
        by_cases h5 : s.length - p < 4
        · rw [if_pos h5] at hS ⊢
          rw [if_neg (by omega), hS]
        · rw [if_neg h5] at hS ⊢
          rw [if_neg (by omega), hS]
theorem ownTok_app (a b : Nat) (hb : b ≤ s.length) : ownTok (s ++ s) a b = ownTok s a b := by
  unfold ownTok
  congr 3
  rcases Nat.lt_or_ge a s.length with h | h
  · rw [List.drop_append_of_le_length (by omega), List.take_append_of_le_length (by rw [List.length_drop]; omega)]
  · rw [show b - a = 0 by omega, List.take_zero, List.take_zero]
theorem ownIf_app (a b : Nat) (hb : b ≤ s.length) : ownIf (s ++ s) a b = ownIf s a b := by
  unfold ownIf; rw [ownTok_app s a b hb]
/-- Behind the first copy the whole is there again. -/
theorem find_behind (hs : s.length ≤ 1024) (q : Nat) (h1 : s.length ≤ q) (h2 : q ≤ 2 * s.length) (h0 : 0 < s.length) : (4 ≤ 2 * s.length - q → (find (s ++ s) q).2 = min 67 (2 * s.length - q)) ∧ (2 * s.length - q < 4 → (find (s ++ s) q).2 = 0) := by
  have hl : (s ++ s).length = 2 * s.length := by rw [List.length_append]; omega
  have hin := find_in (s ++ s) q (by omega)
  have hle := (find_le (s ++ s) q).1
  have h4 := find_four (s ++ s) q (min q 1024)
  constructor
  · intro h
    have ha : min 67 (2 * s.length - q) ≤ alike (s ++ s) (q - s.length) q 67 := by
      refine alike_max (s ++ s) (q - s.length) q 67 _ (by omega) (by omega) (fun i hi => ?_)
      rw [app_left s _ (by omega), List.getElem?_append_right (by omega)]
      congr 1; omega
    rcases find_spec (s ++ s) q with ⟨_, hn⟩ | hF
    · have := hn s.length (by omega) (by omega); omega
    · have := (hF.max s.length (by omega) (by omega)).1
      omega
  · intro h
    have h4' : (find (s ++ s) q).2 = 0 ∨ 4 ≤ (find (s ++ s) q).2 := h4
    omega
theorem toks_short (l : List UInt8) (own p : Nat) (h : l.length - p < 4) (h1 : p ≤ l.length) : toks l own p = ownIf l own l.length := by
  by_cases hp : p < l.length
  · have hf : (find l p).2 = 0 := by
      have h4 : (find l p).2 = 0 ∨ 4 ≤ (find l p).2 := find_four l p (min p 1024)
      have := find_in l p h1
      omega
    rw [toks_none hp hf]
    exact toks_short l own (p + 1) (by omega) (by omega)
  · exact toks_end' hp
termination_by l.length - p
theorem behind_cost (hs : s.length ≤ 400) (h8 : 8 ≤ s.length) (q : Nat) (h1 : s.length ≤ q) (h2 : q ≤ 2 * s.length) : cost (toks (s ++ s) q q) ≤ 3 * ((2 * s.length - q) / 67) + 4 := by
  have hl : (s ++ s).length = 2 * s.length := by rw [List.length_append]; omega
  obtain ⟨f1, f2⟩ := find_behind s (by omega) q h1 h2 (by omega)
  by_cases h : 4 ≤ 2 * s.length - q
  · have hf := f1 h
    rw [toks_rep' (by omega) (by omega), cost_append, cost_cons, ownIf_none _ _ _ (by omega)]
    have i1 := (rep_cost (find (s ++ s) q).1 (find (s ++ s) q).2 (find_le _ _).1 (find_le _ _).2).1
    have i2 := behind_cost hs h8 (q + (find (s ++ s) q).2) (by omega) (by omega)
    by_cases hd : 67 ≤ 2 * s.length - q
    · rw [show min 67 (2 * s.length - q) = 67 by omega] at hf
      rw [hf] at i1 i2 ⊢
      omega
    · rw [show min 67 (2 * s.length - q) = 2 * s.length - q by omega] at hf
      rw [hf] at i1 i2 ⊢
      rw [toks_end' (by omega), ownIf_none _ _ _ (by omega)]
      omega
  · rw [toks_short _ _ _ (by omega) (by omega)]
    have hc := ownIf_cost (s ++ s) q (s ++ s).length (Nat.le_refl _) (by omega)
    rw [hl] at hc ⊢
    by_cases hz : q < 2 * s.length
    · omega
    · rw [ownIf_none _ _ _ hz]; omega
termination_by 2 * s.length - q
decreasing_by all_goals omega
theorem twice_cost (hs : s.length ≤ 400) (h8 : 8 ≤ s.length) (own p : Nat) (h1 : own ≤ p) (h2 : p ≤ s.length) : cost (toks (s ++ s) own p) ≤ cost (toks s own p) + 3 * (s.length / 67) + 6 := by
  have hl : (s ++ s).length = 2 * s.length := by rw [List.length_append]; omega
  by_cases hp : p < s.length
  · obtain ⟨m1, m2⟩ := findTo_min s p (min p 1024) (by omega) hp
    have m1 : (find (s ++ s) p).2 < s.length - p → find s p = find (s ++ s) p := m1
    have m2 : s.length - p ≤ (find (s ++ s) p).2 → (find s p).2 = if s.length - p < 4 then 0 else s.length - p := m2
    by_cases hx : (find (s ++ s) p).2 < s.length - p
    · have he := m1 hx
      by_cases hf : (find (s ++ s) p).2 = 0
      · rw [toks_none (l := s ++ s) (by omega) hf, toks_none (l := s) hp (by rw [he]; exact hf)]
        exact twice_cost hs h8 own (p + 1) (by omega) (by omega)
      · rw [toks_rep' (l := s ++ s) (by omega) hf, toks_rep' (l := s) hp (by rw [he]; exact hf), he, cost_append, cost_append, cost_cons, cost_cons, ownIf_app s own p h2]
        have := twice_cost hs h8 (p + (find (s ++ s) p).2) (p + (find (s ++ s) p).2) (Nat.le_refl _) (by omega)
        omega
    · have hS := m2 (by omega)
      have hin := find_in (s ++ s) p (by omega)
      rw [toks_rep' (l := s ++ s) (by omega) (by omega), cost_append, cost_cons, ownIf_app s own p h2]
      have i1 := (rep_cost (find (s ++ s) p).1 (find (s ++ s) p).2 (find_le _ _).1 (find_le _ _).2).1
      have i2 := behind_cost s hs h8 (p + (find (s ++ s) p).2) (by omega) (by omega)
      by_cases h5 : s.length - p < 4
      · rw [toks_short s own p h5 h2]
        have i3 : cost (ownIf s own p) + 1 ≤ cost (ownIf s own s.length) := by
          unfold ownIf
          rw [if_pos (show own < s.length by omega), cost_cons, cost_nil, own_cost s own _ (by omega) (Nat.le_refl _)]
          by_cases ho : own < p
          · rw [if_pos ho, cost_cons, cost_nil, own_cost s own p ho h2]
            have := Vary.put_mono (2 * (p - own)) (2 * (s.length - own)) (by omega)
            omega
          · rw [if_neg ho, cost_nil]; omega
        omega
      · rw [if_neg h5] at hS
        rw [toks_rep' (l := s) hp (by omega), cost_append, cost_cons]
        have i3 := (rep_cost (find s p).1 (find s p).2 (find_le _ _).1 (find_le _ _).2).2
        omega
  · obtain rfl : p = s.length := by omega
    rw [toks_end' (l := s) (by omega)]
    obtain ⟨f1, f2⟩ := find_behind s (by omega) s.length (by omega) (by omega) (by omega)
    have hf := f1 (by omega)
    have hR := behind_cost s hs h8 s.length (Nat.le_refl _) (by omega)
    rw [toks_rep' (l := s ++ s) (by omega) (by omega), cost_append, ownIf_app s own _ (Nat.le_refl _)]
    rw [toks_rep' (l := s ++ s) (by omega) (by omega), cost_append, ownIf_none _ _ _ (by omega)] at hR
    omega
termination_by s.length - p
decreasing_by all_goals omega
end
theorem small_one (s : List UInt8) (h : s.length ≤ 400) : (Lz.write (tokens s)).length ≤ s.length + 2 + s.length / 4 := by
  have := toks_cost s 0 0 (Nat.le_refl _) (Nat.zero_le _) (by omega)
  simpa [cost, tokens] using this
theorem small_two (s : List UInt8) (h : s.length ≤ 400) (h8 : 8 ≤ s.length) : (Lz.write (tokens (s ++ s))).length ≤ (Lz.write (tokens s)).length + 3 + 3 * (s.length / 67 + 1) := by
  have := twice_cost s h h8 0 0 (Nat.le_refl _) (Nat.zero_le _)
  simp only [cost, tokens] at this ⊢
  omega
end Small
end Go.Proofs.YtndebohdappilaaDoor
