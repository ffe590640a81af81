/- Plain laws of what was there already: how long two places are alike, the longest repetition, tokens, and the text that tokens make. -/
import Derived.Test.YtognjohloobliaaGreatDoorK09
namespace Go.Proofs.YtognjohloobliaaGreatDoor
namespace Match
/-- How many bytes two places have alike, so many at most. -/
def alike (l : List UInt8) : Nat → Nat → Nat → Nat
 | _, _, 0 => 0
 | a, b, m + 1 => if b < l.length ∧ l[a]? = l[b]? then alike l (a + 1) (b + 1) m + 1 else 0
theorem alike_yes {l : List UInt8} {a b m : Nat} (h1 : b < l.length) (h2 : l[a]? = l[b]?) : alike l a b (m + 1) = alike l (a + 1) (b + 1) m + 1 := by
 simp only [alike]; rw [if_pos ⟨h1, h2⟩]
theorem alike_no {l : List UInt8} {a b m : Nat} (h : ¬ (b < l.length ∧ l[a]? = l[b]?)) : alike l a b m = 0 := by
 cases m with
 | zero => rfl
 | succ m => simp only [alike]; rw [if_neg h]
theorem alike_le (l : List UInt8) (a b m : Nat) : alike l a b m ≤ m := by
 induction m generalizing a b with
 | zero => simp [alike]
 | succ m ih =>
  by_cases h : b < l.length ∧ l[a]? = l[b]?
  ·rw [alike_yes h.1 h.2]; have := ih (a + 1) (b + 1); omega
  ·rw [alike_no h]; omega
theorem alike_in (l : List UInt8) (a b m : Nat) (hb : b ≤ l.length) : b + alike l a b m ≤ l.length := by
 induction m generalizing a b with
 | zero => simpa [alike] using hb
 | succ m ih =>
  by_cases h : b < l.length ∧ l[a]? = l[b]?
  ·rw [alike_yes h.1 h.2]; have := ih (a + 1) (b + 1) (by omega); omega
  ·rw [alike_no h]; omega
theorem alike_eq (l : List UInt8) (a b m i : Nat) (hi : i < alike l a b m) : l[a + i]? = l[b + i]? := by
 induction m generalizing a b i with
 | zero => simp [alike] at hi
 | succ m ih =>
  by_cases h : b < l.length ∧ l[a]? = l[b]?
  ·rw [alike_yes h.1 h.2] at hi
   cases i with
   | zero => exact h.2
   | succ i =>
    have := ih (a + 1) (b + 1) i (by omega)
    rw [show a + (i + 1) = a + 1 + i by omega, show b + (i + 1) = b + 1 + i by omega]; exact this
  ·rw [alike_no h] at hi; omega
/-- The longest repetition from no farther back than so much, and the nearest one of those as long. -/
def findTo (l : List UInt8) (p : Nat) : Nat → Nat × Nat
 | 0 => (0, 0)
 | k + 1 => if 4 ≤ alike l (p - (k + 1)) p 67 ∧ (findTo l p k).2 < alike l (p - (k + 1)) p 67 then (k + 1, alike l (p - (k + 1)) p 67) else findTo l p k
def find (l : List UInt8) (p : Nat) : Nat × Nat := findTo l p (min p 1024)
structure Found (l : List UInt8) (p K b n : Nat) : Prop where
 b1 : 1 ≤ b
 bK : b ≤ K
 n4 : 4 ≤ n
 eq : n = alike l (p - b) p 67
 max : ∀ j, 1 ≤ j → j ≤ K → alike l (p - j) p 67 ≤ n ∧ (alike l (p - j) p 67 = n → b ≤ j)
theorem findTo_spec (l : List UInt8) (p K : Nat) : ((findTo l p K) = (0, 0) ∧ ∀ j, 1 ≤ j → j ≤ K → alike l (p - j) p 67 < 4) ∨ Found l p K (findTo l p K).1 (findTo l p K).2 := by
 induction K with
 | zero => exact .inl ⟨rfl, fun j h1 h2 => by omega⟩
 | succ k ih =>
  simp only [findTo]
  by_cases h : 4 ≤ alike l (p - (k + 1)) p 67 ∧ (findTo l p k).2 < alike l (p - (k + 1)) p 67
  ·rw [if_pos h]
   refine .inr ⟨by simp, by simp, h.1, rfl, fun j h1 h2 => ?_⟩
   rcases Nat.lt_or_ge k j with hj | hj
   ·obtain rfl : j = k + 1 := by omega
    exact ⟨Nat.le_refl _, fun _ => Nat.le_refl _⟩
   ·rcases ih with ⟨_, ih2⟩ | ih
    ·have := ih2 j h1 hj
     exact ⟨by omega, fun he => by omega⟩
    ·have := (ih.max j h1 hj).1
     exact ⟨by omega, fun he => by omega⟩
  ·rw [if_neg h]
   rcases ih with ⟨ih1, ih2⟩ | ih
   ·refine .inl ⟨ih1, fun j h1 h2 => ?_⟩
    rcases Nat.lt_or_ge k j with hj | hj
    ·obtain rfl : j = k + 1 := by omega
     rw [ih1] at h
     have h0 : ((0, 0) : Nat × Nat).2 = 0 := rfl
     rw [h0] at h
     omega
    ·exact ih2 j h1 hj
   ·refine .inr ⟨ih.b1, by have := ih.bK; omega, ih.n4, ih.eq, fun j h1 h2 => ?_⟩
    rcases Nat.lt_or_ge k j with hj | hj
    ·obtain rfl : j = k + 1 := by omega
     have := ih.n4
     have hb := ih.bK
     exact ⟨by omega, fun he => by omega⟩
    ·exact ih.max j h1 hj
theorem find_spec (l : List UInt8) (p : Nat) : (find l p = (0, 0) ∧ ∀ j, 1 ≤ j → j ≤ min p 1024 → alike l (p - j) p 67 < 4) ∨ Found l p (min p 1024) (find l p).1 (find l p).2 := findTo_spec l p _
theorem find_le (l : List UInt8) (p : Nat) : (find l p).2 ≤ 67 ∧ (find l p).1 ≤ 1024 := by
 rcases find_spec l p with ⟨h, _⟩ | h
 ·rw [h]; exact ⟨by simp, by simp⟩
 ·have := alike_le l (p - (find l p).1) p 67
  have := h.eq
  have := h.bK
  exact ⟨by omega, by omega⟩
theorem findTo_le (l : List UInt8) (p k : Nat) : (findTo l p k).2 ≤ 67 ∧ (findTo l p k).1 ≤ k := by
 rcases findTo_spec l p k with ⟨h, _⟩ | h
 ·rw [h]; exact ⟨by simp, by simp⟩
 ·have := alike_le l (p - (findTo l p k).1) p 67
  have := h.eq
  exact ⟨by omega, h.bK⟩
/-- A text of its own, or so many bytes from so far back. -/
structure Tok where
 own : ByteArray
 back : Int
 size : Int
deriving DecidableEq
def none_ : ByteArray := ⟨#[]⟩
def ownTok (l : List UInt8) (a b : Nat) : Tok := ⟨⟨((l.drop a).take (b - a)).toArray⟩, 0, 0⟩
def repTok (k n : Nat) : Tok := ⟨⟨#[]⟩, k, n⟩
/-- The tokens of a text from a place on, whose own text began ahead of it. -/
def toks (l : List UInt8) (own p : Nat) : List Tok :=
 if p < l.length then
  if (find l p).2 = 0 then toks l own (p + 1)
  else (if own < p then [ownTok l own p] else []) ++ repTok (find l p).1 (find l p).2 :: toks l (p + (find l p).2) (p + (find l p).2)
 else if own < l.length then [ownTok l own l.length] else []
termination_by l.length - p
theorem toks_none {l : List UInt8} {own p : Nat} (h : p < l.length) (hf : (find l p).2 = 0) : toks l own p = toks l own (p + 1) := by
 rw [toks, if_pos h, if_pos hf]
theorem toks_rep {l : List UInt8} {own p : Nat} (h : p < l.length) (hf : (find l p).2 ≠ 0) : toks l own p = (if own < p then [ownTok l own p] else []) ++ repTok (find l p).1 (find l p).2 :: toks l (p + (find l p).2) (p + (find l p).2) := by
 rw [toks, if_pos h, if_neg hf]
theorem toks_end {l : List UInt8} {own p : Nat} (h : ¬ p < l.length) : toks l own p = if own < l.length then [ownTok l own l.length] else [] := by
 rw [toks, if_neg h]
def tokens (l : List UInt8) : List Tok := toks l 0 0
/-- What is wrong with a token behind so many bytes; 0: nothing. -/
def wrong (t : Tok) (n : Nat) : Nat :=
 if (t.own.size ≠ 0) ↔ (t.size ≠ 0 ∨ t.back ≠ 0) then 1
 else if t.own.size ≠ 0 then (if 20000 - n < t.own.size then 4 else 0)
 else if t.size < 4 ∨ 67 < t.size ∨ t.back < 1 ∨ 1024 < t.back then 2
 else if (n : Int) < t.back then 7
 else if (20000 : Int) - n < t.size then 4
 else 0
def adv (t : Tok) : Nat := if t.own.size ≠ 0 then t.own.size else t.size.toNat
/-- The first token that is wrong, and what is wrong. -/
def right : List Tok → Nat → Nat → Option (Nat × Nat)
 | [], _, _ => none
 | t :: r, i, n => if wrong t n ≠ 0 then some (wrong t n, i) else right r (i + 1) (n + adv t)
/-- So many bytes more, each from so far back. -/
def copy (acc : List UInt8) (back : Nat) : Nat → List UInt8
 | 0 => acc
 | k + 1 => copy (acc ++ [acc.getD (acc.length - back) 0]) back k
def text (acc : List UInt8) : List Tok → List UInt8
 | [] => acc
 | t :: r => text (copy (acc ++ t.own.data.toList) t.back.toNat t.size.toNat) r
theorem copy_len (acc : List UInt8) (back k : Nat) : (copy acc back k).length = acc.length + k := by
 induction k generalizing acc with
 | zero => rfl
 | succ k ih => simp only [copy]; rw [ih]; simp; omega
/-- What is right has no more than 20000 bytes; each token that is right either has a text of its own or a repetition. -/
theorem wrong_zero {t : Tok} {n : Nat} (h : wrong t n = 0) (hn : n ≤ 20000) : (t.own.size ≠ 0 ∧ t.size = 0 ∧ t.back = 0 ∧ n + t.own.size ≤ 20000) ∨ (t.own.size = 0 ∧ 4 ≤ t.size ∧ t.size ≤ 67 ∧ 1 ≤ t.back ∧ t.back ≤ 1024 ∧ t.back ≤ n ∧ n + t.size ≤ 20000) := by
 unfold wrong at h
 by_cases h1 : (t.own.size ≠ 0) ↔ (t.size ≠ 0 ∨ t.back ≠ 0)
 ·rw [if_pos h1] at h; cases h
 ·rw [if_neg h1] at h
  by_cases h2 : t.own.size ≠ 0
  ·rw [if_pos h2] at h
   by_cases h3 : 20000 - n < t.own.size
   ·rw [if_pos h3] at h; cases h
   ·exact .inl ⟨h2, by by_cases e : t.size = 0 <;> simp_all, by by_cases e : t.back = 0 <;> simp_all, by omega⟩
  ·rw [if_neg h2] at h
   by_cases h3 : t.size < 4 ∨ 67 < t.size ∨ t.back < 1 ∨ 1024 < t.back
   ·rw [if_pos h3] at h; cases h
   ·rw [if_neg h3] at h
    by_cases h4 : (n : Int) < t.back
    ·rw [if_pos h4] at h; cases h
    ·rw [if_neg h4] at h
     by_cases h5 : (20000 : Int) - n < t.size
     ·rw [if_pos h5] at h; cases h
     ·exact .inr ⟨by omega, by omega, by omega, by omega, by omega, by omega, by omega⟩
theorem wrong_own {t : Tok} {n : Nat} (h1 : t.own.size ≠ 0) (h2 : t.size = 0) (h3 : t.back = 0) (h4 : n + t.own.size ≤ 20000) : wrong t n = 0 := by
 unfold wrong
 rw [if_neg (by simp [h1, h2, h3]), if_pos h1, if_neg (by omega)]
theorem wrong_rep {t : Tok} {n : Nat} (h1 : t.own.size = 0) (h2 : 4 ≤ t.size) (h3 : t.size ≤ 67) (h4 : 1 ≤ t.back) (h5 : t.back ≤ 1024) (h6 : t.back ≤ n) (h7 : n + t.size ≤ 20000) : wrong t n = 0 := by
 unfold wrong
 rw [if_neg (by simp [h1]; omega), if_neg (by omega), if_neg (by omega), if_neg (by omega), if_neg (by omega)]
theorem adv_own {t : Tok} (h : t.own.size ≠ 0) : adv t = t.own.size := by unfold adv; rw [if_pos h]
theorem adv_rep {t : Tok} (h : t.own.size = 0) : adv t = t.size.toNat := by unfold adv; rw [if_neg (by omega)]
theorem ba_len (s : ByteArray) : s.data.toList.length = s.size := Array.length_toList
/-- How long the text is. -/
theorem text_len (l : List Tok) (acc : List UInt8) (i : Nat) (h : right l i acc.length = none) (hn : acc.length ≤ 20000) : (text acc l).length = acc.length + (l.map adv).sum ∧ (text acc l).length ≤ 20000 := by
 induction l generalizing acc i with
 | nil => exact ⟨by simp [text], by simpa [text] using hn⟩
 | cons t r ih =>
  simp only [right] at h
  by_cases hw : wrong t acc.length ≠ 0
  ·rw [if_pos hw] at h; cases h
  ·rw [if_neg hw] at h
   have hz := wrong_zero (by omega : wrong t acc.length = 0) hn
   have hlen : (copy (acc ++ t.own.data.toList) t.back.toNat t.size.toNat).length = acc.length + adv t := by
    rw [copy_len, List.length_append, ba_len]
    rcases hz with hz | hz
    ·rw [adv_own hz.1]; omega
    ·rw [adv_rep hz.1]; omega
   have := ih (copy (acc ++ t.own.data.toList) t.back.toNat t.size.toNat) (i + 1) (by rw [hlen]; exact h) (by
    rw [hlen]
    rcases hz with hz | hz
    ·rw [adv_own hz.1]; omega
    ·rw [adv_rep hz.1]; omega)
   rw [hlen] at this
   simp only [text, List.map_cons, List.sum_cons]
   omega
theorem take_get (l : List UInt8) (p : Nat) (h : p < l.length) : l.take (p + 1) = l.take p ++ [l.getD p 0] := by
 rw [List.take_succ_eq_append_getElem h]
 simp [h]
theorem copy_take (l : List UInt8) (p k n : Nat) (hk : 1 ≤ k) (hp : k ≤ p) (hn : p + n ≤ l.length) (h : ∀ i, i < n → l[p - k + i]? = l[p + i]?) : copy (l.take p) k n = l.take (p + n) := by
 induction n generalizing p with
 | zero => rfl
 | succ n ih =>
  have h0 := h 0 (by omega)
  simp only [copy]
  have e : l.take p ++ [(l.take p).getD ((l.take p).length - k) 0] = l.take (p + 1) := by
   rw [take_get l p (by omega)]
   congr 2
   rw [List.length_take, Nat.min_eq_left (by omega), List.getD_eq_getElem?_getD, List.getElem?_take, if_pos (by omega), List.getD_eq_getElem?_getD]
   simp only [Nat.add_zero] at h0
   rw [h0]
  rw [e, ih (p + 1) (by omega) (by omega) (fun i hi => by
   have := h (i + 1) (by omega)
   rw [show p + 1 - k + i = p - k + (i + 1) by omega, show p + 1 + i = p + (i + 1) by omega]; exact this)]
  congr 1; omega
theorem ownTok_size (l : List UInt8) (a b : Nat) (h : b ≤ l.length) : (ownTok l a b).own.size = b - a := by
 show ((l.drop a).take (b - a)).toArray.size = _
 simp; omega
theorem ownTok_list (l : List UInt8) (a b : Nat) : (ownTok l a b).own.data.toList = (l.drop a).take (b - a) := rfl
theorem take_own (l : List UInt8) (a b : Nat) (h : a ≤ b) : l.take a ++ (l.drop a).take (b - a) = l.take b := by
 have : b = a + (b - a) := by omega
 rw [this, List.take_add]; congr 2; omega
theorem text_own (l : List UInt8) (a b : Nat) (h : a ≤ b) (r : List Tok) : text (l.take a) (ownTok l a b :: r) = text (l.take b) r := by
 show text (copy (l.take a ++ (ownTok l a b).own.data.toList) 0 0) r = _
 rw [ownTok_list, take_own l a b h]; rfl
theorem text_rep (l : List UInt8) (p : Nat) (hp : p < l.length) (hf : (find l p).2 ≠ 0) (r : List Tok) : text (l.take p) (repTok (find l p).1 (find l p).2 :: r) = text (l.take (p + (find l p).2)) r := by
 rcases find_spec l p with ⟨h, _⟩ | h
 ·rw [h] at hf; exact absurd rfl hf
 ·show text (copy (l.take p ++ []) (((find l p).1 : Nat) : Int).toNat (((find l p).2 : Nat) : Int).toNat) r = _
  rw [List.append_nil, Int.toNat_natCast, Int.toNat_natCast]
  have hK := h.bK
  have hi := alike_in l (p - (find l p).1) p 67 (by omega)
  rw [← h.eq] at hi
  rw [copy_take l p _ _ h.b1 (by omega) hi (fun i hi => alike_eq l (p - (find l p).1) p 67 i (by rw [← h.eq]; exact hi))]
theorem find_in (l : List UInt8) (p : Nat) (hp : p ≤ l.length) : p + (find l p).2 ≤ l.length := by
 rcases find_spec l p with ⟨h, _⟩ | h
 ·rw [h]; exact hp
 ·rw [h.eq]; exact alike_in _ _ _ _ hp
theorem toks_text (l : List UInt8) (own p : Nat) (h1 : own ≤ p) (h2 : p ≤ l.length) : text (l.take own) (toks l own p) = l := by
 by_cases hp : p < l.length
 ·by_cases hf : (find l p).2 = 0
  ·rw [toks_none hp hf]; exact toks_text l own (p + 1) (by omega) (by omega)
  ·rw [toks_rep hp hf]
   have hin := find_in l p h2
   by_cases ho : own < p
   ·rw [if_pos ho, List.singleton_append, text_own l own p h1, text_rep l p hp hf]
    exact toks_text l _ _ (Nat.le_refl _) hin
   ·rw [if_neg ho, List.nil_append, show own = p by omega, text_rep l p hp hf]
    exact toks_text l _ _ (Nat.le_refl _) hin
 ·rw [toks_end hp]
  by_cases ho : own < l.length
  ·rw [if_pos ho, text_own l own _ (by omega), List.take_length]; rfl
  ·rw [if_neg ho, List.take_of_length_le (by omega)]; rfl
termination_by l.length - p
decreasing_by all_goals omega
theorem tokens_text (l : List UInt8) : text [] (tokens l) = l := toks_text l 0 0 (by omega) (by omega)
theorem right_cons {t : Tok} {r : List Tok} {i n : Nat} (h : wrong t n = 0) : right (t :: r) i n = right r (i + 1) (n + adv t) := by
 simp only [right]; rw [if_neg (by omega)]
theorem right_own (l : List UInt8) (a b : Nat) (h : a < b) (hb : b ≤ l.length) (hl : l.length ≤ 20000) (r : List Tok) (i : Nat) : right (ownTok l a b :: r) i a = right r (i + 1) b := by
 have hs := ownTok_size l a b hb
 rw [right_cons (wrong_own (by omega) rfl rfl (by omega)), adv_own (by omega), hs]
 congr 1; omega
theorem right_rep (l : List UInt8) (p : Nat) (hp : p < l.length) (hl : l.length ≤ 20000) (hf : (find l p).2 ≠ 0) (r : List Tok) (i : Nat) : right (repTok (find l p).1 (find l p).2 :: r) i p = right r (i + 1) (p + (find l p).2) := by
 rcases find_spec l p with ⟨h, _⟩ | h
 ·rw [h] at hf; exact absurd rfl hf
 ·have h1 := h.b1
  have h2 := h.bK
  have h3 := h.n4
  have h4 := (find_le l p).1
  have h5 := find_in l p (by omega)
  rw [right_cons (wrong_rep rfl (by show (4 : Int) ≤ ((find l p).2 : Int); omega) (by show ((find l p).2 : Int) ≤ 67; omega) (by show (1 : Int) ≤ ((find l p).1 : Int); omega) (by show ((find l p).1 : Int) ≤ 1024; omega) (by show ((find l p).1 : Int) ≤ (p : Int); omega) (by show (p : Int) + ((find l p).2 : Int) ≤ 20000; omega)), adv_rep rfl]
  rfl
theorem toks_right (l : List UInt8) (own p i : Nat) (h1 : own ≤ p) (h2 : p ≤ l.length) (hl : l.length ≤ 20000) : right (toks l own p) i own = none := by
 by_cases hp : p < l.length
 ·by_cases hf : (find l p).2 = 0
  ·rw [toks_none hp hf]; exact toks_right l own (p + 1) i (by omega) (by omega) hl
  ·rw [toks_rep hp hf]
   have hin := find_in l p h2
   by_cases ho : own < p
   ·rw [if_pos ho, List.singleton_append, right_own l own p ho h2 hl, right_rep l p hp hl hf]
    exact toks_right l _ _ _ (Nat.le_refl _) hin hl
   ·rw [if_neg ho, List.nil_append, show own = p by omega, right_rep l p hp hl hf]
    exact toks_right l _ _ _ (Nat.le_refl _) hin hl
 ·rw [toks_end hp]
  by_cases ho : own < l.length
  ·rw [if_pos ho, right_own l own _ ho (Nat.le_refl _) hl]; rfl
  ·rw [if_neg ho]; rfl
termination_by l.length - p
decreasing_by all_goals omega
theorem tokens_right (l : List UInt8) (hl : l.length ≤ 20000) : right (tokens l) 0 0 = none := toks_right l 0 0 0 (by omega) (by omega) hl
theorem toks_ends (l : List UInt8) (own p : Nat) (h1 : own ≤ p) (h2 : p ≤ l.length) : (∀ t ∈ toks l own p, t.own.size ≤ l.length) ∧ (toks l own p).length ≤ l.length - own := by
 by_cases hp : p < l.length
 ·by_cases hf : (find l p).2 = 0
  ·rw [toks_none hp hf]; exact toks_ends l own (p + 1) (by omega) (by omega)
  ·rw [toks_rep hp hf]
   have hin := find_in l p h2
   obtain ⟨i1, i2⟩ := toks_ends l (p + (find l p).2) (p + (find l p).2) (Nat.le_refl _) hin
   refine ⟨fun t ht => ?_, ?_⟩
   ·rcases List.mem_append.1 ht with h | h
    ·split at h
     ·rw [List.mem_singleton] at h; subst h; rw [ownTok_size l own p h2]; omega
     ·cases h
    ·rcases List.mem_cons.1 h with rfl | h
     ·show (0 : Nat) ≤ _; omega
     ·exact i1 t h
   ·rw [List.length_append, List.length_cons]
    split
    ·rw [List.length_singleton]; omega
    ·rw [List.length_nil]; omega
 ·rw [toks_end hp]
  split
  ·refine ⟨fun t ht => ?_, by rw [List.length_singleton]; omega⟩
   rw [List.mem_singleton] at ht; subst ht; rw [ownTok_size l own _ (Nat.le_refl _)]; omega
  ·exact ⟨fun t ht => by (cases ht), by simp⟩
termination_by l.length - p
decreasing_by all_goals omega
theorem tokens_len (l : List UInt8) : (tokens l).length ≤ l.length := by
 have := (toks_ends l 0 0 (by omega) (by omega)).2; exact this
end Match
end Go.Proofs.YtognjohloobliaaGreatDoor
/- Plain laws of tokens as bytes. -/
namespace Go.Proofs.YtognjohloobliaaGreatDoor
namespace Lz
open Match
set_option linter.unusedVariables false
/-- A token's bytes. -/
def put (t : Tok) : List UInt8 := if t.own.size ≠ 0 then Vary.put (2 * t.own.size) ++ t.own.data.toList else Vary.put (2 * (t.size - 4).toNat + 1) ++ Vary.put (t.back - 1).toNat
def write (l : List Tok) : List UInt8 := l.flatMap put
/-- The token that bytes begin with, and how many it has. -/
def one (l : List UInt8) : Option (Tok × Nat) :=
 match Vary.get l with
 | .bad _ => none
 | .ok n k =>
  if n % 2 = 0 then
   if n / 2 = 0 ∨ l.length - k < n / 2 then none else some (⟨⟨((l.drop k).take (n / 2)).toArray⟩, 0, 0⟩, k + n / 2)
  else if 63 < n / 2 then none
  else match Vary.int (l.drop k) 1023 with
   | .bad _ => none
   | .ok b j => some (⟨none_, (b : Int) + 1, (n / 2 : Nat) + 4⟩, k + j)
theorem int_get {b : List UInt8} {m : Int} {t j : Nat} (hi : Vary.int b m = .ok t j) : Vary.get b = .ok t j ∧ (t : Int) ≤ m := by
 unfold Vary.int at hi
 cases hg : Vary.get b with
 | bad e => rw [hg] at hi; cases hi
 | ok a d =>
  rw [hg] at hi
  simp only at hi
  split at hi
  ·cases hi
  ·injection hi with e1 e2
   subst e1; subst e2
   exact ⟨rfl, by omega⟩
theorem one_pos {l : List UInt8} {t : Tok} {k : Nat} (h : one l = some (t, k)) : 1 ≤ k ∧ k ≤ l.length ∧ put t = l.take k ∧ t.own.size ≤ l.length ∧
  ((t.own.size ≠ 0 ∧ t.size = 0 ∧ t.back = 0) ∨ (t.own.size = 0 ∧ 4 ≤ t.size ∧ t.size ≤ 67 ∧ 1 ≤ t.back ∧ t.back ≤ 1024)) := by
 unfold one at h
 cases hg : Vary.get l with
 | bad e => rw [hg] at h; cases h
 | ok n k' =>
  rw [hg] at h
  simp only at h
  obtain ⟨g1, g2, g3, g4⟩ := Vary.get_ok _ _ _ hg
  split at h
  ·rename_i he
   split at h
   ·cases h
   ·rename_i hn
    injection h with h
    injection h with h1 h2
    subst h1; subst h2
    have hz : (ByteArray.mk ((l.drop k').take (n / 2)).toArray).size = n / 2 := by
     show ((l.drop k').take (n / 2)).toArray.size = _
     rw [List.size_toArray, List.length_take, List.length_drop]; omega
    refine ⟨by omega, by omega, ?_, by rw [hz]; omega, .inl ⟨by rw [hz]; omega, rfl, rfl⟩⟩
    unfold put
    simp only [hz]
    rw [if_pos (by omega), show 2 * (n / 2) = n by omega, g3, List.take_add]
  ·split at h
   ·cases h
   ·rename_i he h63
    cases hi : Vary.int (l.drop k') 1023 with
    | bad e => rw [hi] at h; cases h
    | ok b j =>
     rw [hi] at h
     simp only at h
     injection h with h
     injection h with h1 h2
     subst h1; subst h2
     obtain ⟨i1, i2⟩ := int_get hi
     obtain ⟨j1, j2, j3, j4⟩ := Vary.get_ok _ _ _ i1
     rw [List.length_drop] at j2
     refine ⟨by omega, by omega, ?_, by show (none_).size ≤ _; exact Nat.zero_le _, .inr ⟨rfl, by simp only; omega, by simp only; omega, by simp only; omega, by simp only; omega⟩⟩
     unfold put
     rw [if_neg (by simp [none_, ByteArray.size])]
     simp only
     have e1 : 2 * (((n / 2 : Nat) : Int) + 4 - 4).toNat + 1 = n := by omega
     have e2 : ((b : Int) + 1 - 1).toNat = b := by omega
     rw [e1, e2, g3, j3, List.take_add]
/-- The tokens that bytes are. -/
def toks (f : Nat) (l : List UInt8) : Option (List Tok) :=
 match f with
 | 0 => some []
 | f + 1 => if l = [] then some [] else
  match one l with
  | none => none
  | some (t, k) => (toks f (l.drop k)).map (t :: ·)
theorem toks_more (f g : Nat) (l : List UInt8) (h : l.length ≤ f) (h2 : l.length ≤ g) : toks f l = toks g l := by
 induction f generalizing g l with
 | zero =>
  have : l = [] := List.eq_nil_of_length_eq_zero (by omega)
  subst this
  cases g <;> rfl
 | succ f ih =>
  by_cases hl : l = []
  ·subst hl
   cases g with
   | zero => rfl
   | succ g => simp [toks]
  ·have hp := List.length_pos_iff.2 hl
   cases g with
   | zero => omega
   | succ g =>
    simp only [toks, if_neg hl]
    cases ho : one l with
    | none => rfl
    | some x =>
     obtain ⟨t, k⟩ := x
     obtain ⟨h1, h2, -⟩ := one_pos ho
     simp only
     rw [ih g (l.drop k) (by rw [List.length_drop]; omega) (by rw [List.length_drop]; omega)]
/-- All of them. -/
def all (l : List UInt8) : Option (List Tok) := toks l.length l
theorem all_nil : all [] = some [] := rfl
theorem all_cons {l : List UInt8} (h : l ≠ []) : all l = match one l with
  | none => none
  | some (t, k) => (all (l.drop k)).map (t :: ·) := by
 have hp := List.length_pos_iff.2 h
 unfold all
 obtain ⟨n, hn⟩ : ∃ n, l.length = n + 1 := ⟨l.length - 1, by omega⟩
 rw [hn]
 simp only [toks, if_neg h]
 cases ho : one l with
 | none => rfl
 | some x =>
  obtain ⟨t, k⟩ := x
  obtain ⟨h1, h2, -⟩ := one_pos ho
  simp only
  rw [toks_more n (l.drop k).length (l.drop k) (by rw [List.length_drop]; omega) (Nat.le_refl _)]
/-- What is read: all tokens, if they are right. -/
def read (l : List UInt8) : Option (List Tok) :=
 match all l with
 | none => none
 | some ts => if right ts 0 0 = none then some ts else none
/-- A token that may be one. -/
def Good (t : Tok) : Prop := (t.own.size ≠ 0 ∧ t.size = 0 ∧ t.back = 0 ∧ t.own.size ≤ 20000) ∨ (t.own = none_ ∧ 4 ≤ t.size ∧ t.size ≤ 67 ∧ 1 ≤ t.back ∧ t.back ≤ 1024)
theorem none_of {s : ByteArray} (h : s.size = 0) : s = none_ := by
 unfold none_
 cases s with
 | mk d =>
  have : d.size = 0 := h
  rw [Array.eq_empty_of_size_eq_zero this]
theorem right_good (l : List Tok) (i n : Nat) (h : right l i n = none) (hn : n ≤ 20000) : ∀ t ∈ l, Good t := by
 induction l generalizing i n with
 | nil => intro t ht; cases ht
 | cons x l ih =>
  have hw : wrong x n = 0 := by
   unfold right at h
   split at h
   ·cases h
   ·rename_i hz; omega
  rw [right_cons hw] at h
  have hx := wrong_zero hw hn
  intro t ht
  rcases List.mem_cons.1 ht with rfl | ht
  ·rcases hx with ⟨h1, h2, h3, h4⟩ | ⟨h1, h2, h3, h4, h5, h6, h7⟩
   ·exact .inl ⟨h1, h2, h3, by omega⟩
   ·exact .inr ⟨none_of h1, h2, h3, h4, h5⟩
  ·refine ih (i + 1) (n + adv x) h ?_ t ht
   rcases hx with ⟨h1, h2, h3, h4⟩ | ⟨h1, h2, h3, h4, h5, h6, h7⟩
   ·rw [adv_own h1]; omega
   ·rw [adv_rep h1]; omega
theorem list_mk (s : ByteArray) : (⟨s.data.toList.toArray⟩ : ByteArray) = s := by cases s; simp
theorem one_put (t : Tok) (h : Good t) (r : List UInt8) : one (put t ++ r) = some (t, (put t).length) := by
 rcases h with ⟨h1, h2, h3, h4⟩ | ⟨h1, h2, h3, h4, h5⟩
 ·have e : put t = Vary.put (2 * t.own.size) ++ t.own.data.toList := by unfold put; rw [if_pos h1]
  have hg := Vary.get_put (2 * t.own.size) (t.own.data.toList ++ r) (by omega)
  have hl := ba_len t.own
  rw [e, List.append_assoc]
  unfold one
  rw [hg]
  simp only
  rw [if_pos (by omega), show 2 * t.own.size / 2 = t.own.size by omega, if_neg (by simp only [List.length_append]; omega), List.drop_left, List.take_left' hl, list_mk]
  obtain ⟨a, b, c⟩ := t
  simp only at h2 h3 hl
  subst h2; subst h3
  rw [List.length_append, hl]
 ·have hz : t.own.size = 0 := by rw [h1]; rfl
  have e : put t = Vary.put (2 * (t.size - 4).toNat + 1) ++ Vary.put (t.back - 1).toNat := by unfold put; rw [if_neg (by omega)]
  have hg := Vary.get_put (2 * (t.size - 4).toNat + 1) (Vary.put (t.back - 1).toNat ++ r) (by omega)
  have hi : Vary.int (Vary.put (t.back - 1).toNat ++ r) 1023 = .ok (t.back - 1).toNat (Vary.put (t.back - 1).toNat).length := Vary.int_ok (Vary.get_put _ r (by omega)) (by omega)
  rw [e, List.append_assoc]
  unfold one
  rw [hg]
  simp only
  rw [if_neg (by omega), show (2 * (t.size - 4).toNat + 1) / 2 = (t.size - 4).toNat by omega, if_neg (by omega), List.drop_left, hi]
  simp only
  obtain ⟨a, b, c⟩ := t
  simp only at h1 h2 h3 h4 h5
  subst h1
  have e1 : ((b - 1).toNat : Int) + 1 = b := by omega
  have e2 : ((c - 4).toNat : Int) + 4 = c := by omega
  simp only [e1, e2, List.length_append]
theorem put_ne (t : Tok) : put t ≠ [] := by
 unfold put
 split
 ·intro h; exact Vary.put_ne _ (List.append_eq_nil_iff.1 h).1
 ·intro h; exact Vary.put_ne _ (List.append_eq_nil_iff.1 h).1
theorem all_write (l : List Tok) (h : ∀ t ∈ l, Good t) (r : List UInt8) : all (write l ++ r) = (all r).map (l ++ ·) := by
 induction l with
 | nil => cases hr : all r <;> simp [write, hr]
 | cons t l ih =>
  have e : write (t :: l) ++ r = put t ++ (write l ++ r) := by simp [write]
  rw [e, all_cons (fun hn => put_ne t (List.append_eq_nil_iff.1 hn).1), one_put t (h t (List.mem_cons_self ..))]
  simp only
  rw [List.drop_left, ih fun y hy => h y (List.mem_cons_of_mem _ hy)]
  cases all r <;> simp
theorem all_write' (l : List Tok) (h : ∀ t ∈ l, Good t) : all (write l) = some l := by
 have := all_write l h []
 rw [List.append_nil, all_nil] at this
 simpa using this
theorem read_write (l : List Tok) (h : right l 0 0 = none) : read (write l) = some l := by
 unfold read
 rw [all_write' l (right_good l 0 0 h (by omega))]
 simp only
 rw [if_pos h]
theorem all_ok (l : List UInt8) (ts : List Tok) (h : all l = some ts) : write ts = l := by
 by_cases hl : l = []
 ·subst hl
  rw [all_nil] at h
  injection h with h
  subst h; rfl
 ·rw [all_cons hl] at h
  cases ho : one l with
  | none => rw [ho] at h; cases h
  | some x =>
   obtain ⟨t, k⟩ := x
   obtain ⟨h1, h2, h3, -⟩ := one_pos ho
   rw [ho] at h
   simp only at h
   cases ha : all (l.drop k) with
   | none => rw [ha] at h; cases h
   | some us =>
    rw [ha] at h
    injection h with h
    subst h
    have := all_ok (l.drop k) us ha
    show put t ++ write us = l
    rw [this, h3, List.take_append_drop]
termination_by l.length
decreasing_by have := List.length_pos_iff.2 hl; simp only [List.length_drop]; omega
theorem read_ok (l : List UInt8) (ts : List Tok) (h : read l = some ts) : right ts 0 0 = none ∧ write ts = l := by
 unfold read at h
 cases ha : all l with
 | none => rw [ha] at h; cases h
 | some us =>
  rw [ha] at h
  simp only at h
  split at h
  ·rename_i hr
   injection h with h
   subst h
   exact ⟨hr, all_ok l us ha⟩
  ·cases h
end Lz
end Go.Proofs.YtognjohloobliaaGreatDoor
