/- Plain laws of a log in which one replica wrote the same again and again. -/
import Derived.Test.YtdbpiabcpjgblaaDoorPlainParty
namespace Go.Proofs.YtdbpiabcpjgblaaDoor
set_option linter.unusedVariables false
set_option linter.unusedSimpArgs false
namespace Line
/-- The j-th write, from 0. -/
def w_ (r : Int) (x : WrB) (j : Nat) : WrB := ⟨(j : Int) + 1, r, x.k, x.key, x.val, x.n⟩
def H (r : Int) (i : Nat) : List Vec.Entry := if i = 0 then [] else [⟨r, i⟩]
def W (r : Int) (x : WrB) (i : Nat) : List WrB := (List.range i).map (w_ r x)
/-- The log of some replica that has the first i of them. -/
def lg (rep r : Int) (x : WrB) (i : Nat) : Lg := ⟨rep, H r i, W r x i⟩
def Good (r : Int) (x : WrB) : Prop := 0 ≤ r ∧ r ≤ 200 ∧ ∀ j : Nat, j ≤ 1000 → Right_ (w_ r x j)
theorem W_len (r : Int) (x : WrB) (i : Nat) : (W r x i).length = i := by simp [W]
theorem W_get (r : Int) (x : WrB) (i j : Nat) (h : j < (W r x i).length) : (W r x i)[j] = w_ r x j := by simp [W]
theorem W_snoc (r : Int) (x : WrB) (i : Nat) : W r x (i + 1) = W r x i ++ [w_ r x i] := by
  unfold W; rw [List.range_succ, List.map_append]; rfl
theorem mem_W {r : Int} {x y : WrB} {i : Nat} : y ∈ W r x i ↔ ∃ j, j < i ∧ y = w_ r x j := by
  unfold W
  rw [List.mem_map]
  constructor
  · rintro ⟨j, hj, rfl⟩; exact ⟨j, List.mem_range.1 hj, rfl⟩
  · rintro ⟨j, hj, rfl⟩; exact ⟨j, List.mem_range.2 hj, rfl⟩
theorem of_H (r : Int) (i : Nat) (q : Int) : Vec.of (H r i) q = if r = q then (i : Int) else 0 := by
  unfold H
  by_cases h : i = 0
  · subst h; rw [if_pos rfl]; simp [Vec.of]
  · rw [if_neg h, Lg.of_one]
theorem H_fine {r : Int} {i : Nat} (h0 : 0 ≤ r) (h1 : r ≤ 200) (hi : i ≤ 1000) : Vec.Fine (H r i) := by
  unfold H
  by_cases h : i = 0
  · rw [if_pos h]; exact { len := by simp, each := by simp, sorted := List.Pairwise.nil }
  · rw [if_neg h]; exact (Vec.right_iff _).1 (one_right h0 h1 (by omega) (by omega))
theorem top_H (r : Int) (i : Nat) : Lg.top (H r i) = i := by
  unfold H
  by_cases h : i = 0
  · subst h; rfl
  · rw [if_neg h]; show max (0 : Int) i = i; omega
theorem W_asc (r : Int) (x : WrB) (i : Nat) : Lg.Asc (W r x i) := by
  unfold Lg.Asc W
  rw [List.pairwise_map]
  refine List.pairwise_lt_range.imp fun {a b} h => ?_
  rw [cmpW_neg]
  exact .inl (show (a : Int) + 1 < b + 1 by omega)
theorem ok {rep r : Int} {x : WrB} (hg : Good r x) (h0 : 0 ≤ rep) (h1 : rep ≤ 200) {i : Nat} (hi : i ≤ 300) : (lg rep r x i).Ok := by
  refine ⟨(Vec.right_iff _).2 (H_fine hg.1 hg.2.1 (by omega)), by show (W r x i).length ≤ 300; rw [W_len]; exact hi, h0, h1, fun y hy => ?_, fun y hy => ?_⟩
  · obtain ⟨j, hj, rfl⟩ := mem_W.1 hy
    exact hg.2.2 j (by omega)
  · obtain ⟨j, hj, rfl⟩ := mem_W.1 hy
    show (j : Int) + 1 ≤ Vec.of (H r i) r
    rw [of_H, if_pos rfl]; omega
theorem merge_H (r : Int) {a b : Nat} (h0 : 0 ≤ r) (h1 : r ≤ 200) (ha : a ≤ 1000) (hb : b ≤ 1000) : Vec.merge (H r a) (H r b) = H r (max a b) := by
  have fa := H_fine h0 h1 ha
  have fb := H_fine h0 h1 hb
  have fm := H_fine h0 h1 (show max a b ≤ 1000 by omega)
  refine Vec.ext (Vec.merge_sorted _ _ fa.sorted fb.sorted) fm.sorted (Vec.merge_pos fa.pos fb.pos) fm.pos fun q => ?_
  rw [Lg.of_merge_ fa fb, of_H, of_H, of_H]
  split <;> omega
/-- One more. -/
theorem local_ {r : Int} {x y : WrB} (hg : Good r y) (hx : x.k = y.k ∧ x.key = y.key ∧ x.val = y.val ∧ x.n = y.n) {i : Nat} (hi : i < 300) : Lg.local_ (lg r r y i) x = .inr (lg r r y (i + 1)) := by
  have hm : Lg.mine_ (lg r r y i) x = w_ r y i := by
    unfold Lg.mine_
    show (⟨Lg.top (H r i) + 1, r, x.k, x.key, x.val, x.n⟩ : WrB) = _
    rw [top_H, hx.1, hx.2.1, hx.2.2.1, hx.2.2.2]; rfl
  have hH : Vec.merge (H r i) [⟨r, Lg.top (H r i) + 1⟩] = H r (i + 1) := by
    have e : ([⟨r, Lg.top (H r i) + 1⟩] : List Vec.Entry) = H r (i + 1) := by
      rw [top_H]; unfold H; rw [if_neg (by omega)]; rfl
    rw [e, merge_H r hg.1 hg.2.1 (by omega) (by omega), show max i (i + 1) = i + 1 by omega]
  have hl : (H r (i + 1)).length ≤ 16 := (H_fine hg.1 hg.2.1 (show i + 1 ≤ 1000 by omega)).len
  rw [Lg.local_ok (m := lg r r y i) (ok hg hg.1 hg.2.1 (by omega)) (by show Lg.top (H r i) < _; rw [top_H]; omega) (by rw [hm]; exact hg.2.2 i (by omega)) (by show (W r y i).length < 300; rw [W_len]; exact hi) (by show (Vec.merge (H r i) [⟨r, Lg.top (H r i) + 1⟩]).length ≤ 16; rw [hH]; exact hl), hm]
  show Sum.inr (⟨r, Vec.merge (H r i) [⟨r, Lg.top (H r i) + 1⟩], W r y i ++ [w_ r y i]⟩ : Lg) = _
  rw [hH, ← W_snoc]; rfl
theorem full {r : Int} {x y : WrB} (hg : Good r y) (hx : x.k = y.k ∧ x.key = y.key ∧ x.val = y.val ∧ x.n = y.n) : Lg.local_ (lg r r y 300) x = .inl 12 := by
  have hm : Lg.mine_ (lg r r y 300) x = w_ r y 300 := by
    unfold Lg.mine_
    show (⟨Lg.top (H r 300) + 1, r, x.k, x.key, x.val, x.n⟩ : WrB) = _
    rw [top_H, hx.1, hx.2.1, hx.2.2.1, hx.2.2.2]; rfl
  unfold Lg.local_
  rw [if_neg (by show ¬ Lg.top (H r 300) = _; rw [top_H]; omega), hm, if_neg (show ¬ Lg.rightC (w_ r y 300) ≠ 0 from fun h => h (hg.2.2 300 (by omega))), if_pos (by show 300 ≤ (W r y 300).length; rw [W_len]; omega)]
/-- What is behind the first c of them. -/
theorem news {r : Int} {x : WrB} (n c : Nat) : (W r x n).filter (Lg.new_ (H r c)) = (W r x n).drop c := by
  have hn : ∀ j, Lg.new_ (H r c) (w_ r x j) = decide (c ≤ j) := fun j => by
    unfold Lg.new_
    show decide (Vec.of (H r c) r < (j : Int) + 1) = _
    rw [of_H, if_pos rfl]
    exact decide_eq_decide.2 (by omega)
  induction n with
  | zero => simp [W]
  | succ n ih =>
    rw [W_snoc, List.filter_append, ih, List.drop_append, W_len]
    congr 1
    rw [List.filter_cons, List.filter_nil, hn]
    by_cases h : c ≤ n
    · rw [decide_eq_true h, if_pos rfl, show c - n = 0 by omega]; rfl
    · rw [decide_eq_false h, if_neg (by simp), show c - n = (c - n - 1) + 1 by omega]; simp
theorem drop_take (r : Int) (x : WrB) (n c k : Nat) (h : c + k ≤ n) : ((W r x n).drop c).take k = (W r x (c + k)).drop c := by
  refine List.ext_getElem (by simp [W_len]; omega) fun i h1 h2 => ?_
  simp [W_get]
theorem sent {rep r : Int} {x : WrB} {n c : Nat} : Lg.sent (lg rep r x n) (H r c) = (W r x (min n (c + 60))).drop c := by
  unfold Lg.sent
  show ((W r x n).filter (Lg.new_ (H r c))).take 60 = _
  rw [news]
  by_cases h : c + 60 ≤ n
  · rw [drop_take r x n c 60 h, show min n (c + 60) = c + 60 by omega]
  · rw [show min n (c + 60) = n by omega, List.take_of_length_le (by simp [W_len]; omega)]
theorem told {r : Int} {x : WrB} (hg : Good r x) (c : Nat) : ∀ k, c + k ≤ 300 → Lg.told (H r c) ((W r x (c + k)).drop c) = H r (c + k)
  | 0, _ => by rw [Nat.add_zero, List.drop_of_length_le (by rw [W_len]; omega)]; rfl
  | k + 1, h => by
    rw [show c + (k + 1) = c + k + 1 by omega, W_snoc, List.drop_append, W_len, show c - (c + k) = 0 by omega, List.drop_zero, Lg.told_snoc, told hg c k (by omega)]
    have hF := H_fine (i := c + k) hg.1 hg.2.1 (by omega)
    have hB := H_fine (i := c + k + 1) hg.1 hg.2.1 (by omega)
    obtain ⟨h1, h2, h3⟩ := Lg.step_ok (H := H r (c + k + 1)) (b := H r (c + k)) (x := w_ r x (c + k)) hB hF (fun q => by rw [of_H, of_H]; split <;> omega) (hg.2.2 _ (by omega)) (by
      show ((c + k : Nat) : Int) + 1 ≤ Vec.of _ r
      rw [of_H, if_pos rfl]; omega)
    obtain ⟨-, -, h4, -⟩ := Lg.joined_inr h1
    rw [h4]
    have e : ([⟨(w_ r x (c + k)).r, (w_ r x (c + k)).t⟩] : List Vec.Entry) = H r (c + k + 1) := by
      unfold H; rw [if_neg (by omega)]; rfl
    rw [e, merge_H r hg.1 hg.2.1 (by omega) (by omega), show max (c + k) (c + k + 1) = c + k + 1 by omega]
theorem sentHave {rep r : Int} {x : WrB} (hg : Good r x) {n c : Nat} (hn : n ≤ 300) (hc : c ≤ n) : Lg.sentHave (lg rep r x n) (H r c) = H r (min n (c + 60)) := by
  unfold Lg.sentHave
  show (if ((W r x n).filter (Lg.new_ (H r c))).length ≤ 60 then H r n else _) = _
  rw [news, List.length_drop, W_len]
  by_cases h : n - c ≤ 60
  · rw [if_pos h, show min n (c + 60) = n by omega]
  · rw [if_neg h, sent, show min n (c + 60) = c + 60 by omega, told hg c 60 (by omega)]
/-- The next sixty are taken. -/
theorem accept {rep q r : Int} {x : WrB} (hg : Good r x) (h0 : 0 ≤ q) (h1 : q ≤ 200) (g0 : 0 ≤ rep) (g1 : rep ≤ 200) {n c : Nat} (hn : n ≤ 300) (hc : c ≤ n) :
    Lg.accept (lg q r x c) (H r c) (H r (min n (c + 60))) ((W r x (min n (c + 60))).drop c) = .inr (lg q r x (min n (c + 60)), min n (c + 60) - c) := by
  have hF := H_fine (i := c) hg.1 hg.2.1 (by omega)
  have hcov : Vec.Covers (H r n) (H r c) := fun p => by rw [of_H, of_H]; split <;> omega
  have hb := Lg.sent_fine (s := lg rep r x n) (f := H r c) (ok hg g0 g1 hn) (W_asc r x n) ((Vec.right_iff _).2 hF) hcov
  rw [sentHave hg hn hc, sent] at hb
  have hm := merge_H r hg.1 hg.2.1 (show c ≤ 1000 by omega) (show min n (c + 60) ≤ 1000 by omega)
  rw [show max c (min n (c + 60)) = min n (c + 60) by omega] at hm
  have hmem : ∀ y, y ∈ W r x c ∨ y ∈ (W r x (min n (c + 60))).drop c ↔ y ∈ W r x (min n (c + 60)) := fun y => by
    have e : W r x c = (W r x (min n (c + 60))).take c := by
      refine List.ext_getElem (by simp [W_len]; omega) fun i h1 h2 => ?_
      simp [W_get]
    rw [e, ← List.mem_append, List.take_append_drop]
  obtain ⟨W', k, e, -, ha, hw, hl, -, -, -⟩ := Lg.accept_good (m := lg q r x c) (f := H r c) (h := H r (min n (c + 60))) (ws := (W r x (min n (c + 60))).drop c) (ok hg h0 h1 (by omega)) (W_asc r x c) hb (Vec.covers_refl _)
    (fun y hy z hz he => by
      obtain ⟨j, hj, rfl⟩ := mem_W.1 ((hmem y).1 (.inr hy))
      obtain ⟨i, hi, rfl⟩ := mem_W.1 hz
      have := (cmpW_zero.1 he).1
      have : (i : Int) + 1 = j + 1 := this
      obtain rfl : i = j := by omega
      rfl) (by show (Vec.merge (H r c) (H r (min n (c + 60)))).length ≤ 16; rw [hm]; exact (H_fine hg.1 hg.2.1 (show min n (c + 60) ≤ 1000 by omega)).len)
    (fun W' h1 h2 => by
      have : W' = W r x (min n (c + 60)) := Lg.asc_ext h1 (W_asc _ _ _) fun y => (h2 y).trans (hmem y)
      rw [this, W_len]; omega)
  have hW : W' = W r x (min n (c + 60)) := Lg.asc_ext ha (W_asc _ _ _) fun y => (hw y).trans (hmem y)
  subst hW
  have hl2 : (W r x (min n (c + 60))).length = (W r x c).length + k := hl
  rw [W_len, W_len] at hl2
  rw [e, show k = min n (c + 60) - c by omega]
  show Sum.inr ((⟨q, Vec.merge (H r c) (H r (min n (c + 60))), W r x (min n (c + 60))⟩ : Lg), _) = _
  rw [hm]; rfl
end Line
end Go.Proofs.YtdbpiabcpjgblaaDoor
