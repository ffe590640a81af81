/- Stores in plain words: what writes come to, key by key; lists of cells by rising keys. No program. -/
import Derived.Lib.Bytealg
namespace Go.Proofs.YtognjohloobliaaDoor
set_option linter.unusedVariables false
set_option linter.unusedSimpArgs false
namespace St
open Go.Lib
def lt (a b : ByteArray) : Bool := decide (compareBytes a.data.toList b.data.toList < 0)
theorem ext_ {a b : ByteArray} (h : a.data.toList = b.data.toList) : a = b := by
  cases a; cases b; simp_all
theorem cmp_refl : ∀ a : List UInt8, compareBytes a a = 0
  | [] => by simp [compareBytes]
  | a :: l => by simp [compareBytes, cmp_refl l]
theorem cmp_eq : ∀ a b : List UInt8, compareBytes a b = 0 → a = b
  | [], [], _ => rfl
  | [], _ :: _, h => by simp [compareBytes] at h
  | _ :: _, [], h => by simp [compareBytes] at h
  | a :: l, b :: m, h => by
    rw [compareBytes] at h
    by_cases h1 : a < b
    · rw [if_pos h1] at h; cases h
    · rw [if_neg h1] at h
      by_cases h2 : b < a
      · rw [if_pos h2] at h; cases h
      · rw [if_neg h2] at h
        have e : a = b := by
          rw [UInt8.lt_iff_toNat_lt] at h1 h2
          exact UInt8.toNat_inj.1 (by omega)
        rw [e, cmp_eq l m h]
theorem cmp_neg : ∀ a b : List UInt8, compareBytes b a = - compareBytes a b
  | [], [] => by simp [compareBytes]
  | [], _ :: _ => by simp [compareBytes]
  | _ :: _, [] => by simp [compareBytes]
  | a :: l, b :: m => by
    rw [compareBytes, compareBytes]
    by_cases h1 : a < b
    · have h2 : ¬ b < a := by rw [UInt8.lt_iff_toNat_lt] at h1 ⊢; omega
      rw [if_neg h2, if_pos h1, if_pos h1]; rfl
    · by_cases h2 : b < a
      · rw [if_pos h2, if_neg h1, if_pos h2]
      · rw [if_neg h2, if_neg h1, if_neg h1, if_neg h2, cmp_neg l m]
theorem cmp_trans : ∀ a b c : List UInt8, compareBytes a b < 0 → compareBytes b c < 0 → compareBytes a c < 0
  | [], b, [], h1, h2 => by
    rw [cmp_neg] at h2; omega
  | [], _, _ :: _, _, _ => by simp [compareBytes]
  | _ :: _, [], _, h1, _ => by simp [compareBytes] at h1
  | _ :: _, _ :: _, [], _, h2 => by simp [compareBytes] at h2
  | a :: l, b :: m, c :: n, h1, h2 => by
    rw [compareBytes] at h1 h2 ⊢
    have key : ∀ x y : UInt8, x < y ↔ x.toNat < y.toNat := fun x y => UInt8.lt_iff_toNat_lt
    simp only [key] at *
    by_cases e1 : a.toNat < c.toNat
    · rw [if_pos e1]; decide
    · rw [if_neg e1]
      by_cases e2 : a.toNat < b.toNat
      · have e3 : c.toNat < b.toNat := by omega
        rw [if_neg (by omega), if_pos e3] at h2; omega
      · rw [if_neg e2] at h1
        by_cases e3 : b.toNat < a.toNat
        · rw [if_pos e3] at h1; omega
        · rw [if_neg e3] at h1
          rw [if_neg (by omega)] at h2
          by_cases e4 : c.toNat < b.toNat
          · rw [if_pos e4] at h2; omega
          · rw [if_neg e4] at h2
            rw [if_neg (by omega)]
            exact cmp_trans l m n h1 h2
theorem lt_irrefl (a : ByteArray) : lt a a = false := by simp [lt, cmp_refl]
theorem lt_asymm {a b : ByteArray} (h : lt a b = true) : lt b a = false := by
  simp only [lt, decide_eq_true_eq, decide_eq_false_iff_not] at *
  rw [cmp_neg]; omega
theorem lt_trans {a b c : ByteArray} (h : lt a b = true) (k : lt b c = true) : lt a c = true := by
  simp only [lt, decide_eq_true_eq] at *
  exact cmp_trans _ _ _ h k
theorem lt_total {a b : ByteArray} (h : a ≠ b) (k : lt b a = false) : lt a b = true := by
  simp only [lt, decide_eq_true_eq, decide_eq_false_iff_not] at *
  rw [cmp_neg] at k
  have : compareBytes a.data.toList b.data.toList ≠ 0 := fun e => h (ext_ (cmp_eq _ _ e))
  omega
structure W where
  k : Int
  key : ByteArray
  val : ByteArray
  n : Int
structure Val where
  has : Bool
  text : ByteArray
  sum : Int
  list : List ByteArray
structure Cel where
  key : ByteArray
  val : Val
def no : Val := ⟨false, ⟨#[]⟩, 0, []⟩
def ins (l : List ByteArray) (i : Nat) (x : ByteArray) : List ByteArray := l.take i ++ [x] ++ l.drop i
def step (v : Val) (x : W) : Val :=
  if x.k = 1 then { v with has := true, text := x.val }
  else if x.k = 2 then no
  else if x.k = 3 then { v with sum := v.sum + x.n }
  else { v with list := ins v.list (min x.n.toNat v.list.length) x.val }
/-- What writes come to under a key. -/
def at_ (l : List W) (key : ByteArray) : Val := (l.filter fun x => decide (x.key = key)).foldl step no
def Val.some_ (v : Val) : Bool := v.has || decide (v.sum ≠ 0) || decide (0 < v.list.length)
def IsCells (C : List Cel) (F : ByteArray → Val) : Prop := C.Pairwise (fun a b => lt a.key b.key = true) ∧ ∀ c, c ∈ C ↔ (c.val.some_ = true ∧ F c.key = c.val)
theorem sorted_ext {α : Type} {R : α → α → Prop} (irr : ∀ a, ¬ R a a) (asym : ∀ a b, R a b → ¬ R b a) : ∀ {l m : List α}, l.Pairwise R → m.Pairwise R → (∀ a, a ∈ l ↔ a ∈ m) → l = m
  | [], [], _, _, _ => rfl
  | [], b :: m, _, _, h => by have := (h b).2 (by simp); cases this
  | a :: l, [], _, _, h => by have := (h a).1 (by simp); cases this
  | a :: l, b :: m, h1, h2, h => by
    obtain ⟨p1, p2⟩ := List.pairwise_cons.1 h1
    obtain ⟨q1, q2⟩ := List.pairwise_cons.1 h2
    have hab : a = b := by
      rcases List.mem_cons.1 ((h a).1 (by simp)) with e | e
      · exact e
      · rcases List.mem_cons.1 ((h b).2 (by simp)) with e' | e'
        · exact e'.symm
        · exact absurd (p1 b e') (asym _ _ (q1 a e))
    subst hab
    rw [sorted_ext irr asym p2 q2 fun c => ?_]
    constructor
    · intro hc
      rcases List.mem_cons.1 ((h c).1 (List.mem_cons_of_mem _ hc)) with e | e
      · exact absurd (e ▸ p1 c hc) (irr a)
      · exact e
    · intro hc
      rcases List.mem_cons.1 ((h c).2 (List.mem_cons_of_mem _ hc)) with e | e
      · exact absurd (e ▸ q1 c hc) (irr a)
      · exact e
theorem IsCells.unique {C C' : List Cel} {F : ByteArray → Val} (h : IsCells C F) (h' : IsCells C' F) : C = C' :=
  sorted_ext (fun a e => by rw [lt_irrefl] at e; cases e) (fun a b e e' => by rw [lt_asymm e] at e'; cases e') h.1 h'.1 fun c => (h.2 c).trans (h'.2 c).symm
theorem IsCells.congr {C : List Cel} {F G : ByteArray → Val} (h : IsCells C F) (hF : ∀ s, F s = G s) : IsCells C G := by
  rw [← show F = G from funext hF]; exact h
theorem at_nil (key : ByteArray) : at_ [] key = no := rfl
theorem at_snoc (l : List W) (x : W) (key : ByteArray) : at_ (l ++ [x]) key = if x.key = key then step (at_ l key) x else at_ l key := by
  unfold at_
  rw [List.filter_append, List.foldl_append]
  by_cases h : x.key = key
  · rw [if_pos h, List.filter_cons_of_pos (by simpa using h)]; rfl
  · rw [if_neg h, List.filter_cons_of_neg (by simpa using h)]; rfl
theorem at_append (a b : List W) (key : ByteArray) : at_ (a ++ b) key = (b.filter fun x => decide (x.key = key)).foldl step (at_ a key) := by
  unfold at_
  rw [List.filter_append, List.foldl_append]
theorem ins_len (l : List ByteArray) (i : Nat) (x : ByteArray) : (ins l i x).length = l.length + 1 := by
  unfold ins
  simp only [List.length_append, List.length_take, List.length_drop, List.length_singleton]; omega
/-- How much sums and lists can be. -/
structure Fits (v : Val) (m : Nat) : Prop where
  lo : -(m * 1125899906842624 : Int) ≤ v.sum
  hi : v.sum ≤ (m * 1125899906842624 : Int)
  len : v.list.length ≤ m
  text : v.text.size ≤ 300
  each : ∀ s ∈ v.list, s.size ≤ 300
structure Good (x : W) : Prop where
  k1 : 1 ≤ x.k
  k4 : x.k ≤ 4
  key : x.key.size ≤ 40
  val : x.val.size ≤ 300
  add : x.k = 3 → -1125899906842624 ≤ x.n ∧ x.n ≤ 1125899906842624
  ins : x.k = 4 → 0 ≤ x.n ∧ x.n ≤ 1000
theorem Fits.no (m : Nat) : Fits no m := ⟨by unfold St.no; simp only; omega, by unfold St.no; simp only; omega, Nat.zero_le _, by simp [St.no, ByteArray.size], fun s h => by cases h⟩
theorem Fits.mono {v : Val} {m n : Nat} (h : Fits v m) (hn : m ≤ n) : Fits v n := ⟨by have := h.lo; omega, by have := h.hi; omega, by have := h.len; omega, h.text, h.each⟩
theorem Fits.step {v : Val} {m : Nat} (h : Fits v m) {x : W} (hx : Good x) : Fits (step v x) (m + 1) := by
  have h1 := h.lo; have h2 := h.hi; have h3 := h.len; have g := hx.add
  unfold St.step
  split
  · exact ⟨by simp only; omega, by simp only; omega, by simp only; omega, hx.val, h.each⟩
  split
  · exact Fits.no _
  split
  · rename_i h3'
    have := g h3'
    exact ⟨by simp only; omega, by simp only; omega, by simp only; omega, h.text, h.each⟩
  · refine ⟨by simp only; omega, by simp only; omega, by simp only [ins_len]; omega, h.text, fun s hs => ?_⟩
    simp only [St.ins, List.mem_append, List.mem_singleton] at hs
    rcases hs with (hs | hs) | hs
    · exact h.each s (List.mem_of_mem_take hs)
    · rw [hs]; exact hx.val
    · exact h.each s (List.mem_of_mem_drop hs)
theorem fold_fits : ∀ (l : List W) (v : Val) (m : Nat), (∀ x ∈ l, Good x) → Fits v m → Fits (l.foldl St.step v) (m + l.length)
  | [], v, m, _, h => h
  | x :: l, v, m, hl, h => by
    have := fold_fits l _ _ (fun y hy => hl y (List.mem_cons_of_mem _ hy)) (h.step (hl x (by simp)))
    rw [List.foldl_cons, List.length_cons, show m + (l.length + 1) = m + 1 + l.length by omega]
    exact this
theorem at_fits (l : List W) (hl : ∀ x ∈ l, Good x) (key : ByteArray) : Fits (at_ l key) l.length := by
  have := fold_fits (l.filter fun x => decide (x.key = key)) no 0 (fun x hx => hl x (List.mem_filter.1 hx).1) (Fits.no 0)
  exact this.mono (by have := List.length_filter_le (fun x : W => decide (x.key = key)) l; omega)
/-- A key of which something is told was written. -/
theorem at_none (l : List W) (key : ByteArray) (h : ∀ x ∈ l, x.key ≠ key) : at_ l key = no := by
  unfold at_
  rw [List.filter_eq_nil_iff.2 fun x hx => by simpa using h x hx]; rfl
theorem no_some : no.some_ = false := rfl
theorem at_mem {l : List W} {key : ByteArray} (h : (at_ l key).some_ = true) : ∃ x ∈ l, x.key = key := by
  by_cases hn : ∃ x ∈ l, x.key = key
  · exact hn
  · rw [at_none l key fun x hx e => hn ⟨x, hx, e⟩] at h
    cases h
/-- Without a text where there is none. -/
def Bare (v : Val) : Prop := v.has = false → v.text = ⟨#[]⟩
theorem step_bare {v : Val} (h : Bare v) (x : W) : Bare (step v x) := by
  unfold step Bare
  split
  · intro h; cases h
  split
  · intro _; rfl
  split
  · exact h
  · exact h
theorem fold_bare : ∀ (l : List W) (v : Val), Bare v → Bare (l.foldl step v)
  | [], _, h => h
  | x :: l, v, h => fold_bare l _ (step_bare h x)
theorem at_bare (l : List W) (key : ByteArray) : Bare (at_ l key) := fold_bare _ _ fun _ => rfl
/-- Dropped: what was written ahead makes no difference. -/
theorem at_drop (a b : List W) (d : W) (hd : d.k = 2) (key : ByteArray) : at_ (a ++ [d] ++ b) key = at_ ((a.filter fun x => !decide (x.key = d.key)) ++ b) key := by
  rw [at_append (a ++ [d]) b, at_append (a.filter _) b, at_snoc]
  congr 1
  by_cases h : d.key = key
  · rw [if_pos h, at_none (a.filter _) key fun x hx => by
      have := (List.mem_filter.1 hx).2
      simp only [Bool.not_eq_true', decide_eq_false_iff_not] at this
      rw [← h]; exact this]
    unfold step
    rw [if_neg (by omega), if_pos hd]
  · rw [if_neg h]
    unfold at_
    rw [List.filter_filter]
    congr 1
    apply List.filter_congr
    intro x _
    by_cases hx : x.key = key
    · have : ¬ x.key = d.key := fun e => h (e.symm.trans hx)
      have h' : ¬ key = d.key := fun e => h e.symm
      simp [hx, h']
    · simp [hx]
/-- Put again, or dropped again. -/
theorem step_twice (v : Val) (x : W) (h : x.k = 1 ∨ x.k = 2) : step (step v x) x = step v x := by
  unfold step
  rcases h with h | h
  · rw [if_pos h, if_pos h]
  · rw [if_neg (by omega), if_pos h, if_neg (by omega), if_pos h]
theorem at_again (l : List W) (i : Nat) (hi : i < l.length) (h : l[i].k = 1 ∨ l[i].k = 2) (key : ByteArray) : at_ (l.take i ++ [l[i]] ++ l.drop i) key = at_ l key := by
  have e : l = l.take i ++ [l[i]] ++ l.drop (i + 1) := by
    rw [List.append_assoc, List.singleton_append, ← List.drop_eq_getElem_cons hi, List.take_append_drop]
  have e2 : at_ l key = at_ (l.take i ++ [l[i]] ++ l.drop (i + 1)) key := congrArg (fun m => at_ m key) e
  rw [e2, at_append (l.take i ++ [l[i]]) (l.drop i), at_append (l.take i ++ [l[i]]) (l.drop (i + 1)), at_snoc, List.drop_eq_getElem_cons hi]
  clear e e2
  by_cases hk : l[i].key = key
  · rw [if_pos hk, List.filter_cons_of_pos (by simpa using hk), List.foldl_cons, step_twice _ _ h]
  · rw [if_neg hk, List.filter_cons_of_neg (by simpa using hk)]
/-- Of one key alone; of the others alone. -/
theorem at_mine (l : List W) (key s : ByteArray) : at_ (l.filter fun x => decide (x.key = key)) s = if s = key then at_ l s else no := by
  by_cases h : s = key
  · subst h
    rw [if_pos rfl]
    unfold at_
    rw [List.filter_filter]
    congr 1
    apply List.filter_congr
    intro x _
    simp
  · rw [if_neg h]
    exact at_none _ _ fun x hx e => h (by have := (List.mem_filter.1 hx).2; simp only [decide_eq_true_eq] at this; exact e.symm.trans this)
theorem at_others (l : List W) (key s : ByteArray) : at_ (l.filter fun x => !decide (x.key = key)) s = if s = key then no else at_ l s := by
  by_cases h : s = key
  · subst h
    rw [if_pos rfl]
    exact at_none _ _ fun x hx e => by have := (List.mem_filter.1 hx).2; simp [e] at this
  · rw [if_neg h]
    unfold at_
    rw [List.filter_filter]
    congr 1
    apply List.filter_congr
    intro x _
    by_cases hx : x.key = s
    · simp [hx, h]
    · simp [hx]
/-- Both together, by rising keys, are all. -/
theorem cells_both {B C D : List Cel} (l : List W) (key : ByteArray) (hB : IsCells B (at_ (l.filter fun x => decide (x.key = key)))) (hC : IsCells C (at_ (l.filter fun x => !decide (x.key = key))))
    (hp : D.Perm (B ++ C)) (hs : D.Pairwise fun a b => lt b.key a.key = false) : IsCells D (at_ l) := by
  have hmem : ∀ c, c ∈ D ↔ (c.val.some_ = true ∧ at_ l c.key = c.val) := fun c => by
    rw [hp.mem_iff, List.mem_append, hB.2, hC.2, at_mine, at_others]
    by_cases h : c.key = key
    · rw [if_pos h, if_pos h]
      constructor
      · rintro (h1 | ⟨h1, h2⟩)
        · exact h1
        · rw [← h2, no_some] at h1; cases h1
      · exact .inl
    · rw [if_neg h, if_neg h]
      constructor
      · rintro (⟨h1, h2⟩ | h1)
        · rw [← h2, no_some] at h1; cases h1
        · exact h1
      · exact .inr
  refine ⟨?_, hmem⟩
  have hnd : D.Nodup := by
    rw [hp.nodup_iff, List.nodup_append]
    have nod : ∀ {L : List Cel} {F : ByteArray → Val}, IsCells L F → L.Nodup := fun h => h.1.imp fun hab e => by rw [e, lt_irrefl] at hab; cases hab
    refine ⟨nod hB, nod hC, fun a ha b hb e => ?_⟩
    subst e
    have h1 := (hB.2 a).1 ha
    have h2 := (hC.2 a).1 hb
    rw [at_mine] at h1
    rw [at_others] at h2
    by_cases h : a.key = key
    · rw [if_pos h] at h2
      rw [← h2.2, no_some] at h1; cases h1.1
    · rw [if_neg h] at h1
      rw [← h1.2, no_some] at h2; cases h2.1
  have hboth := List.Pairwise.and hs hnd
  refine (List.Pairwise.imp_of_mem ?_ hboth)
  intro a b ha hb hab
  refine lt_total (fun e => hab.2 ?_) hab.1
  have h1 := ((hmem a).1 ha).2
  have h2 := ((hmem b).1 hb).2
  rw [e] at h1
  cases a; cases b; simp_all
/-- Only sums. -/
def total (l : List W) : Int := (l.map (·.n)).sum
theorem fold_adds : ∀ (l : List W) (v : Val), (∀ x ∈ l, x.k = 3) → l.foldl step v = { v with sum := v.sum + total l }
  | [], v, _ => by simp [total]
  | x :: l, v, h => by
    rw [List.foldl_cons, fold_adds l _ fun y hy => h y (List.mem_cons_of_mem _ hy)]
    have hx := h x (by simp)
    unfold step
    rw [if_neg (by omega), if_neg (by omega), if_pos hx]
    simp only [total, List.map_cons, List.sum_cons, Int.add_assoc]
theorem total_append (a b : List W) : total (a ++ b) = total a + total b := by
  induction a with
  | nil => simp [total]
  | cons x a ih =>
    simp only [total, List.cons_append, List.map_cons, List.sum_cons] at *
    rw [ih, Int.add_assoc]
theorem total_reverse (l : List W) : total l.reverse = total l := by
  induction l with
  | nil => rfl
  | cons x l ih =>
    rw [List.reverse_cons, total_append, ih]
    simp only [total, List.map_cons, List.sum_cons, List.map_nil, List.sum_nil]
    omega
def sumAt (l : List W) (key : ByteArray) : Int := total (l.filter fun x => decide (x.key = key))
theorem at_adds (l : List W) (h : ∀ x ∈ l, x.k = 3) (key : ByteArray) : at_ l key = { no with sum := sumAt l key } := by
  unfold at_
  rw [fold_adds _ _ fun x hx => h x (List.mem_filter.1 hx).1]
  show { no with sum := (0 : Int) + sumAt l key } = _
  rw [Int.zero_add]
theorem at_adds_reverse (l : List W) (h : ∀ x ∈ l, x.k = 3) (key : ByteArray) : at_ l.reverse key = at_ l key := by
  rw [at_adds l h, at_adds l.reverse (fun x hx => h x (by simpa using hx))]
  congr 1
  unfold sumAt
  rw [← total_reverse (l.filter _), List.filter_reverse]
theorem sumAt_snoc (l : List W) (x : W) (key : ByteArray) : sumAt (l ++ [x]) key = if x.key = key then sumAt l key + x.n else sumAt l key := by
  unfold sumAt
  rw [List.filter_append, total_append]
  by_cases h : x.key = key
  · rw [if_pos h, List.filter_cons_of_pos (by simpa using h)]; simp [total]
  · rw [if_neg h, List.filter_cons_of_neg (by simpa using h)]; simp [total]
/-- Only insertions. -/
def vals (l : List W) (key : ByteArray) : List ByteArray := (l.filter fun x => decide (x.key = key)).map (·.val)
theorem ins_perm (l : List ByteArray) (i : Nat) (x : ByteArray) : (ins l i x).Perm (l ++ [x]) := by
  unfold ins
  have h1 : (l.take i ++ [x] ++ l.drop i).Perm (l.take i ++ l.drop i ++ [x]) := by
    rw [List.append_assoc, List.append_assoc]
    exact List.Perm.append_left _ List.perm_append_comm
  rwa [List.take_append_drop] at h1
theorem fold_ins : ∀ (l : List W) (v : Val), (∀ x ∈ l, x.k = 4) → (l.foldl step v).list.Perm (v.list ++ l.map (·.val)) ∧ (l.foldl step v).has = v.has ∧ (l.foldl step v).sum = v.sum
  | [], v, _ => by simp
  | x :: l, v, h => by
    have hx := h x (by simp)
    obtain ⟨h1, h2, h3⟩ := fold_ins l (step v x) fun y hy => h y (List.mem_cons_of_mem _ hy)
    rw [List.foldl_cons]
    have e : step v x = { v with list := ins v.list (min x.n.toNat v.list.length) x.val } := by
      unfold step
      rw [if_neg (by omega), if_neg (by omega), if_neg (by omega)]
    rw [e] at h1 h2 h3
    rw [e]
    refine ⟨h1.trans ?_, h2, h3⟩
    rw [List.map_cons, show x.val :: l.map (·.val) = [x.val] ++ l.map (·.val) from rfl, ← List.append_assoc]
    exact List.Perm.append_right _ (ins_perm _ _ _)
theorem at_ins (l : List W) (h : ∀ x ∈ l, x.k = 4) (key : ByteArray) : (at_ l key).list.Perm (vals l key) ∧ (at_ l key).has = false ∧ (at_ l key).sum = 0 :=
  fold_ins _ no fun x hx => h x ((List.mem_filter.1 hx).1)
theorem vals_snoc (l : List W) (x : W) (key : ByteArray) : vals (l ++ [x]) key = if x.key = key then vals l key ++ [x.val] else vals l key := by
  unfold vals
  rw [List.filter_append, List.map_append]
  by_cases h : x.key = key
  · rw [if_pos h, List.filter_cons_of_pos (by simpa using h)]; rfl
  · rw [if_neg h, List.filter_cons_of_neg (by simpa using h)]; simp
/-- The cells' keys are the keys of what was inserted. -/
theorem ins_keys {l : List W} (h : ∀ x ∈ l, x.k = 4) {C : List Cel} (hC : IsCells C (at_ l)) : (C.map (·.key)).Nodup ∧ ∀ s, s ∈ C.map (·.key) ↔ vals l s ≠ [] := by
  constructor
  · rw [List.Nodup, List.pairwise_map]
    exact hC.1.imp fun hab e => by rw [e, lt_irrefl] at hab; cases hab
  · intro s
    obtain ⟨h1, h2, h3⟩ := at_ins l h s
    constructor
    · intro hs
      obtain ⟨c, hc, rfl⟩ := List.mem_map.1 hs
      obtain ⟨h4, h5⟩ := (hC.2 c).1 hc
      rw [← h5] at h4
      unfold Val.some_ at h4
      rw [h2, h3, h1.length_eq] at h4
      intro e
      rw [e] at h4
      simp at h4
    · intro hne
      refine List.mem_map.2 ⟨⟨s, at_ l s⟩, (hC.2 _).2 ⟨?_, rfl⟩, rfl⟩
      unfold Val.some_
      have : 0 < (at_ l s).list.length := by rw [h1.length_eq]; exact List.length_pos_iff.2 hne
      simp [this]
/-- The text under a key is that of its last Put, if no Drop is behind it. -/
def last (l : List W) (key : ByteArray) : Bool × ByteArray := l.foldl (fun p x => if x.key = key ∧ x.k = 1 then (true, x.val) else if x.key = key ∧ x.k = 2 then (false, ⟨#[]⟩) else p) (false, ⟨#[]⟩)
theorem last_snoc (l : List W) (x : W) (key : ByteArray) : last (l ++ [x]) key = if x.key = key ∧ x.k = 1 then (true, x.val) else if x.key = key ∧ x.k = 2 then (false, ⟨#[]⟩) else last l key := by
  unfold last
  rw [List.foldl_append]; rfl
theorem last_fold (key : ByteArray) : ∀ (l : List W) (v : Val), l.foldl (fun p x => if x.key = key ∧ x.k = 1 then (true, x.val) else if x.key = key ∧ x.k = 2 then (false, ⟨#[]⟩) else p) (v.has, v.text) = (((l.filter fun x => decide (x.key = key)).foldl step v).has, ((l.filter fun x => decide (x.key = key)).foldl step v).text)
  | [], _ => rfl
  | x :: l, v => by
    rw [List.foldl_cons]
    by_cases h : x.key = key
    · rw [List.filter_cons_of_pos (by simpa using h), List.foldl_cons, ← last_fold key l]
      congr 1
      unfold step
      by_cases h1 : x.k = 1
      · rw [if_pos ⟨h, h1⟩, if_pos h1]
      · rw [if_neg (fun e => h1 e.2), if_neg h1]
        by_cases h2 : x.k = 2
        · rw [if_pos ⟨h, h2⟩, if_pos h2]; rfl
        · rw [if_neg (fun e => h2 e.2), if_neg h2]
          split <;> rfl
    · rw [List.filter_cons_of_neg (by simpa using h), ← last_fold key l, if_neg (fun e => h e.1), if_neg (fun e => h e.1)]
theorem last_at (l : List W) (key : ByteArray) : last l key = ((at_ l key).has, (at_ l key).text) := last_fold key l no
/-- Some cells are all that have something. -/
theorem cells_of {C : List Cel} {F : ByteArray → Val} (D : List Cel) (hp : C.Perm D) (hs : C.Pairwise fun a b => lt b.key a.key = false) (hn : (D.map (·.key)).Nodup) (hD : ∀ c, c ∈ D ↔ (c.val.some_ = true ∧ F c.key = c.val)) : IsCells C F := by
  have hn' : (C.map (·.key)).Nodup := ((hp.map _).nodup_iff).2 hn
  refine ⟨?_, fun c => (hp.mem_iff).trans (hD c)⟩
  rw [List.Nodup, List.pairwise_map] at hn'
  exact (List.Pairwise.and hs hn').imp fun h => lt_total h.2 h.1
end St
end Go.Proofs.YtognjohloobliaaDoor
