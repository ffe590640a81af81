/- Plain laws of who gets the pieces. -/
import Derived.Test.YtdpdnkjpjoccmaaDoorPlainCut
import Derived.Test.YtdpdnkjpjoccmaaDoorPlainDisk
namespace Go.Proofs.YtdpdnkjpjoccmaaDoor
namespace Recv
set_option linter.unusedVariables false
set_option linter.unusedSectionVars false
/-- How many are there from the beginning on. -/
def offer (c : List Bool) : Nat := (c.takeWhile id).length
theorem offer_le (c : List Bool) : offer c ≤ c.length := (List.takeWhile_sublist id).length_le
theorem offer_true (c : List Bool) (j : Nat) (h : j < offer c) : c[j]? = some true := by
  induction c generalizing j with
  | nil => simp [offer] at h
  | cons b c ih =>
    unfold offer at h
    rw [List.takeWhile_cons] at h
    cases b with
    | false => simp at h
    | true =>
      simp only [id, if_true, List.length_cons] at h
      cases j with
      | zero => rfl
      | succ j => rw [List.getElem?_cons_succ]; exact ih j (by unfold offer; omega)
theorem offer_stop (c : List Bool) (h : offer c < c.length) : c[offer c]? = some false := by
  induction c with
  | nil => simp at h
  | cons b c ih =>
    unfold offer at h ⊢
    rw [List.takeWhile_cons] at h ⊢
    cases b with
    | false => rfl
    | true =>
      simp only [id, if_true, List.length_cons, List.getElem?_cons_succ] at h ⊢
      exact ih (by unfold offer; omega)
theorem offer_eq (c : List Bool) (n : Nat) (hn : n ≤ c.length) (h1 : ∀ j, j < n → c[j]? = some true) (h2 : n < c.length → c[n]? ≠ some true) : offer c = n := by
  rcases Nat.lt_trichotomy (offer c) n with h | h | h
  · have h3 := offer_stop c (by omega)
    rw [h1 _ h] at h3; cases h3
  · exact h
  · exact absurd (offer_true c n h) (h2 (by have := offer_le c; omega))
theorem offer_ge (c : List Bool) (n : Nat) (hn : n ≤ c.length) (h1 : ∀ j, j < n → c[j]? = some true) : n ≤ offer c := by
  refine Nat.le_of_not_lt fun h => ?_
  have h3 := offer_stop c (by omega)
  rw [h1 _ h] at h3; cases h3
/-- A piece's bytes come. -/
def fill : List UInt8 → Nat → List UInt8 × List Bool → List UInt8 × List Bool
  | [], _, p => p
  | b :: x, i, p => fill x (i + 1) (if p.2[i]? = some true then p else (p.1.set i b, p.2.set i true))
theorem fill_len (x : List UInt8) (i : Nat) (p : List UInt8 × List Bool) : (fill x i p).1.length = p.1.length ∧ (fill x i p).2.length = p.2.length := by
  induction x generalizing i p with
  | nil => exact ⟨rfl, rfl⟩
  | cons b x ih =>
    rw [fill, (ih _ _).1, (ih _ _).2]
    split <;> simp
theorem fill_came (x : List UInt8) (i : Nat) (p : List UInt8 × List Bool) (j : Nat) (hj : i + x.length ≤ p.2.length) : (fill x i p).2[j]? = if i ≤ j ∧ j < i + x.length then some true else p.2[j]? := by
  induction x generalizing i p with
  | nil => rw [fill, if_neg (by simp only [List.length_nil]; omega)]
  | cons b x ih =>
    rw [List.length_cons] at hj
    have e : (if p.2[i]? = some true then p else (p.1.set i b, p.2.set i true)).2 = p.2.set i true := by
      by_cases h : p.2[i]? = some true
      · rw [if_pos h]
        apply List.ext_getElem?
        intro k
        by_cases hk : i = k
        · subst hk; rw [List.getElem?_set_self (by omega)]; exact h
        · rw [List.getElem?_set_ne hk]
      · rw [if_neg h]
    rw [fill, ih _ _ (by rw [e, List.length_set]; omega), e, List.length_cons]
    by_cases h1 : i + 1 ≤ j ∧ j < i + 1 + x.length
    · rw [if_pos h1, if_pos (by omega)]
    · rw [if_neg h1]
      by_cases h2 : j = i
      · subst h2
        rw [if_pos (by omega), List.getElem?_set_self (by omega)]
      · rw [if_neg (by omega), List.getElem?_set_ne (fun e => h2 e.symm)]
/-- What is there is the text's. -/
structure Holds (s : List UInt8) (p : List UInt8 × List Bool) : Prop where
  len : p.1.length = s.length
  len2 : p.2.length = s.length
  at_ : ∀ j : Nat, p.2[j]? = some true → p.1[j]? = s[j]?
theorem fill_holds (s x : List UInt8) (i : Nat) (p : List UInt8 × List Bool) (h : Holds s p) (hx : x <+: s.drop i) : Holds s (fill x i p) := by
  induction x generalizing i p with
  | nil => exact h
  | cons b x ih =>
    rw [fill]
    obtain ⟨r, hr⟩ := hx
    have hi : s[i]? = some b := by
      have h0 : (s.drop i)[0]? = s[i]? := by rw [List.getElem?_drop, Nat.add_zero]
      rw [← h0, ← hr]; rfl
    have hil : i < s.length := (List.getElem?_eq_some_iff.1 hi).1
    refine ih _ _ ?_ ⟨r, ?_⟩
    · by_cases hc : p.2[i]? = some true
      · rw [if_pos hc]; exact h
      · rw [if_neg hc]
        refine ⟨by simp [h.len], by simp [h.len2], fun j hj => ?_⟩
        simp only at hj ⊢
        by_cases hij : i = j
        · subst hij
          rw [List.getElem?_set_self (by rw [h.len]; exact hil), hi]
        · rw [List.getElem?_set_ne hij] at hj ⊢
          exact h.at_ j hj
    · rw [← List.drop_drop, ← hr]; rfl
theorem holds_new (s : List UInt8) : Holds s (List.replicate s.length 0, List.replicate s.length false) := ⟨by simp, by simp, fun j hj => by
  rw [List.getElem?_replicate] at hj
  split at hj <;> cases hj⟩
/-- All is there. -/
theorem holds_all (s : List UInt8) (p : List UInt8 × List Bool) (h : Holds s p) (ho : offer p.2 = s.length) : p.1 = s := by
  apply List.ext_getElem?
  intro j
  by_cases hj : j < s.length
  · exact h.at_ j (offer_true _ _ (by omega))
  · rw [List.getElem?_eq_none (by rw [h.len]; omega), List.getElem?_eq_none (by omega)]
theorem holds_pre (s : List UInt8) (p : List UInt8 × List Bool) (h : Holds s p) (n : Nat) (hn : n ≤ offer p.2) : p.1.take n = s.take n := by
  apply List.ext_getElem?
  intro j
  by_cases hj : j < n
  · rw [List.getElem?_take_of_lt hj, List.getElem?_take_of_lt hj]
    exact h.at_ j (offer_true _ _ (by omega))
  · rw [List.getElem?_eq_none (by rw [List.length_take]; omega), List.getElem?_eq_none (by rw [List.length_take]; omega)]
theorem fill_offer (x : List UInt8) (i : Nat) (p : List UInt8 × List Bool) (hj : i + x.length ≤ p.2.length) : offer p.2 ≤ offer (fill x i p).2 := by
  refine offer_ge _ _ (by rw [(fill_len x i p).2]; exact offer_le _) fun j h => ?_
  rw [fill_came x i p j hj]
  split
  · rfl
  · exact offer_true _ _ h
/-- Pieces of a size: the bytes that are there are those of the pieces that came. -/
theorem offer_pieces (c came : List Bool) (n : Nat) (hn : 0 < n) (hl : came.length = (c.length + n - 1) / n) (h : ∀ j, j < c.length → c[j]? = came[j / n]?) : offer c = min c.length (offer came * n) := by
  have hle := offer_le came
  have hmul : c.length ≤ came.length * n := by
    rw [hl]
    have := Nat.div_add_mod (c.length + n - 1) n
    have := Nat.mod_lt (c.length + n - 1) hn
    rw [Nat.mul_comm]; omega
  refine offer_eq _ _ (by omega) (fun j hj => ?_) fun hlt => ?_
  · rw [h j (by omega)]
    refine offer_true _ _ ?_
    exact Nat.div_lt_of_lt_mul (by rw [Nat.mul_comm]; omega)
  · have hm : min c.length (offer came * n) = offer came * n := by omega
    rw [hm] at hlt ⊢
    rw [h _ hlt, Nat.mul_div_cancel _ hn]
    have : offer came < came.length := by
      refine Nat.lt_of_not_le fun hge => ?_
      have : came.length * n ≤ offer came * n := Nat.mul_le_mul_right n hge
      omega
    rw [offer_stop came this]
    intro e; cases e
end Recv
end Go.Proofs.YtdpdnkjpjoccmaaDoor
/- Plain laws of who gets the pieces, part two: records, and what lasts. -/
namespace Go.Proofs.YtdpdnkjpjoccmaaDoor
namespace Recv
set_option linter.unusedVariables false
set_option linter.unusedSectionVars false
/-- What a sector tells: how many were written ahead, a name, a total, how many bytes last. -/
def record (s : List UInt8) : Option (Nat × Nat × Nat × Nat) :=
  if s.head? ≠ some 82 then none else
  match Vary.int (s.drop 1) 1125899906842624 with
  | .bad _ => none
  | .ok m k =>
    if s.length < 1 + k + 4 then none else
    match Vary.int (s.drop (1 + k + 4)) 4096 with
    | .bad _ => none
    | .ok t k2 =>
      match Vary.int (s.drop (1 + k + 4 + k2)) 4096 with
      | .bad _ => none
      | .ok c j =>
        if s.length < 1 + k + 4 + k2 + j + 4 then none else
        match Crc.opened (s.take (1 + k + 4 + k2 + j + 4)) with
        | .inl _ => none
        | .inr _ => if 0 < t ∧ c ≤ t then some (m, Chunk.le4 (s.drop (1 + k)), t, c) else none
/-- A record. -/
def marked (m nm t c : Nat) : List UInt8 := Crc.seal_ (82 :: (Vary.put m ++ (Crc.four nm ++ (Vary.put t ++ Vary.put c))))
theorem record_marked (m nm t c : Nat) (z : List UInt8) (hm : m ≤ 1125899906842624) (hn : nm < 4294967296) (h0 : 0 < t) (ht : t ≤ 4096) (hc : c ≤ t) : record (marked m nm t c ++ z) = some (m, nm, t, c) := by
  have hS : ∃ S, marked m nm t c = 82 :: (Vary.put m ++ (Crc.four nm ++ (Vary.put t ++ (Vary.put c ++ S)))) ∧ S.length = 4 := ⟨Crc.four (Crc.sum (82 :: (Vary.put m ++ (Crc.four nm ++ (Vary.put t ++ Vary.put c))))), by unfold marked Crc.seal_; simp, rfl⟩
  obtain ⟨S, hS, hl⟩ := hS
  have hlen : (marked m nm t c).length = 1 + (Vary.put m).length + 4 + (Vary.put t).length + (Vary.put c).length + 4 := by
    rw [hS]; simp only [List.length_cons, List.length_append, Chunk.four_len, hl]; omega
  have ho : Crc.opened ((marked m nm t c ++ z).take (1 + (Vary.put m).length + 4 + (Vary.put t).length + (Vary.put c).length + 4)) = .inr (82 :: (Vary.put m ++ (Crc.four nm ++ (Vary.put t ++ Vary.put c)))) := by
    rw [List.take_left' hlen]; exact Crc.opened_seal _
  have hz : (marked m nm t c ++ z).length = 1 + (Vary.put m).length + 4 + (Vary.put t).length + (Vary.put c).length + 4 + z.length := by rw [List.length_append, hlen]
  have e : marked m nm t c ++ z = 82 :: (Vary.put m ++ (Crc.four nm ++ (Vary.put t ++ (Vary.put c ++ (S ++ z))))) := by rw [hS]; simp
  have d1 : (marked m nm t c ++ z).drop 1 = Vary.put m ++ (Crc.four nm ++ (Vary.put t ++ (Vary.put c ++ (S ++ z)))) := by rw [e]; rfl
  have d2 : (marked m nm t c ++ z).drop (1 + (Vary.put m).length) = Crc.four nm ++ (Vary.put t ++ (Vary.put c ++ (S ++ z))) := by
    rw [← List.drop_drop, d1, List.drop_left]
  have d3 : (marked m nm t c ++ z).drop (1 + (Vary.put m).length + 4) = Vary.put t ++ (Vary.put c ++ (S ++ z)) := by
    rw [← List.drop_drop, d2, List.drop_left' (Chunk.four_len _)]
  have d4 : (marked m nm t c ++ z).drop (1 + (Vary.put m).length + 4 + (Vary.put t).length) = Vary.put c ++ (S ++ z) := by
    rw [← List.drop_drop, d3, List.drop_left]
  have hn4 : Chunk.le4 ((marked m nm t c ++ z).drop (1 + (Vary.put m).length)) = nm := by
    rw [d2]; unfold Chunk.le4; rw [List.take_left' (Chunk.four_len _), Crc.num_four _ hn]
  unfold record
  rw [if_neg (by rw [e]; simp), d1, Chunk.int_of_put m _ _ (by omega) (by omega)]
  simp only
  rw [if_neg (by rw [hz]; omega), d3, Chunk.int_of_put t _ _ (by omega) (by omega)]
  simp only
  rw [d4, Chunk.int_of_put c _ _ (by omega) (by omega)]
  simp only
  rw [if_neg (by rw [hz]; omega), ho]
  simp only
  rw [if_pos ⟨h0, hc⟩, hn4]
/-- A sector of such bytes. -/
def pad (l : List UInt8) : ByteArray := ⟨(l ++ List.replicate (32 - l.length) 0).toArray⟩
theorem pad_size (l : List UInt8) (h : l.length ≤ 32) : (pad l).size = 32 := by simp [pad, ByteArray.size]; omega
theorem pad_list (l : List UInt8) : (pad l).data.toList = l ++ List.replicate (32 - l.length) 0 := rfl
/-- The sectors of a text. -/
def saveTo (d : List UInt8) (n : Nat) : Nat → Nat → Disk.St ByteArray → Disk.St ByteArray
  | 0, _, k => k
  | f + 1, i, k => if i < n then saveTo d n f (i + 32) (k.write (2 + i / 32) (pad ((d.drop i).take (min n (i + 32) - i)))) else k
theorem saveTo_safe (d : List UInt8) (n f i : Nat) (k : Disk.St ByteArray) : (saveTo d n f i k).safe = k.safe := by
  induction f generalizing i k with
  | zero => rfl
  | succ f ih =>
    rw [saveTo]
    split
    · rw [ih]; rfl
    · rfl
theorem saveTo_next (d : List UInt8) (n f i : Nat) (k : Disk.St ByteArray) (hi : i % 32 = 0) (hf : n ≤ i + 32 * f) (q : Nat) :
    (saveTo d n f i k).next (2 + q) = if i / 32 ≤ q ∧ 32 * q < n then some (pad ((d.drop (32 * q)).take (min n (32 * q + 32) - 32 * q))) else k.next (2 + q) := by
  induction f generalizing i k with
  | zero => rw [saveTo, if_neg (by omega)]
  | succ f ih =>
    rw [saveTo]
    by_cases h : i < n
    · rw [if_pos h, ih _ _ (by omega) (by omega)]
      by_cases h2 : i / 32 = q
      · subst h2
        have e : 32 * (i / 32) = i := by omega
        rw [if_neg (by omega), if_pos (by omega), e]
        show (if 2 + i / 32 = 2 + i / 32 then _ else _) = _
        rw [if_pos rfl]
      · by_cases h3 : i / 32 ≤ q ∧ 32 * q < n
        · rw [if_pos (by omega), if_pos h3]
        · rw [if_neg (by omega), if_neg h3]
          show (if 2 + q = 2 + i / 32 then _ else _) = _
          rw [if_neg (by omega)]
    · rw [if_neg h, if_neg (by omega)]
theorem saveTo_low (d : List UInt8) (n f i : Nat) (k : Disk.St ByteArray) (j : Nat) (hj : j < 2) : (saveTo d n f i k).next j = k.next j := by
  induction f generalizing i k with
  | zero => rfl
  | succ f ih =>
    rw [saveTo]
    split
    · rw [ih]
      show (if j = 2 + i / 32 then _ else _) = _
      rw [if_neg (by omega)]
    · rfl
/-- Who gets the pieces. -/
structure Rec where
  name : Nat
  data : List UInt8
  came : List Bool
  saved : Nat
  safe : Nat
  mark : Nat
  disk : Disk.St ByteArray
def Rec.opened (R : Rec) (nm t : Nat) : Rec := if R.came = [] then { R with name := nm, data := List.replicate t 0, came := List.replicate t false } else R
def Rec.take (R : Rec) (nm t i : Nat) (x : List UInt8) : Option Rec :=
  if nm ≠ (R.opened nm t).name ∨ t ≠ (R.opened nm t).came.length then none
  else some { R.opened nm t with data := (fill x i ((R.opened nm t).data, (R.opened nm t).came)).1, came := (fill x i ((R.opened nm t).data, (R.opened nm t).came)).2 }
def Rec.offer (R : Rec) : Nat := Recv.offer R.came
def Rec.save (R : Rec) : Rec := { R with saved := R.offer, disk := saveTo R.data R.offer R.offer (R.saved / 32 * 32) R.disk }
def Rec.flush (R : Rec) : Rec := { R with disk := R.disk.sync, safe := R.saved }
def Rec.marks (R : Rec) : Rec := if R.came = [] then R else { R with disk := R.disk.write (R.mark % 2) (pad (marked R.mark R.name R.came.length R.safe)), mark := R.mark + 1 }
def seen (d : Disk.St ByteArray) (i : Nat) : Option (Nat × Nat × Nat × Nat) := (d.view i).bind fun x => record x.data.toList
def better (b : Nat × Nat × Nat × Nat) : Option (Nat × Nat × Nat × Nat) → Nat × Nat × Nat × Nat
  | none => b
  | some r => if b.1 < r.1 + 1 then (r.1 + 1, r.2) else b
def best (d : Disk.St ByteArray) : Nat × Nat × Nat × Nat := better (better (0, 0, 0, 0) (seen d 0)) (seen d 1)
def backs (d : Disk.St ByteArray) (n : Nat) : List UInt8 := (List.range n).map fun j => (((d.view (2 + j / 32)).bind fun x => x.data.toList[j % 32]?).getD 0)
def Rec.crash (keep : Nat → Bool) (R : Rec) : Rec :=
  let d := R.disk.crash keep
  let b := best d
  { name := b.2.1, data := backs d b.2.2.2 ++ List.replicate (b.2.2.1 - b.2.2.2) 0, came := List.replicate b.2.2.2 true ++ List.replicate (b.2.2.1 - b.2.2.2) false, saved := b.2.2.2, safe := b.2.2.2, mark := b.1, disk := d }
/-- A sector's version. -/
def Ver (d : Disk.St ByteArray) (i : Nat) (x : ByteArray) : Prop := d.safe[i]? = some x ∨ d.next i = some x
/-- What holds all the time, for a text. -/
structure Inv (s : List UInt8) (R : Rec) : Prop where
  none_ : R.came = [] → R.data = [] ∧ R.saved = 0 ∧ R.safe = 0 ∧ R.mark = 0
  some_ : R.came ≠ [] → R.name = Crc.sum s ∧ Holds s (R.data, R.came)
  len : R.disk.safe.length = 140
  le1 : R.safe ≤ R.saved
  le2 : R.saved ≤ R.offer
  recs : ∀ i x m nm t c, i < 2 → Ver R.disk i x → record x.data.toList = some (m, nm, t, c) → nm = Crc.sum s ∧ t = s.length ∧ c ≤ t ∧ m < R.mark ∧ m % 2 = i ∧ c ≤ R.safe
  mono : ∀ x y m nm t c m' nm' t' c', Ver R.disk 0 x → Ver R.disk 1 y → record x.data.toList = some (m, nm, t, c) → record y.data.toList = some (m', nm', t', c') → (m < m' → c ≤ c') ∧ (m' < m → c' ≤ c)
  dat : ∀ j x, j < R.safe → Ver R.disk (2 + j / 32) x → x.data.toList[j % 32]? = s[j]?
  vw : ∀ j, j < R.saved → ∀ x, R.disk.view (2 + j / 32) = some x → x.data.toList[j % 32]? = s[j]?
theorem view_ver (d : Disk.St ByteArray) (i : Nat) (x : ByteArray) (h : d.view i = some x) : Ver d i x := by
  unfold Disk.St.view at h
  split at h
  · split at h
    · exact .inr (by rw [‹d.next i = some _›]; exact h)
    · exact .inl h
  · cases h
theorem ver_crash (keep : Nat → Bool) (d : Disk.St ByteArray) (i : Nat) (x : ByteArray) (h : Ver (d.crash keep) i x) : Ver d i x := by
  rcases h with h | h
  · by_cases hm : i ∈ d.dirty
    · obtain ⟨j, hj, rfl⟩ := List.getElem_of_mem hm
      rw [Disk.crash_in _ _ _ hj] at h
      split at h
      · exact view_ver _ _ _ h
      · exact .inl h
    · rw [Disk.crash_out _ _ _ hm] at h
      exact .inl h
  · cases h
theorem view_crash' (keep : Nat → Bool) (d : Disk.St ByteArray) (i : Nat) (x : ByteArray) : (d.crash keep).view i = some x ↔ Ver (d.crash keep) i x ∧ i < d.safe.length := by
  rw [Disk.view_crash]
  constructor
  · intro h
    split at h
    · exact ⟨.inl h, ‹_›⟩
    · cases h
  · rintro ⟨h | h, hi⟩
    · rw [if_pos hi]; exact h
    · cases h
def blank : Disk.St ByteArray := ⟨List.replicate 140 (pad []), fun _ => none⟩
def new : Rec := ⟨0, [], [], 0, 0, 0, blank⟩
theorem record_blank : record (pad []).data.toList = none := by decide +kernel
theorem ver_blank (i : Nat) (x : ByteArray) (h : Ver blank i x) : x = pad [] := by
  rcases h with h | h
  · simp only [blank, List.getElem?_replicate] at h
    split at h
    · injection h with h; exact h.symm
    · cases h
  · cases h
theorem inv_new (s : List UInt8) : Inv s new where
  none_ := fun _ => ⟨rfl, rfl, rfl, rfl⟩
  some_ := fun h => absurd rfl h
  len := by simp [new, blank]
  le1 := Nat.le_refl _
  le2 := Nat.zero_le _
  recs := fun i x m nm t c hi hx hr => by
    rw [ver_blank i x hx, record_blank] at hr; cases hr
  mono := fun x y m nm t c m' nm' t' c' hx hy hr => by
    rw [ver_blank _ x hx, record_blank] at hr; cases hr
  dat := fun j x hj => absurd hj (Nat.not_lt_zero _)
  vw := fun j hj => absurd hj (Nat.not_lt_zero _)
/-- A piece of the text is taken. -/
theorem inv_take (s : List UInt8) (R : Rec) (h : Inv s R) (i : Nat) (x : List UInt8) (hs : s ≠ []) (hx : x <+: s.drop i) :
    ∃ R', R.take (Crc.sum s) s.length i x = some R' ∧ Inv s R' ∧ R'.came ≠ [] ∧ R'.mark = R.mark ∧ R'.safe = R.safe ∧ R'.disk = R.disk ∧ R'.saved = R.saved ∧ (∀ j, R'.came[j]? = if i ≤ j ∧ j < i + x.length then some true else (R.opened (Crc.sum s) s.length).came[j]?) ∧ R.offer ≤ R'.offer := by
  have hl : 0 < s.length := List.length_pos_iff.2 hs
  have hO : (R.opened (Crc.sum s) s.length).name = Crc.sum s ∧ Holds s ((R.opened (Crc.sum s) s.length).data, (R.opened (Crc.sum s) s.length).came) ∧ R.offer ≤ (R.opened (Crc.sum s) s.length).offer := by
    unfold Rec.opened
    by_cases hc : R.came = []
    · rw [if_pos hc]
      refine ⟨rfl, holds_new s, ?_⟩
      unfold Rec.offer; rw [hc]; exact Nat.zero_le _
    · rw [if_neg hc]
      exact ⟨(h.some_ hc).1, (h.some_ hc).2, Nat.le_refl _⟩
  have hsame : (R.opened (Crc.sum s) s.length).mark = R.mark ∧ (R.opened (Crc.sum s) s.length).safe = R.safe ∧ (R.opened (Crc.sum s) s.length).disk = R.disk ∧ (R.opened (Crc.sum s) s.length).saved = R.saved := by
    unfold Rec.opened; split <;> exact ⟨rfl, rfl, rfl, rfl⟩
  obtain ⟨hO1, hO2, hO3⟩ := hO
  obtain ⟨e1, e2, e3, e4⟩ := hsame
  unfold Rec.take
  generalize R.opened (Crc.sum s) s.length = O at *
  have hx2 : i + x.length ≤ O.came.length ∨ x = [] := by
    obtain ⟨r, hr⟩ := hx
    have := congrArg List.length hr
    simp only [List.length_append, List.length_drop] at this
    have h2 := hO2.len2
    simp only at h2
    cases x with
    | nil => exact .inr rfl
    | cons b x => simp only [List.length_cons] at this ⊢; left; omega
  have hfc : ∀ j, (fill x i (O.data, O.came)).2[j]? = if i ≤ j ∧ j < i + x.length then some true else O.came[j]? := fun j => by
    rcases hx2 with hx2 | rfl
    · exact fill_came x i _ j hx2
    · rw [fill, if_neg (by simp only [List.length_nil]; omega)]
  have hoff : O.offer ≤ Recv.offer (fill x i (O.data, O.came)).2 := by
    rcases hx2 with hx2 | rfl
    · exact fill_offer x i (O.data, O.came) hx2
    · exact Nat.le_refl _
  have hlen2 : O.came.length = s.length := hO2.len2
  rw [if_neg (by rw [hO1]; omega)]
  have hne : (fill x i (O.data, O.came)).2 ≠ [] := fun e => by
    have := (fill_len x i (O.data, O.came)).2
    rw [e] at this; simp only [List.length_nil] at this; omega
  refine ⟨_, rfl, ?_, hne, e1, e2, e3, e4, hfc, Nat.le_trans hO3 hoff⟩
  refine ⟨fun e => absurd e hne, fun _ => ⟨hO1, fill_holds s x i _ hO2 hx⟩, by simp only [e3]; exact h.len, ?_, ?_, ?_, ?_, ?_, ?_⟩
  · simp only [e2, e4]; exact h.le1
  · simp only [e4]; exact Nat.le_trans h.le2 (Nat.le_trans hO3 hoff)
  · simp only [e3, e2, e1]; exact h.recs
  · simp only [e3]; exact h.mono
  · simp only [e3, e2]; exact h.dat
  · simp only [e3, e4]; exact h.vw
theorem inv_offer_le (s : List UInt8) (R : Rec) (h : Inv s R) : R.offer ≤ s.length := by
  unfold Rec.offer
  by_cases hc : R.came = []
  · rw [hc]; exact Nat.zero_le _
  · have := (h.some_ hc).2.len2
    simp only at this
    have := offer_le R.came
    omega
theorem inv_save (s : List UInt8) (R : Rec) (h : Inv s R) : Inv s R.save := by
  have hle := h.le2
  have key : ∀ j, j < R.offer → ∀ q, q = j / 32 → ((R.data.drop (32 * q)).take (min R.offer (32 * q + 32) - 32 * q))[j % 32]? = s[j]? := by
    rintro j hj q rfl
    have hc : R.came ≠ [] := fun e => by unfold Rec.offer at hj; rw [e] at hj; simp [Recv.offer] at hj
    rw [List.getElem?_take_of_lt (by omega), List.getElem?_drop, show 32 * (j / 32) + j % 32 = j by omega]
    exact (h.some_ hc).2.at_ j (offer_true _ _ hj)
  have hnx : ∀ q, R.save.disk.next (2 + q) = if R.saved / 32 * 32 / 32 ≤ q ∧ 32 * q < R.offer then some (pad ((R.data.drop (32 * q)).take (min R.offer (32 * q + 32) - 32 * q))) else R.disk.next (2 + q) := fun q =>
    saveTo_next _ _ _ _ _ (by omega) (by omega) q
  have hpad : ∀ j, j < R.offer → (pad ((R.data.drop (32 * (j / 32))).take (min R.offer (32 * (j / 32) + 32) - 32 * (j / 32)))).data.toList[j % 32]? = s[j]? := fun j hj => by
    rw [pad_list]
    have hk := key j hj _ rfl
    have hs : j < s.length := Nat.lt_of_lt_of_le hj (inv_offer_le s R h)
    rw [List.getElem?_eq_getElem hs] at hk ⊢
    rw [List.getElem?_append_left (List.getElem?_eq_some_iff.1 hk).1]
    exact hk
  have hlow : ∀ i, i < 2 → ∀ x, Ver R.save.disk i x → Ver R.disk i x := fun i hi x hx => by
    rcases hx with hx | hx
    · exact .inl (by have e := saveTo_safe R.data R.offer R.offer (R.saved / 32 * 32) R.disk; rw [← e]; exact hx)
    · exact .inr (by rw [← saveTo_low R.data R.offer R.offer (R.saved / 32 * 32) R.disk i hi]; exact hx)
  have hsf : R.save.disk.safe = R.disk.safe := saveTo_safe ..
  refine ⟨fun e => ?_, h.some_, by rw [hsf]; exact h.len, Nat.le_trans h.le1 hle, Nat.le_refl _, fun i x m nm t c hi hx hr => h.recs i x m nm t c hi (hlow i hi x hx) hr, fun x y m nm t c m' nm' t' c' hx hy => h.mono x y m nm t c m' nm' t' c' (hlow 0 (by omega) x hx) (hlow 1 (by omega) y hy), fun j x hj hx => ?_, fun j hj x hx => ?_⟩
  · obtain ⟨a, b, c, d⟩ := h.none_ e
    refine ⟨a, ?_, c, d⟩
    show R.offer = 0
    unfold Rec.offer
    have e : R.came = [] := e
    rw [e]; rfl
  · have hj : j < R.safe := hj
    rcases hx with hx | hx
    · exact h.dat j x hj (.inl (hsf ▸ hx))
    · rw [hnx] at hx
      split at hx
      · injection hx with hx
        rw [← hx]
        exact hpad j (by have := h.le1; omega)
      · exact h.dat j x hj (.inr hx)
  · have hj : j < R.offer := hj
    unfold Disk.St.view at hx
    rw [hsf, hnx] at hx
    split at hx
    · rename_i hlt
      by_cases hq : R.saved / 32 * 32 / 32 ≤ j / 32 ∧ 32 * (j / 32) < R.offer
      · rw [if_pos hq] at hx
        simp only at hx
        injection hx with hx
        rw [← hx]
        exact hpad j hj
      · rw [if_neg hq] at hx
        refine h.vw j (by omega) x ?_
        unfold Disk.St.view
        rw [if_pos hlt]
        exact hx
    · cases hx
theorem inv_flush (s : List UInt8) (R : Rec) (h : Inv s R) (hcl : True) : Inv s R.flush := by
  have hv : ∀ i x, Ver R.disk.sync i x → Ver R.disk i x := fun i x hx => ver_crash _ _ _ _ hx
  refine ⟨fun e => ?_, h.some_, (Disk.crash_len _ _).trans h.len, Nat.le_refl _, h.le2, fun i x m nm t c hi hx hr => ?_, fun x y m nm t c m' nm' t' c' hx hy => h.mono x y m nm t c m' nm' t' c' (hv 0 x hx) (hv 1 y hy), fun j x hj hx => ?_, fun j hj x hx => ?_⟩
  · obtain ⟨a, b, c, d⟩ := h.none_ e
    exact ⟨a, b, b, d⟩
  · obtain ⟨a, b, c', d, e, f⟩ := h.recs i x m nm t c hi (hv i x hx) hr
    exact ⟨a, b, c', d, e, Nat.le_trans f h.le1⟩
  · have hj : j < R.saved := hj
    refine h.vw j hj x ?_
    rw [← Disk.view_sync]
    have hx : Ver (R.disk.crash fun _ => true) (2 + j / 32) x := hx
    refine (view_crash' _ _ _ _).2 ⟨hx, ?_⟩
    rcases hx with hx | hx
    · have := (List.getElem?_eq_some_iff.1 hx).1
      rw [Disk.crash_len] at this
      exact this
    · cases hx
  · rw [show R.flush.disk.view (2 + j / 32) = R.disk.view (2 + j / 32) from Disk.view_sync _ _] at hx
    exact h.vw j hj x hx
theorem marked_len (m nm t c : Nat) (hm : m < 18446744073709551616) (ht : t ≤ 4096) (hc : c ≤ 4096) : (marked m nm t c).length ≤ 32 := by
  have h1 := Vary.put_len m hm
  have h2 : (Vary.put t).length ≤ 2 := by
    by_cases h : t < 128
    · rw [Vary.put_small h]; simp
    · rw [Vary.put_big h, Vary.put_small (by omega)]; simp
  have h3 : (Vary.put c).length ≤ 2 := by
    by_cases h : c < 128
    · rw [Vary.put_small h]; simp
    · rw [Vary.put_big h, Vary.put_small (by omega)]; simp
  unfold marked
  rw [Crc.seal_len']
  simp only [List.length_cons, List.length_append, Chunk.four_len]
  omega
theorem inv_mark (s : List UInt8) (R : Rec) (h : Inv s R) (hm : R.mark ≤ 1125899906842624) (hsl : s.length ≤ 4096) : Inv s R.marks := by
  unfold Rec.marks
  by_cases hc : R.came = []
  · rw [if_pos hc]; exact h
  rw [if_neg hc]
  obtain ⟨hn, hH⟩ := h.some_ hc
  have hl2 : R.came.length = s.length := hH.len2
  have hpos : 0 < s.length := by
    rw [← hl2]; exact List.length_pos_iff.2 hc
  have hcs : R.safe ≤ s.length := Nat.le_trans h.le1 (Nat.le_trans h.le2 (inv_offer_le s R h))
  have hrec : record (pad (marked R.mark R.name R.came.length R.safe)).data.toList = some (R.mark, Crc.sum s, s.length, R.safe) := by
    rw [pad_list, hn, hl2]
    exact record_marked _ _ _ _ _ hm (Crc.sum_lt _) hpos hsl hcs
  generalize hp : pad (marked R.mark R.name R.came.length R.safe) = X at *
  have hver : ∀ i x, Ver (R.disk.write (R.mark % 2) X) i x → Ver R.disk i x ∨ i = R.mark % 2 ∧ x = X := fun i x hx => by
    rcases hx with hx | hx
    · exact .inl (.inl hx)
    · simp only [Disk.St.write] at hx
      split at hx
      · injection hx with hx
        exact .inr ⟨‹_›, hx.symm⟩
      · exact .inl (.inr hx)
  refine ⟨fun e => absurd e hc, h.some_, h.len, h.le1, h.le2, fun i x m nm t c hi hx hr => ?_, fun x y m nm t c m' nm' t' c' hx hy hrx hry => ?_, fun j x hj hx => ?_, fun j hj x hx => ?_⟩
  · rcases hver i x hx with hx | ⟨rfl, rfl⟩
    · obtain ⟨a, b, c', d, e, f⟩ := h.recs i x m nm t c hi hx hr
      exact ⟨a, b, c', Nat.lt_succ_of_lt d, e, f⟩
    · rw [hrec] at hr
      injection hr with hr
      injection hr with r1 hr
      injection hr with r2 hr
      injection hr with r3 r4
      subst r1 r2 r3 r4
      exact ⟨rfl, rfl, hcs, Nat.lt_succ_self _, rfl, Nat.le_refl _⟩
  · rcases hver 0 x hx with hx | ⟨e0, rfl⟩
    · have p1 := h.recs 0 x m nm t c (by omega) hx hrx
      rcases hver 1 y hy with hy | ⟨e1, rfl⟩
      · exact h.mono x y m nm t c m' nm' t' c' hx hy hrx hry
      · rw [hrec] at hry
        injection hry with hr
        injection hr with r1 hr
        injection hr with r2 hr
        injection hr with r3 r4
        exact ⟨fun _ => by omega, fun hlt => by omega⟩
    · rw [hrec] at hrx
      injection hrx with hr
      injection hr with r1 hr
      injection hr with r2 hr
      injection hr with r3 r4
      rcases hver 1 y hy with hy | ⟨e1, rfl⟩
      · have p2 := h.recs 1 y m' nm' t' c' (by omega) hy hry
        exact ⟨fun hlt => by omega, fun _ => by omega⟩
      · omega
  · rcases hver _ x hx with hx | ⟨e, _⟩
    · exact h.dat j x hj hx
    · omega
  · refine h.vw j hj x ?_
    rw [← hx]
    show _ = (R.disk.write (R.mark % 2) X).view (2 + j / 32)
    rw [Disk.view_write, if_neg (by omega)]
/-- Of both records the later one. -/
theorem best_spec (d : Disk.St ByteArray) : (best d = (0, 0, 0, 0) ∧ seen d 0 = none ∧ seen d 1 = none) ∨ ∃ i m nm t c, i < 2 ∧ seen d i = some (m, nm, t, c) ∧ best d = (m + 1, nm, t, c) ∧ ∀ j r, j < 2 → seen d j = some r → r.1 ≤ m := by
  unfold best
  have two : ∀ j, j < 2 → j = 0 ∨ j = 1 := fun j hj => by omega
  cases h0 : seen d 0 with
  | none =>
    cases h1 : seen d 1 with
    | none => exact .inl ⟨rfl, rfl, rfl⟩
    | some r =>
      obtain ⟨m, nm, t, c⟩ := r
      refine .inr ⟨1, m, nm, t, c, by omega, h1, ?_, fun j r hj hr => ?_⟩
      · simp [better]
      · rcases two j hj with rfl | rfl
        · rw [h0] at hr; cases hr
        · rw [h1] at hr; injection hr with hr; rw [← hr]; exact Nat.le_refl _
  | some r0 =>
    obtain ⟨m, nm, t, c⟩ := r0
    cases h1 : seen d 1 with
    | none =>
      refine .inr ⟨0, m, nm, t, c, by omega, h0, ?_, fun j r hj hr => ?_⟩
      · simp [better]
      · rcases two j hj with rfl | rfl
        · rw [h0] at hr; injection hr with hr; rw [← hr]; exact Nat.le_refl _
        · rw [h1] at hr; cases hr
    | some r1 =>
      obtain ⟨m', nm', t', c'⟩ := r1
      by_cases hlt : m < m'
      · refine .inr ⟨1, m', nm', t', c', by omega, h1, ?_, fun j r hj hr => ?_⟩
        · simp [better, hlt]
        · rcases two j hj with rfl | rfl
          · rw [h0] at hr; injection hr with hr; rw [← hr]; simp only; omega
          · rw [h1] at hr; injection hr with hr; rw [← hr]; exact Nat.le_refl _
      · refine .inr ⟨0, m, nm, t, c, by omega, h0, ?_, fun j r hj hr => ?_⟩
        · simp [better, hlt]
        · rcases two j hj with rfl | rfl
          · rw [h0] at hr; injection hr with hr; rw [← hr]; exact Nat.le_refl _
          · rw [h1] at hr; injection hr with hr; rw [← hr]; simp only; omega
theorem offer_back (c k : Nat) : offer (List.replicate c true ++ List.replicate k false) = c := by
  refine offer_eq _ _ (by simp) (fun j hj => ?_) fun _ => ?_
  · rw [List.getElem?_append_left (by simpa using hj), List.getElem?_replicate, if_pos hj]
  · rw [List.getElem?_append_right (by simp), List.getElem?_replicate]
    split <;> simp
theorem crash_offer (keep : Nat → Bool) (R : Rec) : (R.crash keep).offer = (R.crash keep).safe ∧ (R.crash keep).saved = (R.crash keep).safe := ⟨offer_back _ _, rfl⟩
/-- What lasts is told by the later record. -/
theorem seen_ver (d : Disk.St ByteArray) (i : Nat) (r : Nat × Nat × Nat × Nat) (h : seen d i = some r) : ∃ x, Ver d i x ∧ record x.data.toList = some r := by
  unfold seen at h
  cases hv : d.view i with
  | none => rw [hv] at h; cases h
  | some x => rw [hv] at h; exact ⟨x, view_ver _ _ _ hv, h⟩
theorem inv_crash (s : List UInt8) (R : Rec) (h : Inv s R) (keep : Nat → Bool) (hs : s.length ≤ 4096) : Inv s (R.crash keep) ∧ (R.crash keep).safe ≤ R.safe ∧ (R.crash keep).mark ≤ R.mark := by
  have hd : (R.crash keep).disk = R.disk.crash keep := rfl
  have hlen : (R.disk.crash keep).safe.length = 140 := (Disk.crash_len _ _).trans h.len
  have hvl : ∀ i, i < 140 → ∃ x, (R.disk.crash keep).view i = some x := fun i hi => by
    rw [Disk.view_crash, if_pos (by rw [h.len]; exact hi)]
    exact ⟨_, List.getElem?_eq_getElem (by rw [hlen]; exact hi)⟩
  have hseen : ∀ i x r, i < 2 → Ver (R.disk.crash keep) i x → record x.data.toList = some r → seen (R.disk.crash keep) i = some r := fun i x r hi hx hr => by
    unfold seen
    rw [(view_crash' keep R.disk i x).2 ⟨hx, by rw [h.len]; omega⟩]
    exact hr
  rcases best_spec (R.disk.crash keep) with ⟨hb, h0, h1⟩ | ⟨i, m, nm, t, c, hi, hsi, hb, hmax⟩
  · have e : R.crash keep = ⟨0, [], [], 0, 0, 0, R.disk.crash keep⟩ := by unfold Rec.crash; simp only [hb]; rfl
    rw [e]
    refine ⟨⟨fun _ => ⟨rfl, rfl, rfl, rfl⟩, fun e => absurd rfl e, hlen, Nat.le_refl _, Nat.zero_le _, fun i x m nm t c hi hx hr => ?_, fun x y m nm t c m' nm' t' c' hx hy hrx hry => ?_, fun j x hj => absurd hj (Nat.not_lt_zero _), fun j hj => absurd hj (Nat.not_lt_zero _)⟩, Nat.zero_le _, Nat.zero_le _⟩
    · have := hseen i x _ hi hx hr
      rcases (show i = 0 ∨ i = 1 by omega) with rfl | rfl
      · rw [h0] at this; cases this
      · rw [h1] at this; cases this
    · have := hseen 0 x _ (by omega) hx hrx
      rw [h0] at this; cases this
  · obtain ⟨X, hX, hXr⟩ := seen_ver _ _ _ hsi
    obtain ⟨rn, rt, rct, rm, rmi, rc⟩ := h.recs i X m nm t c hi (ver_crash _ _ _ _ hX) hXr
    subst rn rt
    have hct : c ≤ s.length := rct
    have e : R.crash keep = ⟨Crc.sum s, backs (R.disk.crash keep) c ++ List.replicate (s.length - c) 0, List.replicate c true ++ List.replicate (s.length - c) false, c, c, m + 1, R.disk.crash keep⟩ := by unfold Rec.crash; simp only [hb]
    rw [e]
    have hvd : ∀ i x, Ver (R.disk.crash keep) i x → Ver R.disk i x := fun i x hx => ver_crash _ _ _ _ hx
    refine ⟨⟨fun e => ?_, fun _ => ⟨rfl, ?_, ?_, fun j hj => ?_⟩, hlen, Nat.le_refl _, ?_, fun i' x m' nm' t' c' hi' hx hr => ?_, fun x y m1 nm1 t1 c1 m2 nm2 t2 c2 hx hy hrx hry => h.mono x y m1 nm1 t1 c1 m2 nm2 t2 c2 (hvd 0 x hx) (hvd 1 y hy) hrx hry, fun j x hj hx => h.dat j x (Nat.lt_of_lt_of_le hj rc) (hvd _ x hx), fun j hj x hx => ?_⟩, rc, rm⟩
    · have := congrArg List.length e
      simp only [List.length_append, List.length_replicate, List.length_nil] at this
      have hc0 : c = 0 := by omega
      have hs0 : s.length = 0 := by omega
      exact absurd hXr (by
        intro hXr
        unfold record at hXr
        rw [hs0] at hXr
        repeat' split at hXr
        all_goals first | cases hXr | (injection hXr with hXr; simp only [Prod.mk.injEq] at hXr; omega))
    · simp only [List.length_append, backs, List.length_map, List.length_range, List.length_replicate]; omega
    · simp only [List.length_append, List.length_replicate]; omega
    · simp only at hj ⊢
      have hjc : j < c := by
        refine Nat.lt_of_not_le fun hge => ?_
        rw [List.getElem?_append_right (by simpa using hge), List.getElem?_replicate] at hj
        split at hj <;> cases hj
      rw [List.getElem?_append_left (by simpa [backs] using hjc)]
      have hjs : j < s.length := by omega
      obtain ⟨x, hx⟩ := hvl (2 + j / 32) (by omega)
      have hdat := h.dat j x (by omega) (hvd _ x (view_ver _ _ _ hx))
      unfold backs
      rw [List.getElem?_map, List.getElem?_range hjc]
      simp only [Option.map_some, hx, Option.bind_some, hdat]
      rw [List.getElem?_eq_getElem hjs]; rfl
    · show c ≤ offer _
      rw [offer_back]; exact Nat.le_refl _
    · obtain ⟨a1, a2, a3, a4, a5, a6⟩ := h.recs i' x m' nm' t' c' hi' (hvd _ x hx) hr
      have hmx := hmax i' _ hi' (hseen i' x _ hi' hx hr)
      simp only at hmx
      refine ⟨a1, a2, a3, Nat.lt_succ_of_le hmx, a5, ?_⟩
      show c' ≤ c
      rcases (show i = 0 ∨ i = 1 by omega) with rfl | rfl <;> rcases (show i' = 0 ∨ i' = 1 by omega) with rfl | rfl
      · have := hseen 0 x _ (by omega) hx hr
        rw [hsi] at this
        injection this with this
        simp only [Prod.mk.injEq] at this
        omega
      · exact (h.mono X x m _ _ c m' _ _ c' (hvd _ _ hX) (hvd _ _ hx) hXr hr).2 (by omega)
      · exact (h.mono x X m' _ _ c' m _ _ c (hvd _ _ hx) (hvd _ _ hX) hr hXr).1 (by omega)
      · have := hseen 1 x _ (by omega) hx hr
        rw [hsi] at this
        injection this with this
        simp only [Prod.mk.injEq] at this
        omega
    · have hj : j < c := hj
      exact h.dat j x (by omega) (hvd _ x (view_ver _ _ _ hx))
end Recv
end Go.Proofs.YtdpdnkjpjoccmaaDoor
/- Plain laws of who gets the pieces, part three: what lasts by a record. -/
namespace Go.Proofs.YtdpdnkjpjoccmaaDoor
namespace Recv
set_option linter.unusedVariables false
set_option linter.unusedSectionVars false
/-- So many bytes last by a record that is on the disk, and not written anew. -/
def Lasting (R : Rec) (v : Nat) : Prop := ∃ i x m nm t, i < 2 ∧ R.disk.safe[i]? = some x ∧ R.disk.next i = none ∧ record x.data.toList = some (m, nm, t, v)
/-- The same by the latest one. -/
def Latest (R : Rec) (v : Nat) : Prop := ∃ i x m nm t, i < 2 ∧ R.disk.safe[i]? = some x ∧ R.disk.next i = none ∧ record x.data.toList = some (m, nm, t, v) ∧ m + 1 = R.mark ∧ m % 2 = i
theorem Latest.lasting {R : Rec} {v : Nat} (h : Latest R v) : Lasting R v := by
  obtain ⟨i, x, m, nm, t, h1, h2, h3, h4, _⟩ := h
  exact ⟨i, x, m, nm, t, h1, h2, h3, h4⟩
theorem not_dirty {d : Disk.St ByteArray} {i : Nat} (h : d.next i = none) : i ∉ d.dirty := fun hm => by
  have := ((Disk.dirty_mem d i).1 hm).2
  rw [h] at this; cases this
theorem lasting_crash (s : List UInt8) (R : Rec) (h : Inv s R) (keep : Nat → Bool) (v : Nat) (hl : Lasting R v) : v ≤ (R.crash keep).safe := by
  obtain ⟨i, x, m, nm, t, hi, hx, hn, hr⟩ := hl
  have hs : seen (R.disk.crash keep) i = some (m, nm, t, v) := by
    unfold seen
    rw [Disk.view_crash, if_pos (by rw [h.len]; omega), Disk.crash_out _ _ _ (not_dirty hn), hx]
    exact hr
  have e : (R.crash keep).safe = (best (R.disk.crash keep)).2.2.2 := rfl
  rcases best_spec (R.disk.crash keep) with ⟨_, h0, h1⟩ | ⟨i', m', nm', t', c', hi', hsi, hb, hmax⟩
  · rcases (show i = 0 ∨ i = 1 by omega) with rfl | rfl
    · rw [h0] at hs; cases hs
    · rw [h1] at hs; cases hs
  · rw [e, hb]
    show v ≤ c'
    have hm := hmax i _ hi hs
    simp only at hm
    obtain ⟨X, hX, hXr⟩ := seen_ver _ _ _ hsi
    have hX := ver_crash _ _ _ _ hX
    have hx : Ver R.disk i x := .inl hx
    have p1 := h.recs i x m nm t v hi hx hr
    have p2 := h.recs i' X m' nm' t' c' hi' hX hXr
    rcases (show i = 0 ∨ i = 1 by omega) with rfl | rfl <;> rcases (show i' = 0 ∨ i' = 1 by omega) with rfl | rfl
    · rw [hs] at hsi
      injection hsi with hsi
      simp only [Prod.mk.injEq] at hsi
      omega
    · exact (h.mono x X m nm t v m' nm' t' c' hx hX hr hXr).1 (by omega)
    · exact (h.mono X x m' nm' t' c' m nm t v hX hx hXr hr).2 (by omega)
    · rw [hs] at hsi
      injection hsi with hsi
      simp only [Prod.mk.injEq] at hsi
      omega
theorem latest_save {R : Rec} {v : Nat} (h : Latest R v) : Latest R.save v := by
  obtain ⟨i, x, m, nm, t, h1, h2, h3, h4, h5, h6⟩ := h
  exact ⟨i, x, m, nm, t, h1, by rw [show R.save.disk.safe = R.disk.safe from saveTo_safe ..]; exact h2, by rw [show R.save.disk.next i = R.disk.next i from saveTo_low _ _ _ _ _ _ h1]; exact h3, h4, h5, h6⟩
theorem latest_flush {R : Rec} {v : Nat} (h : Latest R v) : Latest R.flush v := by
  obtain ⟨i, x, m, nm, t, h1, h2, h3, h4, h5, h6⟩ := h
  exact ⟨i, x, m, nm, t, h1, (Disk.crash_out _ _ _ (not_dirty h3)).trans h2, rfl, h4, h5, h6⟩
theorem latest_marks {R : Rec} {v : Nat} (h : Latest R v) : Lasting R.marks v := by
  unfold Rec.marks
  by_cases hc : R.came = []
  · rw [if_pos hc]; exact h.lasting
  · rw [if_neg hc]
    obtain ⟨i, x, m, nm, t, h1, h2, h3, h4, h5, h6⟩ := h
    refine ⟨i, x, m, nm, t, h1, h2, ?_, h4⟩
    show (if i = R.mark % 2 then _ else _) = none
    rw [if_neg (by omega)]; exact h3
/-- Behind a Sync what is there lasts. -/
theorem sync_latest (s : List UInt8) (R : Rec) (h : Inv s R) (hm : R.mark ≤ 1125899906842624) (hsl : s.length ≤ 4096) (hc : R.came ≠ []) : Latest R.save.flush.marks.flush R.offer := by
  have h2 := inv_flush s _ (inv_save s R h) trivial
  obtain ⟨hn, hH⟩ := h.some_ hc
  have hl2 : R.came.length = s.length := hH.len2
  have hpos : 0 < s.length := by rw [← hl2]; exact List.length_pos_iff.2 hc
  have hof := inv_offer_le s R h
  have hc2 : R.save.flush.came ≠ [] := hc
  have e : R.save.flush.marks = { R.save.flush with disk := R.save.flush.disk.write (R.mark % 2) (pad (marked R.mark R.name R.came.length R.offer)), mark := R.mark + 1 } := by unfold Rec.marks; rw [if_neg hc2]; rfl
  have hrec : record (pad (marked R.mark R.name R.came.length R.offer)).data.toList = some (R.mark, Crc.sum s, s.length, R.offer) := by
    rw [pad_list, hn, hl2]
    exact record_marked _ _ _ _ _ hm (Crc.sum_lt _) hpos hsl hof
  have hlen := h2.len
  rw [e]
  refine ⟨R.mark % 2, _, R.mark, _, _, Nat.mod_lt _ (by omega), ?_, rfl, hrec, rfl, rfl⟩
  have hv := Disk.view_sync (R.save.flush.disk.write (R.mark % 2) (pad (marked R.mark R.name R.came.length R.offer))) (R.mark % 2)
  rw [Disk.view_write, if_pos ⟨rfl, by rw [hlen]; omega⟩] at hv
  rw [← hv]
  unfold Disk.St.sync
  rw [Disk.view_crash, if_pos]
  · rfl
  · show R.mark % 2 < R.save.flush.disk.safe.length
    rw [hlen]; omega
theorem sync_same (R : Rec) : R.save.flush.marks.flush.offer = R.offer ∧ R.save.flush.marks.flush.safe = R.offer ∧ R.save.flush.marks.flush.saved = R.offer := by
  unfold Rec.marks
  split <;> exact ⟨rfl, rfl, rfl⟩
theorem marks_same (R : Rec) : R.marks.offer = R.offer ∧ R.marks.safe = R.safe ∧ R.marks.saved = R.saved ∧ R.marks.came = R.came := by
  unfold Rec.marks
  split <;> exact ⟨rfl, rfl, rfl, rfl⟩
theorem marks_le (R : Rec) : R.marks.mark ≤ R.mark + 1 := by
  unfold Rec.marks
  split
  · exact Nat.le_succ _
  · exact Nat.le_refl _
end Recv
end Go.Proofs.YtdpdnkjpjoccmaaDoor
