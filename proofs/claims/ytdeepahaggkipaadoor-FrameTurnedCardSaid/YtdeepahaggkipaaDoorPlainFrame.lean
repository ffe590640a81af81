/- Frames in plain words: what is written, what is read. No program. -/
import Derived.Test.YtdeepahaggkipaaDoorWBody0
import Derived.Test.YtdeepahaggkipaaDoorPlainCut
import Derived.Test.YtdeepahaggkipaaDoorPlainLz
namespace Go.Proofs.YtdeepahaggkipaaDoor
namespace Frame
set_option linter.unusedVariables false
/-- A text in as few bytes as its tokens need. -/
def squeeze (S : List UInt8) : List UInt8 := Lz.write (Match.tokens S)
/-- What is kept of a body, and whether it is squeezed. -/
def kept (S : List UInt8) : UInt8 × List UInt8 := if (squeeze S).length < S.length then (1, squeeze S) else (0, S)
def inside (S : List UInt8) : List UInt8 := (kept S).1 :: (Vary.put S.length ++ (kept S).2)
/-- A frame of some version around a text. -/
def around (v : UInt8) (I : List UInt8) : List UInt8 := Crc.seal_ (80 :: 84 :: v :: I)
def write (f h : List Vec.Entry) (ws : List Wr) : List UInt8 := around 3 (inside (Body.write f h ws))
/-- A frame's version, or what is wrong. -/
def version (s : List UInt8) : Nat ⊕ Nat :=
  if s.length < 8 then .inl 7 else
  if s.take 2 ≠ [80, 84] then .inl 5 else
  if (s[2]?.getD 0).toNat < 1 ∨ 3 < (s[2]?.getD 0).toNat then .inl 8 else
  match Crc.opened s with
  | .inl e => .inl e
  | .inr _ => .inr (s[2]?.getD 0).toNat
/-- What is inside, of whatever version. -/
def text (s : List UInt8) : List UInt8 := (s.drop 3).take (s.length - 7)
theorem around_len (v : UInt8) (I : List UInt8) : (around v I).length = I.length + 7 := by
  unfold around
  rw [Crc.seal_len']
  simp only [List.length_cons]
theorem text_around (v : UInt8) (I : List UInt8) : text (around v I) = I := by
  unfold text
  rw [around_len, Nat.add_sub_cancel]
  unfold around Crc.seal_
  simp
theorem version_around (v : UInt8) (I : List UInt8) (h1 : 1 ≤ v.toNat) (h3 : v.toNat ≤ 3) (hI : 1 ≤ I.length) : version (around v I) = .inr v.toNat := by
  have hl := around_len v I
  have h2 : (around v I)[2]? = some v := by
    unfold around Crc.seal_
    simp
  have ht : (around v I).take 2 = [80, 84] := by
    unfold around Crc.seal_
    simp
  unfold version
  rw [if_neg (by omega), ht, if_neg (by simp), h2, Option.getD_some, if_neg (by omega)]
  unfold around
  rw [Crc.opened_seal]
theorem version_none (v : UInt8) (I : List UInt8) (h : v.toNat < 1 ∨ 3 < v.toNat) (hI : 1 ≤ I.length) : version (around v I) = .inl 8 := by
  have hl := around_len v I
  have h2 : (around v I)[2]? = some v := by
    unfold around Crc.seal_
    simp
  have ht : (around v I).take 2 = [80, 84] := by
    unfold around Crc.seal_
    simp
  unfold version
  rw [if_neg (by omega), ht, if_neg (by simp), h2, Option.getD_some, if_pos h]
/-- What is of some version is a frame around what is inside it. -/
theorem version_inv {s : List UInt8} {v : Nat} (h : version s = .inr v) : ∃ b : UInt8, b.toNat = v ∧ 1 ≤ v ∧ v ≤ 3 ∧ s = around b (text s) ∧ 8 ≤ s.length := by
  unfold version at h
  split at h
  · cases h
  rename_i h8
  split at h
  · cases h
  rename_i hpt
  split at h
  · cases h
  rename_i hv
  split at h
  · cases h
  rename_i t ht
  injection h with h
  have hs := Crc.opened_inv ht
  have hpt : s.take 2 = [80, 84] := by simpa using hpt
  obtain ⟨a, b, c, r, rfl⟩ : ∃ a b c r, s = a :: b :: c :: r := by
    match s, h8 with
    | a :: b :: c :: r, _ => exact ⟨a, b, c, r, rfl⟩
    | [], h => simp at h
    | [_], h => simp at h
    | [_, _], h => simp at h
  simp only [List.take_succ_cons, List.take_zero, List.cons.injEq, and_true] at hpt
  obtain ⟨rfl, rfl⟩ := hpt
  have hc : (([80, 84, c] ++ r : List UInt8)[2]?.getD 0) = c := by simp
  simp only [List.getElem?_cons_succ, List.getElem?_cons_zero, Option.getD_some] at h hv
  have hl : t.length + 4 = (80 :: 84 :: c :: r).length := by rw [← hs, Crc.seal_len']
  have htx : text (80 :: 84 :: c :: r) = t.drop 3 := by
    unfold text
    rw [← hs]
    unfold Crc.seal_
    rw [List.length_append, show (Crc.four (Crc.sum t)).length = 4 from rfl]
    rw [List.drop_append_of_le_length (by simp only [List.length_cons] at hl h8; omega)]
    rw [List.take_append_of_le_length (by rw [List.length_drop]; omega)]
    rw [List.take_of_length_le (by rw [List.length_drop]; omega)]
  have ht3 : t = 80 :: 84 :: c :: t.drop 3 := by
    have h3 : t.take 3 = [80, 84, c] := by
      have : (Crc.seal_ t).take 3 = t.take 3 := by
        unfold Crc.seal_
        rw [List.take_append_of_le_length (by simp only [List.length_cons] at hl h8; omega)]
      rw [← this, hs]
      rfl
    have := List.take_append_drop 3 t
    rw [h3] at this
    exact this.symm
  refine ⟨c, h, by omega, by omega, ?_, by omega⟩
  rw [htx]
  unfold around
  rw [← ht3, hs]
/-- The body that is packed in what is inside a frame of version 3. -/
def unpack (t : List UInt8) : Option (List UInt8) := match t with
  | [] => none
  | b :: r => if 1 < b.toNat then none else match Vary.int r 20000 with
    | .bad _ => none
    | .ok n k => match (if b.toNat = 1 then (Lz.read (r.drop k)).map (Match.text []) else some (r.drop k)) with
      | none => none
      | some z => if z.length ≠ n then none else some z
def packed (b : Bool) (S : List UInt8) : List UInt8 := if b = true then 1 :: (Vary.put S.length ++ squeeze S) else 0 :: (Vary.put S.length ++ S)
theorem inside_packed (S : List UInt8) : inside S = packed (decide ((squeeze S).length < S.length)) S := by
  unfold inside kept packed
  by_cases h : (squeeze S).length < S.length
  · simp only [if_pos h, decide_eq_true h, if_true]
  · simp only [if_neg h, decide_eq_false h, Bool.false_eq_true, if_false]
theorem read_squeeze (S : List UInt8) (h : S.length ≤ 20000) : (Lz.read (squeeze S)).map (Match.text []) = some S := by
  unfold squeeze
  rw [Lz.read_write _ (Match.tokens_right S h), Option.map_some, Match.tokens_text]
theorem unpack_packed (b : Bool) (S : List UInt8) (h : S.length ≤ 20000) : unpack (packed b S) = some S := by
  unfold packed
  have hi : ∀ R : List UInt8, Vary.int (Vary.put S.length ++ R) 20000 = .ok S.length (Vary.put S.length).length := fun R => Vec.int_put' S.length 20000 R (by omega) (by omega)
  cases b with
  | true =>
    rw [if_pos rfl]
    unfold unpack
    simp only
    rw [if_neg (by decide), hi]
    simp only
    rw [if_pos (by decide), List.drop_left, read_squeeze S h]
    simp
  | false =>
    rw [if_neg (by decide)]
    unfold unpack
    simp only
    rw [if_neg (by decide), hi]
    simp only
    rw [if_neg (by decide), List.drop_left]
    simp
theorem unpack_len {t S : List UInt8} (h : unpack t = some S) : S.length ≤ 20000 := by
  unfold unpack at h
  split at h
  · cases h
  · split at h
    · cases h
    · split at h
      · cases h
      · rename_i n k hi
        have := (Vec.int_get hi).2
        split at h
        · cases h
        · split at h
          · cases h
          · rename_i hn
            injection h with h
            subst h
            omega
/-- What is read, ahead of the last test. -/
def readB (s : List UInt8) : Option (List Vec.Entry × List Vec.Entry × List Wr) := match version s with
  | .inl _ => none
  | .inr v => if v ≠ 3 then none else match unpack (text s) with
    | none => none
    | some y => match Body.read y with
      | .error _ => none
      | .ok b => some b
theorem readB_packed (b : Bool) {f h : List Vec.Entry} {ws : List Wr} (hr : Bat.right f h ws = .ok) (hl : (Body.write f h ws).length ≤ 20000) : readB (around 3 (packed b (Body.write f h ws))) = some (f, h, ws) := by
  unfold readB
  have h1 : 1 ≤ (packed b (Body.write f h ws)).length := by unfold packed; split <;> simp
  rw [version_around 3 _ (by decide) (by decide) h1]
  simp only
  rw [if_neg (by decide), text_around, unpack_packed b _ hl]
  simp only
  rw [Body.read_write hr]
theorem readB_write {f h : List Vec.Entry} {ws : List Wr} (hr : Bat.right f h ws = .ok) (hl : (Body.write f h ws).length ≤ 20000) : readB (write f h ws) = some (f, h, ws) := by
  unfold write
  rw [inside_packed]
  exact readB_packed _ hr hl
/-- What is read is right, and has a body of no more than so many bytes. -/
theorem readB_ok {s : List UInt8} {f h : List Vec.Entry} {ws : List Wr} (hr : readB s = some (f, h, ws)) : Bat.right f h ws = .ok ∧ (Body.write f h ws).length ≤ 20000 := by
  unfold readB at hr
  split at hr
  · cases hr
  · split at hr
    · cases hr
    · split at hr
      · cases hr
      · rename_i y hy
        split at hr
        · cases hr
        · rename_i b hb
          injection hr with hr
          subst hr
          obtain ⟨h1, h2⟩ := Body.read_ok hb
          exact ⟨h1, by rw [h2]; exact unpack_len hy⟩
theorem write_len (f h : List Vec.Entry) (ws : List Wr) : (write f h ws).length = 8 + (Vary.put (Body.write f h ws).length).length + (if (squeeze (Body.write f h ws)).length < (Body.write f h ws).length then (squeeze (Body.write f h ws)).length else (Body.write f h ws).length) := by
  unfold write
  rw [around_len]
  unfold inside kept
  by_cases c : (squeeze (Body.write f h ws)).length < (Body.write f h ws).length
  · simp only [if_pos c, List.length_cons, List.length_append]; omega
  · simp only [if_neg c, List.length_cons, List.length_append]; omega
/-- The other way to pack it gives another frame. -/
theorem packed_ne (S : List UInt8) (b : Bool) : packed b S ≠ packed (!b) S := by
  cases b <;> simp [packed]
theorem around_inj {v : UInt8} {I J : List UInt8} (h : around v I = around v J) : I = J := by
  have := congrArg text h
  rwa [text_around, text_around] at this
end Frame
end Go.Proofs.YtdeepahaggkipaaDoor
