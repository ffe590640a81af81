/- A sealed text opened, as a plain function. -/
import Derived.Test.YtdpdnkjpjoccmaaDoorPlainBurst
import Derived.Test.YtdpdnkjpjoccmaaDoorPlainVary
namespace Go.Proofs.YtdpdnkjpjoccmaaDoor
namespace Crc
/-- A text without its sum, or what is wrong. -/
def opened (s : List UInt8) : Nat ⊕ List UInt8 :=
  if s.length < 4 then .inl 7 else if seal_ (s.take (s.length - 4)) = s then .inr (s.take (s.length - 4)) else .inl 15
theorem opened_seal (l : List UInt8) : opened (seal_ l) = .inr l := by
  have hl := seal_len' l
  have ht : (seal_ l).take ((seal_ l).length - 4) = l := by
    rw [hl, Nat.add_sub_cancel]; unfold seal_; exact List.take_left
  unfold opened
  rw [if_neg (by omega), ht, if_pos rfl]
theorem opened_inv {s t : List UInt8} (h : opened s = .inr t) : seal_ t = s := by
  unfold opened at h
  split at h
  · cases h
  · split at h
    · rename_i h2
      injection h with h; subst h; exact h2
    · cases h
end Crc
namespace Vary
theorem int_inv' {l : List UInt8} {m : Int} {n k : Nat} (h : int l m = .ok n k) : get l = .ok n k := by
  unfold int at h
  cases hg : get l with
  | bad e => rw [hg] at h; cases h
  | ok a b =>
    rw [hg] at h
    simp only at h
    split at h
    · cases h
    · exact h
end Vary
end Go.Proofs.YtdpdnkjpjoccmaaDoor
/- Plain laws of pieces: how one is written, read back, and cut. -/
namespace Go.Proofs.YtdpdnkjpjoccmaaDoor
namespace Chunk
structure Piece where
  name : Nat
  total : Int
  at_ : Int
  data : ByteArray
deriving DecidableEq
/-- What is wrong with a piece; 0: nothing. -/
def wrong (c : Piece) : Nat :=
  if c.total < 1 ∨ 4096 < c.total ∨ c.at_ < 0 ∨ c.total < c.at_ then 2
  else if c.data.size = 0 ∨ 256 < c.data.size then 4
  else if c.total - c.at_ < (c.data.size : Int) then 2 else 0
structure Fine (c : Piece) : Prop where
  t1 : 1 ≤ c.total
  t2 : c.total ≤ 4096
  a1 : 0 ≤ c.at_
  a2 : c.at_ ≤ c.total
  d1 : c.data.size ≠ 0
  d2 : c.data.size ≤ 256
  fit : (c.data.size : Int) ≤ c.total - c.at_
theorem fine_iff (c : Piece) : wrong c = 0 ↔ Fine c := by
  unfold wrong
  constructor
  · intro h
    split at h
    · cases h
    · split at h
      · cases h
      · split at h
        · cases h
        · exact ⟨by omega, by omega, by omega, by omega, by omega, by omega, by omega⟩
  · intro h
    obtain ⟨h1, h2, h3, h4, h5, h6, h7⟩ := h
    rw [if_neg (by omega), if_neg (by omega), if_neg (by omega)]
def inner (c : Piece) : List UInt8 := 67 :: (Crc.four c.name ++ (Vary.put c.total.toNat ++ (Vary.put c.at_.toNat ++ c.data.data.toList)))
def write (c : Piece) : List UInt8 := Crc.seal_ (inner c)
inductive Got where
  | ok (c : Piece)
  | bad (e : Nat)
/-- The number that four bytes are. -/
def le4 (l : List UInt8) : Nat := Crc.num (l.take 4)
theorem le4_lt (l : List UInt8) : le4 l < 4294967296 := by
  have h1 := Crc.num_lt (l.take 4)
  have h2 : 8 * (l.take 4).length ≤ 32 := by rw [List.length_take]; omega
  exact Nat.lt_of_lt_of_le h1 (Nat.pow_le_pow_right (n := 2) (by omega) h2)
/-- What lies behind the sum, if it is right. -/
def body (t : List UInt8) : Got :=
  if t.head? ≠ some 67 then .bad 5
  else if t.length < 5 then .bad 7
  else match Vary.int (t.drop 5) 4096 with
    | .bad e => .bad e
    | .ok n k => match Vary.int ((t.drop 5).drop k) 4096 with
      | .bad e => .bad e
      | .ok m j =>
        if wrong ⟨le4 (t.drop 1), n, m, ⟨(((t.drop 5).drop k).drop j).toArray⟩⟩ ≠ 0 then .bad (wrong ⟨le4 (t.drop 1), n, m, ⟨(((t.drop 5).drop k).drop j).toArray⟩⟩)
        else .ok ⟨le4 (t.drop 1), n, m, ⟨(((t.drop 5).drop k).drop j).toArray⟩⟩
def read (s : List UInt8) : Got :=
  match Crc.opened s with
  | .inl e => .bad e
  | .inr t => body t
theorem list_mk (s : ByteArray) : (⟨s.data.toList.toArray⟩ : ByteArray) = s := by cases s; simp
theorem mk_size (l : List UInt8) : (ByteArray.mk l.toArray).size = l.length := by simp [ByteArray.size]
theorem data_len (s : ByteArray) : s.data.toList.length = s.size := Array.length_toList
theorem four_len (n : Nat) : (Crc.four n).length = 4 := rfl
theorem inner_len (c : Piece) (h : Fine c) : (inner c).length ≤ 300 := by
  have h1 := Vary.put_len c.total.toNat (by have := h.t2; omega)
  have h2 := Vary.put_len c.at_.toNat (by have := h.t2; have := h.a2; omega)
  have h3 := data_len c.data
  have h4 := h.d2
  unfold inner
  simp only [List.length_cons, List.length_append, four_len]
  omega
theorem int_of_put (n : Nat) (m : Int) (r : List UInt8) (h : n < 18446744073709551616) (h0 : (n : Int) ≤ m) : Vary.int (Vary.put n ++ r) m = .ok n (Vary.put n).length :=
  Vary.int_ok (Vary.get_put n r h) (by omega)
/-- What is written is read. -/
theorem body_inner (c : Piece) (h : Fine c) (hn : c.name < 4294967296) : body (inner c) = .ok c := by
  have hf := (fine_iff c).2 h
  obtain ⟨h1, h2, h3, h4, h5, h6, h7⟩ := h
  have e5 : (inner c).drop 5 = Vary.put c.total.toNat ++ (Vary.put c.at_.toNat ++ c.data.data.toList) := by
    unfold inner
    rw [show (5 : Nat) = 4 + 1 from rfl, List.drop_succ_cons, List.drop_left' (four_len _)]
  have e1 : le4 ((inner c).drop 1) = c.name := by
    unfold inner le4
    rw [List.drop_succ_cons, List.drop_zero, List.take_left' (four_len _), Crc.num_four _ hn]
  have el : ¬ (inner c).length < 5 := by
    unfold inner
    simp only [List.length_cons, List.length_append, four_len]
    omega
  unfold body
  rw [if_neg (by simp [inner]), if_neg el, e5]
  simp only [int_of_put c.total.toNat 4096 _ (by omega) (by omega), List.drop_left, int_of_put c.at_.toNat 4096 _ (by omega) (by omega), e1]
  have e : (⟨c.name, (c.total.toNat : Int), (c.at_.toNat : Int), ⟨c.data.data.toList.toArray⟩⟩ : Piece) = c := by
    rw [list_mk]
    obtain ⟨a, b, d, f⟩ := c
    simp only [Piece.mk.injEq, true_and, and_true]
    simp only at h1 h3
    omega
  rw [e, if_neg (by omega)]
theorem read_write (c : Piece) (h : Fine c) (hn : c.name < 4294967296) : read (write c) = .ok c := by
  unfold read write
  rw [Crc.opened_seal]
  exact body_inner c h hn
/-- What is read is right, and written so. -/
theorem body_ok (t : List UInt8) (c : Piece) (h : body t = .ok c) : Fine c ∧ inner c = t ∧ c.name < 4294967296 := by
  unfold body at h
  by_cases h1 : t.head? ≠ some 67
  · rw [if_pos h1] at h; cases h
  · rw [if_neg h1] at h
    by_cases h2 : t.length < 5
    · rw [if_pos h2] at h; cases h
    · rw [if_neg h2] at h
      cases hi : Vary.int (t.drop 5) 4096 with
      | bad e => rw [hi] at h; cases h
      | ok n k =>
        rw [hi] at h
        simp only at h
        cases hj : Vary.int ((t.drop 5).drop k) 4096 with
        | bad e => rw [hj] at h; cases h
        | ok m j =>
          rw [hj] at h
          simp only at h
          by_cases hw : wrong ⟨le4 (t.drop 1), n, m, ⟨(((t.drop 5).drop k).drop j).toArray⟩⟩ ≠ 0
          · rw [if_pos hw] at h; cases h
          · rw [if_neg hw] at h
            injection h with h
            subst h
            have hf := (fine_iff _).1 (by omega : wrong ⟨le4 (t.drop 1), n, m, ⟨(((t.drop 5).drop k).drop j).toArray⟩⟩ = 0)
            have g1 := Vary.get_ok _ _ _ (Vary.int_inv' hi)
            have g2 := Vary.get_ok _ _ _ (Vary.int_inv' hj)
            match t, h1, h2 with
            | a :: b1 :: b2 :: b3 :: b4 :: r, h1, h2 =>
              have ha : a = 67 := by simpa using h1
              subst ha
              refine ⟨hf, ?_, ?_⟩
              · unfold inner
                have e4 : Crc.four (le4 (b1 :: b2 :: b3 :: b4 :: r)) = [b1, b2, b3, b4] := Crc.four_num [b1, b2, b3, b4] rfl
                simp only [List.drop_succ_cons, List.drop_zero] at g1 g2 ⊢
                rw [e4, Int.toNat_natCast, Int.toNat_natCast, g1.2.2.1, g2.2.2.1, List.take_append_drop, List.take_append_drop]
                rfl
              · exact le4_lt _
theorem write_read (s : List UInt8) (c : Piece) (h : read s = .ok c) : Fine c ∧ write c = s ∧ c.name < 4294967296 := by
  unfold read at h
  cases ho : Crc.opened s with
  | inl e => rw [ho] at h; cases h
  | inr t =>
    rw [ho] at h
    obtain ⟨h1, h2, h3⟩ := body_ok t c h
    refine ⟨h1, ?_, h3⟩
    unfold write
    rw [h2]; exact Crc.opened_inv ho
/-- A text in pieces of so many bytes. -/
def cut (nm total size : Nat) (l : List UInt8) (p : Nat) : Nat → List Piece
  | 0 => []
  | f + 1 => if p < l.length then ⟨nm, total, p, ⟨((l.drop p).take size).toArray⟩⟩ :: cut nm total size l (p + size) f else []
end Chunk
end Go.Proofs.YtdpdnkjpjoccmaaDoor
/- Plain laws of a text in pieces. -/
namespace Go.Proofs.YtdpdnkjpjoccmaaDoor
namespace Chunk
/-- How many pieces of so many bytes a text of so many has. -/
def cuts (n size : Nat) : Nat := (n + size - 1) / size
theorem lt_cuts {n size k : Nat} (hs : 1 ≤ size) : k < cuts n size ↔ k * size < n := by
  unfold cuts
  rw [Nat.lt_iff_add_one_le, Nat.le_div_iff_mul_le (by omega), Nat.add_mul]
  omega
/-- Piece number k of a text. -/
def pieceAt (s : ByteArray) (size k : Nat) : Piece := ⟨Crc.sum s.data.toList, s.size, (k * size : Nat), s.extract (k * size) (min s.size (k * size + size))⟩
def pieces (s : ByteArray) (size k : Nat) : List Piece := (List.range k).map (pieceAt s size)
theorem pieces_len (s : ByteArray) (size k : Nat) : (pieces s size k).length = k := by simp [pieces]
theorem pieces_get (s : ByteArray) (size k i : Nat) (h : i < (pieces s size k).length) : (pieces s size k)[i] = pieceAt s size i := by simp [pieces]
theorem pieces_succ (s : ByteArray) (size k : Nat) : pieces s size (k + 1) = pieces s size k ++ [pieceAt s size k] := by
  unfold pieces; rw [List.range_succ, List.map_append]; rfl
theorem pieces_all {s : ByteArray} {size k : Nat} (hs : 1 ≤ size) (h1 : s.size ≤ k * size) (h2 : k = 0 ∨ (k - 1) * size < s.size) : k = cuts s.size size := by
  have h3 : ¬ k < cuts s.size size := fun h => by have := (lt_cuts hs).1 h; omega
  rcases h2 with rfl | h2
  · omega
  · rcases Nat.eq_zero_or_pos k with rfl | hp
    · omega
    · have := (lt_cuts hs).2 h2
      omega
theorem pieceAt_size (s : ByteArray) (size k : Nat) (h : k * size < s.size) : (pieceAt s size k).data.size = min (s.size - k * size) size := by
  unfold pieceAt
  simp only [ByteArray.size_extract]
  omega
theorem pieceAt_fine (s : ByteArray) (size k : Nat) (h : k * size < s.size) (hs : 1 ≤ size) (hm : size ≤ 256) (hn : s.size ≤ 4096) : Fine (pieceAt s size k) := by
  have hz := pieceAt_size s size k h
  have e1 : (pieceAt s size k).total = s.size := rfl
  have e2 : (pieceAt s size k).at_ = (k * size : Nat) := rfl
  refine ⟨by omega, by omega, by omega, by omega, by omega, by omega, by omega⟩
theorem pieceAt_name (s : ByteArray) (size k : Nat) : (pieceAt s size k).name < 4294967296 := Crc.sum_lt _
/-- What stands ahead of piece k, and it, is what stands ahead of the next one. -/
theorem ahead_succ (s : ByteArray) (size k : Nat) (h : k * size < s.size) : s.extract 0 (k * size) ++ (pieceAt s size k).data = s.extract 0 (min s.size ((k + 1) * size)) := by
  unfold pieceAt
  simp only
  rw [Nat.add_mul, Nat.one_mul]
  apply ByteArray.ext
  rw [ByteArray.data_append, ByteArray.data_extract, ByteArray.data_extract, ByteArray.data_extract, Array.extract_append_extract]
  congr 1 <;> omega
theorem ahead_all (s : ByteArray) (k : Nat) (h : s.size ≤ k) : s.extract 0 k = s := by
  apply ByteArray.ext
  rw [ByteArray.data_extract]
  exact Array.extract_eq_self_of_le h
theorem write_len (c : Piece) (h : Fine c) : (write c).length ≤ 304 := by
  have := inner_len c h
  unfold write
  rw [Crc.seal_len']; omega
end Chunk
end Go.Proofs.YtdpdnkjpjoccmaaDoor
