/- Plain laws of a text in pieces. -/
import Derived.Test.YtdpdnkjpjoccmaaDoorPlainChunk
namespace Go.Proofs.YtdpdnkjpjoccmaaDoor
namespace Chunk
/-- How many pieces of so many bytes a text of so many has. -/
def cuts (n size : Nat) : Nat := (n + size - 1) / size
theorem lt_cuts {n size k : Nat} (hs : 1 ≤ size) : k < cuts n size ↔ k * size < n := by
  unfold cuts
  rw [Nat.lt_iff_add_one_le, Nat.le_div_iff_mul_le (by omega), Nat.add_mul]
  omega
/-- Piece number k of a text. -/
def pieceAt (s : ByteArray) (size k : Nat) : Piece := ⟨Crc.sum s.data.toList, s.size, (k * size : Nat), s.extract (k * size) (min s.size (k * size + size))⟩
def pieces (s : ByteArray) (size k : Nat) : List Piece := (List.range k).map (pieceAt s size)
theorem pieces_len (s : ByteArray) (size k : Nat) : (pieces s size k).length = k := by simp [pieces]
theorem pieces_get (s : ByteArray) (size k i : Nat) (h : i < (pieces s size k).length) : (pieces s size k)[i] = pieceAt s size i := by simp [pieces]
theorem pieces_succ (s : ByteArray) (size k : Nat) : pieces s size (k + 1) = pieces s size k ++ [pieceAt s size k] := by
  unfold pieces; rw [List.range_succ, List.map_append]; rfl
theorem pieces_all {s : ByteArray} {size k : Nat} (hs : 1 ≤ size) (h1 : s.size ≤ k * size) (h2 : k = 0 ∨ (k - 1) * size < s.size) : k = cuts s.size size := by
  have h3 : ¬ k < cuts s.size size := fun h => by have := (lt_cuts hs).1 h; omega
  rcases h2 with rfl | h2
  · omega
  · rcases Nat.eq_zero_or_pos k with rfl | hp
    · omega
    · have := (lt_cuts hs).2 h2
      omega
theorem pieceAt_size (s : ByteArray) (size k : Nat) (h : k * size < s.size) : (pieceAt s size k).data.size = min (s.size - k * size) size := by
  unfold pieceAt
  simp only [ByteArray.size_extract]
  omega
theorem pieceAt_fine (s : ByteArray) (size k : Nat) (h : k * size < s.size) (hs : 1 ≤ size) (hm : size ≤ 256) (hn : s.size ≤ 4096) : Fine (pieceAt s size k) := by
  have hz := pieceAt_size s size k h
  have e1 : (pieceAt s size k).total = s.size := rfl
  have e2 : (pieceAt s size k).at_ = (k * size : Nat) := rfl
  refine ⟨by omega, by omega, by omega, by omega, by omega, by omega, by omega⟩
theorem pieceAt_name (s : ByteArray) (size k : Nat) : (pieceAt s size k).name < 4294967296 := Crc.sum_lt _
/-- What stands ahead of piece k, and it, is what stands ahead of the next one. -/
theorem ahead_succ (s : ByteArray) (size k : Nat) (h : k * size < s.size) : s.extract 0 (k * size) ++ (pieceAt s size k).data = s.extract 0 (min s.size ((k + 1) * size)) := by
  unfold pieceAt
  simp only
  rw [Nat.add_mul, Nat.one_mul]
  apply ByteArray.ext
  rw [ByteArray.data_append, ByteArray.data_extract, ByteArray.data_extract, ByteArray.data_extract, Array.extract_append_extract]
  congr 1 <;> omega
theorem ahead_all (s : ByteArray) (k : Nat) (h : s.size ≤ k) : s.extract 0 k = s := by
  apply ByteArray.ext
  rw [ByteArray.data_extract]
  exact Array.extract_eq_self_of_le h
theorem write_len (c : Piece) (h : Fine c) : (write c).length ≤ 304 := by
  have := inner_len c h
  unfold write
  rw [Crc.seal_len']; omega
end Chunk
end Go.Proofs.YtdpdnkjpjoccmaaDoor
