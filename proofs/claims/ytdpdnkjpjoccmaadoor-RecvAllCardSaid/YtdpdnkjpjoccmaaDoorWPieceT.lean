/- Pieces of a text: how many, how one is written, where its cells lie. -/
import Derived.Test.YtdpdnkjpjoccmaaDoorWTaken
namespace Go.Proofs.YtdpdnkjpjoccmaaDoor
open Go.RowKit
set_option linter.unusedVariables false
set_option linter.unusedSimpArgs false
theorem cuts_le' (s : ByteArray) (n : Nat) (h2 : s.size ≤ 4096) (h3 : 1 ≤ n) : Chunk.cuts s.size n ≤ 4096 := Nat.le_of_not_lt fun h => by
  have h5 := (Chunk.lt_cuts (n := s.size) (size := n) (k := 4096) h3).1 h
  have : 4096 * 1 ≤ 4096 * n := Nat.mul_le_mul_left _ h3
  omega
/-- A piece of a text is written. -/
theorem piece_written (s : ByteArray) (n i : Nat) (hi : i * n < s.size) (h2 : s.size ≤ 4096) (h3 : 1 ≤ n) (h4 : n ≤ 256) (W : World) : Calls Tryd.prog 15 #[.agg #[.int .u32 (Crc.sum s.data.toList), .int .i64 s.size, .int .i64 (i * n : Nat), .string (Chunk.pieceAt s n i).data]] W fun e w' => e = .returned (.tuple #[.string (lineAt s n i), .nilIface]) ∧ Below W.heap.size W w' :=
  chunk_write (Chunk.pieceAt s n i).name s.size (i * n) (Chunk.pieceAt s n i).data W (Chunk.pieceAt_name s n i) (Chunk.pieceAt_fine s n i hi h3 h4 h2)
/-- Where a piece's cells lie. -/
theorem pieces_cells {w : World} {v : Value} {s : ByteArray} {n c : Nat} (hv : ListIs pieceCells 4 w v (Chunk.pieces s n c)) : ∃ o cp, v = .slice o c cp ∧ ∀ k, k < c → ∃ b off, o = some ⟨b, off, none⟩ ∧ b < w.heap.size ∧ w.cell? ⟨b, off + k * 4, none⟩ = some (.int .u32 (Crc.sum s.data.toList)) ∧ w.cell? ⟨b, off + k * 4 + 1, none⟩ = some (.int .i64 s.size) ∧ w.cell? ⟨b, off + k * 4 + 2, none⟩ = some (.int .i64 (k * n : Nat)) ∧ w.cell? ⟨b, off + k * 4 + 3, none⟩ = some (.string (Chunk.pieceAt s n k).data) := by
  obtain ⟨o, cp, rfl, hca, hcell⟩ := hv.at pieceCells_len
  refine ⟨o, cp, by rw [Chunk.pieces_len], fun k hk => ?_⟩
  obtain ⟨b, off, e, hb, hc⟩ := hcell k (by rw [Chunk.pieces_len]; exact hk)
  rw [Chunk.pieces_get] at hc
  exact ⟨b, off, e, hb (by omega), piece_cells hc⟩
end Go.Proofs.YtdpdnkjpjoccmaaDoor
