/- What the laws over chunk share. -/
import Derived.Test.YtdpdnkjpjoccmaaDoorWChunkR
import Derived.Test.YtdpdnkjpjoccmaaDoorWPick
namespace Go.Proofs.YtdpdnkjpjoccmaaDoor
open Go.RowKit
set_option linter.unusedVariables false
set_option linter.unusedSimpArgs false
def abcde : ByteArray := ⟨#[97, 98, 99, 100, 101]⟩
theorem piece_two : Chunk.pieceAt abcde 2 2 = ⟨Crc.sum abcde.data.toList, 5, 4, ⟨#[101]⟩⟩ := by
  unfold Chunk.pieceAt
  have e : abcde.extract (2 * 2) (min abcde.size (2 * 2 + 2)) = ⟨#[101]⟩ := by decide +kernel
  rw [e]; rfl
theorem write_head (c : Chunk.Piece) : (Chunk.write c).head? = some 67 := by
  unfold Chunk.write Chunk.inner Crc.seal_
  rfl
theorem write_size (c : Chunk.Piece) : (Chunk.write c).length = 9 + (Vary.put c.total.toNat).length + (Vary.put c.at_.toNat).length + c.data.size := by
  unfold Chunk.write
  rw [Crc.seal_len']
  unfold Chunk.inner
  simp only [List.length_cons, List.length_append, Chunk.four_len, Chunk.data_len]
  omega
/-- A list of pieces: the cells of one. -/
theorem piece_cells {w : World} {b off : Nat} {c : Chunk.Piece} {k : Nat} (h : ∀ i u, (pieceCells c)[i]? = some u → w.cell? ⟨b, off + k * 4 + i, none⟩ = some u) :
    w.cell? ⟨b, off + k * 4, none⟩ = some (.int .u32 c.name) ∧ w.cell? ⟨b, off + k * 4 + 1, none⟩ = some (.int .i64 c.total) ∧ w.cell? ⟨b, off + k * 4 + 2, none⟩ = some (.int .i64 c.at_) ∧ w.cell? ⟨b, off + k * 4 + 3, none⟩ = some (.string c.data) :=
  ⟨h 0 _ rfl, h 1 _ rfl, h 2 _ rfl, h 3 _ rfl⟩
set_option maxHeartbeats 4000000 in
set_option maxRecDepth 20000 in
theorem pieced (w : World) : Calls Tryd.prog 10 #[] w fun e w' => e = .returned (.bool true) ∧ Below w.heap.size w w' := by
  have hC := chunk_cut abcde 2 w (by decide) (by decide) (by decide) (by decide)
  have hcu : Chunk.cuts abcde.size 2 = 3 := rfl
  rw [hcu] at hC
  have hp0 : (Chunk.pieces abcde 2 3)[0]'(by rw [Chunk.pieces_len]; omega) = Chunk.pieceAt abcde 2 0 := Chunk.pieces_get _ _ _ _ _
  have hp2 : (Chunk.pieces abcde 2 3)[2]'(by rw [Chunk.pieces_len]; omega) = Chunk.pieceAt abcde 2 2 := Chunk.pieces_get _ _ _ _ _
  have hpl := Chunk.pieces_len abcde 2 3
  have ht0 : (Chunk.pieceAt abcde 2 0).total = 5 := rfl
  have hf := Chunk.pieceAt_fine abcde 2 2 (by decide) (by decide) (by decide) (by decide)
  rw [piece_two] at hp2 hf
  have hN := Crc.sum_lt abcde.data.toList
  generalize Crc.sum abcde.data.toList = N at *
  have hW := fun W => chunk_write N 5 4 ⟨#[101]⟩ W hN hf
  have hrw := Chunk.read_write ⟨N, 5, 4, ⟨#[101]⟩⟩ hf hN
  have hws := write_size ⟨N, 5, 4, ⟨#[101]⟩⟩
  have hwh := write_head ⟨N, 5, 4, ⟨#[101]⟩⟩
  have hp5 : (Vary.put (5 : Int).toNat).length = 1 := by rw [show (5 : Int).toNat = 5 from rfl, Vary.put_small (by omega)]; rfl
  have hp4 : (Vary.put (4 : Int).toNat).length = 1 := by rw [show (4 : Int).toNat = 4 from rfl, Vary.put_small (by omega)]; rfl
  simp only [hp5, hp4] at hws
  have hws : (Chunk.write ⟨N, 5, 4, ⟨#[101]⟩⟩).length = 12 := hws
  obtain ⟨B, hB⟩ : ∃ B : ByteArray, B = ⟨(Chunk.write ⟨N, 5, 4, ⟨#[101]⟩⟩).toArray⟩ := ⟨_, rfl⟩
  have hBl : B.data.toList = Chunk.write ⟨N, 5, 4, ⟨#[101]⟩⟩ := by rw [hB]
  have hBs : B.size = 12 := by rw [hB, ba_size]; exact hws
  have h1s : 0 < B.size := by rw [hBs]; omega
  have hi0 : (B[0]'h1s).toNat = 67 := by
    have e1 : B[0]'h1s = B.data.toList[0]'(by rw [hBl, hws]; omega) := by simp [ByteArray.getElem_eq_getElem_data]
    rw [e1]
    have : B.data.toList[0]? = some 67 := by rw [← List.head?_eq_getElem?, hBl, hwh]
    rw [List.getElem?_eq_some_iff] at this
    obtain ⟨_, h⟩ := this
    rw [h]; rfl
  have hR := fun W => chunk_read B W (by rw [hBs]; omega)
  rw [hBl, hrw] at hR
  have hW : ∀ W, Calls Tryd.prog 15 #[.agg #[.int .u32 N, .int .i64 5, .int .i64 4, .string ⟨#[101]⟩]] W fun e w' => e = .returned (.tuple #[.string B, .nilIface]) ∧ Below W.heap.size W w' := fun W => by rw [hB]; exact hW W
  have hR : ∀ W, Calls Tryd.prog 41 #[.string B] W fun e w' => e = .returned (.tuple #[.agg #[.int .u32 N, .int .i64 5, .int .i64 4, .string ⟨#[101]⟩], .nilIface]) ∧ Below W.heap.size W w' := hR
  clear hrw hws hwh hp5 hp4 hf hcu
  replace hB := Lib.hid hB
  replace hBl := Lib.hid hBl
  replace hW := Lib.hid hW
  replace hR := Lib.hid hR
  replace hC := Lib.hid hC
  have hj1 : (0 : Int) < (B.size : Int) := by omega
  have hNN : ((N : Int) == (N : Int)) = true := by simp
  go_enter Tryd.func10, Tryd.ntmps10
  go_wp2_with fail
  refine hC.out.mono ?_
  rintro _ w1 ⟨⟨v, rfl, hv⟩, hb1⟩
  obtain ⟨a, cap, rfl, hcap, hcell⟩ := hv.at pieceCells_len
  obtain ⟨b, off, rfl, hbw, hc0⟩ := hcell 0 (by rw [hpl]; omega)
  obtain ⟨b', off', he, -, hc2⟩ := hcell 2 (by rw [hpl]; omega)
  injection he with he
  injection he with he1 he2
  subst he1; subst he2
  rw [hp0] at hc0
  rw [hp2] at hc2
  obtain ⟨-, x1, -, -⟩ := piece_cells hc0
  obtain ⟨y0, y1, y2, y3⟩ := piece_cells hc2
  rw [ht0] at x1
  have hbw := hbw (by omega)
  clear hv hcell hc0 hc2 hcap hp0 hp2
  have hl3 : (Chunk.pieces abcde 2 3).length = 3 := hpl
  rw [hpl]
  simp only [Nat.zero_mul, Nat.add_zero, Nat.reduceMul] at x1 y0 y1 y2 y3
  go_wp2_with fail
  refine (hW.out _).mono ?_
  rintro _ w2 ⟨rfl, hb2⟩
  replace x1 := cell_below hb2 x1
  replace y0 := cell_below hb2 y0
  replace y1 := cell_below hb2 y1
  replace y2 := cell_below hb2 y2
  replace y3 := cell_below hb2 y3
  have hb3 := bch hb1 hb2
  go_wp2_with fail
  refine (hR.out _).mono ?_
  rintro _ w3 ⟨rfl, hb4⟩
  replace x1 := cell_below hb4 x1
  replace y0 := cell_below hb4 y0
  replace y1 := cell_below hb4 y1
  replace y2 := cell_below hb4 y2
  replace y3 := cell_below hb4 y3
  have hb5 := bch hb3 hb4
  clear hb1 hb2 hb3 hb4
  go_wp2_with fail
  have q9 := row_at #[.int .u32 N, .int .i64 5, .int .i64 4, .string ⟨#[101]⟩] 37 (rfl : w3.heap.size = w3.heap.size)
  have hb6 : Below w.heap.size w (w3.alloc (Obj.cells #[.int .u32 N, .int .i64 5, .int .i64 4, .string ⟨#[101]⟩] 37)) := bal hb5 _
  replace x1 := cell_alloc x1 (Obj.cells #[.int .u32 N, .int .i64 5, .int .i64 4, .string ⟨#[101]⟩] 37)
  replace y0 := cell_alloc y0 (Obj.cells #[.int .u32 N, .int .i64 5, .int .i64 4, .string ⟨#[101]⟩] 37)
  replace y1 := cell_alloc y1 (Obj.cells #[.int .u32 N, .int .i64 5, .int .i64 4, .string ⟨#[101]⟩] 37)
  replace y2 := cell_alloc y2 (Obj.cells #[.int .u32 N, .int .i64 5, .int .i64 4, .string ⟨#[101]⟩] 37)
  replace y3 := cell_alloc y3 (Obj.cells #[.int .u32 N, .int .i64 5, .int .i64 4, .string ⟨#[101]⟩] 37)
  generalize w3.alloc (Obj.cells #[.int .u32 N, .int .i64 5, .int .i64 4, .string ⟨#[101]⟩] 37) = W5 at *
  (have c0 := q9.cell 0; have c1 := q9.cell 1; have c2 := q9.cell 2; have c3 := q9.cell 3; simp only [List.set_cons_succ, List.set_cons_zero, List.getElem?_cons_zero, List.getElem?_cons_succ] at c0 c1 c2 c3)
  clear q9 hb5
  go_quiet (fail)
  go_wp2
  go_ret
  exact ⟨rfl, by (repeat (first | exact Below.refl _ _ | assumption | refine bal ?_ _ | refine bdr ?_ | refine bdn ?_ _ | refine bst ?_ (by first | assumption | exact Nat.le_refl _ | omega) _ | refine bch ?_ (by assumption)))⟩
end Go.Proofs.YtdpdnkjpjoccmaaDoor
