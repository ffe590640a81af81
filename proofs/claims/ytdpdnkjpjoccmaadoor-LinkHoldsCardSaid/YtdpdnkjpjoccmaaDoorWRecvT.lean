/- What recv's Take does to who gets pieces of one text. -/
import Derived.Test.YtdpdnkjpjoccmaaDoorWTakeR
import Derived.Test.YtdpdnkjpjoccmaaDoorWChunkR
import Derived.Test.YtdpdnkjpjoccmaaDoorPlainRecv4
namespace Go.Proofs.YtdpdnkjpjoccmaaDoor
open Go.RowKit
set_option linter.unusedVariables false
set_option linter.unusedSimpArgs false
theorem ListIs.only {α : Type} {f : α → List Value} {sz : Nat} {w w' : World} {v : Value} {l : List α} {S : Nat → Prop} (h : ListIs f sz w v l) (ho : Only S w w') (hn : ∀ k, v.ownBlock = some k → ¬ S k) : ListIs f sz w' v l := by
  refine ⟨h.1, ?_⟩
  rcases h.2 with h2 | ⟨h0, b, off, cap, rfl, h3, h4, h5⟩
  · exact .inl h2
  · exact .inr ⟨h0, b, off, cap, rfl, h3, h4, fun j hj => ho.cell (h5 j hj) (hn b rfl)⟩
theorem ListIs.own_lt {α : Type} {f : α → List Value} {sz : Nat} {w : World} {v : Value} {l : List α} (h : ListIs f sz w v l) (hf : ∀ x, (f x).length = sz) (hsz : 0 < sz) (h0 : 0 < l.length) : ∀ k, v.ownBlock = some k → k < w.heap.size := by
  obtain ⟨a, cap, rfl, _, hc⟩ := h.at hf
  obtain ⟨b, off, rfl, hb, _⟩ := hc 0 h0
  intro k hk
  have : b = k := by simpa [Value.ownBlock] using hk
  rw [← this]; exact hb hsz
def lineAt (s : ByteArray) (n i : Nat) : ByteArray := ⟨(Chunk.write (Chunk.pieceAt s n i)).toArray⟩
theorem str_snoc (T : List ByteArray) (x : ByteArray) : (T ++ [x]).flatMap strCells = T.flatMap strCells ++ [.string x] := by rw [List.flatMap_append]; rfl
theorem piece_cells' {w : World} {b off : Nat} {c : Chunk.Piece} {k : Nat} (h : ∀ i u, (pieceCells c)[i]? = some u → w.cell? ⟨b, off + k * 4 + i, none⟩ = some u) :
    w.cell? ⟨b, off + k * 4, none⟩ = some (.int .u32 c.name) ∧ w.cell? ⟨b, off + k * 4 + 1, none⟩ = some (.int .i64 c.total) ∧ w.cell? ⟨b, off + k * 4 + 2, none⟩ = some (.int .i64 c.at_) ∧ w.cell? ⟨b, off + k * 4 + 3, none⟩ = some (.string c.data) :=
  ⟨h 0 _ rfl, h 1 _ rfl, h 2 _ rfl, h 3 _ rfl⟩
theorem line_size (s : ByteArray) (n i : Nat) (h : i * n < s.size) (hs : 1 ≤ n) (hm : n ≤ 256) (hn : s.size ≤ 4096) : (lineAt s n i).size ≤ 304 := by
  unfold lineAt
  rw [ba_size]
  exact Chunk.write_len _ (Chunk.pieceAt_fine s n i h hs hm hn)
theorem line_data (s : ByteArray) (n i : Nat) : (lineAt s n i).data.toList = Chunk.write (Chunk.pieceAt s n i) := rfl
/-- A piece of the text is taken. -/
theorem recv_take_got (w : World) (p m : Nat) (O : Nat → Prop) (R : Recv.Rec) (hR : RecvIs w p O m R) (s : ByteArray) (n i : Nat) (hI : Recv.Inv s.data.toList R) (h1 : s.size ≠ 0) (h2 : s.size ≤ 4096) (h3 : 1 ≤ n) (h4 : n ≤ 256) (hi : i * n < s.size) (x : ByteArray) (hx : x.data.toList = Chunk.write (Chunk.pieceAt s n i)) :
    Calls Tryd.prog 16 #[.pointer (some ⟨p, 0, none⟩), .string x] w fun e w' => e = .returned .nilIface ∧ ∃ O', RecvIs w' p O' m (Link.got s n R i) ∧ Only O w w' ∧ ∀ k, O' k → O k ∨ w.heap.size ≤ k := by
  have hf := Chunk.pieceAt_fine s n i hi h3 h4 h2
  have hn := Chunk.pieceAt_name s n i
  have hrd : Chunk.read x.data.toList = .ok ⟨(Chunk.pieceAt s n i).name, (s.size : Nat), ((i * n : Nat) : Int), (Chunk.pieceAt s n i).data⟩ := by rw [hx]; exact Chunk.read_write _ hf hn
  have hsz : x.size ≤ 1000000 := by
    have h5 := Chunk.write_len _ hf
    rw [← hx, Array.length_toList] at h5
    have : x.data.size = x.size := rfl
    omega
  obtain ⟨g1, g2, _⟩ := Link.got_spec s n R hI h1 i
  have e1 : (Chunk.pieceAt s n i).name = Crc.sum s.data.toList := rfl
  rw [e1] at hrd
  have hf' : Chunk.Fine ⟨Crc.sum s.data.toList, (s.size : Nat), ((i * n : Nat) : Int), (Chunk.pieceAt s n i).data⟩ := hf
  by_cases h0 : R.came = []
  · refine (recv_take_open w p m O R hR x hsz _ s.size (i * n) _ hrd (Crc.sum_lt _) hf' h0).mono ?_
    rintro e w' ⟨he, O', R', hR', hr, ho, hO⟩
    rw [g1] at hR'
    injection hR' with hR'
    rw [← hR'] at hr
    exact ⟨he, O', hr, ho, hO⟩
  · obtain ⟨q1, q2⟩ := hI.some_ h0
    have q3 := q2.len2
    rw [Link.size_len] at q3
    refine (recv_take_more w p m O R hR x hsz _ s.size (i * n) _ hrd (Crc.sum_lt _) hf' h0 q1 q3).mono ?_
    rintro e w' ⟨he, O', R', hR', hr, ho, hO⟩
    rw [g1] at hR'
    injection hR' with hR'
    rw [← hR'] at hr
    exact ⟨he, O', hr, ho, hO⟩
end Go.Proofs.YtdpdnkjpjoccmaaDoor
