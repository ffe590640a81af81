/- The closure of RecvMixed: a piece is taken, of whatever size. -/
import Derived.Test.YtdpdnkjpjoccmaaDoorWTaken
namespace Go.Proofs.YtdpdnkjpjoccmaaDoor
open Go.RowKit
set_option linter.unusedVariables false
set_option linter.unusedSimpArgs false
namespace Recv
/-- The flags behind a piece: k from a on are true. -/
def fillT (F : List Bool) (a : Nat) : Nat → List Bool
  | 0 => F
  | k + 1 => (fillT F a k).set (a + k) true
theorem fillT_len (F : List Bool) (a k : Nat) : (fillT F a k).length = F.length := by
  induction k with
  | zero => rfl
  | succ k ih => unfold fillT; rw [List.length_set, ih]
theorem fillT_getD (F : List Bool) (a k : Nat) (h : a + k ≤ F.length) (j : Nat) : (fillT F a k).getD j false = (F.getD j false || decide (a ≤ j ∧ j < a + k)) := by
  induction k with
  | zero => unfold fillT; rw [decide_eq_false (by omega), Bool.or_false]
  | succ k ih =>
    unfold fillT
    rw [set_getD _ _ _ (by rw [fillT_len]; omega), ih (by omega), Bool.or_assoc]
    congr 1
    rw [Bool.eq_iff_iff]
    simp only [Bool.or_eq_true, decide_eq_true_eq]
    omega
/-- A piece comes: its bytes are there. -/
theorem has_fill (s : ByteArray) (R : Rec) (F : List Bool) (hF : F.length = s.size) (h : Has s R (fun j => F.getD j false)) (hs : s.size ≠ 0) (n i : Nat) (hn : 1 ≤ n) (hi : i * n < s.size) :
    Has s (Link.got s n R i) (fun j => (fillT F (i * n) (Chunk.pieceAt s n i).data.size).getD j false) ∧ (Link.got s n R i).came ≠ [] := by
  obtain ⟨g1, g2, _, _⟩ := has_got s R _ h hs n i hn hi
  have hl := Link.piece_list_len s n i hi
  have hz : (Chunk.pieceAt s n i).data.size = (Chunk.pieceAt s n i).data.data.toList.length := by
    rw [← Link.size_len]
  refine ⟨has_congr g1 (fun j hj => ?_), g2⟩
  rw [fillT_getD _ _ _ (by rw [hz, hl, hF]; omega)]
  congr 1
  rw [Bool.eq_iff_iff]
  simp only [decide_eq_true_eq]
  rw [hz]
  exact (in_piece s n i j hn hi hj).symm
theorem flags_offer (s : ByteArray) (R : Rec) (F : List Bool) (hF : F.length = s.size) (h : Has s R (fun j => F.getD j false)) : R.offer = offer F := by
  rw [has_offer s R _ h]
  congr 1
  apply List.ext_getElem?
  intro j
  by_cases hj : j < s.size
  · rw [bytesOf_get _ _ _ hj, List.getElem?_eq_getElem (by omega)]
    simp [List.getD, List.getElem?_eq_getElem (show j < F.length by omega)]
  · rw [List.getElem?_eq_none (by rw [bytesOf_len]; omega), List.getElem?_eq_none (by omega)]
/-- All pieces up to one came: so far at least. -/
theorem fill_upto (s : ByteArray) (n k : Nat) (F : List Bool) (hF : F.length = s.size) (hn : 1 ≤ n) (hi : k * n < s.size) (h : ∀ j, j < k * n → j < s.size → F.getD j false = true) :
    ∀ j, j < (k + 1) * n → j < s.size → (fillT F (k * n) (Chunk.pieceAt s n k).data.size).getD j false = true := by
  intro j h1 h2
  have hl := Link.piece_list_len s n k hi
  have hz : (Chunk.pieceAt s n k).data.size = (Chunk.pieceAt s n k).data.data.toList.length := by
    rw [← Link.size_len]
  rw [fillT_getD _ _ _ (by rw [hz, hl, hF]; omega)]
  by_cases hj : j < k * n
  · rw [h j hj h2]; rfl
  · rw [Nat.succ_mul] at h1
    have : k * n ≤ j ∧ j < k * n + (Chunk.pieceAt s n k).data.size := by rw [hz, hl]; omega
    rw [decide_eq_true this, Bool.or_true]
theorem all_offer (F : List Bool) (h : ∀ j, j < F.length → F.getD j false = true) : offer F = F.length := by
  have hle := offer_le F
  rcases Nat.lt_or_ge (offer F) F.length with hlt | hge
  · have h1 := offer_stop F hlt
    have h2 := h _ hlt
    simp only [List.getD] at h2
    rw [h1] at h2
    cases h2
  · omega
end Recv
theorem cuts_le' (s : ByteArray) (n : Nat) (h2 : s.size ≤ 4096) (h3 : 1 ≤ n) : Chunk.cuts s.size n ≤ 4096 := Nat.le_of_not_lt fun h => by
  have h5 := (Chunk.lt_cuts (n := s.size) (size := n) (k := 4096) h3).1 h
  have : 4096 * 1 ≤ 4096 * n := Nat.mul_le_mul_left _ h3
  omega
/-- A piece of a text is written. -/
theorem piece_written (s : ByteArray) (n i : Nat) (hi : i * n < s.size) (h2 : s.size ≤ 4096) (h3 : 1 ≤ n) (h4 : n ≤ 256) (W : World) : Calls Tryd.prog 15 #[.agg #[.int .u32 (Crc.sum s.data.toList), .int .i64 s.size, .int .i64 (i * n : Nat), .string (Chunk.pieceAt s n i).data]] W fun e w' => e = .returned (.tuple #[.string (lineAt s n i), .nilIface]) ∧ Below W.heap.size W w' :=
  chunk_write (Chunk.pieceAt s n i).name s.size (i * n) (Chunk.pieceAt s n i).data W (Chunk.pieceAt_name s n i) (Chunk.pieceAt_fine s n i hi h3 h4 h2)
/-- Where a piece's cells lie. -/
theorem pieces_cells {w : World} {v : Value} {s : ByteArray} {n c : Nat} (hv : ListIs pieceCells 4 w v (Chunk.pieces s n c)) : ∃ o cp, v = .slice o c cp ∧ ∀ k, k < c → ∃ b off, o = some ⟨b, off, none⟩ ∧ b < w.heap.size ∧ w.cell? ⟨b, off + k * 4, none⟩ = some (.int .u32 (Crc.sum s.data.toList)) ∧ w.cell? ⟨b, off + k * 4 + 1, none⟩ = some (.int .i64 s.size) ∧ w.cell? ⟨b, off + k * 4 + 2, none⟩ = some (.int .i64 (k * n : Nat)) ∧ w.cell? ⟨b, off + k * 4 + 3, none⟩ = some (.string (Chunk.pieceAt s n k).data) := by
  obtain ⟨o, cp, rfl, hca, hcell⟩ := hv.at pieceCells_len
  refine ⟨o, cp, by rw [Chunk.pieces_len], fun k hk => ?_⟩
  obtain ⟨b, off, e, hb, hc⟩ := hcell k (by rw [Chunk.pieces_len]; exact hk)
  rw [Chunk.pieces_get] at hc
  exact ⟨b, off, e, hb (by omega), piece_cells hc⟩
/-- What the closure of RecvMixed has captured: two boxes, the flags' row, and who gets the pieces. -/
structure MixEnv (w : World) (bc br ca p : Nat) (Z : Nat → Prop) (s : ByteArray) (F : List Bool) (R : Recv.Rec) : Prop where
  c : w.cell? ⟨bc, 0, none⟩ = some (.slice (some ⟨ca, 0, none⟩) s.size s.size)
  r : w.cell? ⟨br, 0, none⟩ = some (.pointer (some ⟨p, 0, none⟩))
  row : Row w ca 4 (flags F)
  len : F.length = s.size
  recv : RecvZ w p Z 0 R
  has : Recv.Has s R (fun j => F.getD j false)
  zc : ¬ Z bc ∧ bc ≠ ca
  zr : ¬ Z br ∧ br ≠ ca
  za : ¬ Z ca
theorem MixEnv.step {w w' : World} {bc br ca p : Nat} {Z : Nat → Prop} {s : ByteArray} {F F' : List Bool} {R R' : Recv.Rec} (h : MixEnv w bc br ca p Z s F R)
    (ho : Only (fun k => Z k ∨ k = ca) w w') (hR : RecvZ w' p Z 0 R') (hh : Recv.Has s R' (fun j => F'.getD j false)) (hr : Row w' ca 4 (flags F')) (hl : F'.length = F.length) : MixEnv w' bc br ca p Z s F' R' :=
  { h with
    c := ho.cell h.c (fun e => e.elim h.zc.1 h.zc.2)
    r := ho.cell h.r (fun e => e.elim h.zr.1 h.zr.2)
    row := hr
    len := by rw [hl]; exact h.len
    recv := hR
    has := hh }
theorem MixEnv.only {w w' : World} {bc br ca p : Nat} {Z : Nat → Prop} {s : ByteArray} {F : List Bool} {R : Recv.Rec} (h : MixEnv w bc br ca p Z s F R) (hb : Below w.heap.size w w') : MixEnv w' bc br ca p Z s F R :=
  h.step (Only.of_below _ hb) (h.recv.below hb) h.has (h.row.below hb) rfl
set_option maxHeartbeats 4000000 in
set_option maxRecDepth 20000 in
theorem mix_take (w : World) (bc br ca p : Nat) (Z : Nat → Prop) (s : ByteArray) (F : List Bool) (R : Recv.Rec) (E : MixEnv w bc br ca p Z s F R) (h1 : s.size ≠ 0) (h2 : s.size ≤ 4096) (n : Nat) (h3 : 1 ≤ n) (h4 : n ≤ 256) (i : Nat) (hin : i * n < s.size) (hZ : ∀ k, w.heap.size ≤ k → Z k) :
    Calls Tryd.prog 19 #[.agg #[.int .u32 (Crc.sum s.data.toList), .int .i64 s.size, .int .i64 (i * n : Nat), .string (Chunk.pieceAt s n i).data], .pointer (some ⟨bc, 0, none⟩), .pointer (some ⟨br, 0, none⟩)] w fun e w' => e = .returned (.bool true) ∧ MixEnv w' bc br ca p Z s (Recv.fillT F (i * n) (Chunk.pieceAt s n i).data.size) (Link.got s n R i) ∧ Only (fun k => Z k ∨ k = ca) w w' := by
  have hW := Lib.hid (fun W => piece_written s n i hin h2 h3 h4 W)
  obtain ⟨g1, g2⟩ := Recv.has_fill s R F E.len E.has h1 n i h3 hin
  have hTk := Lib.hid (fun W (hR : RecvZ W p Z 0 R) => recv_takeZ W p 0 Z R hR s n i E.has.inv h1 h2 h3 h4 hin)
  have hsz : i * n + (Chunk.pieceAt s n i).data.size ≤ s.size := by
    have h := Chunk.pieceAt_size s n i hin
    omega
  have hrowl := E.row.lt
  have hbcl : bc < w.heap.size := World.block_lt_of_cell? w _ E.c
  have hbrl : br < w.heap.size := World.block_lt_of_cell? w _ E.r
  generalize (Chunk.pieceAt s n i).data = dt at *
  generalize Link.got s n R i = R' at *
  generalize lineAt s n i = ln at *
  generalize Crc.sum s.data.toList = sm at *
  generalize i * n = a at *
  have hE := Lib.hid E
  have hal := Lib.hid (row_alloc w #[.int .u32 sm, .int .i64 s.size, .int .i64 a, .string dt] 37)
  have ha2 : (w.alloc (.cells #[.int .u32 sm, .int .i64 s.size, .int .i64 a, .string dt] 37)).cell? ⟨w.heap.size, 2, none⟩ = some (.int .i64 a) := hal.out.cell 2
  have ha3 : (w.alloc (.cells #[.int .u32 sm, .int .i64 s.size, .int .i64 a, .string dt] 37)).cell? ⟨w.heap.size, 3, none⟩ = some (.string dt) := hal.out.cell 3
  have hr1 := Lib.hid (E.row.alloc (.cells #[.int .u32 sm, .int .i64 s.size, .int .i64 a, .string dt] 37))
  have ho0 := Lib.hid ((Only.refl (fun k => k = ca) w).alloc (.cells #[.int .u32 sm, .int .i64 s.size, .int .i64 a, .string dt] 37))
  replace g1 := Lib.hid g1
  clear E
  go_enter Tryd.func19, Tryd.ntmps19
  go_wp2_with fail
  generalize (w.alloc (.cells #[.int .u32 sm, .int .i64 s.size, .int .i64 a, .string dt] 37)) = w1 at *
  clear hal
  refine (hW.out _).mono ?_
  rintro e wa ⟨rfl, hba⟩
  have hoa := Lib.hid (ho0.out.chain hba)
  have b2 := cell_below hba ha2
  have b3 := cell_below hba ha3
  have bcc := hoa.out.cell hE.out.c hE.out.zc.2
  have hrow0 := Lib.hid (hr1.out.below hba)
  clear ha2 ha3 hr1
  have hFl : ∀ k, (flags (Recv.fillT F a k)).length = s.size := fun k => by rw [flags, List.length_map, Recv.fillT_len]; exact hE.out.len
  replace hFl := Lib.hid hFl
  obtain ⟨t, ht⟩ : ∃ t, t = a + dt.size := ⟨_, rfl⟩
  have z1 : (a : Int) + (dt.size : Int) = (t : Int) := by omega
  have z2 : IntKind.i64.wrap (t : Int) = (t : Int) := by rw [IntKind.wrap_i64]; omega
  have ht1 : a ≤ t := by omega
  have ht2 : t - a = dt.size := by omega
  have ht3 : t ≤ s.size := by omega
  replace ht2 := Lib.hid ht2
  clear ht
  go_wp2_with fail
  go_loopw [7] (fun x wr => ∃ k : Nat, a ≤ k ∧ k ≤ t ∧ x = .int .i64 k ∧ Row wr ca 4 (flags (Recv.fillT F a (k - a))) ∧ Only (fun j => j = ca) wa wr) (fun x _ => t - (intOf x).toNat)
  case atStart => exact ⟨a, by omega, by omega, rfl, by rw [Nat.sub_self]; exact hrow0.out, Only.refl _ _⟩
  case round =>
    obtain ⟨k, hk, hk2, rfl, hrow, hor⟩ := hrel
    have e2 : wr.cell? ⟨w.heap.size, 2, none⟩ = some (.int .i64 a) := hor.cell b2 (fun h => by have h : w.heap.size = ca := h; omega)
    have e3 : wr.cell? ⟨w.heap.size, 3, none⟩ = some (.string dt) := hor.cell b3 (fun h => by have h : w.heap.size = ca := h; omega)
    have ec : wr.cell? ⟨bc, 0, none⟩ = some (.slice (some ⟨ca, 0, none⟩) s.size s.size) := hor.cell bcc hE.out.zc.2
    by_cases hlt : k < t
    · have d1 : decide ((k : Int) < (t : Int)) = true := by simp; omega
      have d2 : decide ((k : Int) < (s.size : Int)) = true := by simp; omega
      have d3 : k < s.size := by omega
      obtain ⟨old, cv⟩ : ∃ v, wr.cell? ⟨ca, k, none⟩ = some v := by rw [hrow.cell, List.getElem?_eq_getElem (by rw [hFl.out]; omega)]; exact ⟨_, rfl⟩
      have fz := hrow.frozen k (by rw [hFl.out]; omega)
      have hset : Hid (Row (wr.setCell ⟨ca, k, none⟩ (.bool true)) ca 4 (flags (Recv.fillT F a (k + 1 - a)))) := Lib.hid (by
        have h := hrow.set k (.bool true)
        rw [show k + 1 - a = (k - a) + 1 by omega, Recv.fillT, show a + (k - a) = k by omega, flags, List.map_set]
        exact h)
      have hos := Lib.hid (hor.set (p := ⟨ca, k, none⟩) (Or.inl rfl) (.bool true))
      replace hor := Lib.hid hor
      replace hrow := Lib.hid hrow
      go_wp2
      go_roundw
      case rel => exact ⟨k + 1, by omega, by omega, by go_num, hset.out, hos.out⟩
      case measure => simp [intOf]; omega
    · obtain rfl : k = t := by omega
      have d1 : decide ((k : Int) < (k : Int)) = false := by simp
      have hox := hoa.out.trans hor
      have hZr := hE.out.recv.only hox (fun j hj e => hE.out.za (e ▸ hj))
      have r1 : wr.cell? ⟨br, 0, none⟩ = some (.pointer (some ⟨p, 0, none⟩)) := hox.cell hE.out.r hE.out.zr.2
      have hT := Lib.hid (hTk.out wr hZr)
      have hwz := hox.size
      rw [ht2.out] at hrow
      replace hox := Lib.hid hox
      replace hrow := Lib.hid hrow
      clear hor hZr
      go_wp2_with fail
      refine hT.out.mono ?_
      rintro e wt ⟨rfl, hRt, hot⟩
      have hRt2 := Lib.hid (hRt.mono (Z' := Z) (fun k hk => hk.elim id (fun h => hZ k (by omega))))
      have hot2 := Lib.hid ((hox.out.mono (S' := fun k => Z k ∨ k = ca) (fun k _ h => Or.inr h)).trans (hot.mono (fun k _ h => Or.inl h)))
      have hrT := Lib.hid (hrow.out.only hot hE.out.za)
      clear hRt hot
      go_wp2
      go_ret
      exact ⟨rfl, hE.out.step hot2.out hRt2.out g1.out hrT.out (Recv.fillT_len ..), hot2.out⟩
end Go.Proofs.YtdpdnkjpjoccmaaDoor
