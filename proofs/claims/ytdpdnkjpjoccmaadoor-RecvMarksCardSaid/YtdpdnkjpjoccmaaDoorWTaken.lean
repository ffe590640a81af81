/- The fact on pieces that came. -/
import Derived.Test.YtdpdnkjpjoccmaaDoorWRecvH
import Derived.Test.YtdpdnkjpjoccmaaDoorWPieced
import Derived.Test.YtdpdnkjpjoccmaaDoorWTell3
import Derived.Test.YtdpdnkjpjoccmaaDoorLaid
namespace Go.Proofs.YtdpdnkjpjoccmaaDoor
open Go.RowKit
set_option linter.unusedVariables false
set_option linter.unusedSimpArgs false
theorem abcde_size : abcde.size = 5 := rfl
def takenR : Nat → Recv.Rec
  | 0 => Recv.new
  | 1 => Link.got abcde 2 Recv.new 2
  | _ => Link.got abcde 2 (Link.got abcde 2 Recv.new 2) 0
theorem taken_plain : (∀ k, k ≤ 2 → Recv.Inv abcde.data.toList (takenR k)) ∧ (takenR 2).came ≠ [] ∧ (takenR 2).offer = 2 ∧ (takenR 2).safe = 0 := by
  have h0 := Recv.has_new abcde
  obtain ⟨h1, n1, m1, s1⟩ := Recv.has_got abcde _ _ h0 (by decide) 2 2 (by decide) (by decide)
  obtain ⟨h2, n2, m2, s2⟩ := Recv.has_got abcde _ _ h1 (by decide) 2 0 (by decide) (by decide)
  refine ⟨fun k hk => ?_, n2, ?_, ?_⟩
  · rcases (show k = 0 ∨ k = 1 ∨ k = 2 by omega) with rfl | rfl | rfl
    · exact h0.inv
    · exact h1.inv
    · exact h2.inv
  · show Recv.Rec.offer (Link.got abcde 2 (Link.got abcde 2 Recv.new 2) 0) = 2
    rw [Recv.has_offer _ _ _ h2]
    decide
  · show (Link.got abcde 2 (Link.got abcde 2 Recv.new 2) 0).safe = 0
    rw [s2, s1]; rfl
theorem abc_write (i : Nat) (hi : i * 2 < abcde.size) (W : World) : Calls Tryd.prog 15 #[.agg #[.int .u32 (Crc.sum abcde.data.toList), .int .i64 5, .int .i64 (i * 2 : Nat), .string (Chunk.pieceAt abcde 2 i).data]] W fun e w' => e = .returned (.tuple #[.string (lineAt abcde 2 i), .nilIface]) ∧ Below W.heap.size W w' :=
  chunk_write (Chunk.pieceAt abcde 2 i).name 5 (i * 2) (Chunk.pieceAt abcde 2 i).data W (Chunk.pieceAt_name abcde 2 i) (Chunk.pieceAt_fine abcde 2 i hi (by decide) (by decide) (by decide))
set_option maxHeartbeats 4000000 in
set_option maxRecDepth 20000 in
theorem taken (w : World) (hL : Laid w) : Calls Tryd.prog 9 #[] w fun e w' => e = .returned (.bool true) ∧ Below w.heap.size w w' := by
  have hC := Lib.hid (chunk_cut abcde 2 w (by decide) (by decide) (by decide) (by decide))
  have hcu : Hid (Chunk.cuts abcde.size 2 = 3) := Lib.hid rfl
  have hN := Lib.hid recv_newB
  obtain ⟨t1, t2, t3, t4⟩ := taken_plain
  have hTell := Lib.hid (fun W (hL : Laid W) => tell_errno 7 W hL)
  have hab : Hid (abcde = ⟨#[97, 98, 99, 100, 101]⟩) := Lib.hid rfl
  replace t1 := Lib.hid t1
  replace t2 := Lib.hid t2
  replace t3 := Lib.hid t3
  replace t4 := Lib.hid t4
  replace hL := Lib.hid hL
  go_enter Tryd.func9, Tryd.ntmps9
  go_wp2_with fail
  refine hC.out.mono ?_
  rintro e w1 ⟨⟨v, rfl, hv⟩, hb1⟩
  rw [hcu.out] at hv
  go_wp2_with fail
  refine (hN.out _).mono ?_
  rintro e w2 ⟨⟨p, rfl, hR⟩, hb2⟩
  have hv2 := hv.below (by omega) hb2
  obtain ⟨o, cp, rfl, hca, hcell⟩ := hv.at pieceCells_len
  rw [Chunk.pieces_len] at *
  clear hC hN
  replace hcell : ∀ k (hk : k < 3), ∃ b off, o = some ⟨b, off, none⟩ ∧ b < w1.heap.size ∧ w1.cell? ⟨b, off + k * 4, none⟩ = some (.int .u32 (Crc.sum abcde.data.toList)) ∧ w1.cell? ⟨b, off + k * 4 + 1, none⟩ = some (.int .i64 5) ∧ w1.cell? ⟨b, off + k * 4 + 2, none⟩ = some (.int .i64 (k * 2 : Nat)) ∧ w1.cell? ⟨b, off + k * 4 + 3, none⟩ = some (.string (Chunk.pieceAt abcde 2 k).data) := fun k hk => by
    obtain ⟨b, off, e, hb, hc⟩ := hcell k (by rw [Chunk.pieces_len]; exact hk)
    rw [Chunk.pieces_get] at hc
    exact ⟨b, off, e, hb (by omega), piece_cells hc⟩
  replace hcell := Lib.hid hcell
  have s1 := hb1.size
  have s2 := hb2.size
  have hrow := row_alloc w2 #[.int .i64 2, .int .i64 0] 3
  have hba : Below w2.heap.size w2 (w2.alloc (.cells #[.int .i64 2, .int .i64 0] 3)) := bal (Below.refl _ _) _
  have hR3 : RecvZ (w2.alloc (.cells #[.int .i64 2, .int .i64 0] 3)) p (fun j => w1.heap.size ≤ j ∧ j ≠ w2.heap.size) 0 (takenR 0) := (hR.toZ.below hba).mono (fun j hj => ⟨hj.1, by have := hj.2; omega⟩)
  have s3 := hba.size
  have hbw : Below w1.heap.size w1 (w2.alloc (.cells #[.int .i64 2, .int .i64 0] 3)) := hb2.trans (hba.mono s2)
  have hbW : Below w.heap.size w (w2.alloc (.cells #[.int .i64 2, .int .i64 0] 3)) := bch hb1 hbw
  have s4 : w2.heap.size < (w2.alloc (.cells #[.int .i64 2, .int .i64 0] 3)).heap.size := by simp
  replace hrow := Lib.hid hrow
  replace hR3 := Lib.hid hR3
  clear hv hv2 hca hR hba
  go_wp2_with fail
  generalize (w2.alloc (.cells #[.int .i64 2, .int .i64 0] 3)) = w3 at *
  generalize w2.heap.size = g at *
  go_loopw [28] (fun i wr => ∃ k : Nat, k ≤ 2 ∧ i = .int .i64 k ∧ RecvZ wr p (fun j => w1.heap.size ≤ j ∧ j ≠ g) 0 (takenR k) ∧ Only (fun j => w1.heap.size ≤ j ∧ j ≠ g) w3 wr) (fun i _ => 2 - (intOf i).toNat)
  case atStart => exact ⟨0, by omega, rfl, by first | exact hR3.out | exact hR3.out.below (by (repeat (first | exact Below.refl _ _ | assumption | refine bal ?_ _ | refine bdr ?_ | refine bdn ?_ _ | refine bst ?_ (by first | assumption | exact Nat.le_refl _ | omega) _ | refine bch ?_ (by assumption)))), by first | exact Only.refl _ _ | exact (Only.refl _ _).drew⟩
  case round =>
    obtain ⟨k, hk, rfl, hR, hon⟩ := hrel
    have sr := hon.size
    have hbr : Below w1.heap.size w1 wr := hbw.trans (hon.below (fun j hj => hj.1) (by omega))
    have o0 : wr.cell? ⟨g, 0, none⟩ = some (.int .i64 2) := hon.cell (p := ⟨g, 0, none⟩) (hrow.out.cell 0) (by show ¬ (w1.heap.size ≤ g ∧ g ≠ g); omega)
    have o1 : wr.cell? ⟨g, 1, none⟩ = some (.int .i64 0) := hon.cell (p := ⟨g, 1, none⟩) (hrow.out.cell 1) (by show ¬ (w1.heap.size ≤ g ∧ g ≠ g); omega)
    by_cases hlt : k < 2
    · rcases (show k = 0 ∨ k = 1 by omega) with rfl | rfl
      · rw [show ((0 : Nat) : Int) = (0 : Int) from rfl]
        obtain ⟨b, off, rfl, hbl, k0, k1, k2, k3⟩ := hcell.out 2 (by omega)
        replace k0 := cell_below hbr k0
        replace k1 := cell_below hbr k1
        replace k2 := cell_below hbr k2
        replace k3 := cell_below hbr k3
        simp only [Nat.reduceMul, Nat.reduceAdd, Nat.add_assoc] at k0 k1 k2 k3
        have hW := Lib.hid (fun W => abc_write 2 (by decide) W)
        have hTk := Lib.hid (fun W (hW : Below wr.heap.size wr W) => recv_takeZ W p 0 _ _ (hR.below hW) abcde 2 2 (t1.out 0 (by omega)) (by decide) (by decide) (by decide) (by decide) (by decide))
        generalize lineAt abcde 2 2 = ln at *
        generalize (Chunk.pieceAt abcde 2 2).data = dt at *
        replace hR := Lib.hid hR
        go_wp2_with fail
        refine (hW.out _).mono ?_
        rintro e w4 ⟨rfl, hb4⟩
        go_wp2_with fail
        refine (hTk.out _ hb4).mono ?_
        rintro e w5 ⟨rfl, hR5, ho5⟩
        have s5 := hb4.size
        have hR6 : RecvZ w5 p (fun j => w1.heap.size ≤ j ∧ j ≠ g) 0 (takenR 1) := hR5.mono (fun j hj => by
          rcases hj with hj | hj
          · exact hj
          · exact ⟨by omega, by omega⟩)
        replace hR6 := Lib.hid hR6
        clear hR5
        go_wp2
        go_roundw
        case rel => exact ⟨1, by omega, by go_num, hR6.out, (hon.chain hb4).trans ho5⟩
        case measure => simp [intOf]
      · rw [show ((1 : Nat) : Int) = (1 : Int) from rfl]
        obtain ⟨b, off, rfl, hbl, k0, k1, k2, k3⟩ := hcell.out 0 (by omega)
        replace k0 := cell_below hbr k0
        replace k1 := cell_below hbr k1
        replace k2 := cell_below hbr k2
        replace k3 := cell_below hbr k3
        simp only [Nat.reduceMul, Nat.reduceAdd, Nat.add_assoc, Nat.zero_mul, Nat.add_zero] at k0 k1 k2 k3
        have hW := Lib.hid (fun W => abc_write 0 (by decide) W)
        have hTk := Lib.hid (fun W (hW : Below wr.heap.size wr W) => recv_takeZ W p 0 _ _ (hR.below hW) abcde 2 0 (t1.out 1 (by omega)) (by decide) (by decide) (by decide) (by decide) (by decide))
        generalize lineAt abcde 2 0 = ln at *
        generalize (Chunk.pieceAt abcde 2 0).data = dt at *
        replace hR := Lib.hid hR
        go_wp2_with fail
        refine (hW.out _).mono ?_
        rintro e w4 ⟨rfl, hb4⟩
        go_wp2_with fail
        refine (hTk.out _ hb4).mono ?_
        rintro e w5 ⟨rfl, hR5, ho5⟩
        have s5 := hb4.size
        have hR6 : RecvZ w5 p (fun j => w1.heap.size ≤ j ∧ j ≠ g) 0 (takenR 2) := hR5.mono (fun j hj => by
          rcases hj with hj | hj
          · exact hj
          · exact ⟨by omega, by omega⟩)
        replace hR6 := Lib.hid hR6
        clear hR5
        go_wp2
        go_roundw
        case rel => exact ⟨2, by omega, by go_num, hR6.out, (hon.chain hb4).trans ho5⟩
        case measure => simp [intOf]
    · obtain rfl : k = 2 := by omega
      rw [show ((2 : Nat) : Int) = (2 : Int) from rfl]
      have hRB := hR.toB (B := w1.heap.size) (fun j hj => hj.1)
      have hTx := recv_textB wr p _ 0 _ hRB abcde (t1.out 2 (by omega)) (by decide)
      rw [if_neg t2.out, t3.out, if_neg (by decide)] at hTx
      have hOf := fun W (hW : Below wr.heap.size wr W) => recv_offerB W p _ 0 _ (hRB.below hW) (by
        have := ((t1.out 2 (by omega)).some_ t2.out).2.len2
        rw [Link.size_len] at this
        have e : abcde.size = 5 := rfl
        have this : (takenR 2).came.length = abcde.size := this
        omega)
      have hSf := fun W (hW : Below wr.heap.size wr W) => recv_safeB W p _ 0 _ (hRB.below hW)
      rw [t3.out] at hOf
      rw [t4.out] at hSf
      have hLr : Laid wr := hL.out.below (bch hb1 hbr)
      replace hTx := Lib.hid hTx
      replace hOf := Lib.hid hOf
      replace hSf := Lib.hid hSf
      replace hLr := Lib.hid hLr
      replace hR := Lib.hid hR
      clear hRB
      go_wp2_with fail
      refine hTx.out.mono ?_
      rintro e w4 ⟨rfl, hb4⟩
      unfold errN
      go_wp2_with fail
      refine (hOf.out _ hb4).mono ?_
      rintro e w5 ⟨rfl, hb5⟩
      have hb45 := bch hb4 hb5
      go_wp2_with fail
      refine (hTell.out _ (hLr.out.below hb45)).mono ?_
      rintro e w6 ⟨rfl, hb6⟩
      have hb46 := bch hb45 hb6
      go_wp2_with fail
      refine (hSf.out _ hb46).mono ?_
      rintro e w7 ⟨rfl, hb7⟩
      go_wp2
      go_ret
      exact ⟨rfl, bch (bch (bch hb1 hbr) hb46) hb7⟩
end Go.Proofs.YtdpdnkjpjoccmaaDoor
