/- The walk of RecvForgets. -/
import Derived.Test.YtnognjjbheoniaaDoorWTaken
namespace Go.Proofs.YtnognjjbheoniaaDoor
open Go.RowKit
set_option linter.unusedVariables false
set_option linter.unusedSimpArgs false
theorem cuts_le' (s : ByteArray) (n : Nat) (h2 : s.size ≤ 4096) (h3 : 1 ≤ n) : Chunk.cuts s.size n ≤ 4096 := Nat.le_of_not_lt fun h => by
  have h5 := (Chunk.lt_cuts (n := s.size) (size := n) (k := 4096) h3).1 h
  have : 4096 * 1 ≤ 4096 * n := Nat.mul_le_mul_left _ h3
  omega
/-- A piece of a text is written. -/
theorem piece_written (s : ByteArray) (n i : Nat) (hi : i * n < s.size) (h2 : s.size ≤ 4096) (h3 : 1 ≤ n) (h4 : n ≤ 256) (W : World) : Calls Tryd.prog 29 #[.agg #[.int .u32 (Crc.sum s.data.toList), .int .i64 s.size, .int .i64 (i * n : Nat), .string (Chunk.pieceAt s n i).data]] W fun e w' => e = .returned (.tuple #[.string (lineAt s n i), .nilIface]) ∧ Below W.heap.size W w' :=
  chunk_write (Chunk.pieceAt s n i).name s.size (i * n) (Chunk.pieceAt s n i).data W (Chunk.pieceAt_name s n i) (Chunk.pieceAt_fine s n i hi h3 h4 h2)
/-- Where a piece's cells lie. -/
theorem pieces_cells {w : World} {v : Value} {s : ByteArray} {n c : Nat} (hv : ListIs pieceCells 4 w v (Chunk.pieces s n c)) : ∃ o cp, v = .slice o c cp ∧ ∀ k, k < c → ∃ b off, o = some ⟨b, off, none⟩ ∧ b < w.heap.size ∧ w.cell? ⟨b, off + k * 4, none⟩ = some (.int .u32 (Crc.sum s.data.toList)) ∧ w.cell? ⟨b, off + k * 4 + 1, none⟩ = some (.int .i64 s.size) ∧ w.cell? ⟨b, off + k * 4 + 2, none⟩ = some (.int .i64 (k * n : Nat)) ∧ w.cell? ⟨b, off + k * 4 + 3, none⟩ = some (.string (Chunk.pieceAt s n k).data) := by
  obtain ⟨o, cp, rfl, hca, hcell⟩ := hv.at pieceCells_len
  refine ⟨o, cp, by rw [Chunk.pieces_len], fun k hk => ?_⟩
  obtain ⟨b, off, e, hb, hc⟩ := hcell k (by rw [Chunk.pieces_len]; exact hk)
  rw [Chunk.pieces_get] at hc
  exact ⟨b, off, e, hb (by omega), piece_cells hc⟩
set_option maxHeartbeats 4000000 in
set_option maxRecDepth 20000 in
theorem RecvForgets_walk (a0 : ByteArray) (a1 a2 : Int) (w : World) (w0 : a0.size ≤ 140737488351232) (w1 : (Lit.int .i64 a1).wf = true) (w2 : (Lit.int .u64 a2).wf = true) (hL : Laid w) :
    Calls Tryd.prog 11 #[.string a0, .int .i64 a1, .int .u64 a2] w fun e w' => e = .returned (.bool true) ∧ Below w.heap.size w w' := by
  obtain ⟨m, rfl, hm⟩ := nat_u64 w2
  have hTk := Lib.hid (taken w hL)
  have hPc := Lib.hid (fun W => pieced W)
  by_cases h5 : 500 < a0.size
  · have d1 : decide ((500 : Int) < (a0.size : Int)) = true := by simp; omega
    clear hm w2
    go_enter Tryd.func11, Tryd.ntmps11
    go_wp2_with fail
    refine hTk.out.mono ?_
    rintro e wa ⟨rfl, hba⟩
    go_wp2_with fail
    refine (hPc.out _).mono ?_
    rintro e wb ⟨rfl, hbb⟩
    go_wp2
    go_ret
    exact ⟨rfl, bch hba hbb⟩
  · have d1 : decide ((500 : Int) < (a0.size : Int)) = false := by simp; omega
    by_cases h0 : a0.size = 0
    · have he := empty_size h0
      replace h0 := Lib.hid h0
      clear hm w2
      go_enter Tryd.func11, Tryd.ntmps11
      go_wp2_with fail
      refine hTk.out.mono ?_
      rintro e wa ⟨rfl, hba⟩
      go_wp2_with fail
      refine (hPc.out _).mono ?_
      rintro e wb ⟨rfl, hbb⟩
      go_wp2
      go_ret
      exact ⟨rfl, bch hba hbb⟩
    · have he := nonempty_size h0
      have hp := pickN_lt a1 64 (by omega)
      have hpk := Lib.hid (fun W => keep_pick a1 64 64 W rfl (by omega) (by omega))
      have hn1 : (1 : Int) + ((pickN a1 64 : Nat) : Int) = ((1 + pickN a1 64 : Nat) : Int) := by omega
      have hn2 : 1 ≤ 1 + pickN a1 64 := by omega
      have hn3 : 1 + pickN a1 64 ≤ 256 := by omega
      generalize 1 + pickN a1 64 = n at *
      generalize pickN a1 64 = pk at *
      have hC := Lib.hid (fun W => chunk_cut a0 n W h0 (by omega) hn2 hn3)
      have hN := Lib.hid recv_newB
      have hu := fun k hk => Recv.upto_spec a0 n h0 hn2 k hk
      have huo := Recv.upto_offer a0 n h0 hn2 _ (Nat.le_refl _)
      have hall := Recv.cuts_all a0.size n hn2
      rw [Nat.min_eq_left hall] at huo
      have hcl := cuts_le' a0 n (by omega) hn2
      have hc0 : 0 < Chunk.cuts a0.size n := (Chunk.lt_cuts hn2).2 (by omega)
      have hpw := Lib.hid (fun i hi W => piece_written a0 n i hi (by omega) hn2 hn3 W)
      have hlt := Lib.hid (fun k hk => (Chunk.lt_cuts (n := a0.size) (size := n) (k := k) hn2).1 hk)
      have hself : ((a0.size : Int) != (a0.size : Int)) = false := by simp
      generalize Chunk.cuts a0.size n = c at *
      replace hu := Lib.hid hu
      replace huo := Lib.hid huo
      replace h0 := Lib.hid h0
      have hTell := Lib.hid (fun W (hL : Laid W) => tell_errno 8 W hL)
      replace hL := Lib.hid hL
      have hmm := Lib.hid hm
      clear hm w2 hall
      go_enter Tryd.func11, Tryd.ntmps11
      go_wp2_with fail
      refine hTk.out.mono ?_
      rintro e wa ⟨rfl, hba⟩
      go_wp2_with fail
      refine (hPc.out _).mono ?_
      rintro e wb ⟨rfl, hbb⟩
      go_wp2_with fail
      refine (hpk.out _).mono ?_
      rintro e w' ⟨rfl, rfl⟩
      go_wp2_with fail
      refine (hC.out _).mono ?_
      rintro e wc ⟨⟨v, rfl, hv⟩, hbc⟩
      have hbw := bch (bch hba hbb) hbc
      go_wp2_with fail
      refine (hN.out _).mono ?_
      rintro e wd ⟨⟨p, rfl, hR⟩, hbd⟩
      obtain ⟨o, cp, rfl, hcell⟩ := pieces_cells hv
      have s1 := hbw.size
      have s2 := hbd.size
      have hbW := bch hbw hbd
      replace hcell := Lib.hid hcell
      replace hR : RecvB wd p wc.heap.size 0 (Recv.upto a0 n 0) := hR
      replace hR := Lib.hid hR
      clear hv hC hN hpk hTk hPc
      go_wp2
      go_loopw [47] (fun i wr => ∃ k : Nat, k ≤ c ∧ i = .int .i64 k ∧ RecvB wr p wc.heap.size 0 (Recv.upto a0 n k) ∧ Below wc.heap.size wc wr) (fun i _ => c - (intOf i).toNat)
      case atStart => exact ⟨0, by omega, rfl, by first | exact hR.out | exact hR.out.below (by (repeat (first | exact Below.refl _ _ | assumption | refine bal ?_ _ | refine bdr ?_ | refine bdn ?_ _ | refine bst ?_ (by first | assumption | exact Nat.le_refl _ | omega) _ | refine bch ?_ (by assumption)))), by first | exact hbd | exact bch hbd (by (repeat (first | exact Below.refl _ _ | assumption | refine bal ?_ _ | refine bdr ?_ | refine bdn ?_ _ | refine bst ?_ (by first | assumption | exact Nat.le_refl _ | omega) _ | refine bch ?_ (by assumption))))⟩
      case round =>
        obtain ⟨k, hk, rfl, hR, hbel⟩ := hrel
        have sr := hbel.size
        by_cases hlk : k < c
        · obtain ⟨b, off, rfl, hbl, k0, k1, k2, k3⟩ := hcell.out k hlk
          replace k0 := cell_below hbel k0
          replace k1 := cell_below hbel k1
          replace k2 := cell_below hbel k2
          replace k3 := cell_below hbel k3
          have hkn := hlt.out k hlk
          have hW := Lib.hid (fun W => hpw.out k hkn W)
          have hI := (hu.out k hk).1.inv
          have hTk := Lib.hid (fun W (hW : Below wr.heap.size wr W) => recv_takeB W p _ 0 _ (hR.below hW) (by have := hW.size; omega) a0 n k hI h0.out (by omega) hn2 hn3 hkn)
          have hba4 : ∀ o : Obj, Below wr.heap.size wr (wr.alloc o) := fun o => bal (Below.refl _ _) o
          generalize lineAt a0 n k = ln at *
          generalize (Chunk.pieceAt a0 n k).data = dt at *
          generalize k * n = kn at *
          generalize Crc.sum a0.data.toList = sm at *
          replace hR := Lib.hid hR
          replace hI := Lib.hid hI
          go_wp2_with fail
          refine (hW.out _).mono ?_
          rintro e w4 ⟨rfl, hb4⟩
          have hb5 := bch (hba4 _) hb4
          go_wp2_with fail
          refine (hTk.out _ hb5).mono ?_
          rintro e w5 ⟨rfl, hR5, ho5⟩
          have hR6 : RecvB w5 p wc.heap.size 0 (Recv.upto a0 n (k + 1)) := hR5
          replace hR6 := Lib.hid hR6
          clear hR5
          go_wp2
          go_roundw
          case rel => exact ⟨k + 1, by omega, by go_num, hR6.out, (hbel.trans (hb5.mono sr)).trans ho5⟩
          case measure => simp [intOf]; omega
        · obtain rfl : k = c := by omega
          obtain ⟨u1, u2, u3, u4, u5⟩ := hu.out k (Nat.le_refl _)
          have hl : (Recv.upto a0 n k).came.length ≤ 4096 := by
            have := (u1.inv.some_ (u5 hc0)).2.len2
            rw [Link.size_len] at this
            have this : (Recv.upto a0 n k).came.length = a0.size := this
            omega
          have i2 := Recv.inv_flush _ _ (Recv.inv_save _ _ u1.inv) trivial
          obtain ⟨f1, f2⟩ := Recv.forgets _ _ i2 u2 (keepM m)
          have i3 := (Recv.inv_crash _ _ i2 (keepM m) (by rw [Link.size_len]; omega)).1
          have hsv := Lib.hid (recv_saveB wr p _ 0 _ hR sr hl (by omega) (by omega))
          have hsafe : (Recv.upto a0 n k).save.flush.safe = a0.size := huo.out
          have hLr := Lib.hid (hL.out.below (bch hbw hbel))
          generalize Recv.upto a0 n k = R at *
          clear u1 u2 u3 u4 u5 hl
          replace hR := Lib.hid hR
          replace i2 := Lib.hid i2
          replace i3 := Lib.hid i3
          replace f1 := Lib.hid f1
          replace f2 := Lib.hid f2
          replace hsafe := Lib.hid hsafe
          go_wp2_with fail
          refine hsv.out.mono ?_
          rintro e x1 ⟨rfl, ⟨m1, hm1, hR1⟩, y1⟩
          have z1 : wc.heap.size ≤ x1.heap.size := by have := y1.size; omega
          go_wp2_with fail
          refine (recv_flushB x1 p _ m1 _ hR1 z1).mono ?_
          rintro e x2 ⟨rfl, hR2, y2⟩
          have z2 : wc.heap.size ≤ x2.heap.size := by have := y2.size; omega
          have hsf := Lib.hid (recv_safeB x2 p _ 0 _ hR2)
          rw [hsafe.out] at hsf
          replace hR2 := Lib.hid hR2
          clear hR1
          go_wp2_with fail
          refine hsf.out.mono ?_
          rintro e x3 ⟨rfl, y3⟩
          have z3 := y3.size
          have hcr := Lib.hid (recv_crashB x3 p _ 0 _ (hR2.out.below y3) (by omega) m hmm.out)
          rw [f2.out] at hcr
          go_wp2_with fail
          refine hcr.out.mono ?_
          rintro e x4 ⟨rfl, hR4, y4⟩
          have z4 : wc.heap.size ≤ x4.heap.size := by have := y4.size; omega
          have hTx := recv_textB x4 p _ 0 _ hR4 a0 i3.out (by omega)
          rw [if_pos f1.out] at hTx
          have hOf := fun W (hW : Below x4.heap.size x4 W) => recv_offerB W p _ 0 _ (hR4.below hW) (by rw [f1.out]; simp)
          have hSf := fun W (hW : Below x4.heap.size x4 W) => recv_safeB W p _ 0 _ (hR4.below hW)
          rw [f2.out] at hSf
          have ho0 : Recv.Rec.offer (R.save.flush.crash (keepM m)) = 0 := by unfold Recv.Rec.offer; rw [f1.out]; rfl
          rw [ho0] at hOf
          have hbX : Below wc.heap.size wc x4 := (((hbel.trans y1).trans y2).trans (y3.mono z2)).trans y4
          replace hTx := Lib.hid hTx
          replace hOf := Lib.hid hOf
          replace hSf := Lib.hid hSf
          clear hR4 ho0
          go_wp2_with fail
          refine hTx.out.mono ?_
          rintro e x5 ⟨rfl, y5⟩
          unfold errN
          go_wp2_with fail
          refine (hOf.out _ y5).mono ?_
          rintro e x6 ⟨rfl, y6⟩
          have y56 := bch y5 y6
          go_wp2_with fail
          refine (hSf.out _ y56).mono ?_
          rintro e x7 ⟨rfl, y7⟩
          have y57 := bch y56 y7
          have hLx : Laid x7 := hL.out.below (bch (bch hbw hbX) y57)
          go_wp2_with fail
          refine (hTell.out _ hLx).mono ?_
          rintro e x8 ⟨rfl, y8⟩
          go_wp2
          go_ret
          exact ⟨rfl, bch (bch (bch hbw hbX) y57) y8⟩
end Go.Proofs.YtnognjjbheoniaaDoor
