/- The walk of RecvOthers. -/
import Derived.Test.YtnognjjbheoniaaDoorLawsRecvA
namespace Go.Proofs.YtnognjjbheoniaaDoor
open Go.RowKit
set_option linter.unusedVariables false
set_option linter.unusedSimpArgs false
set_option maxHeartbeats 4000000 in
set_option maxRecDepth 20000 in
theorem recv_others (a0 a1 : ByteArray) (a2 a3 : Int) (w : World) (hsz : ¬ 600 < a0.size + a1.size) (h0 : a0.size ≠ 0) (h1 : a1.size ≠ 0) (hne : Crc.sum a0.data.toList ≠ Crc.sum a1.data.toList) (hL : Laid w) :
    Calls Tryd.prog 9 #[.string a0, .string a1, .int .i64 a2, .int .i64 a3] w fun e w' => e = .returned (.bool true) ∧ Below w.heap.size w w' := by
  have hTk := Lib.hid (taken w hL)
  have hPc := Lib.hid (fun W => pieced W)
  have d1 : decide ((600 : Int) < (a0.size : Int) + (a1.size : Int)) = false := by simp; omega
  have he := nonempty_size h0
  have he1 := nonempty_size h1
  have hs0 := Lib.hid (fun W => crc_sum a0 W (by unfold maxLen; omega))
  have hs1 := Lib.hid (fun W => crc_sum a1 W (by unfold maxLen; omega))
  have hp := pickN_lt a2 64 (by omega)
  have hpk := Lib.hid (fun W => keep_pick a2 64 64 W rfl (by omega) (by omega))
  have hn1 : (1 : Int) + ((pickN a2 64 : Nat) : Int) = ((1 + pickN a2 64 : Nat) : Int) := by omega
  have hn2 : 1 ≤ 1 + pickN a2 64 := by omega
  have hn3 : 1 + pickN a2 64 ≤ 256 := by omega
  generalize 1 + pickN a2 64 = n at *
  generalize pickN a2 64 = pk at *
  have hC0 := Lib.hid (fun W => chunk_cut a0 n W h0 (by omega) hn2 hn3)
  have hC1 := Lib.hid (fun W => chunk_cut a1 n W h1 (by omega) hn2 hn3)
  have hN := Lib.hid recv_newB
  have c0 : 0 < Chunk.cuts a0.size n := (Chunk.lt_cuts hn2).2 (by omega)
  have c1 : 0 < Chunk.cuts a1.size n := (Chunk.lt_cuts hn2).2 (by omega)
  have hc0l := cuts_le' a0 n (by omega) hn2
  have hc1l := cuts_le' a1 n (by omega) hn2
  have hp0 := pickN_lt a3 _ c0
  have hp1 := pickN_lt a3 _ c1
  have hpk0 := Lib.hid (fun W => keep_pick a3 ((Chunk.cuts a0.size n : Nat) : Int) _ W rfl c0 (by omega))
  have hpk1 := Lib.hid (fun W => keep_pick a3 ((Chunk.cuts a1.size n : Nat) : Int) _ W rfl c1 (by omega))
  have dc0 : (((Chunk.cuts a0.size n : Nat) : Int) == 0) = false := by simp; omega
  have dc1 : (((Chunk.cuts a1.size n : Nat) : Int) == 0) = false := by simp; omega
  have hi0 : pickN a3 (Chunk.cuts a0.size n) * n < a0.size := (Chunk.lt_cuts hn2).1 hp0
  have hi1 : pickN a3 (Chunk.cuts a1.size n) * n < a1.size := (Chunk.lt_cuts hn2).1 hp1
  generalize hj0 : pickN a3 (Chunk.cuts a0.size n) = i0 at *
  generalize hj1 : pickN a3 (Chunk.cuts a1.size n) = i1 at *
  generalize Chunk.cuts a0.size n = k0 at *
  generalize Chunk.cuts a1.size n = k1 at *
  replace hj0 := Lib.hid hj0
  replace hj1 := Lib.hid hj1
  have hW0 := Lib.hid (fun W => piece_written a0 n i0 hi0 (by omega) hn2 hn3 W)
  have hW1 := Lib.hid (fun W => piece_written a1 n i1 hi1 (by omega) hn2 hn3 W)
  obtain ⟨g1, g2, g3, g4⟩ := Recv.has_got a0 _ _ (Recv.has_new a0) h0 n i0 hn2 hi0
  have hgn : (Link.got a0 n Recv.new i0).name = Crc.sum a0.data.toList := (g1.inv.some_ g2).1
  have hgl : (Link.got a0 n Recv.new i0).came.length ≤ 4096 := by
    have := (g1.inv.some_ g2).2.len2
    rw [Link.size_len] at this
    have this : (Link.got a0 n Recv.new i0).came.length = a0.size := this
    omega
  have hrd : Chunk.read (lineAt a1 n i1).data.toList = .ok ⟨Crc.sum a1.data.toList, (a1.size : Nat), ((i1 * n : Nat) : Int), (Chunk.pieceAt a1 n i1).data⟩ := by
    rw [line_data]; exact Chunk.read_write _ (Chunk.pieceAt_fine a1 n i1 hi1 hn2 hn3 (by omega)) (Chunk.pieceAt_name a1 n i1)
  have hls := line_size a1 n i1 hi1 hn2 hn3 (by omega)
  have hT0 := Lib.hid (fun W p B hR hB => recv_takeB W p B 0 Recv.new hR hB a0 n i0 (Recv.inv_new _) h0 (by omega) hn2 hn3 hi0)
  have hT1 := Lib.hid (fun W p B hR hB => recv_take_other W p B 0 (Link.got a0 n Recv.new i0) hR hB (lineAt a1 n i1) (by omega) _ a1.size (i1 * n) _ hrd g2 (by rw [hgn]; exact hne))
  have hcel0 := Lib.hid (fun (w : World) (v : Value) (h : ListIs pieceCells 4 w v (Chunk.pieces a0 n k0)) => pieces_cells h)
  have hcel1 := Lib.hid (fun (w : World) (v : Value) (h : ListIs pieceCells 4 w v (Chunk.pieces a1 n k1)) => pieces_cells h)
  have dne : ((Crc.sum a0.data.toList : Int) == (Crc.sum a1.data.toList : Int)) = false := by simp; omega
  have hTell := Lib.hid (fun W (hL : Laid W) => tell_errno 6 W hL)
  replace hL := Lib.hid hL
  replace h0 := Lib.hid h0
  replace h1 := Lib.hid h1
  replace hne := Lib.hid hne
  replace g1 := Lib.hid g1
  replace g2 := Lib.hid g2
  replace g3 := Lib.hid g3
  replace g4 := Lib.hid g4
  replace hgn := Lib.hid hgn
  replace hrd := Lib.hid hrd
  go_enter Tryd.func9, Tryd.ntmps9
  go_wp2_with fail
  refine hTk.out.mono ?_
  rintro e wa ⟨rfl, hba⟩
  go_wp2_with fail
  refine (hPc.out _).mono ?_
  rintro e wb ⟨rfl, hbb⟩
  go_wp2_with fail
  refine (hs0.out _).mono ?_
  rintro e w' ⟨rfl, rfl⟩
  go_wp2_with fail
  refine (hs1.out _).mono ?_
  rintro e w' ⟨rfl, rfl⟩
  go_wp2_with fail
  refine (hpk.out _).mono ?_
  rintro e w' ⟨rfl, rfl⟩
  go_wp2_with fail
  refine (hC0.out _).mono ?_
  rintro e wc ⟨⟨v0, rfl, hv0⟩, hbc⟩
  go_wp2_with fail
  refine (hC1.out _).mono ?_
  rintro e wd ⟨⟨v1, rfl, hv1⟩, hbd⟩
  go_wp2_with fail
  refine (hN.out _).mono ?_
  rintro e we ⟨⟨p, rfl, hR⟩, hbe⟩
  obtain ⟨o0, cp0, rfl, cel0⟩ := hcel0.out _ _ (hv0.below (by omega) (bch hbd hbe))
  obtain ⟨o1, cp1, rfl, cel1⟩ := hcel1.out _ _ (hv1.below (by omega) hbe)
  have hbw := bch (bch (bch (bch hba hbb) hbc) hbd) hbe
  have se := hbe.size
  obtain ⟨b0, f0, rfl, _, q0, q1, q2, q3⟩ := cel0 i0 hp0
  obtain ⟨b1, f1, rfl, _, r0, r1, r2, r3⟩ := cel1 i1 hp1
  generalize lineAt a0 n i0 = ln0 at *
  generalize lineAt a1 n i1 = ln1 at *
  generalize (Chunk.pieceAt a0 n i0).data = dt0 at *
  generalize (Chunk.pieceAt a1 n i1).data = dt1 at *
  generalize Link.got a0 n Recv.new i0 = R at *
  generalize Crc.sum a0.data.toList = m0 at *
  generalize Crc.sum a1.data.toList = m1 at *
  generalize i0 * n = x0 at *
  generalize i1 * n = x1 at *
  replace cel0 := Lib.hid cel0
  replace cel1 := Lib.hid cel1
  replace hR := Lib.hid hR
  clear hv0 hv1 hC0 hC1 hN hs0 hs1 hTk hPc hpk hcel0 hcel1
  go_wp2_with fail
  refine (hpk0.out _).mono ?_
  rintro e w' ⟨rfl, rfl⟩
  go_wp2_with fail
  refine (hW0.out _).mono ?_
  rintro e y1 ⟨rfl, z1⟩
  replace r0 := cell_below z1 r0
  replace r1 := cell_below z1 r1
  replace r2 := cell_below z1 r2
  replace r3 := cell_below z1 r3
  clear q0 q1 q2 q3
  go_wp2_with fail
  refine (hpk1.out _).mono ?_
  rintro e w' ⟨rfl, rfl⟩
  go_wp2_with fail
  refine (hW1.out _).mono ?_
  rintro e y2 ⟨rfl, z2⟩
  clear r0 r1 r2 r3
  have z12 := bch z1 z2
  have s12 := z12.size
  go_wp2_with fail
  refine (hT0.out y2 p _ (hR.out.below z12) (by omega)).mono ?_
  rintro e y3 ⟨rfl, hR3, z3⟩
  have s3 := z3.size
  have hof := Lib.hid (fun W (hW : Below y3.heap.size y3 W) => recv_offerB W p _ 0 _ (hR3.below hW) hgl)
  replace hR3 := Lib.hid hR3
  generalize R.offer = f at *
  have qf : ((f : Int) == (f : Int)) = true := by simp
  have hb3 : Below w.heap.size w y3 := (bch hbw z12).trans (z3.mono (by have := hba.size; have := hbb.size; have := hbc.size; have := hbd.size; omega))
  go_wp2_with fail
  refine (hof.out _ (Below.refl _ _)).mono ?_
  rintro e y4 ⟨rfl, z4⟩
  go_wp2_with fail
  refine (hT1.out y4 p _ (hR3.out.below z4) (by have := z4.size; omega)).mono ?_
  rintro e y5 ⟨rfl, z5⟩
  have z45 := bch z4 z5
  have hLy : Laid y5 := hL.out.below (bch hb3 z45)
  unfold errN
  go_wp2_with fail
  refine (hTell.out _ hLy).mono ?_
  rintro e y6 ⟨rfl, z6⟩
  have z46 := bch z45 z6
  go_wp2_with fail
  refine (hof.out _ z46).mono ?_
  rintro e y7 ⟨rfl, z7⟩
  go_wp2
  go_ret
  exact ⟨rfl, bch (bch hb3 z46) z7⟩
set_option maxHeartbeats 4000000 in
set_option maxRecDepth 20000 in
theorem RecvOthers_walk (a0 a1 : ByteArray) (a2 a3 : Int) (w : World) (w0 : a0.size ≤ 140737488351232) (w1 : a1.size ≤ 140737488351232) (w2 : (Lit.int .i64 a2).wf = true) (w3 : (Lit.int .i64 a3).wf = true) (hL : Laid w) :
    Calls Tryd.prog 9 #[.string a0, .string a1, .int .i64 a2, .int .i64 a3] w fun e w' => e = .returned (.bool true) ∧ Below w.heap.size w w' := by
  have hTk := Lib.hid (taken w hL)
  have hPc := Lib.hid (fun W => pieced W)
  by_cases hsz : 600 < a0.size + a1.size
  · have d1 : decide ((600 : Int) < (a0.size : Int) + (a1.size : Int)) = true := by simp; omega
    go_enter Tryd.func9, Tryd.ntmps9
    go_wp2_with fail
    refine hTk.out.mono ?_
    rintro e wa ⟨rfl, hba⟩
    go_wp2_with fail
    refine (hPc.out _).mono ?_
    rintro e wb ⟨rfl, hbb⟩
    go_wp2
    go_ret
    exact ⟨rfl, bch hba hbb⟩
  · have d1 : decide ((600 : Int) < (a0.size : Int) + (a1.size : Int)) = false := by simp; omega
    by_cases h0 : a0.size = 0
    · have he := empty_size h0
      replace h0 := Lib.hid h0
      go_enter Tryd.func9, Tryd.ntmps9
      go_wp2_with fail
      refine hTk.out.mono ?_
      rintro e wa ⟨rfl, hba⟩
      go_wp2_with fail
      refine (hPc.out _).mono ?_
      rintro e wb ⟨rfl, hbb⟩
      go_wp2
      go_ret
      exact ⟨rfl, bch hba hbb⟩
    · by_cases h1 : a1.size = 0
      · have he := nonempty_size h0
        have he1 := empty_size h1
        replace h0 := Lib.hid h0
        replace h1 := Lib.hid h1
        go_enter Tryd.func9, Tryd.ntmps9
        go_wp2_with fail
        refine hTk.out.mono ?_
        rintro e wa ⟨rfl, hba⟩
        go_wp2_with fail
        refine (hPc.out _).mono ?_
        rintro e wb ⟨rfl, hbb⟩
        go_wp2
        go_ret
        exact ⟨rfl, bch hba hbb⟩
      · by_cases hne : Crc.sum a0.data.toList = Crc.sum a1.data.toList
        · have he := nonempty_size h0
          have he1 := nonempty_size h1
          have hs0 := Lib.hid (fun W => crc_sum a0 W (by unfold maxLen; omega))
          have hs1 := Lib.hid (fun W => crc_sum a1 W (by unfold maxLen; omega))
          rw [← hne] at hs1
          have dq : ((Crc.sum a0.data.toList : Int) == (Crc.sum a0.data.toList : Int)) = true := by simp
          replace h0 := Lib.hid h0
          replace h1 := Lib.hid h1
          replace hne := Lib.hid hne
          go_enter Tryd.func9, Tryd.ntmps9
          go_wp2_with fail
          refine hTk.out.mono ?_
          rintro e wa ⟨rfl, hba⟩
          go_wp2_with fail
          refine (hPc.out _).mono ?_
          rintro e wb ⟨rfl, hbb⟩
          go_wp2_with fail
          refine (hs0.out _).mono ?_
          rintro e w' ⟨rfl, rfl⟩
          go_wp2_with fail
          refine (hs1.out _).mono ?_
          rintro e w' ⟨rfl, rfl⟩
          go_wp2
          go_ret
          exact ⟨rfl, bch hba hbb⟩
        · exact recv_others a0 a1 a2 a3 w hsz h0 h1 hne hL
end Go.Proofs.YtnognjjbheoniaaDoor
