/- The walk of RecvMarks. -/
import Derived.Test.YtdpdnkjpjoccmaaDoorWTaken
import Derived.Test.YtdpdnkjpjoccmaaDoorWRecvG
namespace Go.Proofs.YtdpdnkjpjoccmaaDoor
open Go.RowKit
set_option linter.unusedVariables false
set_option linter.unusedSimpArgs false
theorem recv_markB (w : World) (p B m : Nat) (R : Recv.Rec) (hR : RecvB w p B m R) (hB : B ≤ w.heap.size) (s : List UInt8) (hI : Recv.Inv s R) (hs : s.length ≤ 4096) (hmk : R.mark ≤ 1000000) (hm : m ≤ 900000) :
    Calls Tryd.prog 22 #[.pointer (some ⟨p, 0, none⟩)] w fun e w' => e = .returned (.tuple #[]) ∧ (∃ m', m' ≤ m + 1 ∧ RecvB w' p B m' R.marks) ∧ Below B w w' := by
  obtain ⟨O, h, hO⟩ := hR
  exact (recv_mark w p m O R h s hI hs hmk hm).mono fun e w' ⟨he, ⟨m', hm', h'⟩, ho⟩ => ⟨he, ⟨m', hm', O, h', hO⟩, only_below ho hO hB⟩
theorem run_chunks_to (w : World) (o : Option Addr) (n cap q : Nat) (hq : q ≤ n) (h : n ≤ cap) (hm : cap ≤ maxLen) (z : Int) (hz : z = (q : Int)) : (Instr.slice 25 (.slice o n cap) none (some (.int .i64 z)) none).run Tryd.prog w = .ok (.slice o q cap) w := by
  subst hz
  unfold maxLen at hm
  have e1 : (q : Int) ≤ (cap : Int) := by omega
  have e2 : q ≤ cap := by omega
  go_simp
theorem cuts_le' (s : ByteArray) (n : Nat) (h2 : s.size ≤ 4096) (h3 : 1 ≤ n) : Chunk.cuts s.size n ≤ 4096 := Nat.le_of_not_lt fun h => by
  have h5 := (Chunk.lt_cuts (n := s.size) (size := n) (k := 4096) h3).1 h
  have : 4096 * 1 ≤ 4096 * n := Nat.mul_le_mul_left _ h3
  omega
/-- A piece of a text is written. -/
theorem piece_written (s : ByteArray) (n i : Nat) (hi : i * n < s.size) (h2 : s.size ≤ 4096) (h3 : 1 ≤ n) (h4 : n ≤ 256) (W : World) : Calls Tryd.prog 15 #[.agg #[.int .u32 (Crc.sum s.data.toList), .int .i64 s.size, .int .i64 (i * n : Nat), .string (Chunk.pieceAt s n i).data]] W fun e w' => e = .returned (.tuple #[.string (lineAt s n i), .nilIface]) ∧ Below W.heap.size W w' :=
  chunk_write (Chunk.pieceAt s n i).name s.size (i * n) (Chunk.pieceAt s n i).data W (Chunk.pieceAt_name s n i) (Chunk.pieceAt_fine s n i hi h3 h4 h2)
/-- Where a piece's cells lie. -/
theorem pieces_cells {w : World} {v : Value} {s : ByteArray} {n c : Nat} (hv : ListIs pieceCells 4 w v (Chunk.pieces s n c)) : ∃ o cp, v = .slice o c cp ∧ ∀ k, k < c → ∃ b off, o = some ⟨b, off, none⟩ ∧ b < w.heap.size ∧ w.cell? ⟨b, off + k * 4, none⟩ = some (.int .u32 (Crc.sum s.data.toList)) ∧ w.cell? ⟨b, off + k * 4 + 1, none⟩ = some (.int .i64 s.size) ∧ w.cell? ⟨b, off + k * 4 + 2, none⟩ = some (.int .i64 (k * n : Nat)) ∧ w.cell? ⟨b, off + k * 4 + 3, none⟩ = some (.string (Chunk.pieceAt s n k).data) := by
  obtain ⟨o, cp, rfl, hca, hcell⟩ := hv.at pieceCells_len
  refine ⟨o, cp, by rw [Chunk.pieces_len], fun k hk => ?_⟩
  obtain ⟨b, off, e, hb, hc⟩ := hcell k (by rw [Chunk.pieces_len]; exact hk)
  rw [Chunk.pieces_get] at hc
  exact ⟨b, off, e, hb (by omega), piece_cells hc⟩
set_option maxHeartbeats 4000000 in
set_option maxRecDepth 20000 in
theorem RecvMarks_walk (a0 : ByteArray) (a1 a2 a3 a4 : Int) (w : World) (w0 : a0.size ≤ 140737488351232) (w1 : (Lit.int .i64 a1).wf = true) (w2 : (Lit.int .i64 a2).wf = true) (w3 : (Lit.int .u64 a3).wf = true) (w4 : (Lit.int .u64 a4).wf = true) (hL : Laid w) :
    Calls Tryd.prog 5 #[.string a0, .int .i64 a1, .int .i64 a2, .int .u64 a3, .int .u64 a4] w fun e w' => e = .returned (.bool true) ∧ Below w.heap.size w w' := by
  obtain ⟨ma, rfl, hma⟩ := nat_u64 w3
  obtain ⟨mb, rfl, hmb⟩ := nat_u64 w4
  have hTk := Lib.hid (taken w hL)
  have hPc := Lib.hid (fun W => pieced W)
  by_cases h5 : 500 < a0.size
  · have d1 : decide ((500 : Int) < (a0.size : Int)) = true := by simp; omega
    clear hma hmb w2 w3 w4
    go_enter Tryd.func5, Tryd.ntmps5
    go_wp2_with fail
    refine hTk.out.mono ?_
    rintro e wa ⟨rfl, hba⟩
    go_wp2_with fail
    refine (hPc.out _).mono ?_
    rintro e wb ⟨rfl, hbb⟩
    go_wp2
    go_ret
    exact ⟨rfl, bch hba hbb⟩
  · have d1 : decide ((500 : Int) < (a0.size : Int)) = false := by simp; omega
    by_cases h0 : a0.size = 0
    · have he := empty_size h0
      replace h0 := Lib.hid h0
      clear hma hmb w2 w3 w4
      go_enter Tryd.func5, Tryd.ntmps5
      go_wp2_with fail
      refine hTk.out.mono ?_
      rintro e wa ⟨rfl, hba⟩
      go_wp2_with fail
      refine (hPc.out _).mono ?_
      rintro e wb ⟨rfl, hbb⟩
      go_wp2
      go_ret
      exact ⟨rfl, bch hba hbb⟩
    · have he := nonempty_size h0
      have hp := pickN_lt a1 64 (by omega)
      have hpk := Lib.hid (fun W => keep_pick a1 64 64 W rfl (by omega) (by omega))
      have hn1 : (1 : Int) + ((pickN a1 64 : Nat) : Int) = ((1 + pickN a1 64 : Nat) : Int) := by omega
      have hn2 : 1 ≤ 1 + pickN a1 64 := by omega
      have hn3 : 1 + pickN a1 64 ≤ 256 := by omega
      generalize 1 + pickN a1 64 = n at *
      generalize pickN a1 64 = pk at *
      have hC := Lib.hid (fun W => chunk_cut a0 n W h0 (by omega) hn2 hn3)
      have hN := Lib.hid recv_newB
      have hu := fun k hk => Recv.upto_spec a0 n h0 hn2 k hk
      have hall := Recv.cuts_all a0.size n hn2
      have huo := Lib.hid (fun k hk => Recv.upto_offer a0 n h0 hn2 k hk)
      have hcl := cuts_le' a0 n (by omega) hn2
      have hc0 : 0 < Chunk.cuts a0.size n := (Chunk.lt_cuts hn2).2 (by omega)
      have hpw := Lib.hid (fun i hi W => piece_written a0 n i hi (by omega) hn2 hn3 W)
      have hlt := Lib.hid (fun k hk => (Chunk.lt_cuts (n := a0.size) (size := n) (k := k) hn2).1 hk)
      have hself : ((a0.size : Int) != (a0.size : Int)) = false := by simp
      have hpk2 := Lib.hid (fun W => keep_pick a2 ((Chunk.cuts a0.size n : Nat) : Int) (Chunk.cuts a0.size n) W rfl hc0 (by omega))
      have hpl := pickN_lt a2 (Chunk.cuts a0.size n) hc0
      generalize hK : 1 + pickN a2 (Chunk.cuts a0.size n) = K at *
      have hK1 : (1 : Int) + ((pickN a2 (Chunk.cuts a0.size n) : Nat) : Int) = (K : Int) := by omega
      have hKc : K ≤ Chunk.cuts a0.size n := by omega
      have hK0 : 0 < K := by omega
      generalize pickN a2 (Chunk.cuts a0.size n) = pk2 at *
      replace hK := Lib.hid hK
      have dc0 : (((Chunk.cuts a0.size n : Nat) : Int) == 0) = false := by simp; omega
      generalize Chunk.cuts a0.size n = c at *
      replace hu := Lib.hid hu
      replace h0 := Lib.hid h0
      have hTell := Lib.hid (fun W (hL : Laid W) => tell_errno 7 W hL)
      replace hL := Lib.hid hL
      have hmma := Lib.hid hma
      have hmmb := Lib.hid hmb
      clear hma hmb w2 w3 w4 hall
      go_enter Tryd.func5, Tryd.ntmps5
      go_wp2_with fail
      refine hTk.out.mono ?_
      rintro e wa ⟨rfl, hba⟩
      go_wp2_with fail
      refine (hPc.out _).mono ?_
      rintro e wb ⟨rfl, hbb⟩
      go_wp2_with fail
      refine (hpk.out _).mono ?_
      rintro e w' ⟨rfl, rfl⟩
      go_wp2_with fail
      refine (hC.out _).mono ?_
      rintro e wc ⟨⟨v, rfl, hv⟩, hbc⟩
      have hbw := bch (bch hba hbb) hbc
      go_wp2_with fail
      refine (hN.out _).mono ?_
      rintro e wd ⟨⟨p, rfl, hR⟩, hbd⟩
      have hcap : ∀ o cp, v = .slice o c cp → c ≤ cp ∧ cp ≤ maxLen := fun o cp e => by
        obtain ⟨o', cp', e', hca, _⟩ := hv.at pieceCells_len
        rw [Chunk.pieces_len] at e' hca
        rw [e] at e'
        injection e' with _ _ e3
        rw [e3]; exact hca hc0
      obtain ⟨o, cp, rfl, hcell⟩ := pieces_cells hv
      obtain ⟨cp1, cp2⟩ := hcap o cp rfl
      have hsl := fun W => run_chunks_to W o c cp K hKc cp1 cp2 (K : Int) rfl
      clear hcap
      have s1 := hbw.size
      have s2 := hbd.size
      have hbW := bch hbw hbd
      replace hcell := Lib.hid hcell
      replace hR : RecvB wd p wc.heap.size 0 (Recv.upto a0 n 0) := hR
      replace hR := Lib.hid hR
      clear hv hC hN hpk hTk hPc
      go_wp2_with fail
      refine (hpk2.out _).mono ?_
      rintro e w' ⟨rfl, rfl⟩
      go_wp2
      clear hsl
      go_loopw [64] (fun i wr => ∃ k : Nat, k ≤ K ∧ i = .int .i64 k ∧ RecvB wr p wc.heap.size 0 (Recv.upto a0 n k) ∧ Below wc.heap.size wc wr) (fun i _ => K - (intOf i).toNat)
      case atStart => exact ⟨0, by omega, rfl, by first | exact hR.out | exact hR.out.below (by (repeat (first | exact Below.refl _ _ | assumption | refine bal ?_ _ | refine bdr ?_ | refine bdn ?_ _ | refine bst ?_ (by first | assumption | exact Nat.le_refl _ | omega) _ | refine bch ?_ (by assumption)))), by first | exact hbd | exact bch hbd (by (repeat (first | exact Below.refl _ _ | assumption | refine bal ?_ _ | refine bdr ?_ | refine bdn ?_ _ | refine bst ?_ (by first | assumption | exact Nat.le_refl _ | omega) _ | refine bch ?_ (by assumption))))⟩
      case round =>
        obtain ⟨k, hk, rfl, hR, hbel⟩ := hrel
        have sr := hbel.size
        by_cases hlk : k < K
        · obtain ⟨b, off, rfl, hbl, k0, k1, k2, k3⟩ := hcell.out k (by omega)
          replace k0 := cell_below hbel k0
          replace k1 := cell_below hbel k1
          replace k2 := cell_below hbel k2
          replace k3 := cell_below hbel k3
          have hkn := hlt.out k (by omega)
          have hW := Lib.hid (fun W => hpw.out k hkn W)
          have hI := (hu.out k (by omega)).1.inv
          have hTk := Lib.hid (fun W (hW : Below wr.heap.size wr W) => recv_takeB W p _ 0 _ (hR.below hW) (by have := hW.size; omega) a0 n k hI h0.out (by omega) hn2 hn3 hkn)
          have hba4 : ∀ o : Obj, Below wr.heap.size wr (wr.alloc o) := fun o => bal (Below.refl _ _) o
          generalize lineAt a0 n k = ln at *
          generalize (Chunk.pieceAt a0 n k).data = dt at *
          generalize k * n = kn at *
          generalize Crc.sum a0.data.toList = sm at *
          replace hR := Lib.hid hR
          replace hI := Lib.hid hI
          go_wp2_with fail
          refine (hW.out _).mono ?_
          rintro e w4 ⟨rfl, hb4⟩
          have hb5 := bch (hba4 _) hb4
          go_wp2_with fail
          refine (hTk.out _ hb5).mono ?_
          rintro e w5 ⟨rfl, hR5, ho5⟩
          have hR6 : RecvB w5 p wc.heap.size 0 (Recv.upto a0 n (k + 1)) := hR5
          replace hR6 := Lib.hid hR6
          clear hR5
          go_wp2
          go_roundw
          case rel => exact ⟨k + 1, by omega, by go_num, hR6.out, (hbel.trans (hb5.mono sr)).trans ho5⟩
          case measure => simp [intOf]; omega
        · obtain rfl : k = K := by omega
          obtain ⟨u1, u2, u3, u4, u5⟩ := hu.out k hKc
          have hcne := u5 hK0
          have hl : (Recv.upto a0 n k).came.length ≤ 4096 := by
            have := (u1.inv.some_ hcne).2.len2
            rw [Link.size_len] at this
            have this : (Recv.upto a0 n k).came.length = a0.size := this
            omega
          have hl2 : (Recv.upto a0 n k).came.length = a0.size := by
            have := (u1.inv.some_ hcne).2.len2
            rw [Link.size_len] at this
            exact this
          have hfl := Recv.inv_offer_le _ _ u1.inv
          rw [Link.size_len] at hfl
          have i2 := Recv.inv_flush _ _ (Recv.inv_save _ _ u1.inv) trivial
          obtain ⟨f1, f2, f3, f4⟩ := Recv.marks_twice a0 _ u1.inv hcne (by omega) (by omega) (keepM ma) (keepM mb)
          have i3 := (Link.sync_inv _ _ u1.inv (by omega) (by rw [Link.size_len]; omega)).1
          have i4 := (Recv.inv_crash _ _ i3 (keepM ma) (by rw [Link.size_len]; omega)).1
          have hof := Lib.hid (recv_offerB wr p _ 0 _ hR hl)
          have hsv := Lib.hid (fun W (hW : Below wr.heap.size wr W) => recv_saveB W p _ 0 _ (hR.below hW) (by have := hW.size; omega) hl (by omega) (by omega))
          have hmk0 : (Recv.upto a0 n k).save.flush.mark ≤ 1000000 := by show (Recv.upto a0 n k).mark ≤ _; omega
          have hcl4 : ∀ R : Recv.Rec, Recv.Inv a0.data.toList R → R.came.length ≤ 4096 := fun R h => by
            by_cases e : R.came = []
            · rw [e]; simp
            · have := (h.some_ e).2.len2
              rw [Link.size_len] at this
              have this : R.came.length = a0.size := this
              omega
          have hpos : 0 < (Recv.upto a0 n k).offer := by
            rw [huo.out k hKc]
            have := Nat.mul_pos hK0 (show 0 < n by omega)
            have := h0.out
            omega
          have hLr := Lib.hid (hL.out.below (bch hbw hbel))
          generalize Recv.upto a0 n k = R at *
          have g1 : Recv.Rec.offer (((Link.sync R).crash (keepM ma)).crash (keepM mb)) = R.offer := f3
          have hne6 : (((Link.sync R).crash (keepM ma)).crash (keepM mb)).came ≠ [] := fun e => by
            unfold Recv.Rec.offer at g1
            rw [e] at g1
            have : R.offer = 0 := g1.symm
            omega
          have hl6 := hcl4 _ f4
          have hsf6 : Recv.Rec.safe (((Link.sync R).crash (keepM ma)).crash (keepM mb)) = R.offer := f2
          replace hR := Lib.hid hR
          replace hu := Lib.hid hu
          clear u1 u2 u3 u4 u5 hl hl2 hcl4
          replace i2 := Lib.hid i2
          replace i3 := Lib.hid i3
          replace i4 := Lib.hid i4
          replace f1 := Lib.hid f1
          replace f2 := Lib.hid f2
          replace f3 := Lib.hid f3
          replace f4 := Lib.hid f4
          replace g1 := Lib.hid g1
          replace hsf6 := Lib.hid hsf6
          replace hne6 := Lib.hid hne6
          replace hcne := Lib.hid hcne
          go_wp2_with fail
          refine hof.out.mono ?_
          rintro e x0 ⟨rfl, y0⟩
          have z0 : wc.heap.size ≤ x0.heap.size := by have := y0.size; omega
          go_wp2_with fail
          refine (hsv.out _ y0).mono ?_
          rintro e x1 ⟨rfl, ⟨m1, hm1, hR1⟩, y1⟩
          have z1 : wc.heap.size ≤ x1.heap.size := by have := y1.size; omega
          go_wp2_with fail
          refine (recv_flushB x1 p _ m1 _ hR1 z1).mono ?_
          rintro e x2 ⟨rfl, hR2, y2⟩
          have z2 : wc.heap.size ≤ x2.heap.size := by have := y2.size; omega
          clear hR1
          go_wp2_with fail
          refine (recv_markB x2 p _ 0 _ hR2 z2 a0.data.toList i2.out (by rw [Link.size_len]; omega) hmk0 (by omega)).mono ?_
          rintro e x3 ⟨rfl, ⟨m3, hm3, hR3⟩, y3⟩
          have z3 : wc.heap.size ≤ x3.heap.size := by have := y3.size; omega
          clear hR2
          go_wp2_with fail
          refine (recv_flushB x3 p _ m3 _ hR3 z3).mono ?_
          rintro e x4 ⟨rfl, hR4, y4⟩
          have z4 : wc.heap.size ≤ x4.heap.size := by have := y4.size; omega
          clear hR3
          have hc5 := Lib.hid (recv_crashB x4 p _ 0 (Link.sync R) hR4 z4 ma hmma.out)
          rw [f1.out] at hc5
          clear hR4
          go_wp2_with fail
          refine hc5.out.mono ?_
          rintro e x5 ⟨rfl, hR5, y5⟩
          have z5 : wc.heap.size ≤ x5.heap.size := by have := y5.size; omega
          have hc6 := Lib.hid (recv_crashB x5 p _ 0 _ hR5 z5 mb hmmb.out)
          rw [f2.out] at hc6
          clear hR5
          go_wp2_with fail
          refine hc6.out.mono ?_
          rintro e x6 ⟨rfl, hR6, y6⟩
          have hTx := recv_textB x6 p _ 0 _ hR6 a0 f4.out (by omega)
          rw [if_neg hne6.out, g1.out] at hTx
          have hOf := fun W (hW : Below x6.heap.size x6 W) => recv_offerB W p _ 0 _ (hR6.below hW) hl6
          have hSf := fun W (hW : Below x6.heap.size x6 W) => recv_safeB W p _ 0 _ (hR6.below hW)
          rw [hsf6.out] at hSf
          rw [g1.out] at hOf
          have hbX : Below wc.heap.size wc x6 := ((((((hbel.trans (y0.mono sr)).trans y1).trans y2).trans y3).trans y4).trans y5).trans y6
          clear hR6
          generalize R.offer = f at *
          have qf : ((f : Int) == (f : Int)) = true := by simp
          replace hOf := Lib.hid hOf
          replace hSf := Lib.hid hSf
          by_cases hfs : f = a0.size
          · rw [if_pos hfs] at hTx
            have qs : ((f : Int) == (a0.size : Int)) = true := by rw [hfs]; simp
            have hself2 : (a0.toList == a0.toList) = true := by simp
            replace hTx := Lib.hid hTx
            replace hfs := Lib.hid hfs
            go_wp2_with fail
            refine hTx.out.mono ?_
            rintro e x7 ⟨rfl, y7⟩
            go_wp2_with fail
            refine (hOf.out _ y7).mono ?_
            rintro e x8 ⟨rfl, y8⟩
            go_wp2_with fail
            refine (hSf.out _ (bch y7 y8)).mono ?_
            rintro e x9 ⟨rfl, y9⟩
            go_wp2
            go_ret
            exact ⟨rfl, bch (bch (bch (bch hbw hbX) y7) y8) y9⟩
          · rw [if_neg hfs] at hTx
            have qs : ((f : Int) == (a0.size : Int)) = false := by simp; omega
            replace hTx := Lib.hid hTx
            replace hfs := Lib.hid hfs
            go_wp2_with fail
            refine hTx.out.mono ?_
            rintro e x7 ⟨rfl, y7⟩
            unfold errN
            go_wp2_with fail
            refine (hOf.out _ y7).mono ?_
            rintro e x8 ⟨rfl, y8⟩
            go_wp2_with fail
            refine (hSf.out _ (bch y7 y8)).mono ?_
            rintro e x9 ⟨rfl, y9⟩
            go_wp2
            go_ret
            exact ⟨rfl, bch (bch (bch (bch hbw hbX) y7) y8) y9⟩
end Go.Proofs.YtdpdnkjpjoccmaaDoor
