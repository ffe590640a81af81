/- Walk of the law ChunkAll. -/
import Derived.Test.YtajpoggkmjedpaaWPieced
namespace Go.Proofs.Ytajpoggkmjedpaa
open Go.RowKit
set_option linter.unusedVariables false
set_option linter.unusedSimpArgs false
theorem take_min (s : ByteArray) (k : Nat) : s.extract 0 (min s.size k) = s.extract 0 k := by
  apply ByteArray.ext
  rw [ByteArray.data_extract, ByteArray.data_extract]
  apply Array.ext
  · simp; have : s.size = s.data.size := rfl; omega
  · intro i h1 h2; simp
set_option maxHeartbeats 8000000 in
set_option maxRecDepth 100000 in
theorem ChunkAll_walk (s : ByteArray) (a1 : Int) (w : World) (w0 : s.size ≤ 140737488351232) (w1 : (Lit.int .i64 a1).wf = true) :
    Calls Try.prog 6 #[.string s, .int .i64 a1] w fun e w' => e = .returned (.bool true) ∧ Below w.heap.size w w' := by
  clear w1
  have hP := pieced w
  have hS := fun W => summed W
  replace hP := Lib.hid hP
  replace hS := Lib.hid hS
  by_cases h15 : 1500 < s.size
  · go_enter Try.func6, Try.ntmps6
    go_wp2_with fail
    refine hP.out.mono ?_
    rintro _ w1 ⟨rfl, hb1⟩
    go_wp2_with fail
    refine (hS.out _).mono ?_
    rintro _ w2 ⟨rfl, rfl⟩
    go_wp2
    go_ret
    exact ⟨rfl, hb1⟩
  · by_cases h0 : s.size = 0
    · have he := empty_size h0
      go_enter Try.func6, Try.ntmps6
      go_wp2_with fail
      refine hP.out.mono ?_
      rintro _ w1 ⟨rfl, hb1⟩
      go_wp2_with fail
      refine (hS.out _).mono ?_
      rintro _ w2 ⟨rfl, rfl⟩
      go_wp2
      go_ret
      exact ⟨rfl, hb1⟩
    · have he := nonempty_size h0
      have hp0 := fun W => keep_pick a1 256 256 W rfl (by omega) (by omega)
      have hl0 := pickN_lt a1 256 (by omega)
      generalize pickN a1 256 = q1 at *
      obtain ⟨z, hz⟩ : ∃ z, z = 1 + q1 := ⟨_, rfl⟩
      have hzi : 1 + (q1 : Int) = (z : Int) := by omega
      have hz1 : 1 ≤ z := by omega
      have hz2 : z ≤ 256 := by omega
      have hC := fun W => chunk_cut s z W (by omega) (by omega) hz1 hz2
      have hpl := Chunk.pieces_len s z (Chunk.cuts s.size z)
      have hpg := fun i h => Chunk.pieces_get s z (Chunk.cuts s.size z) i h
      have hlc := fun k => Chunk.lt_cuts (n := s.size) (k := k) hz1
      have hsum := fun W => crc_sum s W (by unfold maxLen; omega)
      have hfin := Chunk.ahead_all s
      have hahd := fun k h => Chunk.ahead_succ s z k h
      have hfine := fun k h => Chunk.pieceAt_fine s z k h hz1 hz2 (by omega)
      have hpz := fun k h => Chunk.pieceAt_size s z k h
      have hNN : (((Crc.sum s.data.toList : Nat) : Int) == ((Crc.sum s.data.toList : Nat) : Int)) = true := by simp
      generalize Chunk.pieces s z (Chunk.cuts s.size z) = L at *
      generalize Chunk.cuts s.size z = K at *
      replace hz := Lib.hid hz
      replace hp0 := Lib.hid hp0
      replace hC := Lib.hid hC
      replace hpg := Lib.hid hpg
      replace hlc := Lib.hid hlc
      replace hsum := Lib.hid hsum
      replace hfin := Lib.hid hfin
      replace hahd := Lib.hid hahd
      replace hfine := Lib.hid hfine
      replace hpz := Lib.hid hpz
      clear hl0
      go_enter Try.func6, Try.ntmps6
      go_wp2_with fail
      refine hP.out.mono ?_
      rintro _ w1 ⟨rfl, hb1⟩
      go_wp2_with fail
      refine (hS.out _).mono ?_
      rintro _ w2 ⟨rfl, rfl⟩
      go_wp2_with fail
      refine (hp0.out _).mono ?_
      rintro _ w3 ⟨rfl, rfl⟩
      go_wp2_with fail
      refine (hC.out _).mono ?_
      rintro _ w4 ⟨⟨v, rfl, hv⟩, hb4⟩
      have hb5 := bch hb1 hb4
      obtain ⟨a, cap, rfl, -, hcell⟩ := hv.at pieceCells_len
      replace hcell := Lib.hid hcell
      replace hpl := Lib.hid hpl
      have hKl : L.length ≤ 1500 := by
        have h1 := hpl.out
        rcases Nat.eq_zero_or_pos K with h | h
        · omega
        · have h2 := (hlc.out (K - 1)).1 (by omega)
          have h3 : (K - 1) * 1 ≤ (K - 1) * z := Nat.mul_le_mul (Nat.le_refl _) hz1
          omega
      clear hv hb1 hb4
      go_wp2
      go_loopw [7, 34] (fun t i wr => ∃ (k p : Nat), k ≤ L.length ∧ i = .int .i64 k ∧ p = k * z ∧ t = .string (s.extract 0 p) ∧ Below w4.heap.size w4 wr) (fun _ i _ => L.length - (intOf i).toNat)
      case atStart => exact ⟨0, 0, by omega, rfl, by simp, by rw [show s.extract 0 0 = ⟨#[]⟩ from ByteArray.ext (by simp)], Below.refl _ _⟩
      case round =>
        obtain ⟨k, p, hk, rfl, hp, rfl, hbel⟩ := hrel
        have hpl2 := hpl.out
        by_cases hlt : k < L.length
        · have hps : p < s.size := by have := (hlc.out k).1 (by omega); omega
          obtain ⟨b1, f1, rfl, hbb, hc1⟩ := hcell.out k hlt
          have hbb := hbb (by omega)
          have hpk := hpg.out k hlt
          rw [hpk] at hc1
          have hc2 := piece_cells (w := wr) (fun i u hu => (hbel.cell (p := ⟨b1, f1 + k * 4 + i, none⟩) hbb).trans (hc1 i u hu))
          obtain ⟨c0, c1, c2, c3⟩ := hc2
          have hfn := hfine.out k (by omega)
          have hz3 := hpz.out k (by omega)
          have hah := hahd.out k (by omega)
          have hnx : p + z = (k + 1) * z := by rw [Nat.add_mul, Nat.one_mul, hp]
          rw [take_min, ← hnx, ← hp] at hah
          rw [← hp] at hz3
          have e1 : (Chunk.pieceAt s z k).name = Crc.sum s.data.toList := rfl
          have e2 : (Chunk.pieceAt s z k).total = s.size := rfl
          have e3 : (Chunk.pieceAt s z k).at_ = (p : Int) := by rw [hp]; rfl
          have hR := fun W => chunk_right (Chunk.pieceAt s z k).name (Chunk.pieceAt s z k).total (Chunk.pieceAt s z k).at_ (Chunk.pieceAt s z k).data W
          have hw0 : Chunk.wrong ⟨(Chunk.pieceAt s z k).name, (Chunk.pieceAt s z k).total, (Chunk.pieceAt s z k).at_, (Chunk.pieceAt s z k).data⟩ = 0 := (Chunk.fine_iff _).2 hfn
          rw [hw0, e1, e2, e3] at hR
          replace hR : ∀ W, Calls Try.prog 18 #[.agg #[.int .u32 (Crc.sum s.data.toList), .int .i64 s.size, .int .i64 p, .string (Chunk.pieceAt s z k).data]] W fun e w' => e = .returned .nilIface ∧ Below W.heap.size W w' := hR
          rw [e1] at c0
          rw [e2] at c1
          rw [e3] at c2
          have hxs : (s.extract 0 p).size = p := by simp only [ByteArray.size_extract]; omega
          have hlast := hlc.out (k + 1)
          rw [← hnx, ← hpl2] at hlast
          generalize (Chunk.pieceAt s z k).data = d at *
          replace hR := Lib.hid hR
          replace hah := Lib.hid hah
          replace hnx := Lib.hid hnx
          replace hp := Lib.hid hp
          clear hc1 hpk hfn e1 e2 e3 hw0 hpl2
          go_wp2_with fail
          have q0 := row_at #[.int .u32 (Crc.sum s.data.toList), .int .i64 s.size, .int .i64 p, .string d] 40 (rfl : wr.heap.size = wr.heap.size)
          have hbel1 := bal hbel (Obj.cells #[.int .u32 (Crc.sum s.data.toList), .int .i64 s.size, .int .i64 p, .string d] 40)
          generalize wr.alloc (Obj.cells #[.int .u32 (Crc.sum s.data.toList), .int .i64 s.size, .int .i64 p, .string d] 40) = W5 at *
          clear c0 c1 c2 c3
          (have c0 := q0.cell 0; have c1 := q0.cell 1; have c2 := q0.cell 2; have c3 := q0.cell 3; simp only [List.set_cons_succ, List.set_cons_zero, List.getElem?_cons_zero, List.getElem?_cons_succ] at c0 c1 c2 c3)
          have k0 := Old.cell c0
          have k1 := Old.cell c1
          have k2 := Old.cell c2
          have k3 := Old.cell c3
          have dpp : ((p : Int) == (p : Int)) = true := by simp
          by_cases hnl : k + 1 < L.length
          · have hdz : d.size = z := by have := hlast.1 hnl; omega
            have g1 : decide ((k : Int) + 1 < (L.length : Int)) = true := by simp; omega
            replace hlast := Lib.hid hlast
            replace hz3 := Lib.hid hz3
            have dzz : ((z : Int) == (z : Int)) = true := by simp
            (have hN := Old.ne W5; refine wp_region_kept (Old W5.heap.size W5) (by kernel_rfl) (by kernel_rfl) (Old.start W5) ?_; (repeat (first | go_big_quiet_step ((first | (go_at_call 18; go_must (exact calls_kept (hR.out _) Old.below)) | (go_at_call 22; go_must (exact calls_kept_same (hsum.out _) )))) | quiet_step ((first | (go_at_call 18; go_must (exact calls_kept (hR.out _) Old.below)) | (go_at_call 22; go_must (exact calls_kept_same (hsum.out _) )))))); refine wpQuiet_nil ?_; rintro _ ⟨X, rfl⟩)
            go_wp2
            go_roundw
            case rel => exact ⟨k + 1, p + z, by omega, by go_num, hnx.out, by rw [← hah.out], bch hbel1 X.ok.2⟩
            case measure => simp [intOf]; omega
          · have hdz : d.size ≤ z := by omega
            have g1 : decide ((k : Int) + 1 < (L.length : Int)) = false := by simp; omega
            have g2 : decide ((z : Int) < (d.size : Int)) = false := by simp; omega
            replace hlast := Lib.hid hlast
            replace hz3 := Lib.hid hz3
            (have hN := Old.ne W5; refine wp_region_kept (Old W5.heap.size W5) (by kernel_rfl) (by kernel_rfl) (Old.start W5) ?_; (repeat (first | go_big_quiet_step ((first | (go_at_call 18; go_must (exact calls_kept (hR.out _) Old.below)) | (go_at_call 22; go_must (exact calls_kept_same (hsum.out _) )))) | quiet_step ((first | (go_at_call 18; go_must (exact calls_kept (hR.out _) Old.below)) | (go_at_call 22; go_must (exact calls_kept_same (hsum.out _) )))))); refine wpQuiet_nil ?_; rintro _ ⟨X, rfl⟩)
            go_wp2
            go_roundw
            case rel => exact ⟨k + 1, p + z, by omega, by go_num, hnx.out, by rw [← hah.out], bch hbel1 X.ok.2⟩
            case measure => simp [intOf]; omega
        · obtain rfl : k = L.length := by omega
          have hge : s.size ≤ p := by
            have h1 := hlc.out L.length
            have h2 : ¬ L.length * z < s.size := fun h => by have := h1.2 h; omega
            omega
          rw [hfin.out p hge]
          have hss : (s.toList == s.toList) = true := by simp
          clear hp hpl2
          go_wp2
          go_ret
          exact ⟨rfl, bch hb5 hbel⟩
end Go.Proofs.Ytajpoggkmjedpaa
