/- The walk of RecvMixed. -/
import Derived.Test.YtdpdnkjpjoccmaaDoorWMixTake
namespace Go.Proofs.YtdpdnkjpjoccmaaDoor
open Go.RowKit
set_option linter.unusedVariables false
set_option linter.unusedSimpArgs false
def boolCells (b : Bool) : List Value := [.bool b]
theorem boolCells_len (b : Bool) : (boolCells b).length = 1 := rfl
/-- Where the pieces of a text lie: out of the way. -/
def PcsZ (w : World) (o : Option Addr) (s : ByteArray) (n : Nat) (Z : Nat → Prop) (ca : Nat) : Prop := ∀ k, k < Chunk.cuts s.size n → ∃ b off, o = some ⟨b, off, none⟩ ∧ ¬ Z b ∧ b ≠ ca ∧ w.cell? ⟨b, off + k * 4, none⟩ = some (.int .u32 (Crc.sum s.data.toList)) ∧ w.cell? ⟨b, off + k * 4 + 1, none⟩ = some (.int .i64 s.size) ∧ w.cell? ⟨b, off + k * 4 + 2, none⟩ = some (.int .i64 (k * n : Nat)) ∧ w.cell? ⟨b, off + k * 4 + 3, none⟩ = some (.string (Chunk.pieceAt s n k).data)
theorem PcsZ.only {w w' : World} {o : Option Addr} {s : ByteArray} {n : Nat} {Z : Nat → Prop} {ca : Nat} (h : PcsZ w o s n Z ca) (ho : Only (fun k => Z k ∨ k = ca) w w') : PcsZ w' o s n Z ca := fun k hk => by
  obtain ⟨b, off, e, hb, hc, k0, k1, k2, k3⟩ := h k hk
  exact ⟨b, off, e, hb, hc, ho.cell k0 (fun e => e.elim hb hc), ho.cell k1 (fun e => e.elim hb hc), ho.cell k2 (fun e => e.elim hb hc), ho.cell k3 (fun e => e.elim hb hc)⟩
theorem came_len {s : ByteArray} {R : Recv.Rec} (h : Recv.Inv s.data.toList R) (h2 : s.size ≤ 4096) : R.came.length ≤ 4096 := by
  by_cases e : R.came = []
  · rw [e]; simp
  · have := (h.some_ e).2.len2
    rw [Link.size_len] at this
    have this : R.came.length = s.size := this
    omega
set_option maxHeartbeats 8000000 in
set_option maxRecDepth 20000 in
theorem RecvMixed_walk (a0 : ByteArray) (a1 a2 : Int) (v3 : Value) (l : List Bool) (w : World) (w0 : a0.size ≤ 140737488351232) (w1 : (Lit.int .i64 a1).wf = true) (w2 : (Lit.int .i64 a2).wf = true) (L3 : ListIs (fun b : Bool => [Value.bool b]) 1 w v3 l) (q3 : ∀ x ∈ l, True) (z3 : l.length ≤ 140737488351232) (hL : Laid w) :
    Calls Tryd.prog 4 #[.string a0, .int .i64 a1, .int .i64 a2, v3] w fun e w' => e = .returned (.bool true) ∧ Below w.heap.size w w' := by
  obtain ⟨o2, c2, rfl, hcap2, hcell2⟩ := L3.at boolCells_len
  clear L3 hcap2 q3
  replace hcell2 := Lib.hid hcell2
  have hTk := Lib.hid (taken w hL)
  have hPc := Lib.hid (fun W => pieced W)
  by_cases h5 : 500 < a0.size
  · have d1 : decide ((500 : Int) < (a0.size : Int)) = true := by simp; omega
    go_enter Tryd.func4, Tryd.ntmps4
    go_wp2_with fail
    refine hTk.out.mono ?_
    rintro e wa ⟨rfl, hba⟩
    go_wp2_with fail
    refine (hPc.out _).mono ?_
    rintro e wb ⟨rfl, hbb⟩
    go_wp2
    go_ret
    exact ⟨rfl, bch hba hbb⟩
  · have d1 : decide ((500 : Int) < (a0.size : Int)) = false := by simp; omega
    by_cases h0 : a0.size = 0
    · have he := empty_size h0
      replace h0 := Lib.hid h0
      go_enter Tryd.func4, Tryd.ntmps4
      go_wp2_with fail
      refine hTk.out.mono ?_
      rintro e wa ⟨rfl, hba⟩
      go_wp2_with fail
      refine (hPc.out _).mono ?_
      rintro e wb ⟨rfl, hbb⟩
      go_wp2
      go_ret
      exact ⟨rfl, bch hba hbb⟩
    · have he := nonempty_size h0
      by_cases h6 : 100 < l.length
      · have d2 : decide ((100 : Int) < (l.length : Int)) = true := by simp; omega
        replace h0 := Lib.hid h0
        go_enter Tryd.func4, Tryd.ntmps4
        go_wp2_with fail
        refine hTk.out.mono ?_
        rintro e wa ⟨rfl, hba⟩
        go_wp2_with fail
        refine (hPc.out _).mono ?_
        rintro e wb ⟨rfl, hbb⟩
        go_wp2
        go_ret
        exact ⟨rfl, bch hba hbb⟩
      · have d2 : decide ((100 : Int) < (l.length : Int)) = false := by simp; omega
        have hp := pickN_lt a1 64 (by omega)
        have hpk := Lib.hid (fun W => keep_pick a1 64 64 W rfl (by omega) (by omega))
        have hn1 : (1 : Int) + ((pickN a1 64 : Nat) : Int) = ((1 + pickN a1 64 : Nat) : Int) := by omega
        have hn2 : 1 ≤ 1 + pickN a1 64 := by omega
        have hn3 : 1 + pickN a1 64 ≤ 256 := by omega
        generalize 1 + pickN a1 64 = n at *
        generalize pickN a1 64 = pk at *
        have hp' := pickN_lt a2 64 (by omega)
        have hpk' := Lib.hid (fun W => keep_pick a2 64 64 W rfl (by omega) (by omega))
        have hm1 : (1 : Int) + ((pickN a2 64 : Nat) : Int) = ((1 + pickN a2 64 : Nat) : Int) := by omega
        have hm2 : 1 ≤ 1 + pickN a2 64 := by omega
        have hm3 : 1 + pickN a2 64 ≤ 256 := by omega
        generalize 1 + pickN a2 64 = m at *
        generalize pickN a2 64 = pk' at *
        have hC := Lib.hid (fun W => chunk_cut a0 n W h0 (by omega) hn2 hn3)
        have hC' := Lib.hid (fun W => chunk_cut a0 m W h0 (by omega) hm2 hm3)
        have hN := Lib.hid recv_newB
        have hcl := cuts_le' a0 n (by omega) hn2
        have hcl' := cuts_le' a0 m (by omega) hm2
        have hmk := fun W => run_make_row' (P := Tryd.prog) 32 4 (.bool false) 1 Tryd.underlying32 (by kernel_rfl) rfl .i64 .i64 a0.size (by omega) (by omega) W
        have hlt := Lib.hid (fun k => Chunk.lt_cuts (n := a0.size) (size := n) (k := k) hn2)
        have hlt' := Lib.hid (fun k => Chunk.lt_cuts (n := a0.size) (size := m) (k := k) hm2)
        have hall := Lib.hid (Recv.cuts_all a0.size n hn2)
        have htk := Lib.hid (fun W bc br ca p Z F R E => mix_take W bc br ca p Z a0 F R E h0 (by omega) n hn2 hn3)
        have htk' := Lib.hid (fun W bc br ca p Z F R E => mix_take W bc br ca p Z a0 F R E h0 (by omega) m hm2 hm3)
        have hup := Lib.hid (fun k F hF => Recv.fill_upto a0 n k F hF hn2)
        generalize hc : Chunk.cuts a0.size n = c at *
        generalize hc' : Chunk.cuts a0.size m = c' at *
        replace hc := Lib.hid hc
        replace hc' := Lib.hid hc'
        replace h0 := Lib.hid h0
        go_enter Tryd.func4, Tryd.ntmps4
        go_wp2_with fail
        refine hTk.out.mono ?_
        rintro e wa ⟨rfl, hba⟩
        go_wp2_with fail
        refine (hPc.out _).mono ?_
        rintro e wb ⟨rfl, hbb⟩
        have hbw := bch hba hbb
        go_wp2_with fail
        refine (hpk.out _).mono ?_
        rintro e w' ⟨rfl, rfl⟩
        go_wp2_with fail
        refine (hpk'.out _).mono ?_
        rintro e w' ⟨rfl, rfl⟩
        go_wp2_with fail
        refine (hC.out _).mono ?_
        rintro e wd ⟨⟨v, rfl, hv⟩, hbd⟩
        obtain ⟨o, cp, rfl, hcell⟩ := pieces_cells hv
        clear hv
        replace hcell := Lib.hid hcell
        go_wp2_with fail
        refine (hC'.out _).mono ?_
        rintro e we ⟨⟨v, rfl, hv⟩, hbe⟩
        obtain ⟨o', cp', rfl, hcell'⟩ := pieces_cells hv
        clear hv
        replace hcell' := Lib.hid hcell'
        go_wp2_with fail
        refine (hN.out _).mono ?_
        rintro e wf ⟨⟨p, rfl, hR⟩, hbf⟩
        have hRz := hR.toZ
        have hzf := hbf.size
        have hze := hbe.size
        have t1 := hbd.size
        have t2 := hbw.size
        have y0 := (row_alloc wf #[.pointer (some ⟨p, 0, none⟩)] 30).cell 0
        have hbA : Below w.heap.size w wf := (bch (bch (bch hbw hbd) hbe) hbf)
        have hE : Hid (MixEnv (((wf.alloc (.cells #[.pointer (some ⟨p, 0, none⟩)] 30)).alloc (.cells (madeCells #[.bool false] a0.size) 4)).alloc (.cells #[.slice (some ⟨wf.heap.size + 1, 0, none⟩) a0.size a0.size] 32)) (wf.heap.size + 2) wf.heap.size (wf.heap.size + 1) p (fun k => (we.heap.size ≤ k ∧ k < wf.heap.size) ∨ wf.heap.size + 3 ≤ k) a0 (List.replicate a0.size false) Recv.new
            ∧ PcsZ (((wf.alloc (.cells #[.pointer (some ⟨p, 0, none⟩)] 30)).alloc (.cells (madeCells #[.bool false] a0.size) 4)).alloc (.cells #[.slice (some ⟨wf.heap.size + 1, 0, none⟩) a0.size a0.size] 32)) o a0 n (fun k => (we.heap.size ≤ k ∧ k < wf.heap.size) ∨ wf.heap.size + 3 ≤ k) (wf.heap.size + 1)
            ∧ PcsZ (((wf.alloc (.cells #[.pointer (some ⟨p, 0, none⟩)] 30)).alloc (.cells (madeCells #[.bool false] a0.size) 4)).alloc (.cells #[.slice (some ⟨wf.heap.size + 1, 0, none⟩) a0.size a0.size] 32)) o' a0 m (fun k => (we.heap.size ≤ k ∧ k < wf.heap.size) ∨ wf.heap.size + 3 ≤ k) (wf.heap.size + 1)) := Lib.hid (by
          have x1 : (wf.alloc (.cells #[.pointer (some ⟨p, 0, none⟩)] 30)).heap.size = wf.heap.size + 1 := by simp
          have x2 : ((wf.alloc (.cells #[.pointer (some ⟨p, 0, none⟩)] 30)).alloc (.cells (madeCells #[.bool false] a0.size) 4)).heap.size = wf.heap.size + 2 := by simp
          have hbz : Below wf.heap.size wf (((wf.alloc (.cells #[.pointer (some ⟨p, 0, none⟩)] 30)).alloc (.cells (madeCells #[.bool false] a0.size) 4)).alloc (.cells #[.slice (some ⟨wf.heap.size + 1, 0, none⟩) a0.size a0.size] 32)) := bal (bal (bal (Below.refl _ _) _) _) _
          have y1 := (((row_alloc wf #[.pointer (some ⟨p, 0, none⟩)] 30).alloc (.cells (madeCells #[.bool false] a0.size) 4)).alloc (.cells #[.slice (some ⟨wf.heap.size + 1, 0, none⟩) a0.size a0.size] 32)).cell 0
          have y2 := (row_alloc (wf.alloc (.cells #[.pointer (some ⟨p, 0, none⟩)] 30)) (madeCells #[.bool false] a0.size) 4).alloc (.cells #[.slice (some ⟨wf.heap.size + 1, 0, none⟩) a0.size a0.size] 32)
          have y3 := (row_alloc ((wf.alloc (.cells #[.pointer (some ⟨p, 0, none⟩)] 30)).alloc (.cells (madeCells #[.bool false] a0.size) 4)) #[.slice (some ⟨wf.heap.size + 1, 0, none⟩) a0.size a0.size] 32).cell 0
          rw [x1, madeCells_one] at y2
          rw [x2] at y3
          refine ⟨⟨y3, y1, by rw [flags, List.map_replicate]; exact y2, by rw [List.length_replicate], (hRz.mono fun k hk => Or.inl hk).below hbz, Recv.has_congr (Recv.has_new a0) (fun j _ => ?_), ?_, ?_, ?_⟩, fun k hk => ?_, fun k hk => ?_⟩
          · simp only [List.getD, List.getElem?_replicate]
            split <;> rfl
          · omega
          · omega
          · omega
          · obtain ⟨b, off, e, hb, k0, k1, k2, k3⟩ := hcell.out k (by rw [← hc.out]; exact hk)
            have hq : ∀ {q : Addr} {u : Value}, wd.cell? q = some u → (((wf.alloc (.cells #[.pointer (some ⟨p, 0, none⟩)] 30)).alloc (.cells (madeCells #[.bool false] a0.size) 4)).alloc (.cells #[.slice (some ⟨wf.heap.size + 1, 0, none⟩) a0.size a0.size] 32)).cell? q = some u := fun h => cell_below hbz (cell_below hbf (cell_below hbe h))
            exact ⟨b, off, e, by omega, by omega, hq k0, hq k1, hq k2, hq k3⟩
          · obtain ⟨b, off, e, hb, k0, k1, k2, k3⟩ := hcell'.out k (by rw [← hc'.out]; exact hk)
            have hq : ∀ {q : Addr} {u : Value}, we.cell? q = some u → (((wf.alloc (.cells #[.pointer (some ⟨p, 0, none⟩)] 30)).alloc (.cells (madeCells #[.bool false] a0.size) 4)).alloc (.cells #[.slice (some ⟨wf.heap.size + 1, 0, none⟩) a0.size a0.size] 32)).cell? q = some u := fun h => cell_below hbz (cell_below hbf h)
            exact ⟨b, off, e, by omega, by omega, hq k0, hq k1, hq k2, hq k3⟩)
        have hBz : Hid (Below w.heap.size w (((wf.alloc (.cells #[.pointer (some ⟨p, 0, none⟩)] 30)).alloc (.cells (madeCells #[.bool false] a0.size) 4)).alloc (.cells #[.slice (some ⟨wf.heap.size + 1, 0, none⟩) a0.size a0.size] 32))) := Lib.hid (bal (bal (bal hbA _) _) _)
        have hZz : (((wf.alloc (.cells #[.pointer (some ⟨p, 0, none⟩)] 30)).alloc (.cells (madeCells #[.bool false] a0.size) 4)).alloc (.cells #[.slice (some ⟨wf.heap.size + 1, 0, none⟩) a0.size a0.size] 32)).heap.size = wf.heap.size + 3 := by simp
        have hzw : w.heap.size ≤ we.heap.size := by omega
        replace hRz := Lib.hid hRz
        replace hZz := Lib.hid hZz
        clear hR hba hbb hbw hbd hbe hbf hbA
        go_wp2_with fail
        generalize (((wf.alloc (.cells #[.pointer (some ⟨p, 0, none⟩)] 30)).alloc (.cells (madeCells #[.bool false] a0.size) 4)).alloc (.cells #[.slice (some ⟨wf.heap.size + 1, 0, none⟩) a0.size a0.size] 32)) = wz at *
        clear hmk y0
        generalize hbe' : we.heap.size = be at *
        generalize hbr' : wf.heap.size = br at *
        clear hcell hcell'
        go_loopw [76] (fun i wr => ∃ (k : Nat) (F : List Bool) (R : Recv.Rec), k ≤ l.length ∧ i = .int .i64 k ∧ MixEnv wr (br + 2) br (br + 1) p (fun k => (be ≤ k ∧ k < br) ∨ br + 3 ≤ k) a0 F R ∧ PcsZ wr o a0 n (fun k => (be ≤ k ∧ k < br) ∨ br + 3 ≤ k) (br + 1) ∧ PcsZ wr o' a0 m (fun k => (be ≤ k ∧ k < br) ∨ br + 3 ≤ k) (br + 1) ∧ br + 3 ≤ wr.heap.size ∧ Below w.heap.size w wr) (fun i _ => l.length - (intOf i).toNat)
        case atStart => exact ⟨0, _, _, by omega, rfl, hE.out.1, hE.out.2.1, hE.out.2.2, by rw [hZz.out]; exact Nat.le_refl _, hBz.out⟩
        case round =>
          obtain ⟨k, F, R, hk, rfl, hA, hPx, hPy, hsz, hbel⟩ := hrel
          clear hE hBz
          by_cases hlt2 : k < l.length
          · obtain ⟨b1, f1, rfl, hb1, hc1⟩ := hcell2.out k hlt2
            have hb1 := hb1 (by omega)
            have c0 : wr.cell? ⟨b1, f1 + k, none⟩ = some (.bool l[k]) := (hbel.cell (p := ⟨b1, f1 + k, none⟩) hb1).trans (by have := hc1 0 _ rfl; simpa using this)
            clear hc1
            cases hx : l[k] with
            | true =>
              rw [hx] at c0
              clear hx
              by_cases hkc : k < c
              · have d3 : decide ((k : Int) < (c : Int)) = true := by simp; omega
                obtain ⟨b, off, rfl, hbZ, hbc, k0, k1, k2, k3⟩ := hPx k (by rw [hc.out]; exact hkc)
                have htt := Lib.hid (htk.out _ _ _ _ _ _ _ _ hA k ((hlt.out k).1 hkc) (fun j hj => Or.inr (by omega)))
                replace hA := Lib.hid hA
                replace hPx := Lib.hid hPx
                replace hPy := Lib.hid hPy
                generalize (Chunk.pieceAt a0 n k).data = dt at *
                generalize k * n = kn at *
                generalize Crc.sum a0.data.toList = sm at *
                go_wp2_with fail
                refine htt.out.mono ?_
                rintro e wn ⟨rfl, hA2, ho2⟩
                have hbn := hbel.trans (ho2.below (B := w.heap.size) (fun j hj => by rcases hj with (hj | hj) | hj <;> omega) hbel.size)
                have hsn := ho2.size
                have hPx2 := hPx.out.only ho2
                have hPy2 := hPy.out.only ho2
                replace hA2 := Lib.hid hA2
                replace hPx2 := Lib.hid hPx2
                replace hPy2 := Lib.hid hPy2
                replace ho2 := Lib.hid ho2
                go_wp2
                go_roundw
                case rel => exact ⟨k + 1, _, _, by omega, by go_num, hA2.out, hPx2.out, hPy2.out, by omega, hbn⟩
                case measure => simp [intOf]; omega
              · have d3 : decide ((k : Int) < (c : Int)) = false := by simp; omega
                replace hA := Lib.hid hA
                replace hPx := Lib.hid hPx
                replace hPy := Lib.hid hPy
                go_wp2
                go_roundw
                case rel => exact ⟨k + 1, _, _, by omega, by go_num, hA.out, hPx.out, hPy.out, hsz, hbel⟩
                case measure => simp [intOf]; omega
            | false =>
              rw [hx] at c0
              clear hx
              by_cases hkc : k < c'
              · have d3 : decide ((k : Int) < (c' : Int)) = true := by simp; omega
                obtain ⟨b, off, rfl, hbZ, hbc, k0, k1, k2, k3⟩ := hPy k (by rw [hc'.out]; exact hkc)
                have htt := Lib.hid (htk'.out _ _ _ _ _ _ _ _ hA k ((hlt'.out k).1 hkc) (fun j hj => Or.inr (by omega)))
                replace hA := Lib.hid hA
                replace hPx := Lib.hid hPx
                replace hPy := Lib.hid hPy
                generalize (Chunk.pieceAt a0 m k).data = dt at *
                generalize k * m = kn at *
                generalize Crc.sum a0.data.toList = sm at *
                go_wp2_with fail
                refine htt.out.mono ?_
                rintro e wn ⟨rfl, hA2, ho2⟩
                have hbn := hbel.trans (ho2.below (B := w.heap.size) (fun j hj => by rcases hj with (hj | hj) | hj <;> omega) hbel.size)
                have hsn := ho2.size
                have hPx2 := hPx.out.only ho2
                have hPy2 := hPy.out.only ho2
                replace hA2 := Lib.hid hA2
                replace hPx2 := Lib.hid hPx2
                replace hPy2 := Lib.hid hPy2
                replace ho2 := Lib.hid ho2
                go_wp2
                go_roundw
                case rel => exact ⟨k + 1, _, _, by omega, by go_num, hA2.out, hPx2.out, hPy2.out, by omega, hbn⟩
                case measure => simp [intOf]; omega
              · have d3 : decide ((k : Int) < (c' : Int)) = false := by simp; omega
                replace hA := Lib.hid hA
                replace hPx := Lib.hid hPx
                replace hPy := Lib.hid hPy
                go_wp2
                go_roundw
                case rel => exact ⟨k + 1, _, _, by omega, by go_num, hA.out, hPx.out, hPy.out, hsz, hbel⟩
                case measure => simp [intOf]; omega
          · obtain rfl : k = l.length := by omega
            have hof := Recv.flags_offer a0 R F hA.len hA.has
            have hcm := came_len hA.has.inv (by omega)
            have hqc := Recv.offer_le F
            have htr := Lib.hid (Recv.offer_true F)
            have hst := Lib.hid (Recv.offer_stop F)
            have hOf := Lib.hid (fun W hW => recv_offerB W p 0 0 R ((hA.recv.below hW).toB (fun _ _ => Nat.zero_le _)) hcm)
            rw [hof] at hOf
            have hlF := hA.len
            have hrow := Lib.hid hA.row
            have hcc := hA.c
            have hrr := hA.r
            replace hA := Lib.hid hA
            replace hPx := Lib.hid hPx
            replace hPy := Lib.hid hPy
            generalize hq : Recv.offer F = q at *
            replace hq := Lib.hid hq
            replace hof := Lib.hid hof
            clear hcm hcell2
            go_wp2_with fail
            go_loopw [18] (fun i wy => ∃ j : Nat, j ≤ q ∧ i = .int .i64 j ∧ Below wr.heap.size wr wy) (fun i _ => a0.size - (intOf i).toNat)
            case atStart => exact ⟨0, by omega, rfl, by (repeat (first | exact Below.refl _ _ | assumption | refine bal ?_ _ | refine bdr ?_ | refine bdn ?_ _ | refine bst ?_ (by first | assumption | exact Nat.le_refl _ | omega) _ | refine bch ?_ (by assumption)))⟩
            case round =>
              obtain ⟨j, hj, rfl, hby⟩ := hrel
              have e1 := cell_below hby hcc
              have e2 := cell_below hby hrr
              by_cases hjq : j < q
              · have d1 : decide ((j : Int) < (a0.size : Int)) = true := by simp; omega
                have c0 : wr.cell? ⟨br + 1, j, none⟩ = some (.bool true) := cell_below hby (by rw [hrow.out.cell, flags, List.getElem?_map, htr.out j hjq]; rfl)
                have d2 : j < a0.size := by omega
                go_wp2
                go_roundw
                case rel => exact ⟨j + 1, by omega, by go_num, hby⟩
                case measure => simp [intOf]; omega
              · obtain rfl : j = q := by omega
                by_cases hjc : j < a0.size
                · have d1 : decide ((j : Int) < (a0.size : Int)) = true := by simp; omega
                  have c0 : wr.cell? ⟨br + 1, j, none⟩ = some (.bool false) := cell_below hby (by rw [hrow.out.cell, flags, List.getElem?_map, hst.out (by rw [hlF]; exact hjc)]; rfl)
                  go_wp2_with fail
                  refine (hOf.out _ hby).mono ?_
                  rintro e wu ⟨rfl, hbu⟩
                  have hbv := bch hby hbu
                  have hA3 := Lib.hid (hA.out.only hbv)
                  have hPx3 := Lib.hid (hPx.out.only (Only.of_below _ hbv))
                  have hsv : br + 3 ≤ wu.heap.size := by have := hbv.size; omega
                  have hbev := bch hbel hbv
                  clear hA hPx hPy hby hbu hbv hrow e1 e2 hcc hrr hbel
                  go_wp2_with fail
                  go_loopw [135] (fun i wr => ∃ (k : Nat) (F : List Bool) (R : Recv.Rec), k ≤ c ∧ i = .int .i64 k ∧ MixEnv wr (br + 2) br (br + 1) p (fun k => (be ≤ k ∧ k < br) ∨ br + 3 ≤ k) a0 F R ∧ PcsZ wr o a0 n (fun k => (be ≤ k ∧ k < br) ∨ br + 3 ≤ k) (br + 1) ∧ (∀ j, j < k * n → j < a0.size → F.getD j false = true) ∧ br + 3 ≤ wr.heap.size ∧ Below w.heap.size w wr) (fun i _ => c - (intOf i).toNat)
                  case atStart => exact ⟨0, _, _, by omega, rfl, hA3.out, hPx3.out, fun j hj => by omega, by first | exact hsv | (simp; omega), by first | exact hbev | (repeat (first | exact Below.refl _ _ | assumption | refine bal ?_ _ | refine bdr ?_ | refine bdn ?_ _ | refine bst ?_ (by first | assumption | exact Nat.le_refl _ | omega) _ | refine bch ?_ (by assumption)))⟩
                  case round =>
                    obtain ⟨k, F2, R2, hk, rfl, hA, hPx, hF, hsz, hbel⟩ := hrel
                    clear hA3 hPx3
                    by_cases hkc : k < c
                    · obtain ⟨b, off, rfl, hbZ, hbc, k0, k1, k2, k3⟩ := hPx k (by rw [hc.out]; exact hkc)
                      have hi := (hlt.out k).1 hkc
                      have hba4 : Below wr.heap.size wr (wr.alloc (.cells #[.int .u32 (Crc.sum a0.data.toList), .int .i64 a0.size, .int .i64 (k * n : Nat), .string (Chunk.pieceAt a0 n k).data] 37)) := bal (Below.refl _ _) _
                      have htt := Lib.hid (htk.out _ _ _ _ _ _ _ _ (hA.only hba4) k hi (fun j hj => Or.inr (by have := hba4.size; omega)))
                      have hF2 := Lib.hid (hup.out k F2 hA.len hi hF)
                      have hP2 := Lib.hid (hPx.only (Only.of_below _ hba4))
                      have hbe4 := bch hbel hba4
                      have hs4 := hba4.size
                      replace hF := Lib.hid hF
                      replace hA := Lib.hid hA
                      replace hPx := Lib.hid hPx
                      generalize hkn1 : (k + 1) * n = kn1 at *
                      replace hkn1 := Lib.hid hkn1
                      generalize (Chunk.pieceAt a0 n k).data = dt at *
                      generalize k * n = kn at *
                      generalize Crc.sum a0.data.toList = sm at *
                      go_wp2_with fail
                      refine htt.out.mono ?_
                      rintro e wn ⟨rfl, hA2, ho2⟩
                      have hbn := hbe4.trans (ho2.below (B := w.heap.size) (fun j hj => by rcases hj with (hj | hj) | hj <;> omega) hbe4.size)
                      have hsn := ho2.size
                      have hPx2 := hP2.out.only ho2
                      replace hA2 := Lib.hid hA2
                      replace hPx2 := Lib.hid hPx2
                      replace ho2 := Lib.hid ho2
                      go_wp2
                      go_roundw
                      case rel => exact ⟨k + 1, _, _, by omega, by go_num, hA2.out, hPx2.out, by rw [hkn1.out]; exact hF2.out, by omega, hbn⟩
                      case measure => simp [intOf]; omega
                    · obtain rfl : k = c := by omega
                      have hof2 := Recv.flags_offer a0 R2 F2 hA.len hA.has
                      have hao := Recv.all_offer F2 (fun j hj => hF j (by have := hall.out; rw [hA.len] at hj; omega) (by rw [hA.len] at hj; exact hj))
                      rw [hao, hA.len] at hof2
                      have hne : R2.came ≠ [] := fun e => by
                        unfold Recv.Rec.offer at hof2
                        rw [e] at hof2
                        have : a0.size = 0 := hof2.symm
                        exact h0.out this
                      have hTx := recv_textB wr p 0 0 R2 (hA.recv.toB (fun _ _ => Nat.zero_le _)) a0 hA.has.inv (by omega)
                      rw [if_neg hne, if_pos hof2] at hTx
                      have hrr := hA.r
                      have hself : (a0.toList == a0.toList) = true := by simp
                      replace hTx := Lib.hid hTx
                      replace hA := Lib.hid hA
                      replace hPx := Lib.hid hPx
                      replace hF := Lib.hid hF
                      clear hof2 hao hne
                      go_wp2_with fail
                      refine hTx.out.mono ?_
                      rintro e wt ⟨rfl, hbt⟩
                      go_wp2
                      go_ret
                      exact ⟨rfl, bch hbel hbt⟩
                · have d1 : decide ((j : Int) < (a0.size : Int)) = false := by simp; omega
                  go_wp2_with fail
                  refine (hOf.out _ hby).mono ?_
                  rintro e wu ⟨rfl, hbu⟩
                  have hbv := bch hby hbu
                  have hA3 := Lib.hid (hA.out.only hbv)
                  have hPx3 := Lib.hid (hPx.out.only (Only.of_below _ hbv))
                  have hsv : br + 3 ≤ wu.heap.size := by have := hbv.size; omega
                  have hbev := bch hbel hbv
                  clear hA hPx hPy hby hbu hbv hrow e1 e2 hcc hrr hbel
                  go_wp2_with fail
                  go_loopw [135] (fun i wr => ∃ (k : Nat) (F : List Bool) (R : Recv.Rec), k ≤ c ∧ i = .int .i64 k ∧ MixEnv wr (br + 2) br (br + 1) p (fun k => (be ≤ k ∧ k < br) ∨ br + 3 ≤ k) a0 F R ∧ PcsZ wr o a0 n (fun k => (be ≤ k ∧ k < br) ∨ br + 3 ≤ k) (br + 1) ∧ (∀ j, j < k * n → j < a0.size → F.getD j false = true) ∧ br + 3 ≤ wr.heap.size ∧ Below w.heap.size w wr) (fun i _ => c - (intOf i).toNat)
                  case atStart => exact ⟨0, _, _, by omega, rfl, hA3.out, hPx3.out, fun j hj => by omega, by first | exact hsv | (simp; omega), by first | exact hbev | (repeat (first | exact Below.refl _ _ | assumption | refine bal ?_ _ | refine bdr ?_ | refine bdn ?_ _ | refine bst ?_ (by first | assumption | exact Nat.le_refl _ | omega) _ | refine bch ?_ (by assumption)))⟩
                  case round =>
                    obtain ⟨k, F2, R2, hk, rfl, hA, hPx, hF, hsz, hbel⟩ := hrel
                    clear hA3 hPx3
                    by_cases hkc : k < c
                    · obtain ⟨b, off, rfl, hbZ, hbc, k0, k1, k2, k3⟩ := hPx k (by rw [hc.out]; exact hkc)
                      have hi := (hlt.out k).1 hkc
                      have hba4 : Below wr.heap.size wr (wr.alloc (.cells #[.int .u32 (Crc.sum a0.data.toList), .int .i64 a0.size, .int .i64 (k * n : Nat), .string (Chunk.pieceAt a0 n k).data] 37)) := bal (Below.refl _ _) _
                      have htt := Lib.hid (htk.out _ _ _ _ _ _ _ _ (hA.only hba4) k hi (fun j hj => Or.inr (by have := hba4.size; omega)))
                      have hF2 := Lib.hid (hup.out k F2 hA.len hi hF)
                      have hP2 := Lib.hid (hPx.only (Only.of_below _ hba4))
                      have hbe4 := bch hbel hba4
                      have hs4 := hba4.size
                      replace hF := Lib.hid hF
                      replace hA := Lib.hid hA
                      replace hPx := Lib.hid hPx
                      generalize hkn1 : (k + 1) * n = kn1 at *
                      replace hkn1 := Lib.hid hkn1
                      generalize (Chunk.pieceAt a0 n k).data = dt at *
                      generalize k * n = kn at *
                      generalize Crc.sum a0.data.toList = sm at *
                      go_wp2_with fail
                      refine htt.out.mono ?_
                      rintro e wn ⟨rfl, hA2, ho2⟩
                      have hbn := hbe4.trans (ho2.below (B := w.heap.size) (fun j hj => by rcases hj with (hj | hj) | hj <;> omega) hbe4.size)
                      have hsn := ho2.size
                      have hPx2 := hP2.out.only ho2
                      replace hA2 := Lib.hid hA2
                      replace hPx2 := Lib.hid hPx2
                      replace ho2 := Lib.hid ho2
                      go_wp2
                      go_roundw
                      case rel => exact ⟨k + 1, _, _, by omega, by go_num, hA2.out, hPx2.out, by rw [hkn1.out]; exact hF2.out, by omega, hbn⟩
                      case measure => simp [intOf]; omega
                    · obtain rfl : k = c := by omega
                      have hof2 := Recv.flags_offer a0 R2 F2 hA.len hA.has
                      have hao := Recv.all_offer F2 (fun j hj => hF j (by have := hall.out; rw [hA.len] at hj; omega) (by rw [hA.len] at hj; exact hj))
                      rw [hao, hA.len] at hof2
                      have hne : R2.came ≠ [] := fun e => by
                        unfold Recv.Rec.offer at hof2
                        rw [e] at hof2
                        have : a0.size = 0 := hof2.symm
                        exact h0.out this
                      have hTx := recv_textB wr p 0 0 R2 (hA.recv.toB (fun _ _ => Nat.zero_le _)) a0 hA.has.inv (by omega)
                      rw [if_neg hne, if_pos hof2] at hTx
                      have hrr := hA.r
                      have hself : (a0.toList == a0.toList) = true := by simp
                      replace hTx := Lib.hid hTx
                      replace hA := Lib.hid hA
                      replace hPx := Lib.hid hPx
                      replace hF := Lib.hid hF
                      clear hof2 hao hne
                      go_wp2_with fail
                      refine hTx.out.mono ?_
                      rintro e wt ⟨rfl, hbt⟩
                      go_wp2
                      go_ret
                      exact ⟨rfl, bch hbel hbt⟩
end Go.Proofs.YtdpdnkjpjoccmaaDoor
