/- The walk of RecvAll. -/
import Derived.Test.YtdpdnkjpjoccmaaDoorWAllTake
namespace Go.Proofs.YtdpdnkjpjoccmaaDoor
open Go.RowKit
set_option linter.unusedVariables false
set_option linter.unusedSimpArgs false
set_option maxHeartbeats 8000000 in
set_option maxRecDepth 20000 in
theorem RecvAll_walk (a0 : ByteArray) (a1 : Int) (v2 : Value) (l : List Int) (w : World) (w0 : a0.size ≤ 140737488351232) (w1 : (Lit.int .i64 a1).wf = true) (L2 : IntsIs w v2 l) (q2 : ∀ x ∈ l, (Lit.int .i64 x).wf = true) (z2 : l.length ≤ 140737488351232) (hL : Laid w) :
    Calls Tryd.prog 3 #[.string a0, .int .i64 a1, v2] w fun e w' => e = .returned (.bool true) ∧ Below w.heap.size w w' := by
  obtain ⟨o2, c2, rfl, hcap2, hcell2⟩ := L2.at intCells_len
  clear L2 hcap2 q2
  replace hcell2 := Lib.hid hcell2
  have hTk := Lib.hid (fun W (hb : Below w.heap.size w W) => taken W (hL.below hb))
  have hPc := Lib.hid (fun W => pieced W)
  have bs1 := row_alloc w #[.string a0] 9
  have bn1 := row_alloc (w.alloc (.cells #[.string a0] 9)) #[.int .i64 a1] 3
  have bs2 := bs1.alloc (.cells #[.int .i64 a1] 3)
  have hb0 : Below w.heap.size w ((w.alloc (.cells #[.string a0] 9)).alloc (.cells #[.int .i64 a1] 3)) := bal (bal (Below.refl _ _) _) _
  have hz0 : ((w.alloc (.cells #[.string a0] 9)).alloc (.cells #[.int .i64 a1] 3)).heap.size = w.heap.size + 2 := by simp
  have hz1 : (w.alloc (.cells #[.string a0] 9)).heap.size = w.heap.size + 1 := by simp
  rw [hz1] at bn1
  replace bs2 := Lib.hid bs2
  replace bn1 := Lib.hid bn1
  replace hb0 := Lib.hid hb0
  replace hz0 := Lib.hid hz0
  clear bs1 hz1
  by_cases h5 : 600 < a0.size
  · have d1 : decide ((600 : Int) < (a0.size : Int)) = true := by simp; omega
    go_enter Tryd.func3, Tryd.ntmps3
    go_wp2_with fail
    generalize ((w.alloc (.cells #[.string a0] 9)).alloc (.cells #[.int .i64 a1] 3)) = wi at *
    refine (hTk.out _ hb0.out).mono ?_
    rintro e wa ⟨rfl, hba⟩
    go_wp2_with fail
    refine (hPc.out _).mono ?_
    rintro e wb ⟨rfl, hbb⟩
    have s1 : wb.cell? ⟨w.heap.size, 0, none⟩ = some (.string a0) := cell_below hbb (cell_below hba (bs2.out.cell 0))
    go_wp2
    go_ret
    exact ⟨rfl, bch (bch hb0.out hba) hbb⟩
  · have d1 : decide ((600 : Int) < (a0.size : Int)) = false := by simp; omega
    by_cases h0 : a0.size = 0
    · have he := empty_size h0
      replace h0 := Lib.hid h0
      go_enter Tryd.func3, Tryd.ntmps3
      go_wp2_with fail
      generalize ((w.alloc (.cells #[.string a0] 9)).alloc (.cells #[.int .i64 a1] 3)) = wi at *
      refine (hTk.out _ hb0.out).mono ?_
      rintro e wa ⟨rfl, hba⟩
      go_wp2_with fail
      refine (hPc.out _).mono ?_
      rintro e wb ⟨rfl, hbb⟩
      have s1 : wb.cell? ⟨w.heap.size, 0, none⟩ = some (.string a0) := cell_below hbb (cell_below hba (bs2.out.cell 0))
      go_wp2
      go_ret
      exact ⟨rfl, bch (bch hb0.out hba) hbb⟩
    · have he := nonempty_size h0
      by_cases h6 : 100 < l.length
      · have d2 : decide ((100 : Int) < (l.length : Int)) = true := by simp; omega
        replace h0 := Lib.hid h0
        go_enter Tryd.func3, Tryd.ntmps3
        go_wp2_with fail
        generalize ((w.alloc (.cells #[.string a0] 9)).alloc (.cells #[.int .i64 a1] 3)) = wi at *
        refine (hTk.out _ hb0.out).mono ?_
        rintro e wa ⟨rfl, hba⟩
        go_wp2_with fail
        refine (hPc.out _).mono ?_
        rintro e wb ⟨rfl, hbb⟩
        have s1 : wb.cell? ⟨w.heap.size, 0, none⟩ = some (.string a0) := cell_below hbb (cell_below hba (bs2.out.cell 0))
        go_wp2
        go_ret
        exact ⟨rfl, bch (bch hb0.out hba) hbb⟩
      · have d2 : decide ((100 : Int) < (l.length : Int)) = false := by simp; omega
        have hp := pickN_lt a1 64 (by omega)
        have hpk := Lib.hid (fun W => keep_pick a1 64 64 W rfl (by omega) (by omega))
        have hn1 : (1 : Int) + ((pickN a1 64 : Nat) : Int) = ((1 + pickN a1 64 : Nat) : Int) := by omega
        have hn2 : 1 ≤ 1 + pickN a1 64 := by omega
        have hn3 : 1 + pickN a1 64 ≤ 256 := by omega
        generalize 1 + pickN a1 64 = n at *
        generalize pickN a1 64 = pk at *
        have hC := Lib.hid (fun W => chunk_cut a0 n W h0 (by omega) hn2 hn3)
        have hN := Lib.hid recv_newB
        have hcl := cuts_le' a0 n (by omega) hn2
        have hc0 : 0 < Chunk.cuts a0.size n := (Chunk.lt_cuts hn2).2 (by omega)
        have hpo := Lib.hid (fun x W => keep_pick x ((Chunk.cuts a0.size n : Nat) : Int) (Chunk.cuts a0.size n) W rfl hc0 (by omega))
        have hpl := Lib.hid (fun x => pickN_lt x (Chunk.cuts a0.size n) hc0)
        have dc0 : (((Chunk.cuts a0.size n : Nat) : Int) == 0) = false := by simp; omega
        have htk := Lib.hid (fun W bl bc br bs bn ca p o cp Z P R E => all_take W bl bc br bs bn ca p o cp Z a0 n P R E h0 (by omega) hn2 hn3)
        have hmk := fun W => run_make_row' (P := Tryd.prog) 32 4 (.bool false) 1 Tryd.underlying32 (by kernel_rfl) rfl .i64 .i64 (Chunk.cuts a0.size n) (by omega) (by omega) W
        have hlt := Lib.hid (fun k => Chunk.lt_cuts (n := a0.size) (size := n) (k := k) hn2)
        generalize hc : Chunk.cuts a0.size n = c at *
        replace hc := Lib.hid hc
        replace h0 := Lib.hid h0
        replace hL := Lib.hid hL
        go_enter Tryd.func3, Tryd.ntmps3
        go_wp2_with fail
        generalize ((w.alloc (.cells #[.string a0] 9)).alloc (.cells #[.int .i64 a1] 3)) = wi at *
        refine (hTk.out _ hb0.out).mono ?_
        rintro e wa ⟨rfl, hba⟩
        go_wp2_with fail
        refine (hPc.out _).mono ?_
        rintro e wb ⟨rfl, hbb⟩
        have hbw := bch hba hbb
        have s1 : wb.cell? ⟨w.heap.size, 0, none⟩ = some (.string a0) := cell_below hbw (bs2.out.cell 0)
        have n1 : wb.cell? ⟨w.heap.size + 1, 0, none⟩ = some (.int .i64 a1) := cell_below hbw (bn1.out.cell 0)
        have rs := bs2.out.below hbw
        have rn := bn1.out.below hbw
        have fn := rn.frozen 0 (by simp)
        replace rs := Lib.hid rs
        replace rn := Lib.hid rn
        go_wp2_with fail
        refine (hpk.out _).mono ?_
        rintro e w' ⟨rfl, rfl⟩
        have rn2 := Lib.hid (rn.out.set 0 (.int .i64 n))
        have rs2 := Lib.hid (rs.out.other (p := ⟨w.heap.size + 1, 0, none⟩) (by show ¬ w.heap.size + 1 = w.heap.size; omega) (.int .i64 n))
        have hbx := Lib.hid (hb0.out.trans ((hbw.mono (by have := hz0.out; omega)).trans ((Below.refl w.heap.size wb).setCell (p := ⟨w.heap.size + 1, 0, none⟩) (by show w.heap.size ≤ w.heap.size + 1; omega) (.int .i64 n))))
        clear rs rn hba hbb
        have hz2 : w.heap.size + 2 ≤ (wb.setCell ⟨w.heap.size + 1, 0, none⟩ (.int .i64 n)).heap.size := by
          have := hbw.size
          have := hz0.out
          have : (wb.setCell ⟨w.heap.size + 1, 0, none⟩ (.int .i64 n)).heap.size = wb.heap.size := by simp [World.setCell]
          omega
        go_wp2_with fail
        clear fn s1 n1
        generalize wb.setCell ⟨w.heap.size + 1, 0, none⟩ (.int .i64 n) = wc at *
        clear hbw
        refine (hC.out _).mono ?_
        rintro e wd ⟨⟨v, rfl, hv⟩, hbd⟩
        obtain ⟨o, cp, rfl, hcell⟩ := pieces_cells hv
        clear hv
        have hal := row_alloc wd #[.slice o c cp] 25
        replace hal := Lib.hid hal
        replace hcell := Lib.hid hcell
        have hbl := bal hbd (.cells #[.slice o c cp] 25)
        have hzl : (wd.alloc (.cells #[.slice o c cp] 25)).heap.size = wd.heap.size + 1 := by simp
        have hbdl : Below wd.heap.size wd (wd.alloc (.cells #[.slice o c cp] 25)) := bal (Below.refl _ _) _
        go_wp2_with fail
        generalize wd.alloc (.cells #[.slice o c cp] 25) = we at *
        refine (hN.out _).mono ?_
        rintro e wf ⟨⟨p, rfl, hR⟩, hbf⟩
        have l1 : wf.cell? ⟨wd.heap.size, 0, none⟩ = some (.slice o c cp) := cell_below hbf (hal.out.cell 0)
        have hRz := hR.toZ
        rw [hzl] at hRz
        have hzf := hbf.size
        rw [hzl] at hzf
        have hbr := row_alloc wf #[.pointer (some ⟨p, 0, none⟩)] 30
        have l2 := cell_alloc l1 (.cells #[.pointer (some ⟨p, 0, none⟩)] 30)
        have hE : Hid (AllEnv (((wf.alloc (.cells #[.pointer (some ⟨p, 0, none⟩)] 30)).alloc (.cells (madeCells #[.bool false] c) 4)).alloc (.cells #[.slice (some ⟨wf.heap.size + 1, 0, none⟩) c c] 32)) wd.heap.size (wf.heap.size + 2) wf.heap.size w.heap.size (w.heap.size + 1) (wf.heap.size + 1) p o cp (fun k => (wd.heap.size + 1 ≤ k ∧ k < wf.heap.size) ∨ wf.heap.size + 3 ≤ k) a0 n (List.replicate c false) Recv.new) := Lib.hid (by
          have x1 : (wf.alloc (.cells #[.pointer (some ⟨p, 0, none⟩)] 30)).heap.size = wf.heap.size + 1 := by simp
          have x2 : ((wf.alloc (.cells #[.pointer (some ⟨p, 0, none⟩)] 30)).alloc (.cells (madeCells #[.bool false] c) 4)).heap.size = wf.heap.size + 2 := by simp
          have hbz : Below wf.heap.size wf (((wf.alloc (.cells #[.pointer (some ⟨p, 0, none⟩)] 30)).alloc (.cells (madeCells #[.bool false] c) 4)).alloc (.cells #[.slice (some ⟨wf.heap.size + 1, 0, none⟩) c c] 32)) := bal (bal (bal (Below.refl _ _) _) _) _
          have y1 := (((row_alloc wf #[.pointer (some ⟨p, 0, none⟩)] 30).alloc (.cells (madeCells #[.bool false] c) 4)).alloc (.cells #[.slice (some ⟨wf.heap.size + 1, 0, none⟩) c c] 32)).cell 0
          have y2 := (row_alloc (wf.alloc (.cells #[.pointer (some ⟨p, 0, none⟩)] 30)) (madeCells #[.bool false] c) 4).alloc (.cells #[.slice (some ⟨wf.heap.size + 1, 0, none⟩) c c] 32)
          have y3 := (row_alloc ((wf.alloc (.cells #[.pointer (some ⟨p, 0, none⟩)] 30)).alloc (.cells (madeCells #[.bool false] c) 4)) #[.slice (some ⟨wf.heap.size + 1, 0, none⟩) c c] 32).cell 0
          rw [x1, madeCells_one] at y2
          rw [x2] at y3
          have hbA := hbl.trans (hbf.mono (by have := hbl.size; omega))
          have t0 := hbx.out.size
          have t1 := hbd.size
          refine ⟨by rw [hc.out]; exact cell_below hbz l1, by rw [hc.out]; exact y3, y1, cell_below hbz (cell_below hbA (rs2.out.cell 0)), cell_below hbz (cell_below hbA (rn2.out.cell 0)), by rw [flags, List.map_replicate]; exact y2, by rw [List.length_replicate, hc.out], (hRz.mono fun k hk => Or.inl hk).below hbz, Recv.has_congr (Recv.has_new a0) (fun j _ => ?_), fun k hk => ?_, ?_, ?_, ?_, ?_, ?_, ?_⟩
          · simp only [List.getD, List.getElem?_replicate]
            split <;> rfl
          · obtain ⟨b, off, e, hb, k0, k1, k2, k3⟩ := hcell.out k (by rw [← hc.out]; exact hk)
            have hq : ∀ {q : Addr} {u : Value}, wd.cell? q = some u → (((wf.alloc (.cells #[.pointer (some ⟨p, 0, none⟩)] 30)).alloc (.cells (madeCells #[.bool false] c) 4)).alloc (.cells #[.slice (some ⟨wf.heap.size + 1, 0, none⟩) c c] 32)).cell? q = some u := fun h => cell_below hbz (cell_below hbf (cell_below hbdl h))
            exact ⟨b, off, e, by omega, by omega, hq k0, hq k1, hq k2, hq k3⟩
          all_goals omega)
        have hBz : Hid (Below w.heap.size w (((wf.alloc (.cells #[.pointer (some ⟨p, 0, none⟩)] 30)).alloc (.cells (madeCells #[.bool false] c) 4)).alloc (.cells #[.slice (some ⟨wf.heap.size + 1, 0, none⟩) c c] 32))) := Lib.hid (bal (bal (bal (bch (hbx.out.trans (hbl.mono (by have := hbx.out.size; omega))) hbf) _) _) _)
        have hZz : (((wf.alloc (.cells #[.pointer (some ⟨p, 0, none⟩)] 30)).alloc (.cells (madeCells #[.bool false] c) 4)).alloc (.cells #[.slice (some ⟨wf.heap.size + 1, 0, none⟩) c c] 32)).heap.size = wf.heap.size + 3 := by simp
        have hzw : w.heap.size ≤ wd.heap.size := by have := hbx.out.size; have := hbd.size; omega
        replace hRz := Lib.hid hRz
        replace hZz := Lib.hid hZz
        clear hR rs2 rn2 hbl hbdl hbd hbx
        go_wp2_with fail
        generalize (((wf.alloc (.cells #[.pointer (some ⟨p, 0, none⟩)] 30)).alloc (.cells (madeCells #[.bool false] c) 4)).alloc (.cells #[.slice (some ⟨wf.heap.size + 1, 0, none⟩) c c] 32)) = wz at *
        clear hmk l1 l2
        generalize hbl : wd.heap.size = bl at *
        generalize hbr' : wf.heap.size = br at *
        have hcc := hc.out
        go_loopw [60] (fun i wr => ∃ (k : Nat) (P : List Bool) (R : Recv.Rec), k ≤ l.length ∧ i = .int .i64 k ∧ AllEnv wr bl (br + 2) br w.heap.size (w.heap.size + 1) (br + 1) p o cp (fun k => (bl + 1 ≤ k ∧ k < br) ∨ br + 3 ≤ k) a0 n P R ∧ br + 3 ≤ wr.heap.size ∧ Below w.heap.size w wr) (fun i _ => l.length - (intOf i).toNat)
        case atStart => exact ⟨0, _, _, by omega, rfl, hE.out, by rw [hZz.out]; exact Nat.le_refl _, hBz.out⟩
        case round =>
          obtain ⟨k, P, R, hk, rfl, hA, hsz, hbel⟩ := hrel
          have hl1 := hA.l
          rw [hcc] at hl1
          by_cases hlt2 : k < l.length
          · obtain ⟨b1, f1, rfl, hb1, hc1⟩ := hcell2.out k hlt2
            have hb1 := hb1 (by omega)
            have c0 : wr.cell? ⟨b1, f1 + k, none⟩ = some (.int .i64 l[k]) := (hbel.cell (p := ⟨b1, f1 + k, none⟩) hb1).trans (by have := hc1 0 _ rfl; simpa using this)
            clear hc1
            generalize l[k] = x at *
            have hpx := hpl.out x
            have htt := Lib.hid (htk.out _ _ _ _ _ _ _ _ _ _ _ _ _ hA (pickN x c) hpx (fun j hj => Or.inr (by omega)))
            have hpk2 := Lib.hid (fun W => hpo.out x W)
            replace hA := Lib.hid hA
            generalize pickN x c = pi at *
            go_wp2_with fail
            refine (hpk2.out _).mono ?_
            rintro e w' ⟨rfl, rfl⟩
            go_wp2_with fail
            refine htt.out.mono ?_
            rintro e wn ⟨rfl, hA2, ho2⟩
            have hbn := hbel.trans (ho2.below (B := w.heap.size) (fun j hj => by rcases hj with (hj | hj) | hj <;> omega) hbel.size)
            have hsn := ho2.size
            replace hA2 := Lib.hid hA2
            replace ho2 := Lib.hid ho2
            go_wp2
            go_roundw
            case rel => exact ⟨k + 1, _, _, by omega, by go_num, hA2.out, by omega, hbn⟩
            case measure => simp [intOf]; omega
          · obtain rfl : k = l.length := by omega
            replace hA := Lib.hid hA
            go_wp2_with fail
            go_loopw [74] (fun i wr => ∃ (k : Nat) (P : List Bool) (R : Recv.Rec), k ≤ c ∧ i = .int .i64 k ∧ AllEnv wr bl (br + 2) br w.heap.size (w.heap.size + 1) (br + 1) p o cp (fun k => (bl + 1 ≤ k ∧ k < br) ∨ br + 3 ≤ k) a0 n P R ∧ br + 3 ≤ wr.heap.size ∧ Below w.heap.size w wr) (fun i _ => c - (intOf i).toNat)
            case atStart => exact ⟨0, _, _, by omega, rfl, hA.out, by first | exact hsz | (simp; omega), by first | exact hbel | (repeat (first | exact Below.refl _ _ | assumption | refine bal ?_ _ | refine bdr ?_ | refine bdn ?_ _ | refine bst ?_ (by first | assumption | exact Nat.le_refl _ | omega) _ | refine bch ?_ (by assumption)))⟩
            case round =>
              obtain ⟨k, P, R, hk, rfl, hA, hsz, hbel⟩ := hrel
              by_cases hlt3 : k < c
              · have htt := Lib.hid (htk.out _ _ _ _ _ _ _ _ _ _ _ _ _ hA k hlt3 (fun j hj => Or.inr (by omega)))
                replace hA := Lib.hid hA
                go_wp2_with fail
                refine htt.out.mono ?_
                rintro e wn ⟨rfl, hA2, ho2⟩
                have hbn := hbel.trans (ho2.below (B := w.heap.size) (fun j hj => by rcases hj with (hj | hj) | hj <;> omega) hbel.size)
                have hsn := ho2.size
                replace hA2 := Lib.hid hA2
                replace ho2 := Lib.hid ho2
                go_wp2
                go_roundw
                case rel => exact ⟨k + 1, _, _, by omega, by go_num, hA2.out, by omega, hbn⟩
                case measure => simp [intOf]; omega
              · obtain rfl : k = c := by omega
                replace hA := Lib.hid hA
                go_wp2
                go_ret
                exact ⟨rfl, hbel⟩
end Go.Proofs.YtdpdnkjpjoccmaaDoor
