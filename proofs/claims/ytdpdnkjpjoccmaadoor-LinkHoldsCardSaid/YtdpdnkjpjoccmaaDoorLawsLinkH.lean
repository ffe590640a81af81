/- The walks of LinkHolds; printed by gen_holds.py. -/
import Derived.Test.YtdpdnkjpjoccmaaDoorWLinkL
import Derived.Test.YtdpdnkjpjoccmaaDoorWTell3
import Derived.Test.YtdpdnkjpjoccmaaDoorLaid
namespace Go.Proofs.YtdpdnkjpjoccmaaDoor
open Go.RowKit
set_option linter.unusedVariables false
set_option linter.unusedSimpArgs false
theorem text_both (w : World) (p m : Nat) (O : Nat → Prop) (R : Recv.Rec) (hR : RecvIs w p O m R) (s : ByteArray) (hI : Recv.Inv s.data.toList R) (h1 : s.size ≠ 0) (h2 : s.size ≤ 4096) :
    (R.offer = s.size → Calls Tryd.prog 17 #[.pointer (some ⟨p, 0, none⟩)] w fun e w' => e = .returned (.tuple #[.string s, .nilIface]) ∧ Below w.heap.size w w') ∧
    (R.offer ≠ s.size → ∃ q : Nat, (q = 7 ∨ q = 8) ∧ Calls Tryd.prog 17 #[.pointer (some ⟨p, 0, none⟩)] w fun e w' => e = .returned (.tuple #[.string ⟨#[]⟩, errN q]) ∧ Below w.heap.size w w') := by
  have hle := Recv.inv_offer_le _ _ hI
  rw [Link.size_len] at hle
  constructor
  · intro ho
    refine text_full w p m O R hR s hI h2 (fun e => ?_) ho
    unfold Recv.Rec.offer at ho
    rw [e] at ho
    exact h1 ho.symm
  · intro ho
    by_cases hc : R.came = []
    · exact ⟨8, Or.inr rfl, recv_text_none w p m O R hR (by rw [hc]; rfl)⟩
    · have hl := (hI.some_ hc).2.len2
      rw [Link.size_len] at hl
      have hl' : R.came.length = s.size := hl
      exact ⟨7, Or.inl rfl, recv_text_less w p m O R hR (by omega) (by omega)⟩
set_option maxHeartbeats 4000000 in
set_option maxRecDepth 20000 in
theorem LinkHolds_walk (a0 : ByteArray) (a1 : Int) (v2 : Value) (l2 : List StpB) (w : World) (w0 : a0.size ≤ 140737488351232) (w1 : (Lit.int .i64 a1).wf = true) (L2 : ListIs stpBCells 3 w v2 l2) (q2 : ∀ x ∈ l2, StpBOk x) (z2 : l2.length ≤ 140737488351232) (hL : Laid w) :
    Calls Tryd.prog 6 #[.string a0, .int .i64 a1, v2] w fun e w' => e = .returned (.bool true) ∧ Below w.heap.size w w' := by
  obtain ⟨hT, hok⟩ := steps_of L2 q2
  have hTl : (l2.map StpB.to).length = l2.length := List.length_map _
  generalize l2.map StpB.to = T at *
  clear L2 q2
  have hLk := Lib.hid (linked w)
  have hSh := Lib.hid (fun W (hW : Below w.heap.size w W) => keep_short W a0 v2 T (hT.below (by omega) hW) w0 (by omega))
  by_cases hsh : a0.size ≠ 0 ∧ a0.size ≤ 600 ∧ T.length ≤ 60
  · rw [decide_eq_true hsh] at hSh
    obtain ⟨h1, h2, h3⟩ := hsh
    have hSt := Lib.hid (fun W (hW : Below w.heap.size w W) => keep_strung W a0 a1 (.slice none 0 0) [] (ListIs.nil _ _ _) (fun x hx => by cases hx) (by first | omega | simp) h1 (by omega))
    have hp := pickN_lt a1 64 (by omega)
    have hpk1 := Lib.hid (fun W => keep_pick a1 64 64 W rfl (by omega) (by omega))
    have F : Fits a0 (1 + pickN a1 64) := ⟨h1, by omega, by omega, by omega⟩
    have hn1 : (1 : Int) + ((pickN a1 64 : Nat) : Int) = ((1 + pickN a1 64 : Nat) : Int) := by omega
    generalize 1 + pickN a1 64 = n at *
    generalize pickN a1 64 = pk1 at *
    obtain ⟨o, cp, rfl, hca, hcell⟩ := hT.at stepCells_len
    have hcell := Lib.hid hcell
    replace hTl := Lib.hid hTl
    have hLw := Lib.hid hL
    clear hca hL
    replace hT := Lib.hid hT
    replace hok := Lib.hid hok
    go_enter Tryd.func6, Tryd.ntmps6
    go_wp2_with fail
    refine hLk.out.mono ?_
    rintro e wa ⟨rfl, hba⟩
    go_wp2_with fail
    refine (hSh.out _ hba).mono ?_
    rintro e wb ⟨rfl, hbb⟩
    go_wp2_with fail
    refine (hSt.out _ (bch hba hbb)).mono ?_
    rintro e wc ⟨⟨l, rfl, hL⟩, hbc⟩
    have hb := bch (bch hba hbb) hbc
    have hBc : wb.heap.size ≤ wc.heap.size := hbc.size
    have hB0 : w.heap.size ≤ wb.heap.size := (bch hba hbb).size
    clear hSh hSt hLk
    replace hL : LinkZ wc l (fun k => wb.heap.size ≤ k) a0 n Link.new 0 := hL
    replace hL := Lib.hid hL
    go_wp2
    go_loopw [25] (fun i wr => ∃ k : Nat, k ≤ T.length ∧ i = .int .i64 k ∧ LinkZ wr l (fun k => wb.heap.size ≤ k) a0 n (steps a0 n Link.new (T.take k)) k ∧ Below w.heap.size w wr) (fun i _ => T.length - (intOf i).toNat)
    case atStart => exact ⟨0, by omega, rfl, by first | exact hL.out | exact hL.out.below (by (repeat (first | exact Below.refl _ _ | assumption | refine bal ?_ _ | refine bdr ?_ | refine bdn ?_ _ | refine bst ?_ (by first | assumption | exact Nat.le_refl _ | omega) _ | refine bch ?_ (by assumption)))), by first | exact hb | (repeat (first | exact Below.refl _ _ | assumption | refine bal ?_ _ | refine bdr ?_ | refine bdn ?_ _ | refine bst ?_ (by first | assumption | exact Nat.le_refl _ | omega) _ | refine bch ?_ (by assumption)))⟩
    case round =>
      obtain ⟨k, hk, rfl, hL, hbel⟩ := hrel
      by_cases hlt : k < T.length
      · obtain ⟨b, off, rfl, hbw, hcl⟩ := hcell.out k hlt
        obtain ⟨k0, k1, k2⟩ := step_cells hcl
        replace k0 := cell_below hbel k0
        replace k1 := cell_below hbel k1
        replace k2 := cell_below hbel k2
        have htk : T.take (k + 1) = T.take k ++ [T[k]] := List.take_succ_eq_append_getElem hlt
        have hok1 := Lib.hid (hok.out _ (List.getElem_mem hlt))
        have e1 := Lib.hid (steps_snoc a0 n Link.new (T.take k) T[k])
        rw [← htk] at e1
        have hba4 := Lib.hid (bal (Below.refl wr.heap.size wr) (.cells #[.int .i64 T[k].k, .int .i64 T[k].N, .int .u64 T[k].m] 53))
        have hBr : wb.heap.size ≤ wr.heap.size := by
          obtain ⟨q, vq, Oq, hq, hZ⟩ := hL.is
          have := hZ l (Or.inl rfl)
          have := hq.row.lt
          omega
        have hst := Lib.hid (link_stepB _ l wb.heap.size a0 n k _ (hL.below hba4.out) (by have := hba4.out.size; omega) F (by omega) T[k] hok1.out)
        replace hL := Lib.hid hL
        generalize T[k] = x at *
        generalize hK : steps a0 n Link.new (T.take k) = K at *
        replace hK := Lib.hid hK
        clear hcl htk
        go_wp2_with fail
        refine hst.out.mono ?_
        rintro e we ⟨⟨r, rfl, _, _⟩, hLe, hbe⟩
        have hsb := hba4.out.size
        have hbE : Below w.heap.size w we := (bch hbel hba4.out).trans (hbe.mono (by omega))
        replace e1 := Lib.hid (show steps a0 n Link.new (T.take (k + 1)) = (Link.step a0 n K x.k x.N x.m).1 by rw [e1.out])
        generalize hKK : (Link.step a0 n K x.k x.N x.m).1 = KK at *
        replace hKK := Lib.hid hKK
        obtain ⟨p2, O2, c2, hR2⟩ := hLe.open_
        have hof2 := fun W (hW : Below we.heap.size we W) => recv_offer W p2 0 O2 _ (hR2.below hW) (hLe.len F)
        have hsf2 := fun W (hW : Below we.heap.size we W) => recv_safe W p2 0 O2 _ (hR2.below hW)
        have hTx0 := Lib.hid (text_both we p2 0 O2 _ hR2 a0 hLe.good.inv F.h1 F.h2)
        have hle1 := hLe.good.inv.le1
        have hle2 := hLe.good.inv.le2
        have hle3 := Link.offer_le' a0 KK hLe.good
        have hle4 : KK.R.safe ≤ KK.R.offer := by omega
        clear hR2 hle1 hle2
        replace hLe := Lib.hid hLe
        generalize KK.R.offer = f at *
        generalize KK.R.safe = fs at *
        have dg1 : decide ((f : Int) < (fs : Int)) = false := by simp; exact hle4
        have dg2 : decide (f < fs) = false := by simp; exact hle4
        have dg3 : decide ((fs : Int) < 0) = false := by simp
        have dg4 : decide ((a0.size : Int) < (f : Int)) = false := by simp; exact hle3
        have dg5 : decide (a0.size < f) = false := by simp; exact hle3
        have hself : (a0.toList == a0.toList) = true := by simp
        have hself2 : (a0.toList != a0.toList) = false := by simp
        replace hof2 := Lib.hid hof2
        replace hsf2 := Lib.hid hsf2
        by_cases hfs : f = a0.size
        · skip
          have hTx := Lib.hid (hTx0.out.1 hfs)
          have dsz : ((f : Int) == (a0.size : Int)) = true := by simp; omega
          have d15 : ((0 : Int) == 15) = false := by decide
          replace hfs := Lib.hid hfs
          go_wp2_with fail
          refine hTx.out.mono ?_
          rintro e wf ⟨rfl, hbf⟩
          have c0 := cell_below hbf c2
          have hbF : Below w.heap.size w wf := bch hbE hbf
          have hLf := Lib.hid (hLw.out.below hbF)
          go_wp2_with fail
          have c0o := Old.cell c0
          have hoo2 := Lib.hid (fun (y : Kept (Old wf.heap.size wf)) => hof2.out y.val (bch hbf y.ok.2))
          have hso2 := Lib.hid (fun (y : Kept (Old wf.heap.size wf)) => hsf2.out y.val (bch hbf y.ok.2))
          have hgo := Lib.hid (fun (y : Kept (Old wf.heap.size wf)) => (show LinkZ y.val l (fun k => wb.heap.size ≤ k) a0 n (steps a0 n Link.new (T.take (k + 1))) (k + 1) ∧ Below w.heap.size w y.val from ⟨by rw [e1.out]; exact hLe.out.below (bch hbf y.ok.2), hbF.trans (y.ok.2.mono hbF.size)⟩))
          have hte := Lib.hid (fun (y : Kept (Old wf.heap.size wf)) => tell_nil y.val)
          (have hN := Old.ne wf; refine wp_region_kept (Old wf.heap.size wf) (by kernel_rfl) (by kernel_rfl) (Old.start wf) ?_; (repeat (first | go_big_quiet_step ((first | (go_at_call 18; go_must (exact calls_kept (hoo2.out _) Old.below)) | (go_at_call 24; go_must (exact calls_kept (hso2.out _) Old.below)) | (go_at_call 29; go_must (exact calls_kept_same (hte.out _) )))) | quiet_step ((first | (go_at_call 18; go_must (exact calls_kept (hoo2.out _) Old.below)) | (go_at_call 24; go_must (exact calls_kept (hso2.out _) Old.below)) | (go_at_call 29; go_must (exact calls_kept_same (hte.out _) )))))); refine wpQuiet_nil ?_; rintro _ ⟨X, rfl⟩)
          have hfin := Lib.hid (hgo.out X)
          clear c0o
          go_wp2
          go_roundw
          case rel => exact ⟨k + 1, by omega, by go_num, hfin.out.1, hfin.out.2⟩
          case measure => simp [intOf]; omega
        · skip
          obtain ⟨q, hq, hTx⟩ := hTx0.out.2 hfs
          replace hTx := Lib.hid hTx
          have hq15 : ((q : Int) == 15) = false := by simp; omega
          replace hq := Lib.hid hq
          have dsz : ((f : Int) == (a0.size : Int)) = false := by simp; omega
          have d15 : ((0 : Int) == 15) = false := by decide
          replace hfs := Lib.hid hfs
          go_wp2_with fail
          refine hTx.out.mono ?_
          rintro e wf ⟨rfl, hbf⟩
          have c0 := cell_below hbf c2
          have hbF : Below w.heap.size w wf := bch hbE hbf
          have hLf := Lib.hid (hLw.out.below hbF)
          unfold errN
          go_wp2_with fail
          have c0o := Old.cell c0
          have hoo2 := Lib.hid (fun (y : Kept (Old wf.heap.size wf)) => hof2.out y.val (bch hbf y.ok.2))
          have hso2 := Lib.hid (fun (y : Kept (Old wf.heap.size wf)) => hsf2.out y.val (bch hbf y.ok.2))
          have hgo := Lib.hid (fun (y : Kept (Old wf.heap.size wf)) => (show LinkZ y.val l (fun k => wb.heap.size ≤ k) a0 n (steps a0 n Link.new (T.take (k + 1))) (k + 1) ∧ Below w.heap.size w y.val from ⟨by rw [e1.out]; exact hLe.out.below (bch hbf y.ok.2), hbF.trans (y.ok.2.mono hbF.size)⟩))
          have hte := Lib.hid (fun (y : Kept (Old wf.heap.size wf)) => tell_errno q y.val (hLf.out.below y.ok.2))
          (have hN := Old.ne wf; refine wp_region_kept (Old wf.heap.size wf) (by kernel_rfl) (by kernel_rfl) (Old.start wf) ?_; (repeat (first | go_big_quiet_step ((first | (go_at_call 18; go_must (exact calls_kept (hoo2.out _) Old.below)) | (go_at_call 24; go_must (exact calls_kept (hso2.out _) Old.below)) | (go_at_call 29; go_must (exact calls_kept (hte.out _) Old.below)))) | quiet_step ((first | (go_at_call 18; go_must (exact calls_kept (hoo2.out _) Old.below)) | (go_at_call 24; go_must (exact calls_kept (hso2.out _) Old.below)) | (go_at_call 29; go_must (exact calls_kept (hte.out _) Old.below)))))); refine wpQuiet_nil ?_; rintro _ ⟨X, rfl⟩)
          have hfin := Lib.hid (hgo.out X)
          clear c0o
          go_wp2
          go_roundw
          case rel => exact ⟨k + 1, by omega, by go_num, hfin.out.1, hfin.out.2⟩
          case measure => simp [intOf]; omega
      · obtain rfl : k = T.length := by omega
        replace hL := Lib.hid hL
        go_wp2
        go_ret
        exact ⟨rfl, hbel⟩
  · rw [decide_eq_false hsh] at hSh
    replace hsh := Lib.hid hsh
    go_enter Tryd.func6, Tryd.ntmps6
    go_wp2_with fail
    refine hLk.out.mono ?_
    rintro e wa ⟨rfl, hba⟩
    go_wp2_with fail
    refine (hSh.out _ hba).mono ?_
    rintro e wb ⟨rfl, hbb⟩
    go_wp2
    go_ret
    exact ⟨rfl, bch hba hbb⟩
end Go.Proofs.YtdpdnkjpjoccmaaDoor
