/- The walks of LinkLeft, LinkGrows; printed by gen_linklaws.py. -/
import Derived.Test.YtnognjjbheoniabLawsLinkA
namespace Go.Proofs.Ytnognjjbheoniab
open Go.RowKit
set_option linter.unusedVariables false
set_option linter.unusedSimpArgs false
set_option maxHeartbeats 4000000 in
set_option maxRecDepth 20000 in
theorem LinkLeft_walk (a0 : ByteArray) (a1 : Int) (v2 : Value) (l2 : List StpB) (w : World) (w0 : a0.size ≤ 140737488351232) (w1 : (Lit.int .i64 a1).wf = true) (L2 : ListIs stpBCells 3 w v2 l2) (q2 : ∀ x ∈ l2, StpBOk x) (z2 : l2.length ≤ 140737488351232) :
    Calls Try.prog 5 #[.string a0, .int .i64 a1, v2] w fun e w' => e = .returned (.bool true) ∧ Below w.heap.size w w' := by
  obtain ⟨hT, hok⟩ := steps_of L2 q2
  have hTl : (l2.map StpB.to).length = l2.length := List.length_map _
  generalize l2.map StpB.to = T at *
  clear L2 q2
  have hLk := Lib.hid (linked w)
  have hSh := Lib.hid (fun W (hW : Below w.heap.size w W) => keep_short W a0 v2 T (hT.below (by omega) hW) w0 (by omega))
  by_cases hsh : a0.size ≠ 0 ∧ a0.size ≤ 600 ∧ T.length ≤ 60
  · rw [decide_eq_true hsh] at hSh
    obtain ⟨h1, h2, h3⟩ := hsh
    have hSt := Lib.hid (fun W (hW : Below w.heap.size w W) => keep_strung W a0 a1 (v2) T (hT.below (by omega) hW) (hok) (by first | omega | simp) h1 (by omega))
    have hp := pickN_lt a1 64 (by omega)
    have hpk1 := Lib.hid (fun W => keep_pick a1 64 64 W rfl (by omega) (by omega))
    have F : Fits a0 (1 + pickN a1 64) := ⟨h1, by omega, by omega, by omega⟩
    have hn1 : (1 : Int) + ((pickN a1 64 : Nat) : Int) = ((1 + pickN a1 64 : Nat) : Int) := by omega
    generalize 1 + pickN a1 64 = n at *
    generalize pickN a1 64 = pk1 at *
    have hcu : ((a0.size : Int) + (n : Int) - 1) / (n : Int) = ((Chunk.cuts a0.size n : Nat) : Int) := by
      have : (a0.size : Int) + (n : Int) - 1 = ((a0.size + n - 1 : Nat) : Int) := by have := F.h3; omega
      rw [this]; rfl
    have hcu2 : ((a0.size : Int) + (n : Int) - 1).tdiv (n : Int) = ((Chunk.cuts a0.size n : Nat) : Int) := by
      have : (a0.size : Int) + (n : Int) - 1 = ((a0.size + n - 1 : Nat) : Int) := by have := F.h3; omega
      rw [this]; rfl
    have hcl := cuts_le a0 n F.h2 F.h3
    have hn0 : ¬ (n : Int) = 0 := by have := F.h3; omega
    have hn2 : ¬ n = 0 := by have := F.h3; omega
    have hn3 : n ≤ 256 := F.h4
    replace hT := Lib.hid hT
    replace hok := Lib.hid hok
    go_enter Try.func5, Try.ntmps5
    go_wp2_with fail
    refine hLk.out.mono ?_
    rintro e wa ⟨rfl, hba⟩
    go_wp2_with fail
    refine (hSh.out _ hba).mono ?_
    rintro e wb ⟨rfl, hbb⟩
    go_wp2_with fail
    refine (hSt.out _ (bch hba hbb)).mono ?_
    rintro e wc ⟨⟨l, rfl, hL⟩, hbc⟩
    have hb := bch (bch hba hbb) hbc
    have hBc : wb.heap.size ≤ wc.heap.size := hbc.size
    have hB0 : w.heap.size ≤ wb.heap.size := (bch hba hbb).size
    clear hSh hSt hLk
    generalize steps a0 n Link.new T = K at *
    have hmk := hL.mark
    have hst := Lib.hid (link_stepB wc l wb.heap.size a0 n T.length K hL hBc F (by omega) ⟨4, 0, 0⟩ ⟨by decide, by decide, by show 0 < 18446744073709551616; omega⟩)
    clear hL
    go_wp2_with fail
    refine hst.out.mono ?_
    rintro e we ⟨⟨r, rfl, _, _⟩, hLe, hbe⟩
    simp only [step_resume_eq] at hLe
    obtain ⟨p', O', c1, hR1⟩ := hLe.open_
    have hleft : Link.left a0 n { K with frm := K.R.offer } = Chunk.cuts a0.size n - K.R.offer / n := rfl
    have hle : K.R.offer / n ≤ Chunk.cuts a0.size n := Link.left_all a0 n _ hLe.good F.h3
    have hofl : K.R.offer ≤ a0.size := hLe.good.frm
    have hLf := fun W (hW : Below we.heap.size we W) => link_LeftZ W l _ a0 n _ _ (hLe.below hW) F
    have hof1 := fun W (hW : Below we.heap.size we W) => recv_offer W p' 0 O' _ (hR1.below hW) (hLe.len F)
    rw [hleft] at hLf
    replace hof1 : ∀ W, Below we.heap.size we W → Calls Try.prog 12 #[.pointer (some ⟨p', 0, none⟩)] W fun e w' => e = .returned (.int .i64 K.R.offer) ∧ Below W.heap.size W w' := hof1
    clear hR1 hleft
    generalize Chunk.cuts a0.size n = cu at *
    generalize K.R.offer = f at *
    obtain ⟨q, hq⟩ : ∃ q, q = f / n := ⟨_, rfl⟩
    rw [← hq] at hLf hle
    have hq1 : (f : Int) / (n : Int) = (q : Int) := by rw [hq]; rfl
    have hq2 : (f : Int).tdiv (n : Int) = (q : Int) := by rw [hq]; rfl
    obtain ⟨z, hz⟩ : ∃ z, z = cu - q := ⟨_, rfl⟩
    rw [← hz] at hLf
    have hz1 : (cu : Int) - (q : Int) = (z : Int) := by omega
    have hzz : z ≤ 4096 := by omega
    have hf6 : f ≤ 600 := by omega
    have hz2 : IntKind.i64.wrap ((cu : Int) - (q : Int)) = (z : Int) := by rw [hz1, IntKind.wrap_i64]; omega
    have dz : ((z : Int) == (z : Int)) = true := by simp
    have dz2 : decide ((0 : Int) ≤ (z : Int)) = true := by simp
    replace hq := Lib.hid hq
    replace hz := Lib.hid hz
    replace hLf := Lib.hid hLf
    replace hof1 := Lib.hid hof1
    have hbE : Below w.heap.size w we := hb.trans (hbe.mono (by omega))
    clear hLe hmk hst
    go_wp2_with fail
    refine (hpk1.out _).mono ?_
    rintro e w' ⟨rfl, rfl⟩
    go_wp2_with fail
    have c1o := Old.cell c1
    have hlo := Lib.hid (fun (x : Kept (Old we.heap.size we)) => hLf.out x.val x.ok.2)
    have hoo := Lib.hid (fun (x : Kept (Old we.heap.size we)) => hof1.out x.val x.ok.2)
    (have hN := Old.ne we; refine wp_region_kept (Old we.heap.size we) (by kernel_rfl) (by kernel_rfl) (Old.start we) ?_; (repeat (first | go_big_quiet_step ((first | (go_at_call 16; go_must (exact calls_kept (hlo.out _) Old.below)) | (go_at_call 12; go_must (exact calls_kept (hoo.out _) Old.below)))) | quiet_step ((first | (go_at_call 16; go_must (exact calls_kept (hlo.out _) Old.below)) | (go_at_call 12; go_must (exact calls_kept (hoo.out _) Old.below)))))); refine wpQuiet_nil ?_; rintro _ ⟨X, rfl⟩)
    go_wp2
    go_ret
    exact ⟨rfl, hbE.trans (X.ok.2.mono hbE.size)⟩
  · rw [decide_eq_false hsh] at hSh
    replace hsh := Lib.hid hsh
    go_enter Try.func5, Try.ntmps5
    go_wp2_with fail
    refine hLk.out.mono ?_
    rintro e wa ⟨rfl, hba⟩
    go_wp2_with fail
    refine (hSh.out _ hba).mono ?_
    rintro e wb ⟨rfl, hbb⟩
    go_wp2
    go_ret
    exact ⟨rfl, bch hba hbb⟩
set_option maxHeartbeats 4000000 in
set_option maxRecDepth 20000 in
theorem LinkGrows_walk (a0 : ByteArray) (a1 : Int) (v2 : Value) (l2 : List StpB) (w : World) (w0 : a0.size ≤ 140737488351232) (w1 : (Lit.int .i64 a1).wf = true) (L2 : ListIs stpBCells 3 w v2 l2) (q2 : ∀ x ∈ l2, StpBOk x) (z2 : l2.length ≤ 140737488351232) :
    Calls Try.prog 6 #[.string a0, .int .i64 a1, v2] w fun e w' => e = .returned (.bool true) ∧ Below w.heap.size w w' := by
  obtain ⟨hT, hok⟩ := steps_of L2 q2
  have hTl : (l2.map StpB.to).length = l2.length := List.length_map _
  generalize l2.map StpB.to = T at *
  clear L2 q2
  have hLk := Lib.hid (linked w)
  have hSh := Lib.hid (fun W (hW : Below w.heap.size w W) => keep_short W a0 v2 T (hT.below (by omega) hW) w0 (by omega))
  by_cases hsh : a0.size ≠ 0 ∧ a0.size ≤ 600 ∧ T.length ≤ 60
  · rw [decide_eq_true hsh] at hSh
    obtain ⟨h1, h2, h3⟩ := hsh
    have hSt := Lib.hid (fun W (hW : Below w.heap.size w W) => keep_strung W a0 a1 (.slice none 0 0) [] (ListIs.nil _ _ _) (fun x hx => by cases hx) (by first | omega | simp) h1 (by omega))
    have hp := pickN_lt a1 64 (by omega)
    have hpk1 := Lib.hid (fun W => keep_pick a1 64 64 W rfl (by omega) (by omega))
    have F : Fits a0 (1 + pickN a1 64) := ⟨h1, by omega, by omega, by omega⟩
    have hn1 : (1 : Int) + ((pickN a1 64 : Nat) : Int) = ((1 + pickN a1 64 : Nat) : Int) := by omega
    generalize 1 + pickN a1 64 = n at *
    generalize pickN a1 64 = pk1 at *
    obtain ⟨o, cp, rfl, hca, hcell⟩ := hT.at stepCells_len
    have hcell := Lib.hid hcell
    replace hTl := Lib.hid hTl
    clear hca
    replace hT := Lib.hid hT
    replace hok := Lib.hid hok
    go_enter Try.func6, Try.ntmps6
    go_wp2_with fail
    refine hLk.out.mono ?_
    rintro e wa ⟨rfl, hba⟩
    go_wp2_with fail
    refine (hSh.out _ hba).mono ?_
    rintro e wb ⟨rfl, hbb⟩
    go_wp2_with fail
    refine (hSt.out _ (bch hba hbb)).mono ?_
    rintro e wc ⟨⟨l, rfl, hL⟩, hbc⟩
    have hb := bch (bch hba hbb) hbc
    have hBc : wb.heap.size ≤ wc.heap.size := hbc.size
    have hB0 : w.heap.size ≤ wb.heap.size := (bch hba hbb).size
    clear hSh hSt hLk
    replace hL : LinkZ wc l (fun k => wb.heap.size ≤ k) a0 n Link.new 0 := hL
    replace hL := Lib.hid hL
    go_wp2
    go_loopw [25] (fun i wr => ∃ k : Nat, k ≤ T.length ∧ i = .int .i64 k ∧ LinkZ wr l (fun k => wb.heap.size ≤ k) a0 n (steps a0 n Link.new (T.take k)) k ∧ Below w.heap.size w wr) (fun i _ => T.length - (intOf i).toNat)
    case atStart => exact ⟨0, by omega, rfl, by first | exact hL.out | exact hL.out.below (by (repeat (first | exact Below.refl _ _ | assumption | refine bal ?_ _ | refine bdr ?_ | refine bdn ?_ _ | refine bst ?_ (by first | assumption | exact Nat.le_refl _ | omega) _ | refine bch ?_ (by assumption)))), by first | exact hb | (repeat (first | exact Below.refl _ _ | assumption | refine bal ?_ _ | refine bdr ?_ | refine bdn ?_ _ | refine bst ?_ (by first | assumption | exact Nat.le_refl _ | omega) _ | refine bch ?_ (by assumption)))⟩
    case round =>
      obtain ⟨k, hk, rfl, hL, hbel⟩ := hrel
      by_cases hlt : k < T.length
      · obtain ⟨b, off, rfl, hbw, hcl⟩ := hcell.out k hlt
        obtain ⟨k0, k1, k2⟩ := step_cells hcl
        replace k0 := cell_below hbel k0
        replace k1 := cell_below hbel k1
        replace k2 := cell_below hbel k2
        have htk : T.take (k + 1) = T.take k ++ [T[k]] := List.take_succ_eq_append_getElem hlt
        have hok1 := Lib.hid (hok.out _ (List.getElem_mem hlt))
        have e1 := Lib.hid (steps_snoc a0 n Link.new (T.take k) T[k])
        rw [← htk] at e1
        have hbx := Lib.hid (row_alloc wr #[.int .i64 T[k].k, .int .i64 T[k].N, .int .u64 T[k].m] 37)
        have hba4 := Lib.hid (bal (Below.refl wr.heap.size wr) (.cells #[.int .i64 T[k].k, .int .i64 T[k].N, .int .u64 T[k].m] 37))
        obtain ⟨p, O, l0, hR⟩ := hL.open_
        have hl0 := Lib.hid (cell_below hba4.out l0)
        have hof := Lib.hid (fun W (hW : Below wr.heap.size wr W) => recv_offer W p 0 O _ (hR.below hW) (hL.len F))
        have hsf := Lib.hid (fun W (hW : Below wr.heap.size wr W) => recv_safe W p 0 O _ (hR.below hW))
        have hLb := Lib.hid hL.bound
        have hBr : wb.heap.size ≤ wr.heap.size := by
          obtain ⟨q, vq, Oq, hq, hZ⟩ := hL.is
          have := hZ l (Or.inl rfl)
          have := hq.row.lt
          omega
        replace hL := Lib.hid hL
        generalize T[k] = x at *
        generalize hK : steps a0 n Link.new (T.take k) = K at *
        replace hK := Lib.hid hK
        clear hcl htk hR l0
        by_cases hk3 : x.k = 3
        · skip
          have dk1 : ((x.k : Int) != 3) = false := by simp [hk3]
          have dk2 : ((x.k : Int) == 3) = true := by simp [hk3]
          have hse : (Link.step a0 n K x.k x.N x.m).1.R.safe = (Link.step a0 n K x.k x.N x.m).1.R.offer := by rw [hk3]; exact Link.step_crash a0 n K x.N x.m
          have hst := Lib.hid (fun W (hW : Below wr.heap.size wr W) => link_stepZ W l _ a0 n k K (hLb.out.below hW) F (by omega) x hok1.out)
          replace hk3 := Lib.hid hk3
          go_wp2_with fail
          generalize hwq : wr.alloc (.cells #[.int .i64 x.k, .int .i64 x.N, .int .u64 x.m] 37) = wq at *
          replace hwq := Lib.hid hwq
          have l0 := hl0.out
          have l0o := Old.cell l0
          have hoo := Lib.hid (fun (y : Kept (Old wq.heap.size wq)) => hof.out y.val (bch hba4.out y.ok.2))
          have hso := Lib.hid (fun (y : Kept (Old wq.heap.size wq)) => hsf.out y.val (bch hba4.out y.ok.2))
          (have hN := Old.ne wq; refine wp_region_kept (Old wq.heap.size wq) (by kernel_rfl) (by kernel_rfl) (Old.start wq) ?_; (repeat (first | go_big_quiet_step ((first | (go_at_call 12; go_must (exact calls_kept (hoo.out _) Old.below)) | (go_at_call 14; go_must (exact calls_kept (hso.out _) Old.below)))) | quiet_step ((first | (go_at_call 12; go_must (exact calls_kept (hoo.out _) Old.below)) | (go_at_call 14; go_must (exact calls_kept (hso.out _) Old.below)))))); refine wpQuiet_nil ?_; rintro _ ⟨X, rfl⟩)
          have hrX : Row X.val wr.heap.size 37 [.int .i64 x.k, .int .i64 x.N, .int .u64 x.m] := hbx.out.below X.ok.2
          have b0 : X.val.cell? ⟨wr.heap.size, 0, none⟩ = some (.int .i64 x.k) := hrX.cell 0
          have b1 : X.val.cell? ⟨wr.heap.size, 1, none⟩ = some (.int .i64 x.N) := hrX.cell 1
          have b2 : X.val.cell? ⟨wr.heap.size, 2, none⟩ = some (.int .u64 x.m) := hrX.cell 2
          replace hrX := Lib.hid hrX
          have hXs := (bch hba4.out X.ok.2).size
          have hXb := bch hba4.out X.ok.2
          clear l0o l0
          go_wp2_with fail
          refine (hst.out _ hXb).mono ?_
          rintro e we ⟨⟨r, rfl, _, _⟩, hLe, hoe⟩
          have hnb : ¬ (wb.heap.size ≤ wr.heap.size ∧ wr.heap.size < wr.heap.size) := by omega
          have hre := hrX.out.only hoe hnb
          have c0 : we.cell? ⟨wr.heap.size, 0, none⟩ = some (.int .i64 x.k) := hre.cell 0
          replace hre := Lib.hid hre
          have hbE : Below w.heap.size w we := (hbel.trans (hXb.mono (by omega))).trans (hoe.below (B := w.heap.size) (fun j hj => by omega) (by omega))
          replace hLe : LinkZ we l (fun k => wb.heap.size ≤ k) a0 n (Link.step a0 n K x.k x.N x.m).1 (k + 1) := hLe.mono (fun j hj => by rcases hj with hj | hj <;> omega) (Nat.le_refl _)
          obtain ⟨p2, O2, c2, hR2⟩ := hLe.open_
          have hof2 := fun W (hW : Below we.heap.size we W) => recv_offer W p2 0 O2 _ (hR2.below hW) (hLe.len F)
          have hsf2 := fun W (hW : Below we.heap.size we W) => recv_safe W p2 0 O2 _ (hR2.below hW)
          have hes := hoe.size
          clear hR2 b0 b1 b2
          replace hLe := Lib.hid hLe
          replace e1 := Lib.hid (show steps a0 n Link.new (T.take (k + 1)) = (Link.step a0 n K x.k x.N x.m).1 by rw [e1.out])
          generalize hKK : (Link.step a0 n K x.k x.N x.m).1 = KK at *
          replace hKK := Lib.hid hKK
          rw [hse] at hsf2
          generalize Recv.Rec.offer KK.R = g at *
          have dg : ((g : Int) != (g : Int)) = false := by simp
          replace hse := Lib.hid hse
          replace hof2 := Lib.hid hof2
          replace hsf2 := Lib.hid hsf2
          go_wp2_with fail
          have c2o := Old.cell c2
          have c0o := Old.cell c0
          have hoo2 := Lib.hid (fun (y : Kept (Old we.heap.size we)) => hof2.out y.val y.ok.2)
          have hso2 := Lib.hid (fun (y : Kept (Old we.heap.size we)) => hsf2.out y.val y.ok.2)
          have hgo := Lib.hid (fun (y : Kept (Old we.heap.size we)) => (show LinkZ y.val l (fun k => wb.heap.size ≤ k) a0 n (steps a0 n Link.new (T.take (k + 1))) (k + 1) ∧ Below w.heap.size w y.val from ⟨by rw [e1.out]; exact hLe.out.below y.ok.2, hbE.trans (y.ok.2.mono hbE.size)⟩))
          (have hN := Old.ne we; refine wp_region_kept (Old we.heap.size we) (by kernel_rfl) (by kernel_rfl) (Old.start we) ?_; (repeat (first | go_big_quiet_step ((first | (go_at_call 12; go_must (exact calls_kept (hoo2.out _) Old.below)) | (go_at_call 14; go_must (exact calls_kept (hso2.out _) Old.below)))) | quiet_step ((first | (go_at_call 12; go_must (exact calls_kept (hoo2.out _) Old.below)) | (go_at_call 14; go_must (exact calls_kept (hso2.out _) Old.below)))))); refine wpQuiet_nil ?_; rintro _ ⟨X, rfl⟩)
          have hfin := Lib.hid (hgo.out X)
          clear c2o c0o
          go_wp2
          go_roundw
          case rel => exact ⟨k + 1, by omega, by go_num, hfin.out.1, hfin.out.2⟩
          case measure => simp [intOf]; omega
        · skip
          have dk1 : ((x.k : Int) != 3) = true := by simp [hk3]
          have dk2 : ((x.k : Int) == 3) = false := by simp [hk3]
          obtain ⟨hg1, hg2⟩ := Link.step_grows a0 n K x.k x.N x.m hL.out.good F.h1 hk3
          have hst := Lib.hid (fun W (hW : Below wr.heap.size wr W) => link_stepZ W l _ a0 n k K (hLb.out.below hW) F (by omega) x hok1.out)
          replace hk3 := Lib.hid hk3
          go_wp2_with fail
          generalize hwq : wr.alloc (.cells #[.int .i64 x.k, .int .i64 x.N, .int .u64 x.m] 37) = wq at *
          replace hwq := Lib.hid hwq
          have l0 := hl0.out
          have l0o := Old.cell l0
          have hoo := Lib.hid (fun (y : Kept (Old wq.heap.size wq)) => hof.out y.val (bch hba4.out y.ok.2))
          have hso := Lib.hid (fun (y : Kept (Old wq.heap.size wq)) => hsf.out y.val (bch hba4.out y.ok.2))
          (have hN := Old.ne wq; refine wp_region_kept (Old wq.heap.size wq) (by kernel_rfl) (by kernel_rfl) (Old.start wq) ?_; (repeat (first | go_big_quiet_step ((first | (go_at_call 12; go_must (exact calls_kept (hoo.out _) Old.below)) | (go_at_call 14; go_must (exact calls_kept (hso.out _) Old.below)))) | quiet_step ((first | (go_at_call 12; go_must (exact calls_kept (hoo.out _) Old.below)) | (go_at_call 14; go_must (exact calls_kept (hso.out _) Old.below)))))); refine wpQuiet_nil ?_; rintro _ ⟨X, rfl⟩)
          have hrX : Row X.val wr.heap.size 37 [.int .i64 x.k, .int .i64 x.N, .int .u64 x.m] := hbx.out.below X.ok.2
          have b0 : X.val.cell? ⟨wr.heap.size, 0, none⟩ = some (.int .i64 x.k) := hrX.cell 0
          have b1 : X.val.cell? ⟨wr.heap.size, 1, none⟩ = some (.int .i64 x.N) := hrX.cell 1
          have b2 : X.val.cell? ⟨wr.heap.size, 2, none⟩ = some (.int .u64 x.m) := hrX.cell 2
          replace hrX := Lib.hid hrX
          have hXs := (bch hba4.out X.ok.2).size
          have hXb := bch hba4.out X.ok.2
          clear l0o l0
          go_wp2_with fail
          refine (hst.out _ hXb).mono ?_
          rintro e we ⟨⟨r, rfl, _, _⟩, hLe, hoe⟩
          have hnb : ¬ (wb.heap.size ≤ wr.heap.size ∧ wr.heap.size < wr.heap.size) := by omega
          have hre := hrX.out.only hoe hnb
          have c0 : we.cell? ⟨wr.heap.size, 0, none⟩ = some (.int .i64 x.k) := hre.cell 0
          replace hre := Lib.hid hre
          have hbE : Below w.heap.size w we := (hbel.trans (hXb.mono (by omega))).trans (hoe.below (B := w.heap.size) (fun j hj => by omega) (by omega))
          replace hLe : LinkZ we l (fun k => wb.heap.size ≤ k) a0 n (Link.step a0 n K x.k x.N x.m).1 (k + 1) := hLe.mono (fun j hj => by rcases hj with hj | hj <;> omega) (Nat.le_refl _)
          obtain ⟨p2, O2, c2, hR2⟩ := hLe.open_
          have hof2 := fun W (hW : Below we.heap.size we W) => recv_offer W p2 0 O2 _ (hR2.below hW) (hLe.len F)
          have hsf2 := fun W (hW : Below we.heap.size we W) => recv_safe W p2 0 O2 _ (hR2.below hW)
          have hes := hoe.size
          clear hR2 b0 b1 b2
          replace hLe := Lib.hid hLe
          replace e1 := Lib.hid (show steps a0 n Link.new (T.take (k + 1)) = (Link.step a0 n K x.k x.N x.m).1 by rw [e1.out])
          generalize hKK : (Link.step a0 n K x.k x.N x.m).1 = KK at *
          replace hKK := Lib.hid hKK
          generalize Recv.Rec.offer KK.R = g at *
          generalize Recv.Rec.safe KK.R = gs at *
          generalize K.R.offer = f at *
          generalize K.R.safe = fs at *
          have dg1 : decide ((g : Int) < (f : Int)) = false := by simp; exact hg1
          have dg2 : decide (g < f) = false := by simp; exact hg1
          have dg3 : decide ((gs : Int) < (fs : Int)) = false := by simp; exact hg2
          have dg4 : decide (gs < fs) = false := by simp; exact hg2
          replace hof2 := Lib.hid hof2
          replace hsf2 := Lib.hid hsf2
          go_wp2_with fail
          have c2o := Old.cell c2
          have c0o := Old.cell c0
          have hoo2 := Lib.hid (fun (y : Kept (Old we.heap.size we)) => hof2.out y.val y.ok.2)
          have hso2 := Lib.hid (fun (y : Kept (Old we.heap.size we)) => hsf2.out y.val y.ok.2)
          have hgo := Lib.hid (fun (y : Kept (Old we.heap.size we)) => (show LinkZ y.val l (fun k => wb.heap.size ≤ k) a0 n (steps a0 n Link.new (T.take (k + 1))) (k + 1) ∧ Below w.heap.size w y.val from ⟨by rw [e1.out]; exact hLe.out.below y.ok.2, hbE.trans (y.ok.2.mono hbE.size)⟩))
          (have hN := Old.ne we; refine wp_region_kept (Old we.heap.size we) (by kernel_rfl) (by kernel_rfl) (Old.start we) ?_; (repeat (first | go_big_quiet_step ((first | (go_at_call 12; go_must (exact calls_kept (hoo2.out _) Old.below)) | (go_at_call 14; go_must (exact calls_kept (hso2.out _) Old.below)))) | quiet_step ((first | (go_at_call 12; go_must (exact calls_kept (hoo2.out _) Old.below)) | (go_at_call 14; go_must (exact calls_kept (hso2.out _) Old.below)))))); refine wpQuiet_nil ?_; rintro _ ⟨X, rfl⟩)
          have hfin := Lib.hid (hgo.out X)
          clear c2o c0o
          go_wp2
          go_roundw
          case rel => exact ⟨k + 1, by omega, by go_num, hfin.out.1, hfin.out.2⟩
          case measure => simp [intOf]; omega
      · obtain rfl : k = T.length := by omega
        replace hL := Lib.hid hL
        go_wp2
        go_ret
        exact ⟨rfl, hbel⟩
  · rw [decide_eq_false hsh] at hSh
    replace hsh := Lib.hid hsh
    go_enter Try.func6, Try.ntmps6
    go_wp2_with fail
    refine hLk.out.mono ?_
    rintro e wa ⟨rfl, hba⟩
    go_wp2_with fail
    refine (hSh.out _ hba).mono ?_
    rintro e wb ⟨rfl, hbb⟩
    go_wp2
    go_ret
    exact ⟨rfl, bch hba hbb⟩
end Go.Proofs.Ytnognjjbheoniab
