/- The walks of LinkEnds, LinkSpoilt; printed by gen_linklaws.py. -/
import Derived.Test.YtnognjjbheoniabLawsLinkA
namespace Go.Proofs.Ytnognjjbheoniab
open Go.RowKit
set_option linter.unusedVariables false
set_option linter.unusedSimpArgs false
set_option maxHeartbeats 4000000 in
set_option maxRecDepth 20000 in
theorem LinkEnds_walk (a0 : ByteArray) (a1 : Int) (v2 : Value) (l2 : List StpB) (a3 : Int) (w : World) (w0 : a0.size ≤ 140737488351232) (w1 : (Lit.int .i64 a1).wf = true) (L2 : ListIs stpBCells 3 w v2 l2) (q2 : ∀ x ∈ l2, StpBOk x) (z2 : l2.length ≤ 140737488351232) (w3 : (Lit.int .i64 a3).wf = true) :
    Calls Try.prog 8 #[.string a0, .int .i64 a1, v2, .int .i64 a3] w fun e w' => e = .returned (.bool true) ∧ Below w.heap.size w w' := by
  obtain ⟨hT, hok⟩ := steps_of L2 q2
  have hTl : (l2.map StpB.to).length = l2.length := List.length_map _
  generalize l2.map StpB.to = T at *
  clear L2 q2
  have hLk := Lib.hid (linked w)
  have hSh := Lib.hid (fun W (hW : Below w.heap.size w W) => keep_short W a0 v2 T (hT.below (by omega) hW) w0 (by omega))
  by_cases hsh : a0.size ≠ 0 ∧ a0.size ≤ 600 ∧ T.length ≤ 60
  · rw [decide_eq_true hsh] at hSh
    obtain ⟨h1, h2, h3⟩ := hsh
    have hSt := Lib.hid (fun W (hW : Below w.heap.size w W) => keep_strung W a0 a1 (v2) T (hT.below (by omega) hW) (hok) (by first | omega | simp) h1 (by omega))
    have hp := pickN_lt a1 64 (by omega)
    have hpk1 := Lib.hid (fun W => keep_pick a1 64 64 W rfl (by omega) (by omega))
    have F : Fits a0 (1 + pickN a1 64) := ⟨h1, by omega, by omega, by omega⟩
    have hn1 : (1 : Int) + ((pickN a1 64 : Nat) : Int) = ((1 + pickN a1 64 : Nat) : Int) := by omega
    generalize 1 + pickN a1 64 = n at *
    generalize pickN a1 64 = pk1 at *
    have hpk3 := Lib.hid (fun W => keep_pick a3 100 100 W rfl (by omega) (by omega))
    have hp3 := pickN_lt a3 100 (by omega)
    generalize pickN a3 100 = c at *
    replace hT := Lib.hid hT
    replace hok := Lib.hid hok
    go_enter Try.func8, Try.ntmps8
    go_wp2_with fail
    refine hLk.out.mono ?_
    rintro e wa ⟨rfl, hba⟩
    go_wp2_with fail
    refine (hSh.out _ hba).mono ?_
    rintro e wb ⟨rfl, hbb⟩
    go_wp2_with fail
    refine (hSt.out _ (bch hba hbb)).mono ?_
    rintro e wc ⟨⟨l, rfl, hL⟩, hbc⟩
    have hb := bch (bch hba hbb) hbc
    have hBc : wb.heap.size ≤ wc.heap.size := hbc.size
    have hB0 : w.heap.size ≤ wb.heap.size := (bch hba hbb).size
    clear hSh hSt hLk
    generalize steps a0 n Link.new T = K at *
    have hmk := hL.mark
    have hst := Lib.hid (link_stepB wc l wb.heap.size a0 n T.length K hL hBc F (by omega) ⟨4, 0, 0⟩ ⟨by decide, by decide, by show 0 < 18446744073709551616; omega⟩)
    clear hL
    go_wp2_with fail
    refine hst.out.mono ?_
    rintro e we ⟨⟨r, rfl, _, _⟩, hLe, hbe⟩
    simp only [step_resume_eq] at hLe
    have hse : wb.heap.size ≤ we.heap.size := by have := hbe.size; omega
    have hbE : Below w.heap.size w we := hb.trans (hbe.mono (by omega))
    obtain ⟨K1, hK1⟩ : ∃ K1 : Link.St, K1 = { K with frm := K.R.offer } := ⟨_, rfl⟩
    rw [← hK1] at hLe
    have hf1 : K1.frm = K1.R.offer := by rw [hK1]
    have hle : Link.left a0 n K1 ≤ 4096 := Nat.le_trans (Nat.sub_le _ _) (cuts_le a0 n F.h2 F.h3)
    obtain ⟨f1, f2⟩ := Link.ends a0 n c K1 hLe.good F.h1 F.h3 hf1 (by omega) (by omega)
    have hds := fun k hk => (Link.delivers_spec a0 n c K1 hLe.good F.h1 F.h3 (by omega) (by omega) k hk (by omega)).1
    have hLf := Lib.hid (link_LeftZ we l _ a0 n _ K1 hLe F)
    generalize hlf : Link.left a0 n K1 = lf at *
    have hL0 : LinkZ we l (fun k => wb.heap.size ≤ k) a0 n (Link.delivers a0 n c 0 K1) (T.length + 1) := hLe
    replace hlf := Lib.hid hlf
    replace f1 := Lib.hid f1
    replace f2 := Lib.hid f2
    replace hds := Lib.hid hds
    replace hK1 := Lib.hid hK1
    replace hf1 := Lib.hid hf1
    replace hL0 := Lib.hid hL0
    have h600 : lf ≤ 4096 := hle
    clear hLe hmk hst
    go_wp2_with fail
    refine hLf.out.mono ?_
    rintro e wf ⟨rfl, hbf⟩
    go_wp2
    go_loopw [32] (fun i wr => ∃ k : Nat, k ≤ lf ∧ i = .int .i64 k ∧ LinkZ wr l (fun k => wb.heap.size ≤ k) a0 n (Link.delivers a0 n c k K1) (T.length + 1 + k) ∧ Below w.heap.size w wr) (fun i _ => lf - (intOf i).toNat)
    case atStart => exact ⟨0, by omega, rfl, by first | exact hL0.out.below hbf | exact hL0.out.below (by (repeat (first | exact Below.refl _ _ | assumption | refine bal ?_ _ | refine bdr ?_ | refine bdn ?_ _ | refine bst ?_ (by first | assumption | exact Nat.le_refl _ | omega) _ | refine bch ?_ (by assumption)))), by first | exact bch hbE hbf | (repeat (first | exact Below.refl _ _ | assumption | refine bal ?_ _ | refine bdr ?_ | refine bdn ?_ _ | refine bst ?_ (by first | assumption | exact Nat.le_refl _ | omega) _ | refine bch ?_ (by assumption)))⟩
    case round =>
      obtain ⟨k, hk, rfl, hL, hbel⟩ := hrel
      have hBr : wb.heap.size ≤ wr.heap.size := by
        obtain ⟨q, vq, Oq, hq, hZ⟩ := hL.is
        have := hZ l (Or.inl rfl)
        have := hq.row.lt
        omega
      by_cases hlt : k < lf
      · obtain ⟨j, hj⟩ : ∃ j, j = k + c := ⟨_, rfl⟩
        have hj1 : (k : Int) + (c : Int) = (j : Int) := by omega
        have hjl : j ≤ 6000 := by omega
        have hjw : (Lit.int .i64 (j : Int)).wf = true := by
          simp [Lit.wf, IntKind.min, IntKind.max, IntKind.signed, IntKind.bits]
          omega
        have hst := Lib.hid (link_stepB wr l wb.heap.size a0 n _ _ hL hBr F (by omega) ⟨1, (j : Int), 0⟩ ⟨show (Lit.int .i64 1).wf = true by decide, hjw, by show 0 < 18446744073709551616; omega⟩)
        have hse1 : Link.step a0 n (Link.delivers a0 n c k K1) 1 (j : Int) 0 = (Link.delivers a0 n c (k + 1) K1, true) := by
          unfold Link.step
          rw [if_pos rfl, hj]; rfl
        simp only [hse1] at hst
        replace hj := Lib.hid hj
        replace hjw := Lib.hid hjw
        replace hse1 := Lib.hid hse1
        replace hL := Lib.hid hL
        go_wp2_with fail
        refine (hpk3.out _).mono ?_
        rintro e w' ⟨rfl, rfl⟩
        go_wp2_with fail
        refine hst.out.mono ?_
        rintro e wg ⟨⟨r, rfl, hr, _⟩, hLg, hbg⟩
        obtain rfl := hr trivial
        replace hLg := Lib.hid hLg
        go_wp2
        go_roundw
        case rel => exact ⟨k + 1, by omega, by go_num, hLg.out, hbel.trans (hbg.mono (by omega))⟩
        case measure => simp [intOf]; omega
      · obtain rfl : k = lf := by omega
        have hcne : (Link.delivers a0 n c k K1).R.came ≠ [] := fun e => by
          have h := f2.out
          rw [e] at h
          exact F.h1 h.symm
        obtain ⟨p, O, l0, hR⟩ := hL.open_
        have hTx := Lib.hid (text_full wr p 0 O _ hR a0 hL.good.inv F.h2 hcne f1.out)
        have hself : (a0.toList == a0.toList) = true := by simp
        replace hcne := Lib.hid hcne
        replace hL := Lib.hid hL
        clear hR
        go_wp2_with fail
        refine hTx.out.mono ?_
        rintro e wh ⟨rfl, hbh⟩
        go_wp2
        go_ret
        exact ⟨rfl, bch hbel hbh⟩
  · rw [decide_eq_false hsh] at hSh
    replace hsh := Lib.hid hsh
    go_enter Try.func8, Try.ntmps8
    go_wp2_with fail
    refine hLk.out.mono ?_
    rintro e wa ⟨rfl, hba⟩
    go_wp2_with fail
    refine (hSh.out _ hba).mono ?_
    rintro e wb ⟨rfl, hbb⟩
    go_wp2
    go_ret
    exact ⟨rfl, bch hba hbb⟩
set_option maxHeartbeats 4000000 in
set_option maxRecDepth 20000 in
theorem LinkSpoilt_walk (a0 : ByteArray) (a1 : Int) (v2 : Value) (l2 : List StpB) (a3 a4 : Int) (w : World) (w0 : a0.size ≤ 140737488351232) (w1 : (Lit.int .i64 a1).wf = true) (L2 : ListIs stpBCells 3 w v2 l2) (q2 : ∀ x ∈ l2, StpBOk x) (z2 : l2.length ≤ 140737488351232) (w3 : (Lit.int .i64 a3).wf = true) (w4 : (Lit.int .u64 a4).wf = true) :
    Calls Try.prog 4 #[.string a0, .int .i64 a1, v2, .int .i64 a3, .int .u64 a4] w fun e w' => e = .returned (.bool true) ∧ Below w.heap.size w w' := by
  obtain ⟨hT, hok⟩ := steps_of L2 q2
  have hTl : (l2.map StpB.to).length = l2.length := List.length_map _
  generalize l2.map StpB.to = T at *
  clear L2 q2
  have hLk := Lib.hid (linked w)
  have hSh := Lib.hid (fun W (hW : Below w.heap.size w W) => keep_short W a0 v2 T (hT.below (by omega) hW) w0 (by omega))
  by_cases hsh : a0.size ≠ 0 ∧ a0.size ≤ 600 ∧ T.length ≤ 60
  · rw [decide_eq_true hsh] at hSh
    obtain ⟨h1, h2, h3⟩ := hsh
    have hSt := Lib.hid (fun W (hW : Below w.heap.size w W) => keep_strung W a0 a1 (v2) T (hT.below (by omega) hW) (hok) (by first | omega | simp) h1 (by omega))
    have hp := pickN_lt a1 64 (by omega)
    have hpk1 := Lib.hid (fun W => keep_pick a1 64 64 W rfl (by omega) (by omega))
    have F : Fits a0 (1 + pickN a1 64) := ⟨h1, by omega, by omega, by omega⟩
    have hn1 : (1 : Int) + ((pickN a1 64 : Nat) : Int) = ((1 + pickN a1 64 : Nat) : Int) := by omega
    generalize 1 + pickN a1 64 = n at *
    generalize pickN a1 64 = pk1 at *
    obtain ⟨m, rfl, hm⟩ := nat_u64 w4
    obtain ⟨mz, hmz⟩ : ∃ mz, mz = m % 4294967296 := ⟨_, rfl⟩
    have hand : bits .and .u64 (m : Int) 4294967295 = (mz : Int) := by
      have h := u64_and_nat m 4294967295 hm (by omega)
      rw [show (4294967295 : Nat) = 2 ^ 32 - 1 from rfl, Nat.and_two_pow_sub_one_eq_mod] at h
      rw [hmz]
      exact h
    replace w4 := Lib.hid w4
    have hmm := Lib.hid hm
    replace hmz := Lib.hid hmz
    clear hm
    replace hT := Lib.hid hT
    replace hok := Lib.hid hok
    go_enter Try.func4, Try.ntmps4
    go_wp2_with fail
    refine hLk.out.mono ?_
    rintro e wa ⟨rfl, hba⟩
    go_wp2_with fail
    refine (hSh.out _ hba).mono ?_
    rintro e wb ⟨rfl, hbb⟩
    go_wp2_with fail
    refine (hSt.out _ (bch hba hbb)).mono ?_
    rintro e wc ⟨⟨l, rfl, hL⟩, hbc⟩
    have hb := bch (bch hba hbb) hbc
    have hBc : wb.heap.size ≤ wc.heap.size := hbc.size
    have hB0 : w.heap.size ≤ wb.heap.size := (bch hba hbb).size
    clear hSh hSt hLk
    generalize steps a0 n Link.new T = K at *
    have hmk := hL.mark
    obtain ⟨p, O, c0, hR⟩ := hL.open_
    have hof := Lib.hid (fun W (hW : Below wc.heap.size wc W) => recv_offer W p 0 O _ (hR.below hW) (hL.len F))
    have hsf := Lib.hid (fun W (hW : Below wc.heap.size wc W) => recv_safe W p 0 O _ (hR.below hW))
    have hLf := Lib.hid (fun W (hW : Below wc.heap.size wc W) => link_LeftZ W l _ a0 n _ K (hL.below hW) F)
    have hst := Lib.hid (fun W (hW : Below wc.heap.size wc W) => link_stepB W l wb.heap.size a0 n T.length K (hL.below hW) (by have := hW.size; omega) F (by omega) ⟨5, a3, m⟩ ⟨show (Lit.int .i64 5).wf = true by decide, w3, hmm.out⟩)
    have hs5 : Link.step a0 n K 5 a3 m = if Link.left a0 n K = 0 ∨ m % 4294967296 = 0 then (Link.deliver a0 n K a3, true) else (K, false) := by unfold Link.step; rw [if_neg (by decide), if_pos rfl]
    have hKlen := hL.len F
    clear hL hR
    go_wp2_with fail
    have c0o := Old.cell c0
    have hlo := Lib.hid (fun (y : Kept (Old wc.heap.size wc)) => hLf.out y.val y.ok.2)
    have hoo := Lib.hid (fun (y : Kept (Old wc.heap.size wc)) => hof.out y.val y.ok.2)
    have hso := Lib.hid (fun (y : Kept (Old wc.heap.size wc)) => hsf.out y.val y.ok.2)
    replace hs5 := Lib.hid hs5
    by_cases hcase : Link.left a0 n K = 0 ∨ m % 4294967296 = 0
    · have hs6 : Link.step a0 n K 5 a3 m = (Link.deliver a0 n K a3, true) := by rw [hs5.out, if_pos hcase]
      simp only [hs6] at hst
      generalize Link.left a0 n K = lf at *
      generalize K.R.offer = f at *
      generalize K.R.safe = fs at *
      have hcase' : mz = 0 ∨ lf = 0 := by have := hmz.out; omega
      replace hs6 := Lib.hid hs6
      replace hcase := Lib.hid hcase
      (have hN := Old.ne wc; refine wp_region_kept (Old wc.heap.size wc) (by kernel_rfl) (by kernel_rfl) (Old.start wc) ?_; (repeat (first | go_big_quiet_step ((first | (go_at_call 12; go_must (exact calls_kept (hoo.out _) Old.below)) | (go_at_call 14; go_must (exact calls_kept (hso.out _) Old.below)) | (go_at_call 16; go_must (exact calls_kept (hlo.out _) Old.below)))) | quiet_step ((first | (go_at_call 12; go_must (exact calls_kept (hoo.out _) Old.below)) | (go_at_call 14; go_must (exact calls_kept (hso.out _) Old.below)) | (go_at_call 16; go_must (exact calls_kept (hlo.out _) Old.below)))))); refine wpQuiet_nil ?_; rintro _ ⟨X, rfl⟩)
      have hXb := X.ok.2
      go_wp2_with fail
      refine (hst.out _ hXb).mono ?_
      rintro e we ⟨⟨r, rfl, hr, _⟩, hLe, hbe⟩
      obtain rfl := hr trivial
      have hXs := hXb.size
      have hbE : Below w.heap.size w we := (hb.trans (hXb.mono (by omega))).trans (hbe.mono (by omega))
      replace hLe := Lib.hid hLe
      by_cases hm0 : mz = 0
      · have hd : ((mz : Int) == 0) = true := by rw [hm0]; rfl
        replace hm0 := Lib.hid hm0
        clear hcase'
        go_wp2
        go_ret
        exact ⟨rfl, hbE⟩
      · have hd : ((mz : Int) == 0) = false := by simp; omega
        have hl0 : lf = 0 := by omega
        have hd2 : decide ((lf : Int) ≤ 0) = true := by simp; omega
        replace hm0 := Lib.hid hm0
        replace hl0 := Lib.hid hl0
        clear hcase'
        go_wp2
        go_ret
        exact ⟨rfl, hbE⟩
    · have hs6 : Link.step a0 n K 5 a3 m = (K, false) := by rw [hs5.out, if_neg hcase]
      simp only [hs6] at hst
      have hlf0 : 0 < Link.left a0 n K := by omega
      have hmz0 : mz ≠ 0 := by have := hmz.out; omega
      have hd : ((mz : Int) == 0) = false := by simp; omega
      generalize Link.left a0 n K = lf at *
      have hd2 : decide ((lf : Int) ≤ 0) = false := by simp; omega
      generalize hKf : K.R.offer = f at *
      generalize hKs : K.R.safe = fs at *
      have df : ((f : Int) == (f : Int)) = true := by simp
      have dfs : ((fs : Int) == (fs : Int)) = true := by simp
      replace hs6 := Lib.hid hs6
      replace hcase := Lib.hid hcase
      replace hKf := Lib.hid hKf
      replace hKs := Lib.hid hKs
      replace hmz0 := Lib.hid hmz0
      (have hN := Old.ne wc; refine wp_region_kept (Old wc.heap.size wc) (by kernel_rfl) (by kernel_rfl) (Old.start wc) ?_; (repeat (first | go_big_quiet_step ((first | (go_at_call 12; go_must (exact calls_kept (hoo.out _) Old.below)) | (go_at_call 14; go_must (exact calls_kept (hso.out _) Old.below)) | (go_at_call 16; go_must (exact calls_kept (hlo.out _) Old.below)))) | quiet_step ((first | (go_at_call 12; go_must (exact calls_kept (hoo.out _) Old.below)) | (go_at_call 14; go_must (exact calls_kept (hso.out _) Old.below)) | (go_at_call 16; go_must (exact calls_kept (hlo.out _) Old.below)))))); refine wpQuiet_nil ?_; rintro _ ⟨X, rfl⟩)
      have hXb := X.ok.2
      go_wp2_with fail
      refine (hst.out _ hXb).mono ?_
      rintro e we ⟨⟨r, rfl, _, hr⟩, hLe, hbe⟩
      obtain ⟨x, rfl⟩ := hr trivial
      have hXs := hXb.size
      have hbE : Below w.heap.size w we := (hb.trans (hXb.mono (by omega))).trans (hbe.mono (by omega))
      obtain ⟨p2, O2, c2, hR2⟩ := hLe.open_
      have hof2 := Lib.hid (recv_offer we p2 0 O2 _ hR2 hKlen)
      have hsf2 := Lib.hid (fun W (hW : Below we.heap.size we W) => recv_safe W p2 0 O2 _ (hR2.below hW))
      rw [hKf.out] at hof2
      rw [hKs.out] at hsf2
      replace hLe := Lib.hid hLe
      clear hR2
      unfold errN
      go_wp2_with fail
      refine hof2.out.mono ?_
      rintro e wg ⟨rfl, hbg⟩
      replace c2 := cell_below hbg c2
      go_wp2_with fail
      refine (hsf2.out _ hbg).mono ?_
      rintro e wh ⟨rfl, hbh⟩
      go_wp2
      go_ret
      exact ⟨rfl, bch (bch hbE hbg) hbh⟩
  · rw [decide_eq_false hsh] at hSh
    replace hsh := Lib.hid hsh
    go_enter Try.func4, Try.ntmps4
    go_wp2_with fail
    refine hLk.out.mono ?_
    rintro e wa ⟨rfl, hba⟩
    go_wp2_with fail
    refine (hSh.out _ hba).mono ?_
    rintro e wb ⟨rfl, hbb⟩
    go_wp2
    go_ret
    exact ⟨rfl, bch hba hbb⟩
end Go.Proofs.Ytnognjjbheoniab
