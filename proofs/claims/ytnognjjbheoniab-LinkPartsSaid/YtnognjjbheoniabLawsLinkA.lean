/- The walks of LinkLasts, LinkLeft, LinkGrows. -/
import Derived.Test.YtnognjjbheoniabWLinked
namespace Go.Proofs.Ytnognjjbheoniab
open Go.RowKit
set_option linter.unusedVariables false
set_option linter.unusedSimpArgs false
theorem below_of_only {w w' : World} {B : Nat} (ho : Only (fun k => B ≤ k) w w') (hB : B ≤ w.heap.size) : Below B w w' := ho.below (fun k hk => hk) hB
theorem step_sync_eq (s : ByteArray) (n : Nat) (L : Link.St) (N : Int) (m : Nat) : Link.step s n L 2 N m = ({ L with R := Link.sync L.R }, true) := by unfold Link.step; rw [if_neg (by decide), if_neg (by decide), if_pos rfl]
theorem step_crash_eq (s : ByteArray) (n : Nat) (L : Link.St) (N : Int) (m : Nat) : Link.step s n L 3 N m = ({ L with R := (Link.ahead L.R (N % 4).toNat).crash (keepM m) }, true) := by unfold Link.step; rw [if_neg (by decide), if_neg (by decide), if_neg (by decide), if_pos rfl]
theorem step_resume_eq (s : ByteArray) (n : Nat) (L : Link.St) (N : Int) (m : Nat) : Link.step s n L 4 N m = ({ L with frm := L.R.offer }, true) := by unfold Link.step; rw [if_neg (by decide), if_neg (by decide), if_neg (by decide), if_neg (by decide), if_pos rfl]
theorem u64_ok {m : Nat} (h : m < 18446744073709551616) : True := trivial
/-- Step over a link that lies from B on. -/
theorem link_stepB (w : World) (l B : Nat) (s : ByteArray) (n c : Nat) (L : Link.St) (h : LinkZ w l (fun k => B ≤ k) s n L c) (hB : B ≤ w.heap.size) (F : Fits s n) (hc : c ≤ 900000) (v : Link.Stp) (hv : StpOk v) :
    Calls Try.prog 13 #[.pointer (some ⟨l, 0, none⟩), .agg #[.int .i64 v.k, .int .i64 v.N, .int .u64 v.m]] w fun e w' => (∃ r, e = .returned r ∧ ((Link.step s n L v.k v.N v.m).2 = true → r = .nilIface) ∧ ((Link.step s n L v.k v.N v.m).2 = false → ∃ x, r = errN x)) ∧ LinkZ w' l (fun k => B ≤ k) s n (Link.step s n L v.k v.N v.m).1 (c + 1) ∧ Below B w w' :=
  (link_stepZ w l _ s n c L h F hc v hv).mono fun _ _ ⟨a, b, d⟩ => ⟨a, b.mono (fun k hk => by rcases hk with h | h <;> omega) (Nat.le_refl _), below_of_only d hB⟩
theorem pickN_int (a : Int) (n : Nat) (hn : 0 < n) (hl : n ≤ 1000) : (Lit.int .i64 ((pickN a n : Nat) : Int)).wf = true := by
  have := pickN_lt a n hn
  simp [Lit.wf, IntKind.min, IntKind.max, IntKind.signed, IntKind.bits]
  omega
set_option maxHeartbeats 4000000 in
set_option maxRecDepth 20000 in
theorem LinkLasts_walk (a0 : ByteArray) (a1 : Int) (v2 : Value) (l2 : List StpB) (a3 : Int) (w : World) (w0 : a0.size ≤ 140737488351232) (w1 : (Lit.int .i64 a1).wf = true) (L2 : ListIs stpBCells 3 w v2 l2) (q2 : ∀ x ∈ l2, StpBOk x) (z2 : l2.length ≤ 140737488351232) (w3 : (Lit.int .u64 a3).wf = true) :
    Calls Try.prog 3 #[.string a0, .int .i64 a1, v2, .int .u64 a3] w fun e w' => e = .returned (.bool true) ∧ Below w.heap.size w w' := by
  obtain ⟨m, rfl, hm⟩ := nat_u64 w3
  obtain ⟨hT, hok⟩ := steps_of L2 q2
  have hTl : (l2.map StpB.to).length = l2.length := List.length_map _
  generalize l2.map StpB.to = T at *
  clear L2 q2
  have hLk := Lib.hid (linked w)
  have hSh := Lib.hid (fun W (hW : Below w.heap.size w W) => keep_short W a0 v2 T (hT.below (by omega) hW) w0 (by omega))
  by_cases hsh : a0.size ≠ 0 ∧ a0.size ≤ 600 ∧ T.length ≤ 60
  · rw [decide_eq_true hsh] at hSh
    obtain ⟨h1, h2, h3⟩ := hsh
    have hSt := Lib.hid (fun W (hW : Below w.heap.size w W) => keep_strung W a0 a1 v2 T (hT.below (by omega) hW) hok (by omega) h1 (by omega))
    have hp := pickN_lt a1 64 (by omega)
    have F : Fits a0 (1 + pickN a1 64) := ⟨h1, by omega, by omega, by omega⟩
    generalize 1 + pickN a1 64 = n at *
    obtain ⟨x, hx⟩ : ∃ x, x = m / 256 := ⟨_, rfl⟩
    have hx1 : (m : Int) / 256 = (x : Int) := by omega
    have hx2 : x < 72057594037927936 := by omega
    have hpk := Lib.hid (fun W => keep_pick (x : Int) 4 4 W rfl (by omega) (by omega))
    have hp4 := pickN_lt (x : Int) 4 (by omega)
    have hpi := pickN_int (x : Int) 4 (by omega) (by omega)
    generalize pickN (x : Int) 4 = y at *
    replace hx := Lib.hid hx
    replace hT := Lib.hid hT
    replace hok := Lib.hid hok
    have hmm := Lib.hid hm
    clear hm w3
    go_enter Try.func3, Try.ntmps3
    go_wp2_with fail
    refine hLk.out.mono ?_
    rintro e wa ⟨rfl, hba⟩
    go_wp2_with fail
    refine (hSh.out _ hba).mono ?_
    rintro e wb ⟨rfl, hbb⟩
    go_wp2_with fail
    refine (hSt.out _ (bch hba hbb)).mono ?_
    rintro e wc ⟨⟨l, rfl, hL⟩, hbc⟩
    have hb := bch (bch hba hbb) hbc
    have hBc : wb.heap.size ≤ wc.heap.size := hbc.size
    have hB0 : w.heap.size ≤ wb.heap.size := (bch hba hbb).size
    generalize steps a0 n Link.new T = K at *
    obtain ⟨p, O, c0, hR⟩ := hL.open_
    have hof := Lib.hid (recv_offer wc p 0 O K.R hR (hL.len F))
    clear hR hSh hSt hLk
    obtain ⟨p1, p2, p3, p4⟩ := Link.lasts a0 K hL.good F.h2 (by have := hL.mark; omega) y m
    have hmk := hL.mark
    replace hL := Lib.hid hL
    go_wp2_with fail
    refine hof.out.mono ?_
    rintro e wd ⟨rfl, hbd⟩
    have hst := Lib.hid (link_stepB wd l wb.heap.size a0 n T.length K (hL.out.below hbd) (by have := hbd.size; omega) F (by omega) ⟨2, 0, 0⟩ ⟨by decide, by decide, by show 0 < 18446744073709551616; omega⟩)
    go_wp2_with fail
    refine hst.out.mono ?_
    rintro e we ⟨⟨r, rfl, _, _⟩, hLe, hbe⟩
    simp only [step_sync_eq] at hLe
    have hse : wb.heap.size ≤ we.heap.size := by have := hbd.size; have := hbe.size; omega
    obtain ⟨p', O', c1, hR1⟩ := hLe.open_
    have hsf := Lib.hid (recv_safe we p' 0 O' _ hR1)
    have hof1 := Lib.hid (fun W (hW : Below we.heap.size we W) => recv_offer W p' 0 O' _ (hR1.below hW) (hLe.len F))
    simp only [p1] at hsf
    have e2 : Recv.Rec.offer (Link.sync K.R) = K.R.offer := p2
    rw [e2] at hof1
    clear hR1 e2
    replace hLe := Lib.hid hLe
    replace p1 := Lib.hid p1
    replace p2 := Lib.hid p2
    replace p3 := Lib.hid p3
    replace p4 := Lib.hid p4
    generalize K.R.offer = f at *
    have dn : ((f : Int) != (f : Int)) = false := by simp
    have de : ((f : Int) == (f : Int)) = true := by simp
    go_wp2_with fail
    refine hsf.out.mono ?_
    rintro e wf ⟨rfl, hbf⟩
    replace c1 := cell_below hbf c1
    go_wp2_with fail
    refine (hof1.out _ hbf).mono ?_
    rintro e wg ⟨rfl, hbg⟩
    go_wp2_with fail
    refine (hpk.out _).mono ?_
    rintro e w' ⟨rfl, rfl⟩
    have hfg := bch hbf hbg
    have hst2 := Lib.hid (link_stepB wg l wb.heap.size a0 n (T.length + 1) _ (hLe.out.below hfg) (by have := hfg.size; omega) F (by omega) ⟨3, (y : Int), m⟩ ⟨show (Lit.int .i64 3).wf = true by decide, hpi, hmm.out⟩)
    go_wp2_with fail
    refine hst2.out.mono ?_
    rintro e wh ⟨⟨r2, rfl, _, _⟩, hLh, hbh⟩
    simp only [step_crash_eq] at hLh
    rw [show ((y : Int) % 4).toNat = y by omega] at hLh
    obtain ⟨p'', O'', c2, hR2⟩ := hLh.open_
    have hsf2 := Lib.hid (fun W (hW : Below wh.heap.size wh W) => recv_safe W p'' 0 O'' _ (hR2.below hW))
    have hof2 := Lib.hid (recv_offer wh p'' 0 O'' _ hR2 (hLh.len F))
    simp only [p4.out] at hsf2
    have e2 : Recv.Rec.offer ((Link.ahead (Link.sync K.R) y).crash (keepM m)) = f := p3.out
    rw [e2] at hof2
    clear hR2 e2
    have hbH : Below w.heap.size w wh := ((((hb.trans (hbd.mono (by omega))).trans (hbe.mono (by omega))).trans (hfg.mono (by omega))).trans (hbh.mono (by omega)))
    replace hLh := Lib.hid hLh
    go_wp2_with fail
    refine hof2.out.mono ?_
    rintro e wi ⟨rfl, hbi⟩
    replace c2 := cell_below hbi c2
    go_wp2_with fail
    refine (hsf2.out _ hbi).mono ?_
    rintro e wj ⟨rfl, hbj⟩
    go_wp2
    go_ret
    exact ⟨rfl, bch (bch hbH hbi) hbj⟩
  · rw [decide_eq_false hsh] at hSh
    replace hsh := Lib.hid hsh
    clear hm w3
    go_enter Try.func3, Try.ntmps3
    go_wp2_with fail
    refine hLk.out.mono ?_
    rintro e wa ⟨rfl, hba⟩
    go_wp2_with fail
    refine (hSh.out _ hba).mono ?_
    rintro e wb ⟨rfl, hbb⟩
    go_wp2
    go_ret
    exact ⟨rfl, bch hba hbb⟩
end Go.Proofs.Ytnognjjbheoniab
