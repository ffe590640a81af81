/- The walk of the law LogGaps. -/
import Derived.Test.YtdbpiabcpjgblaaGreatDoorK45
import Derived.Test.YtdbpiabcpjgblaaGreatDoorK28
namespace Go.Proofs.YtdbpiabcpjgblaaGreatDoor
open Go.RowKit
set_option linter.unusedVariables false
set_option linter.unusedSimpArgs false
set_option maxHeartbeats 8000000 in
set_option maxRecDepth 20000 in
theorem LogGaps_walk (a : Int) (v : Value) (l : List ActB) (at_ : Int) (w : World) (w0 : (Lit.int .i64 a).wf = true) (hv : ListIs actCells 9 w v l) (q : ∀ x ∈ l, ActOk x) (z : l.length ≤ 140737488351232) (w1 : (Lit.int .i64 at_).wf = true) (hL : Laid w) :
    Calls Tryz.prog 8 #[.int .i64 a, v, .int .i64 at_] w fun e w' => e = .returned (.bool true) ∧ Below w.heap.size w w' := by
  have hLg := Lib.hid (keep_logged w hL)
  have hSm := Lib.hid (fun W (hW : Below w.heap.size w W) => keep_small v l W (hv.below (by omega) hW) z (fun x hx => ⟨(q x hx).2.2.1, (q x hx).2.2.2.1⟩))
  have hPk := Lib.hid (fun W => keep_pick a 5 5 W rfl (by omega) (by omega))
  obtain ⟨N, hN⟩ : ∃ N, N = 1 + pickN a 5 := ⟨_, rfl⟩
  have hplt := pickN_lt a 5 (by omega)
  have wN : IntKind.i64.wrap (1 + (pickN a 5 : Int)) = (N : Int) := by rw [IntWalk.i64_in _ (by omega)]; omega
  have hN1 : 1 ≤ N := by omega
  have hN5 : N ≤ 5 := by omega
  have hPa := Lib.hid (fun W (hW : Below w.heap.size w W) (hs : smallB l = true) => keep_party N v l W (hL.below hW) hN1 hN5 (hv.below (by omega) hW) (by unfold smallB at hs; simp only [Bool.and_eq_true, decide_eq_true_eq] at hs; exact hs.2))
  generalize pickN a 5 = pk at *
  obtain ⟨ov, cv, rfl, -, -⟩ := ListIs.at hv actCells_len
  have hl60 : smallB l = true → l.length ≤ 60 := fun hs => by unfold smallB at hs; simp only [Bool.and_eq_true, decide_eq_true_eq] at hs; exact hs.2
  clear hN hplt w0 hv q
  generalize smallB l = sm at *
  go_enter Tryz.func8, Tryz.ntmps8
  go_wp2_with fail
  refine hLg.out.mono ?_
  rintro _ w1 ⟨rfl, hb1⟩
  clear hLg
  go_wp2_with fail
  refine (hSm.out _ hb1).mono ?_
  rintro _ w2 ⟨rfl, hb2⟩
  have hbw2 := bch hb1 hb2
  clear hSm hb1 hb2
  cases sm with
  | false =>
    go_wp2
    go_ret
    exact ⟨rfl, by exact blw⟩
  | true =>
  have hPa1 := Lib.hid (hPa.out w2 hbw2 rfl)
  replace hl60 := hl60 rfl
  clear hPa
  go_wp2_with fail
  refine (hPk.out _).mono ?_
  rintro _ _ ⟨rfl, rfl⟩
  clear hPk
  go_wp2_with fail
  refine hPa1.out.mono ?_
  rintro _ w3 ⟨⟨u, rfl, ls, G, hV, hln, hPt, hGl⟩, hb23⟩
  have hbase := hbw2.size
  have hbw3 := hbw2.trans (hb23.mono hbase)
  have hG : G.length ≤ 60 := by omega
  obtain ⟨B, hB⟩ : ∃ B, B = w2.heap.size := ⟨_, rfl⟩
  have hB3 : B ≤ w3.heap.size := hB ▸ hb23.size
  rw [← hB] at hV hbase
  obtain ⟨ou, cu, rfl⟩ := owns_slice_ hV.at_
  obtain ⟨g, rfl, -⟩ := owns_pos hV.at_ (by omega)
  rw [hln] at hV ⊢
  clear hPa1 hb23 hbw2 hB hGl
  have h0 : 0 < ls.length := by omega
  obtain ⟨ok0, a0, -⟩ := hPt.ok 0 (by simpa using h0)
  rw [List.getElem_map] at ok0 a0
  have hlg0 := hV.logs.each 0 h0
  have e0 : w3.cell? ⟨g, 0, none⟩ = some (.pointer (some ⟨ls[0].p, 0, none⟩)) := by
    have hO := hV.at_
    rw [hln] at hO
    rw [hO.cellAt 0 (by omega), List.getElem?_map, List.getElem?_eq_getElem h0]; rfl
  have hgl := (hV.at_.lt g rfl).2
  clear hV hPt
  generalize ls[0] = A at *
  obtain ⟨p0, m0, hv0, wv0⟩ := A
  (try simp only at ok0 a0 hlg0 e0)
  have hF0 := (Vec.right_iff _).1 ok0.have_
  have hlg0 := Lib.hid hlg0
  have hN := Lib.hid (log_new 9 w3 (by omega) (by omega))
  replace hbw3 := Lib.hid hbw3
  go_wp2_with fail
  refine hN.out.mono ?_
  rintro _ w4 ⟨p, rfl, hp, hb4⟩
  have hbw4 := bch hbw3.out hb4
  have hl4 := hlg0.out.below hb4
  replace e0 := cell_below hb4 e0
  have hgl4 : g < w4.heap.size := Nat.lt_of_lt_of_le hgl hb4.size
  have hHv := Lib.hid (log_have B p0 m0 hv0 wv0 w4 hl4 (by have := hF0.len; omega))
  replace hbw4 := Lib.hid hbw4
  replace hp := Lib.hid hp
  replace hl4 := Lib.hid hl4
  clear hN hlg0 hbw3 hb4 hgl
  go_wp2_with fail
  refine hHv.out.mono ?_
  rintro _ w5 ⟨⟨u, rfl, hO⟩, hb5⟩
  have hV5 : VecIs w5 _ m0.H := ListIs.of_owns hO
  obtain ⟨o5, c5, rfl, -, hcell⟩ := hV5.list.at entCells_len
  have hp5 := hp.out.below hb5
  have hl5 := hl4.out.below hb5
  have hbw5 := bch hbw4.out hb5
  replace e0 := cell_below hb5 e0
  have hgl5 : g < w5.heap.size := Nat.lt_of_lt_of_le hgl4 hb5.size
  clear hHv hp hl4 hbw4 hb5 hO hgl4
  by_cases hz : m0.H.length = 0
  · have hzi : ((m0.H.length : Int) == 0) = true := by simp; exact List.eq_nil_of_length_eq_zero hz
    rw [hz] at *
    clear hzi
    go_wp2
    go_ret
    exact ⟨rfl, hbw5⟩
  · have hzi : ((m0.H.length : Int) == 0) = false := by simp; exact fun e => hz (by rw [e]; rfl)
    have hPk := Lib.hid (fun W => keep_pick at_ m0.H.length m0.H.length W rfl (by omega) (by have := hF0.len; omega))
    have hK := pickN_lt at_ m0.H.length (by omega)
    generalize pickN at_ m0.H.length = K at *
    obtain ⟨b, f, rfl, hb, hc⟩ := hcell K hK
    have hb := hb (by omega)
    have hmem : m0.H[K] ∈ m0.H := List.getElem_mem hK
    generalize m0.H[K] = x at *
    have hx := hF0.each x hmem
    have hr1 := one_right hx.1 hx.2.1 hx.2.2.1 hx.2.2.2
    have hc1 : Vec.Covers m0.H [x] := (Vec.covers_iff (List.pairwise_singleton _ _) hF0.pos).1 fun y hy => by
      rw [List.mem_singleton] at hy; subst hy
      rw [Vec.of_mem hF0.sorted hmem]; exact Int.le_refl _
    have hbat := Lg.sent_fine ok0 a0 hr1 hc1
    have hacc : Lg.accept ⟨9, [], []⟩ [x] (Lg.sentHave m0 [x]) (Lg.sent m0 [x]) = .inl (.no 10) := by
      unfold Lg.accept
      rw [if_neg (fun h => h hbat), if_pos (by
        rw [Bool.eq_false_iff]; intro e
        have h2 : x.t ≤ 0 := by
          have := (Lg.covB (a := []) (by rfl) hr1).1 e x.r
          rw [Lg.of_one, if_pos rfl] at this
          exact this
        omega)]
    obtain ⟨xr, xt⟩ := x
    have d0 : w5.cell? ⟨b, f + K * 2, none⟩ = some (.int .i64 xr) := hc 0 _ rfl
    have d1 : w5.cell? ⟨b, f + K * 2 + 1, none⟩ = some (.int .i64 xt) := hc 1 _ rfl
    have hKl : (K : Int) < (m0.H.length : Int) := by omega
    have hlen := ((Vec.right_iff _).1 ((Bat.right_iff _ _ _).1 hbat).have_).len
    have hlw := ((Bat.right_iff _ _ _).1 hbat).len
    rw [List.length_map] at hlw
    have hSi := Lib.hid (fun W fv (hW : Below w5.heap.size w5 W) (hf : VecIs W fv [⟨xr, xt⟩]) => logs_since_ok (hL.below (bch hbw5 hW)) (Logs.one (hl5.below hW)) (i := 0) (by simp) p0 rfl m0 rfl ok0 hf (by simp) hr1 hc1 _ _ rfl rfl)
    have hAc := fun W vf vh vw (hW : Below w5.heap.size w5 W) (hf : VecIs W vf [⟨xr, xt⟩]) (hh : VecIs W vh (Lg.sentHave m0 [⟨xr, xt⟩])) (hw : WrsIs W vw (Lg.sent m0 [⟨xr, xt⟩])) => log_accept w3.heap.size p ⟨9, [], []⟩ (.slice none 0 0) (.slice none 0 0) vf vh vw [⟨xr, xt⟩] (Lg.sentHave m0 [⟨xr, xt⟩]) (Lg.sent m0 [⟨xr, xt⟩]) W (hL.below (bch hbw5 hW)) (hp5.below hW) (Logged.ok_new 9 (by omega) (by omega)) List.Pairwise.nil hf hh hw (by simp) (Nat.le_trans hlen (by omega)) (Nat.le_trans hlw (by omega))
    unfold AcceptRet at hAc
    rw [hacc] at hAc
    replace hAc := Lib.hid hAc
    have hTl := Lib.hid (fun W (hW : Below w5.heap.size w5 W) => tell_errno 10 W (hL.below (bch hbw5 hW)))
    have hWr := Lib.hid (fun W (hW : Below w5.heap.size w5 W) => log_writes w3.heap.size p ⟨9, [], []⟩ _ _ W (hp5.below hW) (by simp))
    have hHv := Lib.hid (fun W (hW : Below w5.heap.size w5 W) => log_have w3.heap.size p ⟨9, [], []⟩ _ _ W (hp5.below hW) (by simp))
    replace hbw5 := Lib.hid hbw5
    generalize hls : (Lg.sent m0 [⟨xr, xt⟩]).length = lw at *
    generalize hlh : (Lg.sentHave m0 [⟨xr, xt⟩]).length = lh at *
    replace hls := Lib.hid hls
    replace hlh := Lib.hid hlh
    replace hV5 := Lib.hid hV5
    replace hF0 := Lib.hid hF0
    clear hcell hc hacc hbat hp5 hl5 hc1 hr1 hx hmem
    go_wp2_with fail
    refine (hPk.out _).mono ?_
    rintro _ _ ⟨rfl, rfl⟩
    clear hPk
    go_wp2_with fail
    have hb56 : Below w5.heap.size w5 (w5.alloc (Obj.cells #[.int .i64 xr, .int .i64 xt] 45)) := by exact blw
    have hV6 := ListIs.of_alloc (f := entCells) w5 45 [(⟨xr, xt⟩ : Vec.Entry)] #[.int .i64 xr, .int .i64 xt] rfl entCells_len (by simp [maxLen]) 1 rfl
    generalize w5.alloc (Obj.cells #[.int .i64 xr, .int .i64 xt] 45) = w6 at *
    refine (hSi.out _ _ hb56 hV6).mono ?_
    rintro _ w7 ⟨⟨vf, vh, vw, rfl, hf, hh, hw⟩, hb7⟩
    have hVf : VecIs w7 vf _ := ListIs.of_owns hf
    have hVh : VecIs w7 vh _ := ListIs.of_owns hh
    have hVw : WrsIs w7 vw _ := ListIs.of_owns hw
    rw [hls.out] at hw
    rw [hlh.out] at hh
    obtain ⟨of, cf, rfl⟩ := owns_slice_ hf
    obtain ⟨oh, ch, rfl⟩ := owns_slice_ hh
    obtain ⟨ow, cw, rfl⟩ := owns_slice_ hw
    have hb57 := Lib.hid (bch hb56 hb7)
    clear hSi hf hh hw hb56 hb7 hV6
    go_wp2_with fail
    have hb78 : Below w7.heap.size w7 (w7.alloc (Obj.cells #[.slice of 1 cf, .slice oh lh ch, .slice ow lw cw] 25)) := by exact blw
    have hb58 := bch hb57.out hb78
    refine (hAc.out _ _ _ _ hb58 (hVf.below hb78) (hVh.below hb78) (WrsIs.below hVw hb78)).mono ?_
    rintro _ w9 ⟨⟨ve, rfl, hve⟩, hb9⟩
    have hve : ve = errV 10 := hve
    subst hve
    unfold errV
    have hb59 := Lib.hid (bch hb58 hb9)
    clear hAc hb58 hb78 hb9 hVf hVh hVw hb57
    go_wp2_with fail
    refine (hTl.out _ hb59.out).mono ?_
    rintro _ wa ⟨rfl, hba⟩
    have hb5a := Lib.hid (bch hb59.out hba)
    clear hTl hb59 hba
    go_wp2_with fail
    refine (hWr.out _ hb5a.out).mono ?_
    rintro _ wb ⟨⟨ub, rfl, hOb⟩, hbb⟩
    obtain ⟨o1, c1, rfl⟩ := owns_slice_ (n := 0) hOb
    have hb5b := Lib.hid (bch hb5a.out hbb)
    clear hWr hb5a hbb hOb
    go_wp2_with fail
    refine (hHv.out _ hb5b.out).mono ?_
    rintro _ wc ⟨⟨uc, rfl, hOc⟩, hbc⟩
    obtain ⟨o2, c2, rfl⟩ := owns_slice_ (n := 0) hOc
    have hb5c := Lib.hid (bch hb5b.out hbc)
    clear hHv hb5b hbc hOc
    go_wp2
    go_ret
    exact ⟨rfl, bch hbw5.out hb5c.out⟩
end Go.Proofs.YtdbpiabcpjgblaaGreatDoor
