/- The walk of the law LogMeets. -/
import Derived.Test.YtdbpiabcpjgblaaGreatDoorK46
import Derived.Test.YtdbpiabcpjgblaaGreatDoorK28
import Derived.Test.YtdbpiabcpjgblaaGreatDoorK26
namespace Go.Proofs.YtdbpiabcpjgblaaGreatDoor
open Go.RowKit
set_option linter.unusedVariables false
set_option linter.unusedSimpArgs false
theorem ptrs_at {l l' : List LgAt} (h : l'.map LgAt.p = l.map LgAt.p) {k : Nat} (hk : k < l.length) (hk' : k < l'.length) : l'[k].p = l[k].p := by
  have h1 : (l'.map LgAt.p)[k]? = (l.map LgAt.p)[k]? := by rw [h]
  rw [List.getElem?_map, List.getElem?_map, List.getElem?_eq_getElem hk, List.getElem?_eq_getElem hk'] at h1
  simpa using h1
set_option maxHeartbeats 8000000 in
set_option maxRecDepth 20000 in
theorem LogMeets_walk (a : Int) (v : Value) (l : List ActB) (pa pb : Int) (w : World) (w0 : (Lit.int .i64 a).wf = true) (hv : ListIs actCells 9 w v l) (q : ∀ x ∈ l, ActOk x) (z : l.length ≤ 140737488351232) (w2' : (Lit.int .i64 pa).wf = true) (w3' : (Lit.int .i64 pb).wf = true) (hL : Laid w) :
    Calls Tryz.prog 10 #[.int .i64 a, v, .int .i64 pa, .int .i64 pb] w fun e w' => e = .returned (.bool true) ∧ Below w.heap.size w w' := by
  have hLg := Lib.hid (keep_logged w hL)
  have hSm := Lib.hid (fun W (hW : Below w.heap.size w W) => keep_small v l W (hv.below (by omega) hW) z (fun x hx => ⟨(q x hx).2.2.1, (q x hx).2.2.2.1⟩))
  have hPk := Lib.hid (fun W => keep_pick a 5 5 W rfl (by omega) (by omega))
  obtain ⟨N, hN⟩ : ∃ N, N = 1 + pickN a 5 := ⟨_, rfl⟩
  have hplt := pickN_lt a 5 (by omega)
  have wN : IntKind.i64.wrap (1 + (pickN a 5 : Int)) = (N : Int) := by rw [IntWalk.i64_in _ (by omega)]; omega
  have hN1 : 1 ≤ N := by omega
  have hN5 : N ≤ 5 := by omega
  have hPa := Lib.hid (fun W (hW : Below w.heap.size w W) (hs : smallB l = true) => keep_party N v l W (hL.below hW) hN1 hN5 (hv.below (by omega) hW) (by unfold smallB at hs; simp only [Bool.and_eq_true, decide_eq_true_eq] at hs; exact hs.2))
  generalize pickN a 5 = pk at *
  obtain ⟨ov, cv, rfl, -, -⟩ := ListIs.at hv actCells_len
  have hl60 : smallB l = true → l.length ≤ 60 := fun hs => by unfold smallB at hs; simp only [Bool.and_eq_true, decide_eq_true_eq] at hs; exact hs.2
  clear hN hplt w0 hv q
  generalize smallB l = sm at *
  go_enter Tryz.func10, Tryz.ntmps10
  go_wp2_with fail
  refine hLg.out.mono ?_
  rintro _ w1 ⟨rfl, hb1⟩
  clear hLg
  go_wp2_with fail
  refine (hSm.out _ hb1).mono ?_
  rintro _ w2 ⟨rfl, hb2⟩
  have hbw2 := bch hb1 hb2
  clear hSm hb1 hb2
  cases sm with
  | false =>
    go_wp2
    go_ret
    exact ⟨rfl, by exact blw⟩
  | true =>
  have hPa1 := Lib.hid (hPa.out w2 hbw2 rfl)
  replace hl60 := hl60 rfl
  clear hPa
  go_wp2_with fail
  refine (hPk.out _).mono ?_
  rintro _ _ ⟨rfl, rfl⟩
  clear hPk
  go_wp2_with fail
  refine hPa1.out.mono ?_
  rintro _ w3 ⟨⟨u, rfl, ls, G, hV, hln, hPt, hGl⟩, hb23⟩
  have hbase := hbw2.size
  have hbw3 := hbw2.trans (hb23.mono hbase)
  have hG : G.length ≤ 60 := by omega
  obtain ⟨B, hB⟩ : ∃ B, B = w2.heap.size := ⟨_, rfl⟩
  have hB3 : B ≤ w3.heap.size := hB ▸ hb23.size
  rw [← hB] at hV hbase
  obtain ⟨ou, cu, rfl⟩ := owns_slice_ hV.at_
  obtain ⟨g, rfl, -⟩ := owns_pos hV.at_ (by omega)
  rw [hln] at hV ⊢
  clear hPa1 hb23 hbw2 hB hGl
  have hO := hV.at_
  rw [hln] at hO
  have hpk1 := Lib.hid (fun W => keep_pick pa N N W rfl (by omega) (by omega))
  have hpk2 := Lib.hid (fun W => keep_pick pb N N W rfl (by omega) (by omega))
  have hi := pickN_lt pa N (by omega)
  have hj := pickN_lt pb N (by omega)
  generalize pickN pa N = i at *
  generalize pickN pb N = j at *
  have e1 : w3.cell? ⟨g, i, none⟩ = some (.pointer (some ⟨(ls[i]'(by omega)).p, 0, none⟩)) := by
    rw [hO.cellAt i (by omega), List.getElem?_map, List.getElem?_eq_getElem (by omega)]; rfl
  have e2 : w3.cell? ⟨g, j, none⟩ = some (.pointer (some ⟨(ls[j]'(by omega)).p, 0, none⟩)) := by
    rw [hO.cellAt j (by omega), List.getElem?_map, List.getElem?_eq_getElem (by omega)]; rfl
  have hgg := (hO.lt g rfl).2
  have hin : (i : Int) < (N : Int) := by omega
  have hjn : (j : Int) < (N : Int) := by omega
  replace hV := Lib.hid hV
  replace hbw3 := Lib.hid hbw3
  clear hO
  go_wp2_with fail
  go_quiet (first | (go_at_call 27; with_reducible exact quiet_same (hpk1.out _)) | (go_at_call 27; with_reducible exact quiet_same (hpk2.out _)))
  have hb34 : Below w3.heap.size w3 (w3.drewN nq) := bdn (Below.refl _ _) nq
  generalize w3.drewN nq = w4 at *
  have hV4 := hV.out.logs.below hb34
  have hbw4 := bch hbw3.out hb34
  have hB4 := Nat.le_trans hB3 hb34.size
  have hil : i < ls.length := by omega
  have hjl : j < ls.length := by omega
  clear hb34 hbw3 hV e1 e2 hgg hin hjn hpk1 hpk2
  have hM1 := Lib.hid (keep_meet (hL.below hbw4) hV4 hPt hG (by omega) hil hjl ls[i].p ls[j].p rfl rfl)
  replace hbw4 := Lib.hid hbw4
  replace hV4 := Lib.hid hV4
  go_wp2_with fail
  refine hM1.out.mono ?_
  rintro _ w5 ⟨rfl, l1, M1, hl1, hx1⟩
  have hbw5 := hbw4.out.trans ((M1.below hV4.out hB4).mono hbase)
  have hB5 : B ≤ w5.heap.size := Nat.le_trans hB4 M1.only.size
  have p1 := ptrs_at M1.ptrs hil (by omega)
  have p2 := ptrs_at M1.ptrs hjl (by omega)
  have hM2 := Lib.hid (keep_meet (hL.below hbw5) M1.logs M1.party hG (by omega) (i := j) (j := i) (by omega) (by omega) ls[j].p ls[i].p p2 p1)
  replace hbw5 := Lib.hid hbw5
  replace M1 := Lib.hid M1
  clear hM1 hV4 hbw4
  go_wp2_with fail
  refine hM2.out.mono ?_
  rintro _ w6 ⟨rfl, l2, M2, hl2, hx2⟩
  have hbw6 := hbw5.out.trans ((M2.below M1.out.logs hB5).mono hbase)
  have q1 := ptrs_at M2.ptrs (k := i) (by omega) (by omega)
  have q2 := ptrs_at M2.ptrs (k := j) (by omega) (by omega)
  rw [p1] at q1
  rw [p2] at q2
  have hsame := Lg.Party.same M2.party (i := i) (j := j) (by simp; omega) (by simp; omega) (fun r => by
    rw [List.getElem_map, List.getElem_map]
    have a1 := hx2 (by omega) i (by omega) r
    have a2 := hx2 (by omega) j (by omega) r
    have a3 := hx1 hil i hil r
    have a4 := hx1 hil j hjl r
    by_cases hij : i = j
    · subst hij; rfl
    · rw [if_pos rfl] at a1
      rw [if_neg hij] at a2
      rw [if_neg (fun e => hij e.symm)] at a3
      rw [if_pos rfl] at a4
      omega)
  rw [List.getElem_map, List.getElem_map] at hsame
  obtain ⟨oki, ai, -⟩ := M2.party.ok i (by simp; omega)
  obtain ⟨okj, aj, -⟩ := M2.party.ok j (by simp; omega)
  rw [List.getElem_map] at oki okj
  have lgi := M2.logs.each i (by omega)
  have lgj := M2.logs.each j (by omega)
  rw [q1] at lgi
  rw [q2] at lgj
  have hHi := ((Vec.right_iff _).1 oki.have_).len
  have hHj := ((Vec.right_iff _).1 okj.have_).len
  have hWi := oki.len
  have hWj := okj.len
  have hRi := oki.right_
  have hRj := okj.right_
  clear hM2 M2 q1 q2 p1 p2 hx1 hx2 M1 hbw5 ai aj oki okj
  generalize (l2[i]'(by omega)) = X at *
  generalize (l2[j]'(by omega)) = Y at *
  obtain ⟨px, mx, hvx, wvx⟩ := X
  obtain ⟨py, my, hvy, wvy⟩ := Y
  (try simp only at hsame lgi lgj hHi hHj hWi hWj hRi hRj)
  obtain ⟨hs1, hs2⟩ := hsame
  have hA1 := Lib.hid (fun W (hW : Below w6.heap.size w6 W) => log_have B ls[i].p mx hvx wvx W (lgi.below hW) (by omega))
  have hA2 := Lib.hid (fun W (hW : Below w6.heap.size w6 W) => log_have B ls[j].p my hvy wvy W (lgj.below hW) (by omega))
  have hB1 := Lib.hid (fun W (hW : Below w6.heap.size w6 W) => log_writes B ls[i].p mx hvx wvx W (lgi.below hW) (by omega))
  have hB2 := Lib.hid (fun W (hW : Below w6.heap.size w6 W) => log_writes B ls[j].p my hvy wvy W (lgj.below hW) (by omega))
  have hC1 := Lib.hid (fun W (hW : Below w6.heap.size w6 W) => log_cells B ls[i].p mx hvx wvx W (lgi.below hW) hRi (by omega))
  have hC2 := Lib.hid (fun W (hW : Below w6.heap.size w6 W) => log_cells B ls[j].p my hvy wvy W (lgj.below hW) hRj (by omega))
  replace hbw6 := Lib.hid hbw6
  clear lgi lgj
  go_wp2_with fail
  refine (hA1.out _ (Below.refl _ _)).mono ?_
  rintro _ w7 ⟨⟨u7, rfl, hO7⟩, hb7⟩
  have hV7 : VecIs w7 u7 _ := ListIs.of_owns hO7
  clear hA1 hO7
  go_wp2_with fail
  refine (hA2.out _ hb7).mono ?_
  rintro _ w8 ⟨⟨u8, rfl, hO8⟩, hb8⟩
  have hV8 : VecIs w8 u8 _ := ListIs.of_owns hO8
  have hEq := eq_ent u7 u8 mx.H my.H w8 (hV7.below hb8) hV8 (by omega) (by omega)
  rw [decide_eq_true hs1] at hEq
  have hb68 := Lib.hid (bch hb7 hb8)
  replace hEq := Lib.hid hEq
  clear hA2 hO8 hV7 hV8 hb7 hb8
  go_wp2_with fail
  refine hEq.out.mono ?_
  rintro _ w9 ⟨rfl, hb9⟩
  have hb69 := Lib.hid (bch hb68.out hb9)
  clear hEq hb68 hb9
  go_wp2_with fail
  refine (hB1.out _ hb69.out).mono ?_
  rintro _ wa ⟨⟨ua, rfl, hOa⟩, hba⟩
  have hVa : WrsIs wa ua _ := ListIs.of_owns hOa
  have hb6a := Lib.hid (bch hb69.out hba)
  clear hB1 hOa hba hb69
  go_wp2_with fail
  refine (hB2.out _ hb6a.out).mono ?_
  rintro _ wb ⟨⟨ub, rfl, hOb⟩, hbb⟩
  have hVb : WrsIs wb ub _ := ListIs.of_owns hOb
  have hEq := eq_wrs ua ub mx.W my.W wb (WrsIs.below hVa hbb) hVb (by omega) (by omega)
  rw [decide_eq_true hs2] at hEq
  have hb6b := Lib.hid (bch hb6a.out hbb)
  replace hEq := Lib.hid hEq
  clear hB2 hOb hVa hVb hbb hb6a
  go_wp2_with fail
  refine hEq.out.mono ?_
  rintro _ wc ⟨rfl, hbc⟩
  have hb6c := Lib.hid (bch hb6b.out hbc)
  clear hEq hb6b hbc
  go_wp2_with fail
  refine (hC1.out _ hb6c.out).mono ?_
  rintro _ wd ⟨vd, Ld, rfl, hOd, hSd, hId, hbd⟩
  have hCd := celL_of hOd hSd
  have hb6d := Lib.hid (bch hb6c.out hbd)
  clear hC1 hOd hSd hbd hb6c
  go_wp2_with fail
  refine (hC2.out _ hb6d.out).mono ?_
  rintro _ we ⟨ve, Le, rfl, hOe, hSe, hIe, hbe⟩
  have hCe := celL_of hOe hSe
  rw [← hs2] at hIe
  obtain ⟨hn1, hn2⟩ := celB_le hRi (by omega) hId
  have hsc := Lib.hid (same_cells vd ve Ld Le we (hCd.below hbe) hCe (hId.unique hIe) hn1 hn2)
  have hb6e := Lib.hid (bch hb6d.out hbe)
  clear hC2 hOe hSe hIe hId hn1 hn2 hCd hCe hbe hb6d
  go_wp2_with fail
  refine hsc.out.mono ?_
  rintro _ wf ⟨rfl, hbf⟩
  go_wp2
  go_ret
  exact ⟨rfl, bch hbw6.out (bch hb6e.out hbf)⟩
end Go.Proofs.YtdbpiabcpjgblaaGreatDoor
