/- The walk of the law LogLocal. -/
import Derived.Test.YtognjohloobliaaGreatDoorK45
import Derived.Test.YtognjohloobliaaGreatDoorK28
import Derived.Test.YtognjohloobliaaGreatDoorK20
import Derived.Test.YtognjohloobliaaGreatDoorK34
namespace Go.Proofs.YtognjohloobliaaGreatDoor
open Go.RowKit
set_option linter.unusedVariables false
set_option linter.unusedSimpArgs false
set_option maxHeartbeats 8000000 in
set_option maxRecDepth 20000 in
theorem LogLocal_walk (a : Int) (v : Value) (l : List ActB) (t r kd : Int) (key val : ByteArray) (nn : Int) (w : World) (w0 : (Lit.int .i64 a).wf = true) (hv : ListIs actCells 9 w v l) (q : ∀ x ∈ l, ActOk x) (z : l.length ≤ 140737488351232) (qx : WrBOk ⟨t, r, kd, key, val, nn⟩) (hL : Laid w) :
  Calls Tryz.prog 6 #[.int .i64 a, v, .agg #[.int .i64 t, .int .i64 r, .int .i64 kd, .string key, .string val, .int .i64 nn]] w fun e w' => e = .returned (.bool true) ∧ Below w.heap.size w w' := by
 have hLg := Lib.hid (fun W (hW : Below w.heap.size w W) => keep_logged W (hL.below hW))
 have hOr := Lib.hid (fun W => ordered W)
 have hSm := Lib.hid (fun W (hW : Below w.heap.size w W) => keep_small v l W (hv.below (by omega) hW) z (fun x hx => ⟨(q x hx).2.2.1, (q x hx).2.2.2.1⟩))
 have hPk := Lib.hid (fun W => keep_pick a 5 5 W rfl (by omega) (by omega))
 have hks := qx.2.2.1
 have hvs := qx.2.2.2.1
 (try simp only at hks hvs)
 obtain ⟨N, hN⟩ : ∃ N, N = 1 + pickN a 5 := ⟨_, rfl⟩
 have hplt := pickN_lt a 5 (by omega)
 have wN : IntKind.i64.wrap (1 + (pickN a 5 : Int)) = (N : Int) := by rw [IntWalk.i64_in _ (by omega)]; omega
 have hN1 : 1 ≤ N := by omega
 have hN5 : N ≤ 5 := by omega
 have hPa := Lib.hid (fun W (hW : Below w.heap.size w W) (hs : smallB l = true) => keep_party N v l W (hL.below hW) hN1 hN5 (hv.below (by omega) hW) (by unfold smallB at hs; simp only [Bool.and_eq_true, decide_eq_true_eq] at hs; exact hs.2))
 generalize pickN a 5 = pk at *
 obtain ⟨ov, cv, rfl, -, -⟩ := ListIs.at hv actCells_len
 have hl60 : smallB l = true → l.length ≤ 60 := fun hs => by unfold smallB at hs; simp only [Bool.and_eq_true, decide_eq_true_eq] at hs; exact hs.2
 clear hN hplt w0 hv q qx
 generalize smallB l = sm at *
 go_enter Tryz.func6, Tryz.ntmps6
 go_wp2_with fail
 have qb := row_at (w := w) (g := w.heap.size) #[.int .i64 t, .int .i64 r, .int .i64 kd, .string key, .string val, .int .i64 nn] 33 rfl
 have hb1 := bal (Below.refl w.heap.size w) (Obj.cells #[.int .i64 t, .int .i64 r, .int .i64 kd, .string key, .string val, .int .i64 nn] 33)
 generalize w.alloc (Obj.cells #[.int .i64 t, .int .i64 r, .int .i64 kd, .string key, .string val, .int .i64 nn] 33) = w1 at *
 refine (hLg.out _ hb1).mono ?_
 rintro _ w2 ⟨rfl, hb2⟩
 replace qb := qb.below hb2
 replace hb1 := bch hb1 hb2
 clear hLg hb2
 go_wp2_with fail
 refine (hOr.out _).mono ?_
 rintro _ w2a ⟨rfl, hb2⟩
 replace qb := qb.below hb2
 replace hb1 := bch hb1 hb2
 clear hOr hb2
 go_wp2_with fail
 refine (hSm.out _ hb1).mono ?_
 rintro _ w2b ⟨rfl, hb2⟩
 replace qb := qb.below hb2
 replace hb1 := bch hb1 hb2
 clear hSm hb2
 cases sm with
 | false =>
  go_wp2
  go_ret
  exact ⟨rfl, by exact blw⟩
 | true =>
 obtain ⟨c0, c1, c2, c3, c4, c5⟩ := qb.c6
 have hgw : w.heap.size < w2b.heap.size := qb.lt
 have hwr : IntKind.i64.wrap ((key.size : Int) + (val.size : Int)) = (key.size : Int) + (val.size : Int) := by rw [IntWalk.i64_in _ (by omega)]
 by_cases h400 : 400 < key.size + val.size
 ·have dd : decide ((400 : Int) < (key.size : Int) + (val.size : Int)) = true := by simp; omega
  go_wp2
  go_ret
  exact ⟨rfl, by exact blw⟩
 have dd : decide ((400 : Int) < (key.size : Int) + (val.size : Int)) = false := by simp; omega
 have hPa1 := Lib.hid (hPa.out w2b hb1 rfl)
 replace hl60 := hl60 rfl
 replace qb := Lib.hid qb
 clear hPa
 go_wp2_with fail
 refine (hPk.out _).mono ?_
 rintro _ _ ⟨rfl, rfl⟩
 clear hPk
 go_wp2_with fail
 refine hPa1.out.mono ?_
 rintro _ w3 ⟨⟨u, rfl, ls, G, hV, hln, hPt, hGl⟩, hb23⟩
 clear c0 c1 c2 c3 c4 c5 hwr dd
 have hbase := hb1.size
 have hbw3 := bch hb1 hb23
 have qb3 := Lib.hid (qb.out.below hb23)
 have hG : G.length ≤ 60 := by omega
 obtain ⟨B, hB⟩ : ∃ B, B = w2b.heap.size := ⟨_, rfl⟩
 have hB3 : B ≤ w3.heap.size := hB ▸ hb23.size
 rw [← hB] at hV hbase hgw
 obtain ⟨ou, cu, rfl⟩ := owns_slice_ hV.at_
 obtain ⟨g, rfl, -⟩ := owns_pos hV.at_ (by omega)
 rw [hln] at hV ⊢
 clear hPa1 hb23 hb1 hB hGl qb
 have h0 : 0 < ls.length := by omega
 obtain ⟨ok0, a0, r0⟩ := hPt.ok 0 (by simpa using h0)
 have hlen0 : ls[0].m.W.length ≤ 60 := Nat.le_trans (Lg.len_le (b := G) (by rwa [List.getElem_map] at a0) fun x hx => ((hPt.has 0 (by simpa using h0) x).1 (by rw [List.getElem_map]; exact hx)).1) hG
 rw [List.getElem_map] at ok0 a0 r0
 have hlg0 := hV.logs.each 0 h0
 have e0 : w3.cell? ⟨g, 0, none⟩ = some (.pointer (some ⟨ls[0].p, 0, none⟩)) := by
  have hO := hV.at_
  rw [hln] at hO
  rw [hO.cellAt 0 (by omega), List.getElem?_map, List.getElem?_eq_getElem h0]; rfl
 have hgl := (hV.at_.lt g rfl).2
 clear hV hPt
 generalize ls[0] = A at *
 obtain ⟨p0, m0, hv0, wv0⟩ := A
 (try simp only at ok0 a0 r0 hlg0 e0 hlen0)
 have hNp : 0 < N := by omega
 have hF0 := (Vec.right_iff _).1 ok0.have_
 have hH16 := hF0.len
 have hWr := Lib.hid (log_writes B p0 m0 hv0 wv0 w3 hlg0 (by omega))
 go_wp2_with fail
 refine hWr.out.mono ?_
 rintro _ w4 ⟨⟨u4, rfl, hO4⟩, hb4⟩
 have hHv := Lib.hid (log_have B p0 m0 hv0 wv0 w4 (hlg0.below hb4) (by omega))
 clear hWr e0 hgl
 go_wp2_with fail
 refine hHv.out.mono ?_
 rintro _ w5 ⟨⟨u5, rfl, hO5⟩, hb5⟩
 have hO4' := owns_below hO4 hb5
 have hb35 := bch hb4 hb5
 have hlg5 := hlg0.below hb35
 have qb5 := qb3.out.below hb35
 have hbw5 := bch hbw3 hb35
 obtain ⟨o4, k4, rfl⟩ := owns_slice_ hO4'
 obtain ⟨o5, k5, rfl⟩ := owns_slice_ hO5
 have hb44 := Lib.hid (fun j (hj : (Value.slice o4 m0.W.length k4).ownBlock = some j) => (hO4.lt j hj).2)
 have hs45 : w4.heap.size ≤ w5.heap.size := hb5.size
 have hs34 : w3.heap.size ≤ w4.heap.size := hb4.size
 have hlt3 := Lib.hid (fun j (hj : LMine p0 hv0 wv0 j) => hlg0.mine_lt hj)
 clear hHv hO4 hb5 hb4 hb35 hbw3 hlg0 qb3
 have hLc := Lib.hid (log_local B p0 m0 hv0 wv0 ⟨t, r, kd, key, val, nn⟩ w5 (hL.below hbw5) hlg5 ok0.have_ ok0.len ok0.rep0 ok0.rep1)
 (try unfold wrBCells at hLc)
 obtain ⟨c0, c1, c2, c3, c4, c5⟩ := qb5.c6
 have hgw5 := qb5.lt
 replace hlg5 := Lib.hid hlg5
 replace qb5 := Lib.hid qb5
 replace hO4' := Lib.hid hO4'
 replace hO5 := Lib.hid hO5
 replace hbw5 := Lib.hid hbw5
 replace ok0 := Lib.hid ok0
 replace a0 := Lib.hid a0
 replace hF0 := Lib.hid hF0
 go_wp2_with fail
 refine hLc.out.mono ?_
 intro e w6 hr
 unfold LocalRet at hr
 clear hLc c0 c1 c2 c3 c4 c5
 cases hlo : Lg.local_ m0 ⟨t, r, kd, key, val, nn⟩ with
 | inl cc =>
  rw [hlo] at hr
  obtain ⟨rfl, hb6⟩ := hr
  replace hlo := Lib.hid hlo
  have hb6' := Lib.hid hb6
  have hlg6 := Lib.hid (hlg5.out.below hb6)
  have hb56 := bch hbw5.out hb6
  have hW4 : WrsIs w6 _ m0.W := ListIs.of_owns (owns_below hO4'.out hb6)
  have hV5 : VecIs w6 _ m0.H := ListIs.of_owns (owns_below hO5.out hb6)
  replace hW4 := Lib.hid hW4
  replace hV5 := Lib.hid hV5
  replace hb56 := Lib.hid hb56
  clear hb6 hlg5 hO4' hO5 qb5 hbw5
  unfold errV
  have hWr6 := Lib.hid (fun W (hW : Below w6.heap.size w6 W) => log_writes B p0 m0 hv0 wv0 W (hlg6.out.below hW) (by omega))
  have hHv6 := Lib.hid (fun W (hW : Below w6.heap.size w6 W) => log_have B p0 m0 hv0 wv0 W (hlg6.out.below hW) (by omega))
  go_wp2_with fail
  have hb67 : Below w6.heap.size w6 (w6.alloc (Obj.cells #[.int .i64 0, .int .i64 0] 31)) := bal (Below.refl _ _) _
  generalize w6.alloc (Obj.cells #[.int .i64 0, .int .i64 0] 31) = w7 at *
  refine (hWr6.out _ hb67).mono ?_
  rintro _ w8 ⟨⟨u8, rfl, hO8⟩, hb8⟩
  have hb68 := bch hb67 hb8
  have hE := Lib.hid (eq_wrs_same _ u8 m0.W w8 (WrsIs.below hW4.out hb68) (ListIs.of_owns hO8) (by omega))
  replace hb68 := Lib.hid hb68
  clear hb67 hb8 hO8 hWr6
  go_wp2_with fail
  refine hE.out.mono ?_
  rintro _ w9 ⟨rfl, hb9⟩
  have hb69 := Lib.hid (bch hb68.out hb9)
  clear hE hb9 hb68
  go_wp2_with fail
  refine (hHv6.out _ hb69.out).mono ?_
  rintro _ wa ⟨⟨ua, rfl, hOa⟩, hba⟩
  have hb6a := bch hb69.out hba
  have hE := Lib.hid (eq_ent_same _ ua m0.H wa (hV5.out.below hb6a) (ListIs.of_owns hOa) (by omega))
  replace hb6a := Lib.hid hb6a
  clear hba hOa hHv6 hb69
  go_wp2_with fail
  refine hE.out.mono ?_
  rintro _ wb ⟨rfl, hbb⟩
  have hfin := Lib.hid (bch hb56.out (bch hb6a.out hbb))
  clear hE hbb
  go_wp2
  go_ret
  exact ⟨rfl, hfin.out⟩
 | inr m' =>
  rw [hlo] at hr
  obtain ⟨hm', ok', asc', hof', -⟩ := Lg.local_inr ok0.out a0.out hlo
  obtain ⟨rfl, hv', wv', hlg6, ho6, hmine⟩ := hr
  have hB5 : ∀ j, (j = p0 ∨ wv0.ownBlock = some j) → B ≤ j := fun j hj => by
   rcases hj with hj | hj
   ·exact hlg5.out.mine_lo (.inl hj)
   ·exact hlg5.out.mine_lo (.inr (.inr hj))
  have hs6 := ho6.size
  have hgw6 : w.heap.size < w6.heap.size := by omega
  have qb6 := qb5.out.only ho6 (fun e => by have := hB5 _ e; omega)
  obtain ⟨c0, c1, c2, c3, c4, c5⟩ := qb6.c6
  (have f0 := qb6.frozen 0 (by simp); have f1 := qb6.frozen 1 (by simp))
  replace qb6 := Lib.hid qb6
  replace hB5 := Lib.hid hB5
  replace hlo := Lib.hid hlo
  replace hm' := Lib.hid hm'
  replace ok' := Lib.hid ok'
  replace asc' := Lib.hid asc'
  replace hof' := Lib.hid hof'
  replace hlg6 := Lib.hid hlg6
  replace ho6 := Lib.hid ho6
  replace hmine := Lib.hid hmine
  generalize hT1 : Lg.top m0.H + 1 = T1 at *
  have hW' : m'.W = m0.W ++ [⟨T1, 0, kd, key, val, nn⟩] := by
   rw [hm'.out]
   show m0.W ++ [Lg.mine_ m0 _] = _
   unfold Lg.mine_
   rw [hT1, r0]; rfl
  have hof0 : Vec.of m'.H 0 = T1 := by
   have h1 := hof'.out 0
   have h2 := Lg.of_top hF0.out.sorted 0
   rw [if_pos (show m0.rep = 0 by simpa using r0)] at h1
   omega
  have hcv : coversB m'.H m0.H = true := (Lg.covB ok'.out.have_ ok0.out.have_).2 (fun r => by have := hof'.out r; omega)
  have hH16' := ((Vec.right_iff _).1 ok'.out.have_).len
  have hlW' := ok'.out.len
  have hwl : ∀ j, (Value.slice o4 m0.W.length k4).ownBlock = some j → w3.heap.size ≤ j ∧ j < w5.heap.size := fun j hj => hO4'.out.lt j hj
  have hhl : ∀ j, (Value.slice o5 m0.H.length k5).ownBlock = some j → w4.heap.size ≤ j ∧ j < w5.heap.size := fun j hj => hO5.out.lt j hj
  have hn6 : ∀ j, w3.heap.size ≤ j → ¬ (j = p0 ∨ wv0.ownBlock = some j) := fun j hj e => by
   rcases e with e | e
   ·have := hlt3.out j (.inl e); omega
   ·have := hlt3.out j (.inr (.inr e)); omega
  have hO46 := owns_only hO4'.out ho6.out (fun j hj => hn6 j (hwl j hj).1)
  have hO56 := owns_only hO5.out ho6.out (fun j hj => hn6 j (by have := (hhl j hj).1; omega))
  have hd3 : ∀ j, LMine p0 hv' wv' j → ¬ (Value.slice o4 m0.W.length k4).ownBlock = some j := fun j hj e => by
   have h1 := hwl j e
   rcases hmine.out j hj with h2 | h2
   ·have := hlt3.out j h2; omega
   ·omega
  have hB6 : ∀ j, LMine p0 hv' wv' j → B ≤ j := fun j hj => hlg6.out.mine_lo hj
  replace hO46 := Lib.hid hO46
  replace hO56 := Lib.hid hO56
  replace hd3 := Lib.hid hd3
  replace hB6 := Lib.hid hB6
  replace hn6 := Lib.hid hn6
  replace hW' := Lib.hid hW'
  clear hm' hlo hof' hlt3 hO4' hO5 hmine
  go_wp2_with fail
  obtain ⟨gi, hgi⟩ : ∃ g, g = w6.heap.size := ⟨_, rfl⟩
  have hoS : Only (fun j => j = w.heap.size) w6 (((w6.setCell ⟨w.heap.size, 0, none⟩ (.int .i64 T1)).setCell ⟨w.heap.size, 1, none⟩ (.int .i64 0)).alloc (Obj.cells #[.int .i64 T1, .int .i64 0] 31)) := (((Only.refl (fun j => j = w.heap.size) w6).set (p := ⟨w.heap.size, 0, none⟩) (.inl rfl) _).set (p := ⟨w.heap.size, 1, none⟩) (.inl rfl) _).alloc _
  have qiS : Row (((w6.setCell ⟨w.heap.size, 0, none⟩ (.int .i64 T1)).setCell ⟨w.heap.size, 1, none⟩ (.int .i64 0)).alloc (Obj.cells #[.int .i64 T1, .int .i64 0] 31)) gi 31 [.int .i64 T1, .int .i64 0] := row_at (g := gi) #[.int .i64 T1, .int .i64 0] 31 (by simp [World.setCell, hgi])
  have qbS : Row (((w6.setCell ⟨w.heap.size, 0, none⟩ (.int .i64 T1)).setCell ⟨w.heap.size, 1, none⟩ (.int .i64 0)).alloc (Obj.cells #[.int .i64 T1, .int .i64 0] 31)) w.heap.size 33 [.int .i64 T1, .int .i64 0, .int .i64 kd, .string key, .string val, .int .i64 nn] := ((qb6.out.set 0 _).set 1 _).alloc _
  generalize ((w6.setCell ⟨w.heap.size, 0, none⟩ (.int .i64 T1)).setCell ⟨w.heap.size, 1, none⟩ (.int .i64 0)).alloc (Obj.cells #[.int .i64 T1, .int .i64 0] 31) = wS at *
  subst hgi
  have hlgS := hlg6.out.only hoS (fun j hj e => by have := hB6.out j hj; have e : j = w.heap.size := e; omega)
  have hO4S := owns_only hO46.out hoS (fun j hj e => by have := (hwl j hj).1; have e : j = w.heap.size := e; omega)
  have hO5S := owns_only hO56.out hoS (fun j hj e => by have := (hhl j hj).1; have e : j = w.heap.size := e; omega)
  have hbwS : Below w.heap.size w wS := hbw5.out.trans ((ho6.out.below (B := w.heap.size) (fun j hj => by have := hB5.out j hj; omega) (by omega)).trans (hoS.below (B := w.heap.size) (fun j hj => by have hj : j = w.heap.size := hj; omega) (by omega)))
  have hsS := hoS.size
  have hgiU : ¬ (Value.slice o4 m0.W.length k4).ownBlock = some w6.heap.size := fun e => by have := (hwl _ e).2; omega
  have hgwU : ¬ (Value.slice o4 m0.W.length k4).ownBlock = some w.heap.size := fun e => by have := (hwl _ e).1; omega
  have hWrS := Lib.hid (fun W (hW : Only (fun j => (Value.slice o4 m0.W.length k4).ownBlock = some j) wS W) => log_writes B p0 m' hv' wv' W (hlgS.only hW hd3.out) (by omega))
  have hHvS := Lib.hid (fun W (hW : Only (fun j => (Value.slice o4 m0.W.length k4).ownBlock = some j) wS W) => log_have B p0 m' hv' wv' W (hlgS.only hW hd3.out) (by omega))
  have hV5S := Lib.hid (fun W (hW : Only (fun j => (Value.slice o4 m0.W.length k4).ownBlock = some j) wS W) => show VecIs W (.slice o5 m0.H.length k5) m0.H from ListIs.of_owns (owns_only hO5S hW (fun j hj e => by
   have h1 := hb44.out j e
   have h2 := (hhl j hj).1
   omega)))
  obtain ⟨x0, x1⟩ := qiS.c2
  obtain ⟨y0, y1, y2, y3, y4, y5⟩ := qbS.c6
  have hgiS := qiS.lt
  have hgwS := qbS.lt
  have hOd := Lib.hid (show wS.drew.ownsRow w3.heap.size 33 6 (.slice o4 m0.W.length k4) m0.W.length (m0.W.flatMap wrBCells) from hO4S)
  have hbase : w3.heap.size ≤ wS.drew.heap.size := by show w3.heap.size ≤ wS.heap.size; omega
  replace hbwS := Lib.hid hbwS
  clear hO4S hO5S hlgS hoS qiS qbS c0 c1 c2 c3 c4 c5 f0 f1 qb6
  go_wp2_with fail
  have hS0 : Only (fun j => (Value.slice o4 m0.W.length k4).ownBlock = some j) wS wS.drew ∧ wS.drew.cell? ⟨w6.heap.size, 0, none⟩ = some (.int .i64 T1) ∧ wS.drew.cell? ⟨w6.heap.size, 1, none⟩ = some (.int .i64 0) ∧ wS.drew.cell? ⟨w.heap.size, 0, none⟩ = some (.int .i64 T1) ∧ wS.drew.cell? ⟨w.heap.size, 1, none⟩ = some (.int .i64 0) ∧ wS.drew.cell? ⟨w.heap.size, 2, none⟩ = some (.int .i64 kd) ∧ wS.drew.cell? ⟨w.heap.size, 3, none⟩ = some (.string key) ∧ wS.drew.cell? ⟨w.heap.size, 4, none⟩ = some (.string val) ∧ wS.drew.cell? ⟨w.heap.size, 5, none⟩ = some (.int .i64 nn) := ⟨(Only.refl _ wS).drew, x0, x1, y0, y1, y2, y3, y4, y5⟩
  (refine wp_region_held_drew (S := (fun W => Only (fun j => (Value.slice o4 m0.W.length k4).ownBlock = some j) wS W ∧ W.cell? ⟨w6.heap.size, 0, none⟩ = some (.int .i64 T1) ∧ W.cell? ⟨w6.heap.size, 1, none⟩ = some (.int .i64 0) ∧ W.cell? ⟨w.heap.size, 0, none⟩ = some (.int .i64 T1) ∧ W.cell? ⟨w.heap.size, 1, none⟩ = some (.int .i64 0) ∧ W.cell? ⟨w.heap.size, 2, none⟩ = some (.int .i64 kd) ∧ W.cell? ⟨w.heap.size, 3, none⟩ = some (.string key) ∧ W.cell? ⟨w.heap.size, 4, none⟩ = some (.string val) ∧ W.cell? ⟨w.heap.size, 5, none⟩ = some (.int .i64 nn))) (by kernel_rfl) ?_ (fun hHeld => ?_); ((try dsimp only); exact hS0))
  clear hS0 x0 x1 y0 y1 y2 y3 y4 y5
  (refine tkO 0 ?_; refine tkO 1 ?_; refine tkO 4 ?_)
  (refine tdoO 2 (fun K hK => ?_); (go_simp; refine hK.out _ _ ?_ (fun hHeld => ?_); ((try dsimp only); exact ⟨hHeld.1.chain (bal (Below.refl _ _) _), cell_below (bal (Below.refl _ _) _) hHeld.2.1, cell_below (bal (Below.refl _ _) _) hHeld.2.2.1, cell_below (bal (Below.refl _ _) _) hHeld.2.2.2.1, cell_below (bal (Below.refl _ _) _) hHeld.2.2.2.2.1, cell_below (bal (Below.refl _ _) _) hHeld.2.2.2.2.2.1, cell_below (bal (Below.refl _ _) _) hHeld.2.2.2.2.2.2.1, cell_below (bal (Below.refl _ _) _) hHeld.2.2.2.2.2.2.2.1, cell_below (bal (Below.refl _ _) _) hHeld.2.2.2.2.2.2.2.2⟩); clear hK K; (try clear hHeld0); (try rename_i hHeld0)))
  (refine tdoO 3 (fun K hK => ?_); ((refine op_app_one (by rfl) _ _ 23 33 (by rfl) w3.heap.size (Value.agg #[.int .i64 0, .int .i64 0, .int .i64 0, .string ⟨#[]⟩, .string ⟨#[]⟩, .int .i64 0]) 6 64 Tryz.underlying23 (by kernel_rfl) rfl _ _ _ (by rfl) hOd.out _ _ rfl (by rfl) rfl ?_ (by omega) (by omega) hbase ?_; (focus (intro u hu; simp only [List.mem_cons, List.not_mem_nil, or_false] at hu; rcases hu with rfl | rfl | rfl | rfl | rfl | rfl <;> rfl)); intro v8 w8 hO8 hg8 hbk8 hne8 hb8; have o8 := (Only.refl (fun j => (Value.slice o4 m0.W.length k4).ownBlock = some j) wS.drew).grown hg8 (fun k hk => .inl hk)); refine hK.out _ _ ?_ (fun hHeld => ?_); ((try dsimp only); exact ⟨hHeld0.1.grown hg8 (fun k hk => .inl hk), o8.cell hHeld0.2.1 (hgiU), o8.cell hHeld0.2.2.1 (hgiU), o8.cell hHeld0.2.2.2.1 (hgwU), o8.cell hHeld0.2.2.2.2.1 (hgwU), o8.cell hHeld0.2.2.2.2.2.1 (hgwU), o8.cell hHeld0.2.2.2.2.2.2.1 (hgwU), o8.cell hHeld0.2.2.2.2.2.2.2.1 (hgwU), o8.cell hHeld0.2.2.2.2.2.2.2.2 (hgwU)⟩); clear hK K; (try clear hHeld0); (try rename_i hHeld0)))
  have hV8 : WrsIs w8 v8 m'.W := by
   rw [hW'.out]
   refine ListIs.of_owns (base := w3.heap.size) (e := 33) ?_
   rw [List.length_append, List.flatMap_append, List.flatMap_cons, List.flatMap_nil, List.append_nil]
   exact hO8
  clear hO8 hg8 hbk8 hne8 hb8 o8 hOd
  (refine tdoO 5 (fun K hK => ?_); ((go_simp; refine (hWrS.out _ hHeld.1).mono ?_; rintro _ w9 ⟨⟨u9, rfl, hO9⟩, hb9⟩); refine hK.out _ _ ?_ (fun hHeld => ?_); ((try dsimp only); exact ⟨hHeld.1.chain (hb9), cell_below (hb9) hHeld.2.1, cell_below (hb9) hHeld.2.2.1, cell_below (hb9) hHeld.2.2.2.1, cell_below (hb9) hHeld.2.2.2.2.1, cell_below (hb9) hHeld.2.2.2.2.2.1, cell_below (hb9) hHeld.2.2.2.2.2.2.1, cell_below (hb9) hHeld.2.2.2.2.2.2.2.1, cell_below (hb9) hHeld.2.2.2.2.2.2.2.2⟩); clear hK K; (try clear hHeld0); (try rename_i hHeld0)))
  have hE := Lib.hid (eq_wrs_same v8 u9 m'.W w9 (WrsIs.below hV8 hb9) (ListIs.of_owns hO9) (by omega))
  clear hV8 hO9 hb9 hWrS
  (refine tdoO 6 (fun K hK => ?_); ((go_simp; refine hE.out.mono ?_; rintro _ wa ⟨rfl, hba⟩); refine hK.out _ _ ?_ (fun hHeld => ?_); ((try dsimp only); exact ⟨hHeld.1.chain (hba), cell_below (hba) hHeld.2.1, cell_below (hba) hHeld.2.2.1, cell_below (hba) hHeld.2.2.2.1, cell_below (hba) hHeld.2.2.2.2.1, cell_below (hba) hHeld.2.2.2.2.2.1, cell_below (hba) hHeld.2.2.2.2.2.2.1, cell_below (hba) hHeld.2.2.2.2.2.2.2.1, cell_below (hba) hHeld.2.2.2.2.2.2.2.2⟩); clear hK K; (try clear hHeld0); (try rename_i hHeld0)))
  clear hE hba
  (refine tkO 7 ?_; refine tkO 8 ?_; refine tkO 11 ?_; refine tkO 12 ?_)
  (refine tdoO 9 (fun K hK => ?_); ((go_simp; refine (hHvS.out _ hHeld.1).mono ?_; rintro _ wb ⟨⟨ub, rfl, hOb⟩, hbb⟩); refine hK.out _ _ ?_ (fun hHeld => ?_); ((try dsimp only); exact ⟨hHeld.1.chain (hbb), cell_below (hbb) hHeld.2.1, cell_below (hbb) hHeld.2.2.1, cell_below (hbb) hHeld.2.2.2.1, cell_below (hbb) hHeld.2.2.2.2.1, cell_below (hbb) hHeld.2.2.2.2.2.1, cell_below (hbb) hHeld.2.2.2.2.2.2.1, cell_below (hbb) hHeld.2.2.2.2.2.2.2.1, cell_below (hbb) hHeld.2.2.2.2.2.2.2.2⟩); clear hK K; (try clear hHeld0); (try rename_i hHeld0)))
  have hE := vector_of ub m'.H 0 wb (ListIs.of_owns hOb)
  rw [hof0] at hE
  replace hE := Lib.hid hE
  clear hOb hbb
  (refine tdoO 10 (fun K hK => ?_); ((go_simp; refine hE.out.mono ?_; rintro _ wc ⟨rfl, hbc⟩); refine hK.out _ _ ?_ (fun hHeld => ?_); ((try dsimp only); exact ⟨hHeld.1.chain (hbc), cell_below (hbc) hHeld.2.1, cell_below (hbc) hHeld.2.2.1, cell_below (hbc) hHeld.2.2.2.1, cell_below (hbc) hHeld.2.2.2.2.1, cell_below (hbc) hHeld.2.2.2.2.2.1, cell_below (hbc) hHeld.2.2.2.2.2.2.1, cell_below (hbc) hHeld.2.2.2.2.2.2.2.1, cell_below (hbc) hHeld.2.2.2.2.2.2.2.2⟩); clear hK K; (try clear hHeld0); (try rename_i hHeld0)))
  clear hE hbc
  (refine tkO 13 ?_; refine tkO 14 ?_; refine tkO 15 ?_; refine tkO 16 ?_; refine tkO 17 ?_; refine tkO 18 ?_; refine tkO 19 ?_; refine tkO 20 ?_; refine tkO 21 ?_; refine tkO 23 ?_)
  (refine tdoO 22 (fun K hK => ?_); ((go_simp; refine (hHvS.out _ hHeld.1).mono ?_; rintro _ wd ⟨⟨ud, rfl, hOd⟩, hbd⟩); refine hK.out _ _ ?_ (fun hHeld => ?_); ((try dsimp only); exact ⟨hHeld.1.chain (hbd), cell_below (hbd) hHeld.2.1, cell_below (hbd) hHeld.2.2.1, cell_below (hbd) hHeld.2.2.2.1, cell_below (hbd) hHeld.2.2.2.2.1, cell_below (hbd) hHeld.2.2.2.2.2.1, cell_below (hbd) hHeld.2.2.2.2.2.2.1, cell_below (hbd) hHeld.2.2.2.2.2.2.2.1, cell_below (hbd) hHeld.2.2.2.2.2.2.2.2⟩); clear hK K; (try clear hHeld0); (try rename_i hHeld0)))
  have hE := vector_covers ud _ m'.H m0.H wd (ListIs.of_owns hOd) (hV5S.out wd hHeld.1) (by omega) (by omega)
  rw [hcv] at hE
  replace hE := Lib.hid hE
  clear hOd hbd
  (refine tdoO 24 (fun K hK => ?_); ((go_simp; refine hE.out.mono ?_; rintro _ we ⟨rfl, hbe⟩); refine hK.out _ _ ?_ (fun hHeld => ?_); ((try dsimp only); exact ⟨hHeld.1.chain (hbe), cell_below (hbe) hHeld.2.1, cell_below (hbe) hHeld.2.2.1, cell_below (hbe) hHeld.2.2.2.1, cell_below (hbe) hHeld.2.2.2.2.1, cell_below (hbe) hHeld.2.2.2.2.2.1, cell_below (hbe) hHeld.2.2.2.2.2.2.1, cell_below (hbe) hHeld.2.2.2.2.2.2.2.1, cell_below (hbe) hHeld.2.2.2.2.2.2.2.2⟩); clear hK K; (try clear hHeld0); (try rename_i hHeld0)))
  clear hE hbe
  (refine tkO 25 ?_; refine tkO 26 ?_)
  (refine wpAnyH_done (by kernel_rfl) ?_ _)
  have hfin := Lib.hid (hbwS.out.trans (hHeld.1.below (B := w.heap.size) (fun j hj => by have := (hwl j hj).1; omega) (by omega)))
  clear hHeld hHeld0
  go_wp2
  go_ret
  exact ⟨rfl, hfin.out⟩
end Go.Proofs.YtognjohloobliaaGreatDoor
