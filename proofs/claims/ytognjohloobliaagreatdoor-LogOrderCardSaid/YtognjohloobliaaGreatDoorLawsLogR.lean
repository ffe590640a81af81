/- The walk of the law LogOrder. -/
import Derived.Test.YtognjohloobliaaGreatDoorK45
import Derived.Test.YtognjohloobliaaGreatDoorK28
import Derived.Test.YtognjohloobliaaGreatDoorK20
namespace Go.Proofs.YtognjohloobliaaGreatDoor
open Go.RowKit
set_option linter.unusedVariables false
set_option linter.unusedSimpArgs false
set_option maxHeartbeats 8000000 in
set_option maxRecDepth 20000 in
theorem LogOrder_walk (a : Int) (v : Value) (l : List ActB) (w : World) (w0 : (Lit.int .i64 a).wf = true) (hv : ListIs actCells 9 w v l) (q : ∀ x ∈ l, ActOk x) (z : l.length ≤ 140737488351232) (hL : Laid w) :
  Calls Tryz.prog 4 #[.int .i64 a, v] w fun e w' => e = .returned (.bool true) ∧ Below w.heap.size w w' := by
 have hLg := Lib.hid (keep_logged w hL)
 have hX0 := Lib.hid (fun W (hW : Below w.heap.size w W) => ordered W)
 have hSm := Lib.hid (fun W (hW : Below w.heap.size w W) => keep_small v l W (hv.below (by omega) hW) z (fun x hx => ⟨(q x hx).2.2.1, (q x hx).2.2.2.1⟩))
 have hPk := Lib.hid (fun W => keep_pick a 5 5 W rfl (by omega) (by omega))
 obtain ⟨N, hN⟩ : ∃ N, N = 1 + pickN a 5 := ⟨_, rfl⟩
 have hplt := pickN_lt a 5 (by omega)
 have wN : IntKind.i64.wrap (1 + (pickN a 5 : Int)) = (N : Int) := by rw [IntWalk.i64_in _ (by omega)]; omega
 have hN1 : 1 ≤ N := by omega
 have hN5 : N ≤ 5 := by omega
 have hPa := Lib.hid (fun W (hW : Below w.heap.size w W) (hs : smallB l = true) => keep_party N v l W (hL.below hW) hN1 hN5 (hv.below (by omega) hW) (by unfold smallB at hs; simp only [Bool.and_eq_true, decide_eq_true_eq] at hs; exact hs.2))
 generalize pickN a 5 = pk at *
 obtain ⟨ov, cv, rfl, -, -⟩ := ListIs.at hv actCells_len
 have hl60 : smallB l = true → l.length ≤ 60 := fun hs => by unfold smallB at hs; simp only [Bool.and_eq_true, decide_eq_true_eq] at hs; exact hs.2
 clear hN hplt w0 hv q
 generalize smallB l = sm at *
 go_enter Tryz.func4, Tryz.ntmps4
 go_wp2_with fail
 refine hLg.out.mono ?_
 rintro _ w1 ⟨rfl, hb1⟩
 clear hLg
 go_wp2_with fail
 refine (hX0.out _ hb1).mono ?_
 rintro _ wx0 ⟨rfl, hx0⟩
 replace hb1 := bch hb1 hx0
 clear hx0 hX0
 go_wp2_with fail
 refine (hSm.out _ hb1).mono ?_
 rintro _ w2 ⟨rfl, hb2⟩
 have hbw2 := bch hb1 hb2
 clear hSm hb1 hb2
 cases sm with
 | false =>
  go_wp2
  go_ret
  exact ⟨rfl, by exact blw⟩
 | true =>
 have hPa1 := Lib.hid (hPa.out w2 hbw2 rfl)
 replace hl60 := hl60 rfl
 clear hPa
 go_wp2_with fail
 refine (hPk.out _).mono ?_
 rintro _ _ ⟨rfl, rfl⟩
 clear hPk
 go_wp2_with fail
 refine hPa1.out.mono ?_
 rintro _ w3 ⟨⟨u, rfl, ls, G, hV, hln, hPt, hGl⟩, hb23⟩
 have hbase := hbw2.size
 have hbw3 := hbw2.trans (hb23.mono hbase)
 have hG : G.length ≤ 60 := by omega
 obtain ⟨B, hB⟩ : ∃ B, B = w2.heap.size := ⟨_, rfl⟩
 have hB3 : B ≤ w3.heap.size := hB ▸ hb23.size
 rw [← hB] at hV hbase
 obtain ⟨ou, cu, rfl⟩ := owns_slice_ hV.at_
 obtain ⟨g, rfl, -⟩ := owns_pos hV.at_ (by omega)
 rw [hln] at hV ⊢
 clear hPa1 hb23 hbw2 hB hGl
 have hO := hV.at_
 rw [hln] at hO
 have hgg := (hO.lt g rfl).2
 have hcell : ∀ k (hk : k < ls.length), w3.cell? ⟨g, k, none⟩ = some (.pointer (some ⟨ls[k].p, 0, none⟩)) := fun k hk => by
  rw [hO.cellAt k (by omega), List.getElem?_map, List.getElem?_eq_getElem hk]; rfl
 have hlog := fun k (hk : k < ls.length) W (hW : Below w3.heap.size w3 W) => (hV.logs.each k hk).below hW
 have hok := fun k (hk : k < ls.length) => show ls[k].m.Ok ∧ Lg.Asc ls[k].m.W by
  have := hPt.ok k (by simpa using hk)
  rw [List.getElem_map] at this
  exact ⟨this.1, this.2.1⟩
 replace hbw3 := Lib.hid hbw3
 replace hcell := Lib.hid hcell
 replace hlog := Lib.hid hlog
 replace hok := Lib.hid hok
 clear hO hV hPt
 go_wp2
 go_loopw [34] (fun i wr => ∃ k : Nat, k ≤ N ∧ i = .int .i64 k ∧ Below w3.heap.size w3 wr) (fun i _ => N - (intOf i).toNat)
 case atStart => exact ⟨0, by omega, rfl, Below.refl _ _⟩
 case round =>
  obtain ⟨k, hk, rfl, hb⟩ := hrel
  by_cases hlt : k < N
  ·have hkl : k < ls.length := by omega
   have e1 := cell_below hb (hcell.out k hkl)
   have hgl : g < wr.heap.size := Nat.lt_of_lt_of_le hgg hb.size
   have hli : (k : Int) < (N : Int) := by omega
   obtain ⟨okk, ask⟩ := hok.out k hkl
   have hlg := fun W (hW : Below wr.heap.size wr W) => hlog.out k hkl W (bch hb hW)
   generalize ls[k] = X at *
   obtain ⟨px, mx, hvx, wvx⟩ := X
   (try simp only at e1 okk ask hlg)
   have hWl := okk.len
   have hF := (Vec.right_iff _).1 okk.have_
   have hH16 := hF.len
   have hA := Lib.hid (fun W (hW : Below wr.heap.size wr W) => log_writes B px mx hvx wvx W (hlg W hW) (by omega))
   have hC := Lib.hid (fun W (hW : Below wr.heap.size wr W) => log_have B px mx hvx wvx W (hlg W hW) (by omega))
   replace okk := Lib.hid okk
   replace ask := Lib.hid ask
   replace hF := Lib.hid hF
   clear hlg
   go_wp2_with fail
   refine (hA.out _ (Below.refl _ _)).mono ?_
   rintro _ w4 ⟨⟨u4, rfl, hO4⟩, hb4⟩
   have hV4 : WrsIs w4 u4 mx.W := ListIs.of_owns hO4
   clear hA hO4
   go_wp2_with fail
   refine (hC.out _ hb4).mono ?_
   rintro _ w5 ⟨⟨u5, rfl, hO5⟩, hb5⟩
   have hV5 : VecIs w5 u5 mx.H := ListIs.of_owns hO5
   have hW5 := WrsIs.below hV4 hb5
   obtain ⟨o4, c4, rfl, -, hcw⟩ := ListIs.at hW5 wrBCells_len
   have hOf := Lib.hid (fun r W (hW : Below w5.heap.size w5 W) => vector_of u5 mx.H r W (hV5.below hW))
   have hRt := fun W (hW : Below w5.heap.size w5 W) => vector_right u5 mx.H W (hV5.below hW) (by omega)
   rw [okk.out.have_] at hRt
   replace hRt := Lib.hid hRt
   have hb35 := Lib.hid (bch hb (bch hb4 hb5))
   replace hcw := Lib.hid hcw
   clear hC hO5 hV4 hW5 hb4 hb5 e1 hgl hb hV5
   go_wp2
   go_loopw [44] (fun i wr => ∃ j : Nat, j ≤ mx.W.length ∧ i = .int .i64 j ∧ Below w5.heap.size w5 wr) (fun i _ => mx.W.length - (intOf i).toNat)
   case atStart => exact ⟨0, by omega, rfl, Below.refl _ _⟩
   case round =>
    obtain ⟨j, hj, rfl, hb⟩ := hrel
    by_cases hlj : j < mx.W.length
    ·obtain ⟨b1, f1, rfl, hb1, hc1⟩ := hcw.out j hlj
     have hb1 := hb1 (by omega)
     have hkn := okk.out.known _ (List.getElem_mem hlj)
     have d0 : wr.cell? ⟨b1, f1 + j * 6, none⟩ = some (.int .i64 mx.W[j].t) := (hb.cell (p := ⟨b1, f1 + j * 6, none⟩) hb1).trans (hc1 0 _ rfl)
     have d1 : wr.cell? ⟨b1, f1 + j * 6 + 1, none⟩ = some (.int .i64 mx.W[j].r) := (hb.cell (p := ⟨b1, f1 + j * 6 + 1, none⟩) hb1).trans (hc1 1 _ rfl)
     have hs := hb.size
     have hbl : b1 < wr.heap.size := by omega
     have hjn : (j : Int) < (mx.W.length : Int) := by omega
     by_cases hj0 : j = 0
     ·have hjz : ¬ 0 < j := by omega
      generalize mx.W[j] = y at *
      have hb0 := Lib.hid hb
      replace hj0 := Lib.hid hj0
      go_wp2_with fail
      have hS0 : Below wr.heap.size wr wr.drew ∧ wr.drew.cell? ⟨b1, f1 + j * 6, none⟩ = some (.int .i64 y.t) ∧ wr.drew.cell? ⟨b1, f1 + j * 6 + 1, none⟩ = some (.int .i64 y.r) := ⟨bdr (Below.refl _ _), d0, d1⟩
      (refine wp_region_held_drew (S := (fun W => Below wr.heap.size wr W ∧ W.cell? ⟨b1, f1 + j * 6, none⟩ = some (.int .i64 y.t) ∧ W.cell? ⟨b1, f1 + j * 6 + 1, none⟩ = some (.int .i64 y.r))) (by kernel_rfl) ?_ (fun hHeld => ?_); ((try dsimp only); exact hS0))
      clear hS0 d0 d1
      (refine tkO 0 ?_; refine tkO 1 ?_; refine tkO 2 ?_)
      (refine tofO 3 ?_; refine tofO 4 ?_; refine tofO 5 ?_; refine tofO 6 ?_; refine tofO 7 ?_; refine tofO 8 ?_; refine tofO 9 ?_; refine tofO 10 ?_; refine tofO 11 ?_; refine tofO 12 ?_; refine tofO 13 ?_; refine tofO 14 ?_; refine tofO 15 ?_)
      (refine tkO 16 ?_; refine tkO 17 ?_; refine tkO 18 ?_; refine tkO 19 ?_; refine tkO 20 ?_; refine tkO 21 ?_; refine tkO 22 ?_; refine tkO 23 ?_; refine tkO 24 ?_; refine tkO 26 ?_; refine tkO 27 ?_; refine tkO 28 ?_; refine tkO 29 ?_; refine tkO 30 ?_; refine tkO 31 ?_)
      (refine tdoO 25 (fun K hK => ?_); ((go_simp; refine (hOf.out _ _ (bch hb0.out hHeld.1)).mono ?_; rintro _ w7 ⟨rfl, hb7⟩); refine hK.out _ _ ?_ (fun hHeld => ?_); ((try dsimp only); exact ⟨bch hHeld.1 hb7, cell_below hb7 hHeld.2.1, cell_below hb7 hHeld.2.2⟩); clear hK K; (try clear hHeld0); (try rename_i hHeld0)))
      clear hb7
      (refine tkO 32 ?_; refine tkO 33 ?_)
      (refine wpAnyH_done (by kernel_rfl) ?_ _)
      have hfin := Lib.hid (bch hb0.out hHeld.1)
      clear hHeld hHeld0 hb
      have hdk : decide (Vec.of mx.H y.r < y.t) = false := by simp; omega
      go_wp2
      go_roundw
      case rel => exact ⟨j + 1, by omega, by go_num, hfin.out⟩
      case measure => simp [intOf]; omega
     ·obtain ⟨b2, f2, e2, hb2, hc2⟩ := hcw.out (j - 1) (by omega)
      injection e2 with e2
      injection e2 with e2 e3
      subst e2 e3
      have c0 : wr.cell? ⟨b1, f1 + (j - 1) * 6, none⟩ = some (.int .i64 (mx.W[j - 1]'(by omega)).t) := (hb.cell (p := ⟨b1, f1 + (j - 1) * 6, none⟩) hb1).trans (hc2 0 _ rfl)
      have c1 : wr.cell? ⟨b1, f1 + (j - 1) * 6 + 1, none⟩ = some (.int .i64 (mx.W[j - 1]'(by omega)).r) := (hb.cell (p := ⟨b1, f1 + (j - 1) * 6 + 1, none⟩) hb1).trans (hc2 1 _ rfl)
      have hlt2 := pair_lt ask.out (by omega) hlj (show j - 1 < j by omega)
      generalize (mx.W[j - 1]'(by omega)) = x at *
      generalize mx.W[j] = y at *
      have hcm := fun W => ident_compare x.t x.r y.t y.r W
      change orInt (cmp2 x.t y.t) (cmp2 x.r y.r) < 0 at hlt2
      generalize orInt (cmp2 x.t y.t) (cmp2 x.r y.r) = cv at *
      replace hcm := Lib.hid hcm
      have hng : ¬ 0 ≤ cv := by omega
      have hng2 : decide (0 ≤ cv) = false := decide_eq_false hng
      have hd : decide ((j : Int) > 0) = true := by simp; omega
      have hsub : IntKind.i64.wrap ((j : Int) - 1) = ((j - 1 : Nat) : Int) := by rw [IntWalk.i64_in _ (by omega)]; omega
      obtain ⟨j1, hj1e⟩ : ∃ j1, j1 = j - 1 := ⟨_, rfl⟩
      rw [← hj1e] at c0 c1 hsub
      have hj1 : j1 < mx.W.length := by omega
      have hlj' := hlj
      replace hj1e := Lib.hid hj1e
      have hb0 := Lib.hid hb
      have hjp : 0 < j := by omega
      go_wp2_with fail
      have hS0 : Below wr.heap.size wr wr.drew ∧ wr.drew.cell? ⟨b1, f1 + j * 6, none⟩ = some (.int .i64 y.t) ∧ wr.drew.cell? ⟨b1, f1 + j * 6 + 1, none⟩ = some (.int .i64 y.r) ∧ wr.drew.cell? ⟨b1, f1 + j1 * 6, none⟩ = some (.int .i64 x.t) ∧ wr.drew.cell? ⟨b1, f1 + j1 * 6 + 1, none⟩ = some (.int .i64 x.r) := ⟨bdr (Below.refl _ _), d0, d1, c0, c1⟩
      (refine wp_region_held_drew (S := (fun W => Below wr.heap.size wr W ∧ W.cell? ⟨b1, f1 + j * 6, none⟩ = some (.int .i64 y.t) ∧ W.cell? ⟨b1, f1 + j * 6 + 1, none⟩ = some (.int .i64 y.r) ∧ W.cell? ⟨b1, f1 + j1 * 6, none⟩ = some (.int .i64 x.t) ∧ W.cell? ⟨b1, f1 + j1 * 6 + 1, none⟩ = some (.int .i64 x.r))) (by kernel_rfl) ?_ (fun hHeld => ?_); ((try dsimp only); exact hS0))
      clear hS0 d0 d1 c0 c1
      (refine tkO 0 ?_; refine tkO 1 ?_; refine tkO 2 ?_; refine tkO 3 ?_; refine tkO 4 ?_; refine tkO 5 ?_; refine tkO 6 ?_; refine tkO 7 ?_; refine tkO 8 ?_; refine tkO 9 ?_; refine tkO 10 ?_; refine tkO 11 ?_; refine tkO 12 ?_; refine tkO 13 ?_)
      (refine tdoO 14 (fun K hK => ?_); ((go_simp; refine (hcm.out _).mono ?_; rintro _ w6 ⟨rfl, hb6⟩); refine hK.out _ _ ?_ (fun hHeld => ?_); ((try dsimp only); exact ⟨bch hHeld.1 hb6, cell_below hb6 hHeld.2.1, cell_below hb6 hHeld.2.2.1, cell_below hb6 hHeld.2.2.2.1, cell_below hb6 hHeld.2.2.2.2⟩); clear hK K; (try clear hHeld0); (try rename_i hHeld0)))
      clear hb6
      (refine tkO 15 ?_; refine tkO 16 ?_; refine tkO 17 ?_; refine tkO 18 ?_; refine tkO 19 ?_; refine tkO 20 ?_; refine tkO 21 ?_; refine tkO 22 ?_; refine tkO 23 ?_; refine tkO 24 ?_; refine tkO 26 ?_; refine tkO 27 ?_; refine tkO 28 ?_; refine tkO 29 ?_; refine tkO 30 ?_; refine tkO 31 ?_)
      (refine tdoO 25 (fun K hK => ?_); ((go_simp; refine (hOf.out _ _ (bch hb0.out hHeld.1)).mono ?_; rintro _ w7 ⟨rfl, hb7⟩); refine hK.out _ _ ?_ (fun hHeld => ?_); ((try dsimp only); exact ⟨bch hHeld.1 hb7, cell_below hb7 hHeld.2.1, cell_below hb7 hHeld.2.2.1, cell_below hb7 hHeld.2.2.2.1, cell_below hb7 hHeld.2.2.2.2⟩); clear hK K; (try clear hHeld0); (try rename_i hHeld0)))
      clear hb7
      (refine tkO 32 ?_; refine tkO 33 ?_)
      (refine wpAnyH_done (by kernel_rfl) ?_ _)
      have hfin := Lib.hid (bch hb0.out hHeld.1)
      clear hHeld hHeld0 hb
      have hdk : decide (Vec.of mx.H y.r < y.t) = false := by simp; omega
      go_wp2
      go_roundw
      case rel => exact ⟨j + 1, by omega, by go_num, hfin.out⟩
      case measure => simp [intOf]; omega
    ·obtain rfl : j = mx.W.length := by omega
     have hRt1 := Lib.hid (hRt.out wr hb)
     have hb0 := Lib.hid hb
     clear hRt hOf hcw hb
     go_wp2_with fail
     refine hRt1.out.mono ?_
     rintro _ w6 ⟨v6, rfl, hv6, hb6⟩
     have hv6 : v6 = .nilIface := hv6
     subst hv6
     have hfin := Lib.hid (hb35.out.trans ((bch hb0.out hb6).mono hb35.out.size))
     clear hRt1 hb0 hb6
     go_wp2
     go_roundw
     case rel => exact ⟨k + 1, by omega, by go_num, hfin.out⟩
     case measure => simp [intOf]; omega
  ·obtain rfl : k = N := by omega
   have hfin := Lib.hid (hbw3.out.trans (hb.mono hbw3.out.size))
   clear hb
   go_wp2
   go_ret
   exact ⟨rfl, hfin.out⟩
end Go.Proofs.YtognjohloobliaaGreatDoor
