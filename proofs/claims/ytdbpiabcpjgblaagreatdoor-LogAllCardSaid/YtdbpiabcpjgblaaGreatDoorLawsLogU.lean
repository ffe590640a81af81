/- The walk of the law LogAll. -/
import Derived.Test.YtdbpiabcpjgblaaGreatDoorK46
import Derived.Test.YtdbpiabcpjgblaaGreatDoorK28
import Derived.Test.YtdbpiabcpjgblaaGreatDoorK26
namespace Go.Proofs.YtdbpiabcpjgblaaGreatDoor
open Go.RowKit
set_option linter.unusedVariables false
set_option linter.unusedSimpArgs false
/-- Logs in the midst of the rounds: these lie at ps, and R says how far each knows. -/
def AllAt (B : Nat) (v : Value) (N : Nat) (ps : List Nat) (R : (Nat → Int) → Prop) (wr : World) : Prop := ∃ ls G, LogsV wr B v ls ∧ ls.length = N ∧ ls.map LgAt.p = ps ∧ Lg.Party G (ls.map LgAt.m) ∧ G.length ≤ 60 ∧ ∀ r, R (fun k => knows ls k r)
theorem AllAt.mono {B : Nat} {v : Value} {N : Nat} {ps : List Nat} {R R' : (Nat → Int) → Prop} {w : World} (h : AllAt B v N ps R w) (hR : ∀ f, R f → R' f) : AllAt B v N ps R' w := by
 obtain ⟨ls, G, h1, h2, h3, h4, h5, h6⟩ := h
 exact ⟨ls, G, h1, h2, h3, h4, h5, fun r => hR _ (h6 r)⟩
/-- What holds ahead of the n-th time round; and in the n-th, ahead of the k-th. -/
def Ro (N n : Nat) (f : Nat → Int) : Prop := (n = 0 → Round.P0 N 0 f) ∧ (n = 1 → Round.P1 N 0 f) ∧ (n = 2 → Round.P1 N N f)
def Rn (N n k : Nat) (f : Nat → Int) : Prop := (n = 0 → Round.P0 N k f) ∧ (n = 1 → Round.P1 N k f)
theorem rn_step {N n k : Nat} {f f' : Nat → Int} (hk : k < N) (h : Rn N n k f) (he : ∀ i, i < N → f' i = Round.turn N k f i) : Rn N n (k + 1) f' := by
 have e0 : ∀ i, Round.P0 N i (Round.turn N k f) → i ≤ N → 0 < N → Round.P0 N i f' := fun i hp hi h0 => ⟨fun hiN j hj => by rw [he j (by omega), he i hiN]; exact hp.1 hiN j hj, fun hiN j hj => by rw [he j hj, he 0 h0]; exact hp.2 hiN j hj⟩
 have e1 : ∀ i, Round.P1 N i (Round.turn N k f) → 0 < N → Round.P1 N i f' := fun i hp h0 => ⟨fun j hj => by rw [he j hj, he 0 h0]; exact hp.1 j hj, fun j hj hji => by rw [he j hj, he 0 h0]; exact hp.2 j hj hji⟩
 exact ⟨fun hn => e0 _ (Round.step0 hk (h.1 hn)) (by omega) (by omega), fun hn => e1 _ (Round.step1 hk (h.2 hn)) (by omega)⟩
theorem rn_end {N n : Nat} {f : Nat → Int} (hN : 0 < N) (h : Rn N n N f) : Ro N (n + 1) f := ⟨fun e => by omega, fun e => Round.mid hN (h.1 (by omega)), fun e => h.2 (by omega)⟩
set_option maxHeartbeats 8000000 in
set_option maxRecDepth 20000 in
theorem LogAll_walk (a : Int) (v : Value) (l : List ActB) (w : World) (w0 : (Lit.int .i64 a).wf = true) (hv : ListIs actCells 9 w v l) (q : ∀ x ∈ l, ActOk x) (z : l.length ≤ 140737488351232) (hL : Laid w) :
  Calls Tryz.prog 11 #[.int .i64 a, v] w fun e w' => e = .returned (.bool true) ∧ Below w.heap.size w w' := by
 have hLg := Lib.hid (keep_logged w hL)
 have hSm := Lib.hid (fun W (hW : Below w.heap.size w W) => keep_small v l W (hv.below (by omega) hW) z (fun x hx => ⟨(q x hx).2.2.1, (q x hx).2.2.2.1⟩))
 have hPk := Lib.hid (fun W => keep_pick a 5 5 W rfl (by omega) (by omega))
 obtain ⟨N, hN⟩ : ∃ N, N = 1 + pickN a 5 := ⟨_, rfl⟩
 have hplt := pickN_lt a 5 (by omega)
 have wN : IntKind.i64.wrap (1 + (pickN a 5 : Int)) = (N : Int) := by rw [IntWalk.i64_in _ (by omega)]; omega
 have hN1 : 1 ≤ N := by omega
 have hN5 : N ≤ 5 := by omega
 have hPa := Lib.hid (fun W (hW : Below w.heap.size w W) (hs : smallB l = true) => keep_party N v l W (hL.below hW) hN1 hN5 (hv.below (by omega) hW) (by unfold smallB at hs; simp only [Bool.and_eq_true, decide_eq_true_eq] at hs; exact hs.2))
 generalize pickN a 5 = pk at *
 obtain ⟨ov, cv, rfl, -, -⟩ := ListIs.at hv actCells_len
 have hl60 : smallB l = true → l.length ≤ 60 := fun hs => by unfold smallB at hs; simp only [Bool.and_eq_true, decide_eq_true_eq] at hs; exact hs.2
 clear hN hplt w0 hv q
 generalize smallB l = sm at *
 go_enter Tryz.func11, Tryz.ntmps11
 go_wp2_with fail
 refine hLg.out.mono ?_
 rintro _ w1 ⟨rfl, hb1⟩
 clear hLg
 go_wp2_with fail
 refine (hSm.out _ hb1).mono ?_
 rintro _ w2 ⟨rfl, hb2⟩
 have hbw2 := bch hb1 hb2
 clear hSm hb1 hb2
 cases sm with
 | false =>
  go_wp2
  go_ret
  exact ⟨rfl, by exact blw⟩
 | true =>
 have hPa1 := Lib.hid (hPa.out w2 hbw2 rfl)
 replace hl60 := hl60 rfl
 clear hPa
 go_wp2_with fail
 refine (hPk.out _).mono ?_
 rintro _ _ ⟨rfl, rfl⟩
 clear hPk
 go_wp2_with fail
 refine hPa1.out.mono ?_
 rintro _ w3 ⟨⟨u, rfl, ls, G, hV, hln, hPt, hGl⟩, hb23⟩
 have hbase := hbw2.size
 have hbw3 := hbw2.trans (hb23.mono hbase)
 have hG : G.length ≤ 60 := by omega
 obtain ⟨B, hB⟩ : ∃ B, B = w2.heap.size := ⟨_, rfl⟩
 have hB3 : B ≤ w3.heap.size := hB ▸ hb23.size
 rw [← hB] at hV hbase
 obtain ⟨ou, cu, rfl⟩ := owns_slice_ hV.at_
 obtain ⟨g, rfl, -⟩ := owns_pos hV.at_ (by omega)
 rw [hln] at hV ⊢
 clear hPa1 hb23 hbw2 hB hGl
 obtain ⟨ps, hps⟩ : ∃ ps, ps = ls.map LgAt.p := ⟨_, rfl⟩
 have hA3 : AllAt B (.slice (some ⟨g, 0, none⟩) N cu) N ps (Ro N 0) w3 := ⟨ls, G, hV, hln, hps.symm, hPt, hG, fun r => ⟨fun _ => Round.start N hN1 _, fun h => by omega, fun h => by omega⟩⟩
 replace hA3 := Lib.hid hA3
 replace hbw3 := Lib.hid hbw3
 clear hV hPt hG hps hln
 go_wp2
 go_loopw [26] (fun c wr => ∃ n : Nat, n ≤ 2 ∧ c = .int .i64 n ∧ AllAt B (.slice (some ⟨g, 0, none⟩) N cu) N ps (Ro N n) wr ∧ Below B w3 wr) (fun c _ => 2 - (intOf c).toNat)
 case atStart => exact ⟨0, by omega, rfl, hA3.out, Below.refl _ _⟩
 case round =>
  obtain ⟨n, hn, rfl, hA, hb⟩ := hrel
  clear hA3
  by_cases hlt : n < 2
  ·have hA' : AllAt B (.slice (some ⟨g, 0, none⟩) N cu) N ps (Rn N n 0) wr := hA.mono fun f hf => ⟨fun e => hf.1 e, fun e => hf.2.1 e⟩
   replace hA' := Lib.hid hA'
   replace hb := Lib.hid hb
   clear hA
   have hn2 : (n : Int) < 2 := by omega
   go_wp2
   go_loopw [30] (fun i wr => ∃ k : Nat, k ≤ N ∧ i = .int .i64 k ∧ AllAt B (.slice (some ⟨g, 0, none⟩) N cu) N ps (Rn N n k) wr ∧ Below B w3 wr) (fun i _ => N - (intOf i).toNat)
   case atStart => exact ⟨0, by omega, rfl, hA'.out, hb.out⟩
   case round =>
    obtain ⟨k, hk, rfl, hA, hb⟩ := hrel
    clear hA'
    by_cases hlk : k < N
    ·obtain ⟨ls, G, hV, hln, hps, hPt, hG, hR⟩ := hA
     obtain ⟨j, hjN, hrem, hj⟩ : ∃ j, j < N ∧ Hid (((k : Int) + 1).tmod (N : Int) = ((j : Nat) : Int)) ∧ Hid (j = Round.next N k) := by
      refine ⟨Round.next N k, ?_, Lib.hid ?_, Lib.hid rfl⟩
      ·unfold Round.next; split <;> omega
      ·rw [Int.tmod_eq_emod_of_nonneg (by omega)]
       unfold Round.next
       split
       ·rw [show (k : Int) + 1 = N by omega, Int.emod_self]; rfl
       ·rw [Int.emod_eq_of_lt (by omega) (by omega)]; rfl
     have hO := hV.at_
     rw [hln] at hO
     have e1 : wr.cell? ⟨g, k, none⟩ = some (.pointer (some ⟨(ls[k]'(by omega)).p, 0, none⟩)) := by
      rw [hO.cellAt k (by omega), List.getElem?_map, List.getElem?_eq_getElem (by omega)]; rfl
     have e2 : wr.cell? ⟨g, j, none⟩ = some (.pointer (some ⟨(ls[j]'(by omega)).p, 0, none⟩)) := by
      rw [hO.cellAt j (by omega), List.getElem?_map, List.getElem?_eq_getElem (by omega)]; rfl
     have hgg := (hO.lt g rfl).2
     have hBr : B ≤ wr.heap.size := Nat.le_trans hB3 hb.size
     have hLr := hL.below (hbw3.out.trans (hb.mono hbase))
     have hMe := Lib.hid (keep_meet (hLr.below (bdr (Below.refl _ _))) (hV.logs.below (bdr (Below.refl _ _))) hPt hG (by omega) (i := k) (j := j) (by omega) (by omega) _ _ rfl rfl)
     have hV' := Lib.hid (hV.below (bdr (Below.refl _ _)))
     have hkn : (k : Int) < (N : Int) := by omega
     have hjn : (j : Int) < (N : Int) := by omega
     have hwk : IntKind.i64.wrap ((k : Int) + 1) = ((k + 1 : Nat) : Int) := by rw [IntWalk.i64_in _ (by omega)]; omega
     replace hV := Lib.hid hV
     replace hb := Lib.hid hb
     replace hR := Lib.hid hR
     clear hO
     go_wp2_with fail
     have hS0 : wr.drew.cell? ⟨g, k, none⟩ = some (.pointer (some ⟨(ls[k]'(by omega)).p, 0, none⟩)) ∧ wr.drew.cell? ⟨g, j, none⟩ = some (.pointer (some ⟨(ls[j]'(by omega)).p, 0, none⟩)) := ⟨e1, e2⟩
     (refine wp_region_held_drew (S := (fun W => W.cell? ⟨g, k, none⟩ = some (.pointer (some ⟨(ls[k]'(by omega)).p, 0, none⟩)) ∧ W.cell? ⟨g, j, none⟩ = some (.pointer (some ⟨(ls[j]'(by omega)).p, 0, none⟩)))) (by kernel_rfl) ?_ (fun hHeld => ?_); ((try dsimp only); exact hS0))
     clear hS0
     (refine tkO 0 ?_; refine tkO 1 ?_; refine tkO 2 ?_; refine tkO 3 ?_; refine tkO 4 ?_; refine tkO 5 ?_; refine tkO 6 ?_; refine tkO 7 ?_)
     refine tkO 8 ?_ (v := .int .i64 j) (hy := ?_)
     rotate_left
     ·intro W hSW
      go_simp
      rw [if_neg (show ¬ N = 0 by omega), hrem.out]
     (refine tkO 9 ?_; refine tkO 10 ?_)
     have hLg := Lib.hid hV'.out.logs
     (refine tdoO 11 (fun K hK => ?_); ((go_simp; refine hMe.out.mono ?_; rintro _ w5 ⟨rfl, l1, M1, hl1, hx1⟩); refine hK.out _ _ ?_ (fun hHeld => ?_); ((try dsimp only); exact ⟨M1.only.cell hHeld.1 (fun ⟨b, hb, hm⟩ => hLg.out.free b hb g hm rfl), M1.only.cell hHeld.2 (fun ⟨b, hb, hm⟩ => hLg.out.free b hb g hm rfl)⟩); clear hK K; (try clear hHeld0); (try rename_i hHeld0)))
     (refine tkO 12 ?_)
     (refine wpAnyH_done (by kernel_rfl) ?_ _)
     have hV1 := hV'.out.moved M1
     have hb1 := hb.out.drew.trans (M1.below hLg.out hBr)
     have hp1 := M1.ptrs.trans hps
     have hP1 := M1.party
     have hR1 : ∀ r, Rn N n (k + 1) (fun i => knows l1 i r) := fun r => rn_step hlk (hR.out r) fun i hi => by
      have e := hx1 (by omega) i (by omega) r
      rw [Round.turn_eq, ← hj.out, knows_at (by omega), knows_at (by omega), knows_at (by omega)]
      exact e
     have hA1 : AllAt B (.slice (some ⟨g, 0, none⟩) N cu) N ps (Rn N n (k + 1)) w5 := ⟨l1, G, hV1, by omega, hp1, hP1, hG, hR1⟩
     replace hA1 := Lib.hid hA1
     replace hb1 := Lib.hid hb1
     clear hHeld hHeld0 M1 hMe hV' hV hLg hV1 hP1 hR1 hR hx1 e1 e2 hb hPt hp1 hps
     go_wp2
     go_roundw
     case rel => exact ⟨k + 1, by omega, by go_num, hA1.out, hb1.out⟩
     case measure => simp [intOf]; omega
    ·obtain rfl : k = N := by omega
     have hA2 := Lib.hid (hA.mono fun f hf => rn_end hN1 hf)
     replace hb := Lib.hid hb
     clear hA
     go_wp2
     go_roundw
     case rel => exact ⟨n + 1, by omega, by go_num, hA2.out, hb.out⟩
     case measure => simp [intOf]; omega
  ·have hn2 : 2 ≤ n := by omega
   obtain ⟨ls, G, hV, hln, hps, hPt, hG, hR⟩ := hA
   have hO := hV.at_
   rw [hln] at hO
   have hgg := (hO.lt g rfl).2
   have hcell : ∀ k (hk : k < ls.length), wr.cell? ⟨g, k, none⟩ = some (.pointer (some ⟨ls[k].p, 0, none⟩)) := fun k hk => by
    rw [hO.cellAt k (by omega), List.getElem?_map, List.getElem?_eq_getElem hk]; rfl
   have hlog := fun k (hk : k < ls.length) W (hW : Below wr.heap.size wr W) => (hV.logs.each k hk).below hW
   have hok := fun k (hk : k < ls.length) => show ls[k].m.Ok by
    have := (hPt.ok k (by simpa using hk)).1
    rwa [List.getElem_map] at this
   have h0l : 0 < ls.length := by omega
   have hsm := fun k (hk : k < ls.length) => show ls[k].m.H = ls[0].m.H ∧ ls[k].m.W = ls[0].m.W by
    have := hPt.same (i := k) (j := 0) (by simpa using hk) (by simpa using h0l) (fun r => by
     rw [List.getElem_map, List.getElem_map, ← knows_at hk, ← knows_at h0l]
     exact ((hR r).2.2 (by omega)).2 k (by omega) (by omega))
    rwa [List.getElem_map, List.getElem_map] at this
   have hbw := Lib.hid (hbw3.out.trans (hb.mono hbase))
   have e0 := hcell 0 h0l
   have ok0 := hok 0 h0l
   have hlg0 := hlog 0 h0l
   generalize (ls[0]'h0l) = Z at *
   obtain ⟨p0, m0, hv0, wv0⟩ := Z
   (try simp only at e0 ok0 hlg0 hsm)
   have hH0 := ((Vec.right_iff _).1 ok0.have_).len
   have hR0 := ok0.right_
   have hWl := ok0.len
   have hA0 := Lib.hid (fun W (hW : Below wr.heap.size wr W) => log_writes B p0 m0 hv0 wv0 W (hlg0 W hW) (by omega))
   have hB0 := Lib.hid (fun W (hW : Below wr.heap.size wr W) => log_have B p0 m0 hv0 wv0 W (hlg0 W hW) (by omega))
   have hC0 := Lib.hid (fun W (hW : Below wr.heap.size wr W) => log_cells B p0 m0 hv0 wv0 W (hlg0 W hW) hR0 (by omega))
   replace hR0 := Lib.hid hR0
   replace hcell := Lib.hid hcell
   replace hlog := Lib.hid hlog
   replace hok := Lib.hid hok
   replace hsm := Lib.hid hsm
   replace hR := Lib.hid hR
   obtain ⟨wS, hwS⟩ : ∃ W, W = wr := ⟨_, rfl⟩
   rw [← hwS] at hA0 hB0 hC0 hcell hlog hbw e0 hgg
   have hbS : Below wS.heap.size wS wr := by rw [hwS]; exact Below.refl _ _
   clear hO hV hPt hb hlg0 ok0 hwS
   go_wp2
   go_loopw [50] (fun i wr => ∃ k : Nat, k ≤ N ∧ i = .int .i64 k ∧ Below wS.heap.size wS wr) (fun i _ => N - (intOf i).toNat)
   case atStart => exact ⟨0, by omega, rfl, hbS⟩
   case round =>
    obtain ⟨k, hk, rfl, hb⟩ := hrel
    clear hbS
    by_cases hlk : k < N
    ·have hkl : k < ls.length := by omega
     have e1 := cell_below hb (hcell.out k hkl)
     have e0' := cell_below hb e0
     have hgl : g < wr.heap.size := Nat.lt_of_lt_of_le hgg hb.size
     have hli : (k : Int) < (N : Int) := by omega
     have hNp : 0 < N := by omega
     have okk := hok.out k hkl
     have hlg := fun W (hW : Below wS.heap.size wS W) => hlog.out k hkl W hW
     obtain ⟨s1, s2⟩ := hsm.out k hkl
     generalize (ls[k]'hkl) = X at *
     obtain ⟨px, mx, hvx, wvx⟩ := X
     (try simp only at e1 okk hlg s1 s2)
     have hHx := ((Vec.right_iff _).1 okk.have_).len
     have hWx := okk.len
     have hA := Lib.hid (fun W (hW : Below wS.heap.size wS W) => log_writes B px mx hvx wvx W (hlg W hW) (by omega))
     have hBx := Lib.hid (fun W (hW : Below wS.heap.size wS W) => log_have B px mx hvx wvx W (hlg W hW) (by omega))
     have hC := Lib.hid (fun W (hW : Below wS.heap.size wS W) => log_cells B px mx hvx wvx W (hlg W hW) okk.right_ (by omega))
     replace s1 := Lib.hid s1
     replace s2 := Lib.hid s2
     replace hb := Lib.hid hb
     clear hlg okk
     go_wp2_with fail
     have hS0 : Below wS.heap.size wS wr.drew ∧ wr.drew.cell? ⟨g, 0, none⟩ = some (.pointer (some ⟨p0, 0, none⟩)) := ⟨hb.out.drew, e0'⟩
     (refine wp_region_held_drew (S := (fun W => Below wS.heap.size wS W ∧ W.cell? ⟨g, 0, none⟩ = some (.pointer (some ⟨p0, 0, none⟩)))) (by kernel_rfl) ?_ (fun hHeld => ?_); ((try dsimp only); exact hS0))
     clear hS0
     (refine tkO 0 ?_; refine tkO 2 ?_; refine tkO 3 ?_; refine tkO 4 ?_)
     (refine tdoO 1 (fun K hK => ?_); ((go_simp; refine (hA.out _ hHeld.1).mono ?_; rintro _ w5 ⟨⟨u5, rfl, hO5⟩, hb5⟩); refine hK.out _ _ ?_ (fun hHeld => ?_); ((try dsimp only); exact ⟨bch hHeld.1 hb5, cell_below hb5 hHeld.2⟩); clear hK K; (try clear hHeld0); (try rename_i hHeld0)))
     have y5 : WrsIs w5 u5 mx.W := ListIs.of_owns hO5
     clear hA hO5 hb5
     (refine tdoO 5 (fun K hK => ?_); ((go_simp; refine (hA0.out _ hHeld.1).mono ?_; rintro _ w6 ⟨⟨u6, rfl, hO6⟩, hb6⟩); refine hK.out _ _ ?_ (fun hHeld => ?_); ((try dsimp only); exact ⟨bch hHeld.1 hb6, cell_below hb6 hHeld.2⟩); clear hK K; (try clear hHeld0); (try rename_i hHeld0)))
     have hE1 := eq_wrs u5 u6 mx.W m0.W w6 (WrsIs.below y5 hb6) (ListIs.of_owns hO6) (by omega) (by omega)
     rw [decide_eq_true s2.out] at hE1
     replace hE1 := Lib.hid hE1
     clear hO6 hb6 y5
     (refine tdoO 6 (fun K hK => ?_); ((go_simp; refine hE1.out.mono ?_; rintro _ w7 ⟨rfl, hb7⟩); refine hK.out _ _ ?_ (fun hHeld => ?_); ((try dsimp only); exact ⟨bch hHeld.1 hb7, cell_below hb7 hHeld.2⟩); clear hK K; (try clear hHeld0); (try rename_i hHeld0)))
     clear hE1 hb7
     (refine tkO 7 ?_; refine tkO 8 ?_; refine tkO 9 ?_; refine tkO 11 ?_; refine tkO 12 ?_; refine tkO 13 ?_)
     (refine tdoO 10 (fun K hK => ?_); ((go_simp; refine (hBx.out _ hHeld.1).mono ?_; rintro _ w8 ⟨⟨u8, rfl, hO8⟩, hb8⟩); refine hK.out _ _ ?_ (fun hHeld => ?_); ((try dsimp only); exact ⟨bch hHeld.1 hb8, cell_below hb8 hHeld.2⟩); clear hK K; (try clear hHeld0); (try rename_i hHeld0)))
     have y8 : VecIs w8 u8 mx.H := ListIs.of_owns hO8
     clear hBx hO8 hb8
     (refine tdoO 14 (fun K hK => ?_); ((go_simp; refine (hB0.out _ hHeld.1).mono ?_; rintro _ w9 ⟨⟨u9, rfl, hO9⟩, hb9⟩); refine hK.out _ _ ?_ (fun hHeld => ?_); ((try dsimp only); exact ⟨bch hHeld.1 hb9, cell_below hb9 hHeld.2⟩); clear hK K; (try clear hHeld0); (try rename_i hHeld0)))
     have hE2 := eq_ent u8 u9 mx.H m0.H w9 (y8.below hb9) (ListIs.of_owns hO9) (by omega) (by omega)
     rw [decide_eq_true s1.out] at hE2
     replace hE2 := Lib.hid hE2
     clear hO9 hb9 y8
     (refine tdoO 15 (fun K hK => ?_); ((go_simp; refine hE2.out.mono ?_; rintro _ wa ⟨rfl, hba⟩); refine hK.out _ _ ?_ (fun hHeld => ?_); ((try dsimp only); exact ⟨bch hHeld.1 hba, cell_below hba hHeld.2⟩); clear hK K; (try clear hHeld0); (try rename_i hHeld0)))
     clear hE2 hba
     (refine tkO 16 ?_; refine tkO 17 ?_; refine tkO 18 ?_; refine tkO 19 ?_; refine tkO 21 ?_; refine tkO 22 ?_; refine tkO 23 ?_)
     (refine tdoO 20 (fun K hK => ?_); ((go_simp; refine (hC.out _ hHeld.1).mono ?_; rintro _ wb ⟨ub, Lb, rfl, hOb, hSb, hIb, hbb⟩); refine hK.out _ _ ?_ (fun hHeld => ?_); ((try dsimp only); exact ⟨bch hHeld.1 hbb, cell_below hbb hHeld.2⟩); clear hK K; (try clear hHeld0); (try rename_i hHeld0)))
     have yb := celL_of hOb hSb
     clear hC hOb hSb hbb
     (refine tdoO 24 (fun K hK => ?_); ((go_simp; refine (hC0.out _ hHeld.1).mono ?_; rintro _ wc ⟨uc, Lc, rfl, hOc, hSc, hIc, hbc⟩); refine hK.out _ _ ?_ (fun hHeld => ?_); ((try dsimp only); exact ⟨bch hHeld.1 hbc, cell_below hbc hHeld.2⟩); clear hK K; (try clear hHeld0); (try rename_i hHeld0)))
     have hIb' := hIb
     rw [s2.out] at hIb'
     obtain ⟨hn1, hn2⟩ := celB_le hR0.out (by omega) hIb'
     have hsc := Lib.hid (same_cells ub uc Lb Lc wc (yb.below hbc) (celL_of hOc hSc) (hIb'.unique hIc) hn1 hn2)
     clear hOc hSc hIb hIb' hIc hn1 hn2 yb hbc
     (refine tdoO 25 (fun K hK => ?_); ((go_simp; refine hsc.out.mono ?_; rintro _ wd ⟨rfl, hbd⟩); refine hK.out _ _ ?_ (fun hHeld => ?_); ((try dsimp only); exact ⟨bch hHeld.1 hbd, cell_below hbd hHeld.2⟩); clear hK K; (try clear hHeld0); (try rename_i hHeld0)))
     clear hsc hbd
     (refine tkO 26 ?_; refine tkO 27 ?_)
     (refine wpAnyH_done (by kernel_rfl) ?_ _)
     have hfin := Lib.hid hHeld.1
     clear hHeld hHeld0 hb e1 e0' hgl
     go_wp2
     go_roundw
     case rel => exact ⟨k + 1, by omega, by go_num, hfin.out⟩
     case measure => simp [intOf]; omega
    ·obtain rfl : k = N := by omega
     have hfin := Lib.hid (hbw.out.trans (hb.mono hbw.out.size))
     clear hb
     go_wp2
     go_ret
     exact ⟨rfl, hfin.out⟩
end Go.Proofs.YtdbpiabcpjgblaaGreatDoor
