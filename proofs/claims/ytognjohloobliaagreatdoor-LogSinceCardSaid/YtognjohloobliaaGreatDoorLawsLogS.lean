/- The walk of the law LogSince. -/
import Derived.Test.YtognjohloobliaaGreatDoorK45
import Derived.Test.YtognjohloobliaaGreatDoorK28
import Derived.Test.YtognjohloobliaaGreatDoorK20
import Derived.Test.YtognjohloobliaaGreatDoorK34
namespace Go.Proofs.YtognjohloobliaaGreatDoor
open Go.RowKit
set_option linter.unusedVariables false
set_option linter.unusedSimpArgs false
set_option maxHeartbeats 8000000 in
set_option maxRecDepth 20000 in
theorem LogSince_walk (a : Int) (v : Value) (l : List ActB) (vr : Value) (fr : List Vec.Entry) (w : World) (w0 : (Lit.int .i64 a).wf = true) (hv : ListIs actCells 9 w v l) (q : ∀ x ∈ l, ActOk x) (z : l.length ≤ 140737488351232) (hfr : ListIs entCells 2 w vr fr) (qf : ∀ x ∈ fr, (Lit.int .i64 x.r).wf = true ∧ (Lit.int .i64 x.t).wf = true) (zf : fr.length ≤ 140737488351232) (hL : Laid w) :
  Calls Tryz.prog 5 #[.int .i64 a, v, vr] w fun e w' => e = .returned (.bool true) ∧ Below w.heap.size w w' := by
 have hLg := Lib.hid (keep_logged w hL)
 have hX0 := Lib.hid (fun W (hW : Below w.heap.size w W) => ordered W)
 have hSm := Lib.hid (fun W (hW : Below w.heap.size w W) => keep_small v l W (hv.below (by omega) hW) z (fun x hx => ⟨(q x hx).2.2.1, (q x hx).2.2.2.1⟩))
 have hPk := Lib.hid (fun W => keep_pick a 5 5 W rfl (by omega) (by omega))
 obtain ⟨N, hN⟩ : ∃ N, N = 1 + pickN a 5 := ⟨_, rfl⟩
 have hplt := pickN_lt a 5 (by omega)
 have wN : IntKind.i64.wrap (1 + (pickN a 5 : Int)) = (N : Int) := by rw [IntWalk.i64_in _ (by omega)]; omega
 have hN1 : 1 ≤ N := by omega
 have hN5 : N ≤ 5 := by omega
 have hPa := Lib.hid (fun W (hW : Below w.heap.size w W) (hs : smallB l = true) => keep_party N v l W (hL.below hW) hN1 hN5 (hv.below (by omega) hW) (by unfold smallB at hs; simp only [Bool.and_eq_true, decide_eq_true_eq] at hs; exact hs.2))
 generalize pickN a 5 = pk at *
 obtain ⟨ov, cv, rfl, -, -⟩ := ListIs.at hv actCells_len
 have hl60 : smallB l = true → l.length ≤ 60 := fun hs => by unfold smallB at hs; simp only [Bool.and_eq_true, decide_eq_true_eq] at hs; exact hs.2
 clear hN hplt w0 hv q
 generalize smallB l = sm at *
 go_enter Tryz.func5, Tryz.ntmps5
 go_wp2_with fail
 refine hLg.out.mono ?_
 rintro _ w1 ⟨rfl, hb1⟩
 clear hLg
 go_wp2_with fail
 refine (hX0.out _ hb1).mono ?_
 rintro _ wx0 ⟨rfl, hx0⟩
 replace hb1 := bch hb1 hx0
 clear hx0 hX0
 go_wp2_with fail
 refine (hSm.out _ hb1).mono ?_
 rintro _ w2 ⟨rfl, hb2⟩
 have hbw2 := bch hb1 hb2
 clear hSm hb1 hb2
 cases sm with
 | false =>
  go_wp2
  go_ret
  exact ⟨rfl, by exact blw⟩
 | true =>
 have hPa1 := Lib.hid (hPa.out w2 hbw2 rfl)
 replace hl60 := hl60 rfl
 clear hPa
 go_wp2_with fail
 refine (hPk.out _).mono ?_
 rintro _ _ ⟨rfl, rfl⟩
 clear hPk
 go_wp2_with fail
 refine hPa1.out.mono ?_
 rintro _ w3 ⟨⟨u, rfl, ls, G, hV, hln, hPt, hGl⟩, hb23⟩
 have hbase := hbw2.size
 have hbw3 := hbw2.trans (hb23.mono hbase)
 have hG : G.length ≤ 60 := by omega
 obtain ⟨B, hB⟩ : ∃ B, B = w2.heap.size := ⟨_, rfl⟩
 have hB3 : B ≤ w3.heap.size := hB ▸ hb23.size
 rw [← hB] at hV hbase
 obtain ⟨ou, cu, rfl⟩ := owns_slice_ hV.at_
 obtain ⟨g, rfl, -⟩ := owns_pos hV.at_ (by omega)
 rw [hln] at hV ⊢
 clear hPa1 hb23 hbw2 hB hGl
 have h0 : 0 < ls.length := by omega
 obtain ⟨ok0, a0, -⟩ := hPt.ok 0 (by simpa using h0)
 have hlen0 : ls[0].m.W.length ≤ 60 := Nat.le_trans (Lg.len_le (b := G) (by rwa [List.getElem_map] at a0) fun x hx => ((hPt.has 0 (by simpa using h0) x).1 (by rw [List.getElem_map]; exact hx)).1) hG
 rw [List.getElem_map] at ok0 a0
 have hlg0 := hV.logs.each 0 h0
 have e0 : w3.cell? ⟨g, 0, none⟩ = some (.pointer (some ⟨ls[0].p, 0, none⟩)) := by
  have hO := hV.at_
  rw [hln] at hO
  rw [hO.cellAt 0 (by omega), List.getElem?_map, List.getElem?_eq_getElem h0]; rfl
 have hgl := (hV.at_.lt g rfl).2
 clear hV hPt
 generalize ls[0] = A at *
 obtain ⟨p0, m0, hv0, wv0⟩ := A
 (try simp only at ok0 a0 hlg0 e0 hlen0)
 have hF0 := (Vec.right_iff _).1 ok0.have_
 have hH16 := hF0.len
 obtain ⟨orr, cr, rfl, -, -⟩ := ListIs.at hfr entCells_len
 have hVr := fun W (hW : Below w.heap.size w W) => show VecIs W (.slice orr fr.length cr) fr from ListIs.below hfr (by omega) hW
 have hNp : 0 < N := by omega
 replace hVr := Lib.hid hVr
 clear hfr qf
 by_cases hyes : Vec.right fr = .ok ∧ Vec.Covers m0.H fr
 ·obtain ⟨hr1, hc1⟩ := hyes
  obtain ⟨s1, s2⟩ := Lg.sent_all (m := m0) (f := fr) (Nat.le_trans (List.length_filter_le _ _) hlen0)
  have hbat := Lg.sent_fine ok0 a0 hr1 hc1
  rw [s1, s2] at hbat
  have hSi := Lib.hid (logs_since_ok (hL.below hbw3) (Logs.one hlg0) (i := 0) (by simp) p0 rfl m0 rfl ok0 (hVr.out w3 hbw3) zf hr1 hc1 _ _ s2 s1)
  have hkn := Lib.hid ok0.known
  have hnl := List.length_filter_le (Lg.new_ fr) m0.W
  obtain ⟨ws, hws⟩ : ∃ ws, ws = m0.W.filter (Lg.new_ fr) := ⟨_, rfl⟩
  rw [← hws] at hSi hbat hnl
  have hfl := ((Vec.right_iff _).1 hr1).len
  replace hws := Lib.hid hws
  replace hlg0 := Lib.hid hlg0
  replace hbw3 := Lib.hid hbw3
  replace ok0 := Lib.hid ok0
  replace a0 := Lib.hid a0
  replace hF0 := Lib.hid hF0
  replace hbat := Lib.hid hbat
  replace hr1 := Lib.hid hr1
  replace hc1 := Lib.hid hc1
  clear s1 s2
  go_wp2_with fail
  refine hSi.out.mono ?_
  rintro _ w4 ⟨⟨vf, vh, vw, rfl, hf, hh, hw⟩, hb4⟩
  have hVf : VecIs w4 vf fr := ListIs.of_owns hf
  have hVh : VecIs w4 vh m0.H := ListIs.of_owns hh
  have hVw : WrsIs w4 vw ws := ListIs.of_owns hw
  obtain ⟨of, cf, rfl⟩ := owns_slice_ hf
  obtain ⟨oh, ch, rfl⟩ := owns_slice_ hh
  obtain ⟨ow, cw, rfl⟩ := owns_slice_ hw
  have hb34 := Lib.hid hb4
  clear hSi hf hh hw e0 hgl hb4
  have hWr := Lib.hid (fun W (hW : Below w3.heap.size w3 W) => log_writes B p0 m0 hv0 wv0 W (hlg0.out.below hW) (by omega))
  have hHv := Lib.hid (fun W (hW : Below w3.heap.size w3 W) => log_have B p0 m0 hv0 wv0 W (hlg0.out.below hW) (by omega))
  go_wp2_with fail
  have hb45 : Below w4.heap.size w4 (w4.alloc (Obj.cells #[.slice of fr.length cf, .slice oh m0.H.length ch, .slice ow ws.length cw] 25)) := by exact blw
  obtain ⟨gb, hgb⟩ : ∃ g, g = w4.heap.size := ⟨_, rfl⟩
  have q5 := row_at (w := w4) (g := gb) #[.slice of fr.length cf, .slice oh m0.H.length ch, .slice ow ws.length cw] 25 hgb
  rw [← hgb]
  generalize w4.alloc (Obj.cells #[.slice of fr.length cf, .slice oh m0.H.length ch, .slice ow ws.length cw] 25) = w5 at *
  replace hgb := Lib.hid hgb
  refine (hWr.out _ (bch hb34.out hb45)).mono ?_
  rintro _ w6 ⟨⟨u6, rfl, hO6⟩, hb6⟩
  have hV6 : WrsIs w6 u6 m0.W := ListIs.of_owns hO6
  obtain ⟨o6, c6, rfl, -, hcw⟩ := ListIs.at hV6 wrBCells_len
  have hb46 := bch hb45 hb6
  have hVf6 := Lib.hid (hVf.below hb46)
  have hVh6 := Lib.hid (hVh.below hb46)
  have hVw6 := Lib.hid (WrsIs.below hVw hb46)
  have hb36 := Lib.hid (bch hb34.out hb46)
  have q6 := Lib.hid (q5.below hb6)
  replace hcw := Lib.hid hcw
  clear hO6 hV6 hVf hVh hVw hb45 hb46 hb6 q5 hWr hb34
  go_wp2
  go_loopw [12, 64] (fun s i wr => ∃ k : Nat, k ≤ m0.W.length ∧ i = .int .i64 k ∧ wr.ownsRow w6.heap.size 33 6 s ((m0.W.take k).filter (Lg.new_ fr)).length (((m0.W.take k).filter (Lg.new_ fr)).flatMap wrBCells) ∧ Below w6.heap.size w6 wr) (fun _ i _ => m0.W.length - (intOf i).toNat)
  case atStart => exact ⟨0, by omega, rfl, World.ownsRow_nil _ _ _ _, Below.refl _ _⟩
  case round =>
   obtain ⟨k, hk, rfl, hO, hb⟩ := hrel
   by_cases hlt : k < m0.W.length
   ·obtain ⟨b1, f1, rfl, hb1, hc1⟩ := hcw.out k hlt
    have hb1 := hb1 (by omega)
    have hsz := hb.size
    have g1 : ∀ (j : Nat) (u : Value), (wrBCells m0.W[k])[j]? = some u → wr.cell? ⟨b1, f1 + k * 6 + j, none⟩ = some u := fun j u hu => (hb.cell (p := ⟨b1, f1 + k * 6 + j, none⟩) hb1).trans (hc1 j u hu)
    have hnx := Lg.news_snoc (f := fr) hlt
    have hlk : ((m0.W.take k).filter (Lg.new_ fr)).length ≤ 60 := Nat.le_trans (List.length_filter_le _ _) (by rw [List.length_take]; omega)
    have hwi : within m0.W[k].t m0.W[k].r fr m0.H = Lg.new_ fr m0.W[k] := by
     unfold within Lg.new_
     rw [decide_eq_true (hkn.out _ (List.getElem_mem hlt)), Bool.and_true]
    generalize m0.W[k] = x at *
    obtain ⟨t, r, kd, key, val, n⟩ := x
    have d0 : wr.cell? ⟨b1, f1 + k * 6, none⟩ = some (.int .i64 t) := g1 0 _ rfl
    have d1 : wr.cell? ⟨b1, f1 + k * 6 + 1, none⟩ = some (.int .i64 r) := g1 1 _ rfl
    have d2 : wr.cell? ⟨b1, f1 + k * 6 + 2, none⟩ = some (.int .i64 kd) := g1 2 _ rfl
    have d3 : wr.cell? ⟨b1, f1 + k * 6 + 3, none⟩ = some (.string key) := g1 3 _ rfl
    have d4 : wr.cell? ⟨b1, f1 + k * 6 + 4, none⟩ = some (.string val) := g1 4 _ rfl
    have d5 : wr.cell? ⟨b1, f1 + k * 6 + 5, none⟩ = some (.int .i64 n) := g1 5 _ rfl
    have hbl : b1 < wr.heap.size := by omega
    have q7 := q6.out.below hb
    obtain ⟨e0, e1, e2⟩ := q7.c3
    have hgb := q7.lt
    clear g1 hc1 q7
    replace hnx := Lib.hid hnx
    obtain ⟨oo, oc, rfl⟩ := owns_slice_ hO
    have hI := fun W (hW : Below wr.heap.size wr W) => ident_within t r _ _ fr m0.H W (hVr.out W (bch (bch hbw3.out (bch hb36.out hb)) hW)) (hVh6.out.below (bch hb hW))
    (try simp only at hwi)
    rw [hwi] at hI
    replace hI := Lib.hid hI
    replace hb := Lib.hid hb
    replace hO := Lib.hid hO
    clear hwi
    go_wp2_with fail
    have q2 := row_at (w := wr) (g := wr.heap.size) #[.int .i64 t, .int .i64 r, .int .i64 kd, .string key, .string val, .int .i64 n] 33 rfl
    have hb2 : Below wr.heap.size wr (wr.alloc (Obj.cells #[.int .i64 t, .int .i64 r, .int .i64 kd, .string key, .string val, .int .i64 n] 33)) := bal (Below.refl _ _) _
    generalize wr.alloc (Obj.cells #[.int .i64 t, .int .i64 r, .int .i64 kd, .string key, .string val, .int .i64 n] 33) = w7 at *
    refine (hI.out _ hb2).mono ?_
    rintro _ w8 ⟨rfl, hb8⟩
    replace q2 := q2.below hb8
    replace hb2 := bch hb2 hb8
    have hs8 : w6.heap.size ≤ w8.heap.size := Nat.le_trans hb.out.size hb2.size
    have hO8 := Lib.hid (owns_below hO.out hb2)
    have hb68 := Lib.hid (bch hb.out hb2)
    clear hb8 d0 d1 d2 d3 d4 d5 hI hO e0 e1 e2 hgb
    generalize hnv : Lg.new_ fr ⟨t, r, kd, key, val, n⟩ = nv at *
    have hnx1 := hnx.out
    (try rw [hnv] at hnx1)
    clear hnx hnv
    cases nv with
    | true =>
     replace hnx1 := Lib.hid hnx1
     obtain ⟨c0, c1, c2, c3, c4, c5⟩ := q2.c6
     go_wp2_with ((at_builtin; go_must (refine app_one rfl _ _ 23 33 rfl (w6.heap.size) (.agg #[.int .i64 0, .int .i64 0, .int .i64 0, .string ⟨#[]⟩, .string ⟨#[]⟩, .int .i64 0]) 6 64 Tryz.underlying23 (by kernel_rfl) rfl _ _ _ rfl hO8.out _ rfl rfl ?_ (by omega) (by omega) hs8 ?_)); (focus (intro u hu; simp only [List.mem_cons, List.not_mem_nil, or_false] at hu; rcases hu with rfl | rfl | rfl | rfl | rfl | rfl <;> rfl)); intro v9 w9 hO9 hg9 hbk9 hne9 hb9)
     go_roundw
     case rel =>
      have hnx2 := hnx1.out
      simp only [if_true] at hnx2
      refine ⟨k + 1, by omega, by go_num, ?_, hb68.out.trans hb9⟩
      rw [hnx2, List.length_append, List.flatMap_append, List.flatMap_cons, List.flatMap_nil, List.append_nil]; exact hO9
     case measure => simp [intOf]; omega
    | false =>
     replace hnx1 := Lib.hid hnx1
     go_wp2
     go_roundw
     case rel =>
      have hnx2 := hnx1.out
      simp only [if_false, Bool.false_eq_true] at hnx2
      refine ⟨k + 1, by omega, by go_num, ?_, hb68.out⟩
      rw [hnx2]; exact hO8.out
     case measure => simp [intOf]; omega
   ·obtain rfl : k = m0.W.length := by omega
    rw [List.take_length, ← hws.out] at hO
    obtain ⟨os, cs, rfl⟩ := owns_slice_ hO
    have hVs : WrsIs wr _ ws := ListIs.of_owns hO
    have hb3r := bch hb36.out hb
    have hbwr := bch hbw3.out hb3r
    have hBR := Lib.hid (fun W (hW : Below wr.heap.size wr W) => batch_ok _ _ _ fr m0.H ws W (hL.below (bch hbwr hW)) (hVf6.out.below (bch hb hW)) (hVh6.out.below (bch hb hW)) (WrsIs.below hVw6.out (bch hb hW)) zf (by omega) (by omega) hbat.out)
    have hE1 := Lib.hid (fun W (hW : Below wr.heap.size wr W) => eq_ent_same _ _ fr W (hVf6.out.below (bch hb hW)) (hVr.out W (bch hbwr hW)) zf)
    have hE2 := Lib.hid (fun W (hW : Below wr.heap.size wr W) => eq_wrs_same _ _ ws W (WrsIs.below hVw6.out (bch hb hW)) (WrsIs.below hVs hW) (by omega))
    have hVhr := hVh6.out.below hb
    have q7 := q6.out.below hb
    obtain ⟨e0, e1, e2⟩ := q7.c3
    have hgb' := q7.lt
    replace hVhr := Lib.hid hVhr
    replace hb3r := Lib.hid hb3r
    replace hbwr := Lib.hid hbwr
    clear q7 hO hVs hcw hVf6 hVw6 hVh6 hb36 hbat hVr hb
    go_wp2_with fail
    have hS0 : Below wr.heap.size wr wr.drew ∧ wr.drew.cell? ⟨gb, 0, none⟩ = some (.slice of fr.length cf) ∧ wr.drew.cell? ⟨gb, 1, none⟩ = some (.slice oh m0.H.length ch) ∧ wr.drew.cell? ⟨gb, 2, none⟩ = some (.slice ow ws.length cw) := ⟨bdr (Below.refl _ _), e0, e1, e2⟩
    (refine wp_region_held_drew (S := (fun W => Below wr.heap.size wr W ∧ W.cell? ⟨gb, 0, none⟩ = some (.slice of fr.length cf) ∧ W.cell? ⟨gb, 1, none⟩ = some (.slice oh m0.H.length ch) ∧ W.cell? ⟨gb, 2, none⟩ = some (.slice ow ws.length cw))) (by kernel_rfl) ?_ (fun hHeld => ?_); ((try dsimp only); exact hS0))
    clear hS0
    (refine tkO 0 ?_)
    (refine tdoO 1 (fun K hK => ?_); ((go_simp; refine (hBR.out _ hHeld.1).mono ?_; rintro _ w7 ⟨rfl, hb7⟩); refine hK.out _ _ ?_ (fun hHeld => ?_); ((try dsimp only); exact ⟨bch hHeld.1 hb7, cell_below hb7 hHeld.2.1, cell_below hb7 hHeld.2.2.1, cell_below hb7 hHeld.2.2.2⟩); clear hK K; (try clear hHeld0); (try rename_i hHeld0)))
    clear hb7 hBR
    (refine tkO 2 ?_; refine tkO 3 ?_; refine tkO 4 ?_; refine tkO 5 ?_; refine tkO 6 ?_)
    (refine tdoO 7 (fun K hK => ?_); ((go_simp; refine (hE1.out _ hHeld.1).mono ?_; rintro _ w8 ⟨rfl, hb8⟩); refine hK.out _ _ ?_ (fun hHeld => ?_); ((try dsimp only); exact ⟨bch hHeld.1 hb8, cell_below hb8 hHeld.2.1, cell_below hb8 hHeld.2.2.1, cell_below hb8 hHeld.2.2.2⟩); clear hK K; (try clear hHeld0); (try rename_i hHeld0)))
    clear hb8 hE1
    (refine tkO 8 ?_; refine tkO 9 ?_; refine tkO 10 ?_; refine tkO 11 ?_; refine tkO 12 ?_)
    (refine tdoO 13 (fun K hK => ?_); ((go_simp; refine (hE2.out _ hHeld.1).mono ?_; rintro _ w9 ⟨rfl, hb9⟩); refine hK.out _ _ ?_ (fun hHeld => ?_); ((try dsimp only); exact ⟨bch hHeld.1 hb9, cell_below hb9 hHeld.2.1, cell_below hb9 hHeld.2.2.1, cell_below hb9 hHeld.2.2.2⟩); clear hK K; (try clear hHeld0); (try rename_i hHeld0)))
    clear hb9 hE2
    (refine tkO 14 ?_; refine tkO 15 ?_; refine tkO 16 ?_; refine tkO 18 ?_; refine tkO 19 ?_)
    (refine tdoO 17 (fun K hK => ?_); ((go_simp; refine (hHv.out _ (bch hb3r.out hHeld.1)).mono ?_; rintro _ wa ⟨⟨ua, rfl, hOa⟩, hba⟩); refine hK.out _ _ ?_ (fun hHeld => ?_); ((try dsimp only); exact ⟨bch hHeld.1 hba, cell_below hba hHeld.2.1, cell_below hba hHeld.2.2.1, cell_below hba hHeld.2.2.2⟩); clear hK K; (try clear hHeld0); (try rename_i hHeld0)))
    have hCv := Lib.hid (covers_same ua _ m0.H wa (ListIs.of_owns hOa) (hVhr.out.below hHeld.1) ok0.out.have_ (by omega))
    clear hOa hba
    (refine tdoO 20 (fun K hK => ?_); ((go_simp; refine hCv.out.mono ?_; rintro _ wb ⟨rfl, hbb⟩); refine hK.out _ _ ?_ (fun hHeld => ?_); ((try dsimp only); exact ⟨bch hHeld.1 hbb, cell_below hbb hHeld.2.1, cell_below hbb hHeld.2.2.1, cell_below hbb hHeld.2.2.2⟩); clear hK K; (try clear hHeld0); (try rename_i hHeld0)))
    clear hbb hCv
    by_cases h60 : ws.length = 60
    ·have hd60 : ((ws.length : Int) == 60) = true := by rw [h60]; rfl
     have hd61 : (ws.length : Int) = 60 := by omega
     (refine tkO 21 ?_; refine tkO 22 ?_; refine tkO 23 ?_; refine tkO 24 ?_; refine tkO 25 ?_; refine tkO 26 ?_; refine tkO 27 ?_)
     (refine tofO 28 ?_; refine tofO 29 ?_; refine tofO 30 ?_; refine tofO 31 ?_; refine tofO 32 ?_)
     (refine tkO 33 ?_; refine tkO 34 ?_; refine tkO 35 ?_)
     (refine wpAnyH_done (by kernel_rfl) ?_ _)
     have hfin := Lib.hid (bch hbwr.out hHeld.1)
     clear hHeld hHeld0
     go_wp2
     go_ret
     exact ⟨rfl, hfin.out⟩
    ·have hd60 : ((ws.length : Int) == 60) = false := by simp; omega
     have hd61 : ¬ (ws.length : Int) = 60 := by omega
     (refine tkO 21 ?_; refine tkO 22 ?_; refine tkO 23 ?_; refine tkO 24 ?_; refine tkO 25 ?_; refine tkO 26 ?_; refine tkO 27 ?_; refine tkO 28 ?_; refine tkO 29 ?_; refine tkO 30 ?_)
     (refine tdoO 31 (fun K hK => ?_); ((go_simp; refine (hHv.out _ (bch hb3r.out hHeld.1)).mono ?_; rintro _ wc ⟨⟨uc, rfl, hOc⟩, hbc⟩); refine hK.out _ _ ?_ (fun hHeld => ?_); ((try dsimp only); exact ⟨bch hHeld.1 hbc, cell_below hbc hHeld.2.1, cell_below hbc hHeld.2.2.1, cell_below hbc hHeld.2.2.2⟩); clear hK K; (try clear hHeld0); (try rename_i hHeld0)))
     have hE3 := Lib.hid (eq_ent_same _ uc m0.H wc (hVhr.out.below hHeld.1) (ListIs.of_owns hOc) (by omega))
     clear hOc hbc
     (refine tdoO 32 (fun K hK => ?_); ((go_simp; refine hE3.out.mono ?_; rintro _ wd ⟨rfl, hbd⟩); refine hK.out _ _ ?_ (fun hHeld => ?_); ((try dsimp only); exact ⟨bch hHeld.1 hbd, cell_below hbd hHeld.2.1, cell_below hbd hHeld.2.2.1, cell_below hbd hHeld.2.2.2⟩); clear hK K; (try clear hHeld0); (try rename_i hHeld0)))
     clear hbd hE3
     (refine tkO 33 ?_; refine tkO 34 ?_; refine tkO 35 ?_)
     (refine wpAnyH_done (by kernel_rfl) ?_ _)
     have hfin := Lib.hid (bch hbwr.out hHeld.1)
     clear hHeld hHeld0
     go_wp2
     go_ret
     exact ⟨rfl, hfin.out⟩
 ·have hSi := Lib.hid (logs_since_no (hL.below hbw3) (Logs.one hlg0) (i := 0) (by simp) p0 rfl m0 rfl ok0 (hVr.out w3 hbw3) zf (by
   by_cases h1 : Vec.right fr = .ok
   ·exact .inr fun h2 => hyes ⟨h1, h2⟩
   ·exact .inl h1))
  replace hlg0 := Lib.hid hlg0
  replace hbw3 := Lib.hid hbw3
  replace ok0 := Lib.hid ok0
  replace a0 := Lib.hid a0
  replace hF0 := Lib.hid hF0
  replace hyes := Lib.hid hyes
  go_wp2_with fail
  refine hSi.out.mono ?_
  rintro _ w4 ⟨⟨c, rfl⟩, hb4⟩
  have hSm := Lib.hid (fun W => same_any (.slice none 0 0) (.slice none 0 0) (.slice none 0 0) (.slice none 0 0) (.slice none 0 0) (.slice none 0 0) [] [] [] [] [] [] W (ListIs.nil _ _ _) (ListIs.nil _ _ _) (ListIs.nil _ _ _) (ListIs.nil _ _ _) (ListIs.nil _ _ _) (ListIs.nil _ _ _) (by simp) (by simp) (by simp) (by simp) (by simp) (by simp))
  have hb34 := Lib.hid hb4
  clear hSi e0 hgl hb4
  go_wp2_with fail
  have hb45 : Below w4.heap.size w4 (w4.alloc (Obj.cells #[.slice none 0 0, .slice none 0 0, .slice none 0 0] 25)) := by exact blw
  generalize w4.alloc (Obj.cells #[.slice none 0 0, .slice none 0 0, .slice none 0 0] 25) = w5 at *
  have hb35 := Lib.hid (bch hb34.out hb45)
  refine (hSm.out _).mono ?_
  rintro _ w6 ⟨rfl, hb6⟩
  rw [sameB_self]
  have hb36 := bch hb35.out hb6
  have hRt := Lib.hid (vector_right _ fr w6 (hVr.out w6 (bch hbw3.out hb36)) zf)
  have hHv := Lib.hid (fun W (hW : Below w3.heap.size w3 W) => log_have B p0 m0 hv0 wv0 W (hlg0.out.below hW) (by omega))
  have hCv := Lib.hid (fun u W (hW : Below w.heap.size w W) (hu : VecIs W u m0.H) => vector_covers u _ m0.H fr W hu (hVr.out W hW) (by omega) zf)
  replace hb36 := Lib.hid hb36
  clear hSm hb34 hb45 hb35 hb6
  go_wp2_with fail
  refine hRt.out.mono ?_
  rintro _ w7 ⟨v7, rfl, hv7, hb7⟩
  have hb37 := Lib.hid (bch hb36.out hb7)
  by_cases h1 : Vec.right fr = .ok
  ·rw [h1] at hv7
   have hv7 : v7 = .nilIface := hv7
   subst hv7
   have hno : coversB m0.H fr = false := by
    rw [Bool.eq_false_iff]; intro e
    exact hyes.out ⟨h1, (Lg.covB ok0.out.have_ h1).1 e⟩
   replace h1 := Lib.hid h1
   clear hRt hb7
   go_wp2_with fail
   refine (hHv.out _ hb37.out).mono ?_
   rintro _ w8 ⟨⟨u8, rfl, hO8⟩, hb8⟩
   have hb38 := bch hb37.out hb8
   have hCv8 := hCv.out u8 w8 (bch hbw3.out hb38) (ListIs.of_owns hO8)
   rw [hno] at hCv8
   replace hCv8 := Lib.hid hCv8
   replace hb38 := Lib.hid hb38
   clear hHv hCv hO8 hb8 hno
   go_wp2_with fail
   refine hCv8.out.mono ?_
   rintro _ w9 ⟨rfl, hb9⟩
   go_wp2
   go_ret
   exact ⟨rfl, bch hbw3.out (bch hb38.out hb9)⟩
  ·obtain ⟨te, xe, rfl⟩ := errNe hv7 h1
   replace h1 := Lib.hid h1
   replace hv7 := Lib.hid hv7
   go_wp2
   go_ret
   exact ⟨rfl, bch hbw3.out hb37.out⟩
end Go.Proofs.YtognjohloobliaaGreatDoor
