/- Walks of what the laws over batches share: gathered. -/
import Derived.Test.YtpmedolndkidcaaDoorWSame
import Derived.Test.YtpmedolndkidcaaDoorWJoinV
namespace Go.Proofs.YtpmedolndkidcaaDoor
open Go.RowKit
set_option linter.unusedVariables false
set_option linter.unusedSimpArgs false
theorem one_right : Bat.right [] oneH [oneW.plain] = .ok := by decide +kernel
theorem one_wrong : Bat.right oneH oneH [oneW.plain] = .at_ 6 0 := by decide +kernel
set_option maxHeartbeats 8000000 in
set_option maxRecDepth 20000 in
theorem gathered (w : World) (hL : Laid w) : Calls Tryd.prog 39 #[] w fun e w' => e = .returned (.bool true) ∧ Below w.heap.size w w' := by
  have hO := fun W => keep_one W
  have hll : ∀ l : List WrB, l.length = 1 → l.length ≤ 140737488351232 := fun l h => by omega
  replace hO := Lib.hid hO
  go_enter Tryd.func39, Tryd.ntmps39
  go_wp2_with fail
  refine (hO.out _).mono ?_
  rintro _ w1 ⟨⟨vh, vw, rfl, hv1, hw1⟩, hb1⟩
  obtain ⟨o2, c2, e1, -, -⟩ := hv1.list.at entCells_len
  have e1 : vh = .slice o2 1 c2 := e1
  subst e1
  obtain ⟨o3, c3, e1, -, -⟩ := ListIs.at hw1 wrBCells_len
  have e1 : vw = .slice o3 1 c3 := e1
  subst e1
  replace hv1 := Lib.hid hv1
  replace hw1 := Lib.hid hw1
  go_wp2_with fail
  have q1 := row_at #[.slice none 0 0, .slice o2 1 c2, .slice o3 1 c3] 67 (rfl : w1.heap.size = w1.heap.size)
  have hb20 := bal (Below.refl w1.heap.size w1) (Obj.cells #[.slice none 0 0, .slice o2 1 c2, .slice o3 1 c3] 67)
  generalize w1.alloc (Obj.cells #[.slice none 0 0, .slice o2 1 c2, .slice o3 1 c3] 67) = w2 at *
  refine (hO.out _).mono ?_
  rintro _ w3 ⟨⟨vh, vw, rfl, hv3, hw3⟩, hb3⟩
  obtain ⟨p2, d2, e1, -, -⟩ := hv3.list.at entCells_len
  have e1 : vh = .slice p2 1 d2 := e1
  subst e1
  obtain ⟨p3, d3, e1, -, -⟩ := ListIs.at hw3 wrBCells_len
  have e1 : vw = .slice p3 1 d3 := e1
  subst e1
  replace q1 := q1.below hb3
  have hb13 : Below w1.heap.size w1 w3 := bch hb20 hb3
  replace hv3 := Lib.hid hv3
  replace hw3 := Lib.hid hw3
  clear hb20 hb3
  go_wp2_with fail
  replace q1 := q1.alloc (Obj.cells #[.slice p2 1 d2, .slice p2 1 d2, .slice p3 1 d3] 67)
  have q2 := row_at #[.slice p2 1 d2, .slice p2 1 d2, .slice p3 1 d3] 67 (rfl : w3.heap.size = w3.heap.size)
  have hb35 : Below w3.heap.size w3 (w3.alloc (Obj.cells #[.slice p2 1 d2, .slice p2 1 d2, .slice p3 1 d3] 67)) := bal (Below.refl _ _) _
  generalize w3.alloc (Obj.cells #[.slice p2 1 d2, .slice p2 1 d2, .slice p3 1 d3] 67) = w5 at *
  have hb15 : Below w1.heap.size w1 w5 := bch hb13 hb35
  have hb5 : Below w.heap.size w w5 := bch hb1 hb15
  have ha := Lib.hid (hv1.out.below hb15)
  have hb := Lib.hid (hw1.out.below hb15)
  have hc := Lib.hid (hv3.out.below hb35)
  have hd := Lib.hid (hw3.out.below hb35)
  clear hv1 hw1 hv3 hw3 hb13 hb15 hb35 hb1
  have hL5 := Lib.hid (hL.below hb5)
  have hRb : ∀ W, Below w5.heap.size w5 W → Calls Tryd.prog 43 #[.agg #[.slice none 0 0, .slice o2 1 c2, .slice o3 1 c3]] W fun e w' => e = .returned .nilIface ∧ Below W.heap.size W w' := fun W hW => (batch_right (.slice none 0 0) (.slice o2 1 c2) (.slice o3 1 c3) [] oneH [oneW] W (hL5.out.below hW) (vec_nil W none 0) (ha.out.below hW) (hb.out.below hW) (by decide) (by decide) (by decide)).mono fun e w' ⟨v, h1, h2, h3⟩ => by
    rw [show ([oneW].map WrB.plain) = [oneW.plain] from rfl, one_right] at h2
    have h2 : v = .nilIface := h2
    exact ⟨h2 ▸ h1, h3⟩
  have hRc : ∀ W, Below w5.heap.size w5 W → Calls Tryd.prog 43 #[.agg #[.slice p2 1 d2, .slice p2 1 d2, .slice p3 1 d3]] W fun e w' => (∃ g, e = .returned (.iface 91 (.pointer (some ⟨g, 0, none⟩))) ∧ Row w' g 93 [.int .i64 6, .int .i64 0]) ∧ Below W.heap.size W w' := fun W hW => (batch_right (.slice p2 1 d2) (.slice p2 1 d2) (.slice p3 1 d3) oneH oneH [oneW] W (hL5.out.below hW) (hc.out.below hW) (hc.out.below hW) (hd.out.below hW) (by decide) (by decide) (by decide)).mono fun e w' ⟨v, h1, h2, h3⟩ => by
    rw [show ([oneW].map WrB.plain) = [oneW.plain] from rfl, one_wrong] at h2
    obtain ⟨g, h4, h5⟩ := h2
    exact ⟨⟨g, h4 ▸ h1, h5⟩, h3⟩
  have hT := fun g W (hW : Below w5.heap.size w5 W) (hr : Row W g 93 [.int .i64 6, .int .i64 0]) => tell_err (.iface 91 (.pointer (some ⟨g, 0, none⟩))) (.at_ 6 0) W (hL5.out.below hW) ⟨g, rfl, hr⟩
  have hSy := fun vh vw W (hW : Below w5.heap.size w5 W) (h1 : VecIs W vh oneH) (h2 : WrsIs W vw [oneW]) => same_yes (.slice none 0 0) (.slice o2 1 c2) (.slice o3 1 c3) (.slice none 0 0) vh vw [] oneH [oneW] W (vec_nil W none 0) (ha.out.below hW) (hb.out.below hW) (vec_nil W none 0) h1 h2 (by decide) (by decide) (by decide)
  have hSn := fun W (hW : Below w5.heap.size w5 W) => same_no (.slice none 0 0) (.slice o2 1 c2) (.slice o3 1 c3) (.slice p2 1 d2) (.slice p2 1 d2) (.slice p3 1 d3) [] oneH W (vec_nil W none 0) (hc.out.below hW) (by decide) (by decide) (by decide) ⟨_, _, _, rfl⟩ ⟨_, _, _, rfl⟩ ⟨_, _, _, rfl⟩ ⟨_, _, _, rfl⟩
  replace hRb := Lib.hid hRb
  replace hRc := Lib.hid hRc
  replace hT := Lib.hid hT
  replace hSy := Lib.hid hSy
  replace hSn := Lib.hid hSn
  generalize w1.heap.size = g1 at *
  generalize w3.heap.size = g3 at *
  have r1 := q1.drew
  have r3 := q2.drew
  (have x0 := r1.cell 0; have x1 := r1.cell 1; have x2 := r1.cell 2; simp only [List.set_cons_succ, List.set_cons_zero, List.getElem?_cons_zero, List.getElem?_cons_succ] at x0 x1 x2)
  (have y0 := r3.cell 0; have y1 := r3.cell 1; have y2 := r3.cell 2; simp only [List.set_cons_succ, List.set_cons_zero, List.getElem?_cons_zero, List.getElem?_cons_succ] at y0 y1 y2)
  clear q1 q2 r1 r3
  (refine wp_region_held_drew (S := (fun W => Below w5.heap.size w5 W ∧ W.cell? ⟨g1, 0, none⟩ = some (.slice none 0 0) ∧ W.cell? ⟨g1, 1, none⟩ = some (.slice o2 1 c2) ∧ W.cell? ⟨g1, 2, none⟩ = some (.slice o3 1 c3) ∧ W.cell? ⟨g3, 0, none⟩ = some (.slice p2 1 d2) ∧ W.cell? ⟨g3, 1, none⟩ = some (.slice p2 1 d2) ∧ W.cell? ⟨g3, 2, none⟩ = some (.slice p3 1 d3))) (by kernel_rfl) ?_ (fun hHeld => ?_); ((try dsimp only); exact ⟨bdr (Below.refl _ _), x0, x1, x2, y0, y1, y2⟩))
  (refine held_take (i := 0) (v := ?_) rfl (by kernel_rfl) (by kernel_rfl) (by kernel_rfl) (fun _ _ _ h => h) (by kernel_rfl) (by assumption) ?_ ?_; rotate_left; (focus (intro w hSw; (try unfold SC at hSw); (try unfold FC at hSw); (try unfold LC at hSw); (try unfold TC at hSw); (try unfold MC at hSw); (try unfold BC at hSw); (try unfold RC at hSw); (try unfold KC at hSw); (try unfold KD at hSw); (try dsimp only at hSw); go_simp; (try with_reducible rfl); done)); (simp only [Act.put, List.setIfInBounds_toArray, List.set_cons_zero, List.set_cons_succ]))
  (refine wpAnyH_ready (P := Tryd.prog) (md := .any) (rs := [1]) (by kernel_rfl) (by simp) ?_; refine held_cons rfl (by kernel_rfl) (fun K hK => ?_) AllReadyH.nil; ((go_simp; refine (hRb.out _ hHeld.1).mono ?_; rintro _ wn ⟨rfl, hbn⟩); refine hK.out _ _ ?_ (fun hHeld => ?_); ((try dsimp only); exact ⟨bch hHeld.1 hbn, cell_below hbn hHeld.2.1, cell_below hbn hHeld.2.2.1, cell_below hbn hHeld.2.2.2.1, cell_below hbn hHeld.2.2.2.2.1, cell_below hbn hHeld.2.2.2.2.2.1, cell_below hbn hHeld.2.2.2.2.2.2⟩); clear hK K; (try clear hHeld0); (try rename_i hHeld0)))
  (refine held_take (i := 2) (v := ?_) rfl (by kernel_rfl) (by kernel_rfl) (by kernel_rfl) (fun _ _ _ h => h) (by kernel_rfl) (by assumption) ?_ ?_; rotate_left; (focus (intro w hSw; (try unfold SC at hSw); (try unfold FC at hSw); (try unfold LC at hSw); (try unfold TC at hSw); (try unfold MC at hSw); (try unfold BC at hSw); (try unfold RC at hSw); (try unfold KC at hSw); (try unfold KD at hSw); (try dsimp only at hSw); go_simp; (try with_reducible rfl); done)); (simp only [Act.put, List.setIfInBounds_toArray, List.set_cons_zero, List.set_cons_succ]); refine held_take (i := 3) (v := ?_) rfl (by kernel_rfl) (by kernel_rfl) (by kernel_rfl) (fun _ _ _ h => h) (by kernel_rfl) (by assumption) ?_ ?_; rotate_left; (focus (intro w hSw; (try unfold SC at hSw); (try unfold FC at hSw); (try unfold LC at hSw); (try unfold TC at hSw); (try unfold MC at hSw); (try unfold BC at hSw); (try unfold RC at hSw); (try unfold KC at hSw); (try unfold KD at hSw); (try dsimp only at hSw); go_simp; (try with_reducible rfl); done)); (simp only [Act.put, List.setIfInBounds_toArray, List.set_cons_zero, List.set_cons_succ]); refine held_take (i := 4) (v := ?_) rfl (by kernel_rfl) (by kernel_rfl) (by kernel_rfl) (fun _ _ _ h => h) (by kernel_rfl) (by assumption) ?_ ?_; rotate_left; (focus (intro w hSw; (try unfold SC at hSw); (try unfold FC at hSw); (try unfold LC at hSw); (try unfold TC at hSw); (try unfold MC at hSw); (try unfold BC at hSw); (try unfold RC at hSw); (try unfold KC at hSw); (try unfold KD at hSw); (try dsimp only at hSw); go_simp; (try with_reducible rfl); done)); (simp only [Act.put, List.setIfInBounds_toArray, List.set_cons_zero, List.set_cons_succ]))
  (refine wpAnyH_ready (P := Tryd.prog) (md := .any) (rs := [5]) (by kernel_rfl) (by simp) ?_; refine held_cons rfl (by kernel_rfl) (fun K hK => ?_) AllReadyH.nil; ((go_simp; refine (hRc.out _ hHeld.1).mono ?_; rintro _ wn ⟨⟨ga, rfl, hrow⟩, hbn⟩); refine hK.out _ _ ?_ (fun hHeld => ?_); ((try dsimp only); exact ⟨bch hHeld.1 hbn, cell_below hbn hHeld.2.1, cell_below hbn hHeld.2.2.1, cell_below hbn hHeld.2.2.2.1, cell_below hbn hHeld.2.2.2.2.1, cell_below hbn hHeld.2.2.2.2.2.1, cell_below hbn hHeld.2.2.2.2.2.2⟩); clear hK K; (try clear hHeld0); (try rename_i hHeld0)))
  (refine wpAnyH_ready (P := Tryd.prog) (md := .any) (rs := [6]) (by kernel_rfl) (by simp) ?_; refine held_cons rfl (by kernel_rfl) (fun K hK => ?_) AllReadyH.nil; ((go_simp; refine (hT.out _ _ hHeld.1 hrow).mono ?_; rintro _ wn ⟨rfl, hbn⟩); refine hK.out _ _ ?_ (fun hHeld => ?_); ((try dsimp only); exact ⟨bch hHeld.1 hbn, cell_below hbn hHeld.2.1, cell_below hbn hHeld.2.2.1, cell_below hbn hHeld.2.2.2.1, cell_below hbn hHeld.2.2.2.2.1, cell_below hbn hHeld.2.2.2.2.2.1, cell_below hbn hHeld.2.2.2.2.2.2⟩); clear hK K; (try clear hHeld0); (try rename_i hHeld0)))
  (refine held_take (i := 7) (v := ?_) rfl (by kernel_rfl) (by kernel_rfl) (by kernel_rfl) (fun _ _ _ h => h) (by kernel_rfl) (by assumption) ?_ ?_; rotate_left; (focus (intro w hSw; (try unfold SC at hSw); (try unfold FC at hSw); (try unfold LC at hSw); (try unfold TC at hSw); (try unfold MC at hSw); (try unfold BC at hSw); (try unfold RC at hSw); (try unfold KC at hSw); (try unfold KD at hSw); (try dsimp only at hSw); go_simp; (try with_reducible rfl); done)); (simp only [Act.put, List.setIfInBounds_toArray, List.set_cons_zero, List.set_cons_succ]); refine held_take (i := 8) (v := ?_) rfl (by kernel_rfl) (by kernel_rfl) (by kernel_rfl) (fun _ _ _ h => h) (by kernel_rfl) (by assumption) ?_ ?_; rotate_left; (focus (intro w hSw; (try unfold SC at hSw); (try unfold FC at hSw); (try unfold LC at hSw); (try unfold TC at hSw); (try unfold MC at hSw); (try unfold BC at hSw); (try unfold RC at hSw); (try unfold KC at hSw); (try unfold KD at hSw); (try dsimp only at hSw); go_simp; (try with_reducible rfl); done)); (simp only [Act.put, List.setIfInBounds_toArray, List.set_cons_zero, List.set_cons_succ]); refine held_take (i := 9) (v := ?_) rfl (by kernel_rfl) (by kernel_rfl) (by kernel_rfl) (fun _ _ _ h => h) (by kernel_rfl) (by assumption) ?_ ?_; rotate_left; (focus (intro w hSw; (try unfold SC at hSw); (try unfold FC at hSw); (try unfold LC at hSw); (try unfold TC at hSw); (try unfold MC at hSw); (try unfold BC at hSw); (try unfold RC at hSw); (try unfold KC at hSw); (try unfold KD at hSw); (try dsimp only at hSw); go_simp; (try with_reducible rfl); done)); (simp only [Act.put, List.setIfInBounds_toArray, List.set_cons_zero, List.set_cons_succ]); refine held_take (i := 10) (v := ?_) rfl (by kernel_rfl) (by kernel_rfl) (by kernel_rfl) (fun _ _ _ h => h) (by kernel_rfl) (by assumption) ?_ ?_; rotate_left; (focus (intro w hSw; (try unfold SC at hSw); (try unfold FC at hSw); (try unfold LC at hSw); (try unfold TC at hSw); (try unfold MC at hSw); (try unfold BC at hSw); (try unfold RC at hSw); (try unfold KC at hSw); (try unfold KD at hSw); (try dsimp only at hSw); go_simp; (try with_reducible rfl); done)); (simp only [Act.put, List.setIfInBounds_toArray, List.set_cons_zero, List.set_cons_succ]))
  (refine wpAnyH_ready (P := Tryd.prog) (md := .any) (rs := [11]) (by kernel_rfl) (by simp) ?_; refine held_cons rfl (by kernel_rfl) (fun K hK => ?_) AllReadyH.nil; ((go_simp; refine (hO.out _).mono ?_; rintro _ wn ⟨⟨vh, vw, rfl, hv9, hw9⟩, hbn⟩); refine hK.out _ _ ?_ (fun hHeld => ?_); ((try dsimp only); exact ⟨bch hHeld.1 hbn, cell_below hbn hHeld.2.1, cell_below hbn hHeld.2.2.1, cell_below hbn hHeld.2.2.2.1, cell_below hbn hHeld.2.2.2.2.1, cell_below hbn hHeld.2.2.2.2.2.1, cell_below hbn hHeld.2.2.2.2.2.2⟩); clear hK K; (try clear hHeld0); (try rename_i hHeld0)))
  (refine wpAnyH_ready (P := Tryd.prog) (md := .any) (rs := [12]) (by kernel_rfl) (by simp) ?_; refine held_cons rfl (by kernel_rfl) (fun K hK => ?_) AllReadyH.nil; ((go_simp; refine (hSy.out _ _ _ hHeld.1 hv9 hw9).mono ?_; rintro _ wn ⟨rfl, hbn⟩); refine hK.out _ _ ?_ (fun hHeld => ?_); ((try dsimp only); exact ⟨bch hHeld.1 hbn, cell_below hbn hHeld.2.1, cell_below hbn hHeld.2.2.1, cell_below hbn hHeld.2.2.2.1, cell_below hbn hHeld.2.2.2.2.1, cell_below hbn hHeld.2.2.2.2.2.1, cell_below hbn hHeld.2.2.2.2.2.2⟩); clear hK K; (try clear hHeld0); (try rename_i hHeld0)))
  (refine held_take (i := 13) (v := ?_) rfl (by kernel_rfl) (by kernel_rfl) (by kernel_rfl) (fun _ _ _ h => h) (by kernel_rfl) (by assumption) ?_ ?_; rotate_left; (focus (intro w hSw; (try unfold SC at hSw); (try unfold FC at hSw); (try unfold LC at hSw); (try unfold TC at hSw); (try unfold MC at hSw); (try unfold BC at hSw); (try unfold RC at hSw); (try unfold KC at hSw); (try unfold KD at hSw); (try dsimp only at hSw); go_simp; (try with_reducible rfl); done)); (simp only [Act.put, List.setIfInBounds_toArray, List.set_cons_zero, List.set_cons_succ]); refine held_take (i := 14) (v := ?_) rfl (by kernel_rfl) (by kernel_rfl) (by kernel_rfl) (fun _ _ _ h => h) (by kernel_rfl) (by assumption) ?_ ?_; rotate_left; (focus (intro w hSw; (try unfold SC at hSw); (try unfold FC at hSw); (try unfold LC at hSw); (try unfold TC at hSw); (try unfold MC at hSw); (try unfold BC at hSw); (try unfold RC at hSw); (try unfold KC at hSw); (try unfold KD at hSw); (try dsimp only at hSw); go_simp; (try with_reducible rfl); done)); (simp only [Act.put, List.setIfInBounds_toArray, List.set_cons_zero, List.set_cons_succ]); refine held_take (i := 15) (v := ?_) rfl (by kernel_rfl) (by kernel_rfl) (by kernel_rfl) (fun _ _ _ h => h) (by kernel_rfl) (by assumption) ?_ ?_; rotate_left; (focus (intro w hSw; (try unfold SC at hSw); (try unfold FC at hSw); (try unfold LC at hSw); (try unfold TC at hSw); (try unfold MC at hSw); (try unfold BC at hSw); (try unfold RC at hSw); (try unfold KC at hSw); (try unfold KD at hSw); (try dsimp only at hSw); go_simp; (try with_reducible rfl); done)); (simp only [Act.put, List.setIfInBounds_toArray, List.set_cons_zero, List.set_cons_succ]); refine held_take (i := 16) (v := ?_) rfl (by kernel_rfl) (by kernel_rfl) (by kernel_rfl) (fun _ _ _ h => h) (by kernel_rfl) (by assumption) ?_ ?_; rotate_left; (focus (intro w hSw; (try unfold SC at hSw); (try unfold FC at hSw); (try unfold LC at hSw); (try unfold TC at hSw); (try unfold MC at hSw); (try unfold BC at hSw); (try unfold RC at hSw); (try unfold KC at hSw); (try unfold KD at hSw); (try dsimp only at hSw); go_simp; (try with_reducible rfl); done)); (simp only [Act.put, List.setIfInBounds_toArray, List.set_cons_zero, List.set_cons_succ]))
  (refine wpAnyH_ready (P := Tryd.prog) (md := .any) (rs := [17]) (by kernel_rfl) (by simp) ?_; refine held_cons rfl (by kernel_rfl) (fun K hK => ?_) AllReadyH.nil; ((go_simp; refine (hSn.out _ hHeld.1).mono ?_; rintro _ wn ⟨rfl, hbn⟩); refine hK.out _ _ ?_ (fun hHeld => ?_); ((try dsimp only); exact ⟨bch hHeld.1 hbn, cell_below hbn hHeld.2.1, cell_below hbn hHeld.2.2.1, cell_below hbn hHeld.2.2.2.1, cell_below hbn hHeld.2.2.2.2.1, cell_below hbn hHeld.2.2.2.2.2.1, cell_below hbn hHeld.2.2.2.2.2.2⟩); clear hK K; (try clear hHeld0); (try rename_i hHeld0)))
  (refine held_take (i := 18) (v := ?_) rfl (by kernel_rfl) (by kernel_rfl) (by kernel_rfl) (fun _ _ _ h => h) (by kernel_rfl) (by assumption) ?_ ?_; rotate_left; (focus (intro w hSw; (try unfold SC at hSw); (try unfold FC at hSw); (try unfold LC at hSw); (try unfold TC at hSw); (try unfold MC at hSw); (try unfold BC at hSw); (try unfold RC at hSw); (try unfold KC at hSw); (try unfold KD at hSw); (try dsimp only at hSw); go_simp; (try with_reducible rfl); done)); (simp only [Act.put, List.setIfInBounds_toArray, List.set_cons_zero, List.set_cons_succ]); refine held_take (i := 19) (v := ?_) rfl (by kernel_rfl) (by kernel_rfl) (by kernel_rfl) (fun _ _ _ h => h) (by kernel_rfl) (by assumption) ?_ ?_; rotate_left; (focus (intro w hSw; (try unfold SC at hSw); (try unfold FC at hSw); (try unfold LC at hSw); (try unfold TC at hSw); (try unfold MC at hSw); (try unfold BC at hSw); (try unfold RC at hSw); (try unfold KC at hSw); (try unfold KD at hSw); (try dsimp only at hSw); go_simp; (try with_reducible rfl); done)); (simp only [Act.put, List.setIfInBounds_toArray, List.set_cons_zero, List.set_cons_succ]); refine held_take (i := 20) (v := ?_) rfl (by kernel_rfl) (by kernel_rfl) (by kernel_rfl) (fun _ _ _ h => h) (by kernel_rfl) (by assumption) ?_ ?_; rotate_left; (focus (intro w hSw; (try unfold SC at hSw); (try unfold FC at hSw); (try unfold LC at hSw); (try unfold TC at hSw); (try unfold MC at hSw); (try unfold BC at hSw); (try unfold RC at hSw); (try unfold KC at hSw); (try unfold KD at hSw); (try dsimp only at hSw); go_simp; (try with_reducible rfl); done)); (simp only [Act.put, List.setIfInBounds_toArray, List.set_cons_zero, List.set_cons_succ]))
  (refine wpAnyH_done (by kernel_rfl) ?_ _)
  have hbf := bch hb5 hHeld.1
  go_wp2
  go_ret
  exact ⟨rfl, hbf⟩
end Go.Proofs.YtpmedolndkidcaaDoor
