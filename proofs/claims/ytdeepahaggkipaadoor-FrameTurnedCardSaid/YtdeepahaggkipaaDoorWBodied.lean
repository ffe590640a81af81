/- The walk of keep.bodied. -/
import Derived.Test.YtdeepahaggkipaaDoorWBodyR2
import Derived.Test.YtdeepahaggkipaaDoorWBodyW
import Derived.Test.YtdeepahaggkipaaDoorWSame
namespace Go.Proofs.YtdeepahaggkipaaDoor
open Go.RowKit
set_option linter.unusedVariables false
set_option linter.unusedSimpArgs false
theorem b_right : Bat.right [] oneH [oneW.plain] = .ok := by decide +kernel
theorem b_list : bodyOf [] oneH [oneW] = [0, 1, 3, 0, 7, 1, 1, 107, 1, 1, 7, 0, 0, 1, 118] := by decide +kernel
theorem b_read : Body.read [0, 1, 3, 0, 7, 1, 1, 107, 1, 1, 7, 0, 0, 1, 118] = .ok ([], oneH, [oneW.plain]) := by
  have := Body.read_write b_right
  rw [show Body.write [] oneH [oneW.plain] = bodyOf [] oneH [oneW] from rfl, b_list] at this
  exact this
theorem b_of : WrB.of oneW.plain = oneW := rfl
set_option maxHeartbeats 8000000 in
set_option maxRecDepth 20000 in
theorem bodied (w : World) (hL : Laid w) : Calls Tryd.prog 21 #[] w fun e w' => e = .returned (.bool true) ∧ Below w.heap.size w w' := by
  have hO := fun W => keep_one W
  have hW := fun vh vw W (hL : Laid W) (h1 : VecIs W vh oneH) (h2 : WrsIs W vw [oneW]) => body_write_ok (.slice none 0 0) vh vw [] oneH [oneW] W hL (vec_nil W none 0) h1 h2 (by decide) (by decide) (by decide) b_right
  rw [b_list] at hW
  rw [if_neg (by decide)] at hW
  have hR := fun W (hL : Laid W) => body_read ⟨[0, 1, 3, 0, 7, 1, 1, 107, 1, 1, 7, 0, 0, 1, 118].toArray⟩ W (by decide) hL
  unfold BodyGot at hR
  rw [show (ByteArray.mk [0, 1, 3, 0, 7, 1, 1, 107, 1, 1, 7, 0, 0, 1, 118].toArray).data.toList = [0, 1, 3, 0, 7, 1, 1, 107, 1, 1, 7, 0, 0, 1, 118] from rfl, b_read] at hR
  simp only [List.map_cons, List.map_nil, b_of] at hR
  replace hO := Lib.hid hO
  replace hW := Lib.hid hW
  replace hR := Lib.hid hR
  go_enter Tryd.func21, Tryd.ntmps21
  go_wp2_with fail
  refine (hO.out _).mono ?_
  rintro _ w1 ⟨⟨vh, vw, rfl, hv1, hw1⟩, hb1⟩
  have hWr := Lib.hid (hW.out vh vw w1 (hL.below hb1) hv1 hw1)
  clear hv1 hw1
  go_wp2_with fail
  refine hWr.out.mono ?_
  rintro _ w2 ⟨rfl, hb2⟩
  replace hb1 := bch hb1 hb2
  have hRd := Lib.hid (hR.out w2 (hL.below hb1))
  clear hWr
  go_wp2_with fail
  refine hRd.out.mono ?_
  rintro _ w3 ⟨⟨vf3, vh3, vw3, rfl, hf3, hh3, hw3⟩, hb3⟩
  obtain ⟨o1, c1, rfl, -, -⟩ := hf3.list.at entCells_len
  obtain ⟨o2, c2, e1, -, -⟩ := hh3.list.at entCells_len
  have e1 : vh3 = .slice o2 1 c2 := e1
  subst e1
  obtain ⟨o3, c3, e1, -, -⟩ := ListIs.at hw3 wrBCells_len
  have e1 : vw3 = .slice o3 1 c3 := e1
  subst e1
  replace hb1 := bch hb1 hb3
  replace hf3 := Lib.hid hf3
  replace hh3 := Lib.hid hh3
  replace hw3 := Lib.hid hw3
  clear hRd hb2 hb3 hR hW
  go_wp2_with fail
  have q1 := row_at #[.slice o1 0 c1, .slice o2 1 c2, .slice o3 1 c3] 25 (rfl : w3.heap.size = w3.heap.size)
  have hb4 := bal (Below.refl w3.heap.size w3) (Obj.cells #[.slice o1 0 c1, .slice o2 1 c2, .slice o3 1 c3] 25)
  generalize w3.alloc (Obj.cells #[.slice o1 0 c1, .slice o2 1 c2, .slice o3 1 c3] 25) = w5 at *
  have hb5 : Below w.heap.size w w5 := bch hb1 hb4
  have ha := Lib.hid (hf3.out.below hb4)
  have hb := Lib.hid (hh3.out.below hb4)
  have hc := Lib.hid (hw3.out.below hb4)
  have hSy := fun vh vw W (hW : Below w5.heap.size w5 W) (h1 : VecIs W vh oneH) (h2 : WrsIs W vw [oneW]) => same_yes (.slice o1 0 c1) (.slice o2 1 c2) (.slice o3 1 c3) (.slice none 0 0) vh vw [] oneH [oneW] W (ha.out.below hW) (hb.out.below hW) (hc.out.below hW) (vec_nil W none 0) h1 h2 (by decide) (by decide) (by decide)
  replace hSy := Lib.hid hSy
  clear hf3 hh3 hw3 hb4 hb1
  generalize w3.heap.size = g1 at *
  have r1 := q1.drew
  (have x0 := r1.cell 0; have x1 := r1.cell 1; have x2 := r1.cell 2; simp only [List.set_cons_succ, List.set_cons_zero, List.getElem?_cons_zero, List.getElem?_cons_succ] at x0 x1 x2)
  clear q1 r1
  (refine wp_region_held_drew (S := (fun W => Below w5.heap.size w5 W ∧ W.cell? ⟨g1, 0, none⟩ = some (.slice o1 0 c1) ∧ W.cell? ⟨g1, 1, none⟩ = some (.slice o2 1 c2) ∧ W.cell? ⟨g1, 2, none⟩ = some (.slice o3 1 c3))) (by kernel_rfl) ?_ (fun hHeld => ?_); ((try dsimp only); exact ⟨bdr (Below.refl _ _), x0, x1, x2⟩))
  (refine held_take (i := 0) (v := ?_) rfl (by kernel_rfl) (by kernel_rfl) (by kernel_rfl) (fun _ _ _ h => h) (by kernel_rfl) (by assumption) ?_ ?_; rotate_left; (focus (intro w hSw; (try unfold SC at hSw); (try unfold FC at hSw); (try unfold MC at hSw); (try unfold BC at hSw); (try unfold RC at hSw); (try unfold KC at hSw); (try unfold KD at hSw); (try dsimp only at hSw); go_simp; (try with_reducible rfl); done)); (simp only [Act.put, List.setIfInBounds_toArray, List.set_cons_zero, List.set_cons_succ]); refine held_take (i := 1) (v := ?_) rfl (by kernel_rfl) (by kernel_rfl) (by kernel_rfl) (fun _ _ _ h => h) (by kernel_rfl) (by assumption) ?_ ?_; rotate_left; (focus (intro w hSw; (try unfold SC at hSw); (try unfold FC at hSw); (try unfold MC at hSw); (try unfold BC at hSw); (try unfold RC at hSw); (try unfold KC at hSw); (try unfold KD at hSw); (try dsimp only at hSw); go_simp; (try with_reducible rfl); done)); (simp only [Act.put, List.setIfInBounds_toArray, List.set_cons_zero, List.set_cons_succ]); refine held_take (i := 2) (v := ?_) rfl (by kernel_rfl) (by kernel_rfl) (by kernel_rfl) (fun _ _ _ h => h) (by kernel_rfl) (by assumption) ?_ ?_; rotate_left; (focus (intro w hSw; (try unfold SC at hSw); (try unfold FC at hSw); (try unfold MC at hSw); (try unfold BC at hSw); (try unfold RC at hSw); (try unfold KC at hSw); (try unfold KD at hSw); (try dsimp only at hSw); go_simp; (try with_reducible rfl); done)); (simp only [Act.put, List.setIfInBounds_toArray, List.set_cons_zero, List.set_cons_succ]); refine held_take (i := 3) (v := ?_) rfl (by kernel_rfl) (by kernel_rfl) (by kernel_rfl) (fun _ _ _ h => h) (by kernel_rfl) (by assumption) ?_ ?_; rotate_left; (focus (intro w hSw; (try unfold SC at hSw); (try unfold FC at hSw); (try unfold MC at hSw); (try unfold BC at hSw); (try unfold RC at hSw); (try unfold KC at hSw); (try unfold KD at hSw); (try dsimp only at hSw); go_simp; (try with_reducible rfl); done)); (simp only [Act.put, List.setIfInBounds_toArray, List.set_cons_zero, List.set_cons_succ]); refine held_take (i := 4) (v := ?_) rfl (by kernel_rfl) (by kernel_rfl) (by kernel_rfl) (fun _ _ _ h => h) (by kernel_rfl) (by assumption) ?_ ?_; rotate_left; (focus (intro w hSw; (try unfold SC at hSw); (try unfold FC at hSw); (try unfold MC at hSw); (try unfold BC at hSw); (try unfold RC at hSw); (try unfold KC at hSw); (try unfold KD at hSw); (try dsimp only at hSw); go_simp; (try with_reducible rfl); done)); (simp only [Act.put, List.setIfInBounds_toArray, List.set_cons_zero, List.set_cons_succ]); refine held_take (i := 5) (v := ?_) rfl (by kernel_rfl) (by kernel_rfl) (by kernel_rfl) (fun _ _ _ h => h) (by kernel_rfl) (by assumption) ?_ ?_; rotate_left; (focus (intro w hSw; (try unfold SC at hSw); (try unfold FC at hSw); (try unfold MC at hSw); (try unfold BC at hSw); (try unfold RC at hSw); (try unfold KC at hSw); (try unfold KD at hSw); (try dsimp only at hSw); go_simp; (try with_reducible rfl); done)); (simp only [Act.put, List.setIfInBounds_toArray, List.set_cons_zero, List.set_cons_succ]); refine held_take (i := 6) (v := ?_) rfl (by kernel_rfl) (by kernel_rfl) (by kernel_rfl) (fun _ _ _ h => h) (by kernel_rfl) (by assumption) ?_ ?_; rotate_left; (focus (intro w hSw; (try unfold SC at hSw); (try unfold FC at hSw); (try unfold MC at hSw); (try unfold BC at hSw); (try unfold RC at hSw); (try unfold KC at hSw); (try unfold KD at hSw); (try dsimp only at hSw); go_simp; (try with_reducible rfl); done)); (simp only [Act.put, List.setIfInBounds_toArray, List.set_cons_zero, List.set_cons_succ]); refine held_take (i := 7) (v := ?_) rfl (by kernel_rfl) (by kernel_rfl) (by kernel_rfl) (fun _ _ _ h => h) (by kernel_rfl) (by assumption) ?_ ?_; rotate_left; (focus (intro w hSw; (try unfold SC at hSw); (try unfold FC at hSw); (try unfold MC at hSw); (try unfold BC at hSw); (try unfold RC at hSw); (try unfold KC at hSw); (try unfold KD at hSw); (try dsimp only at hSw); go_simp; (try with_reducible rfl); done)); (simp only [Act.put, List.setIfInBounds_toArray, List.set_cons_zero, List.set_cons_succ]); refine held_take (i := 8) (v := ?_) rfl (by kernel_rfl) (by kernel_rfl) (by kernel_rfl) (fun _ _ _ h => h) (by kernel_rfl) (by assumption) ?_ ?_; rotate_left; (focus (intro w hSw; (try unfold SC at hSw); (try unfold FC at hSw); (try unfold MC at hSw); (try unfold BC at hSw); (try unfold RC at hSw); (try unfold KC at hSw); (try unfold KD at hSw); (try dsimp only at hSw); go_simp; (try with_reducible rfl); done)); (simp only [Act.put, List.setIfInBounds_toArray, List.set_cons_zero, List.set_cons_succ]); refine held_take (i := 9) (v := ?_) rfl (by kernel_rfl) (by kernel_rfl) (by kernel_rfl) (fun _ _ _ h => h) (by kernel_rfl) (by assumption) ?_ ?_; rotate_left; (focus (intro w hSw; (try unfold SC at hSw); (try unfold FC at hSw); (try unfold MC at hSw); (try unfold BC at hSw); (try unfold RC at hSw); (try unfold KC at hSw); (try unfold KD at hSw); (try dsimp only at hSw); go_simp; (try with_reducible rfl); done)); (simp only [Act.put, List.setIfInBounds_toArray, List.set_cons_zero, List.set_cons_succ]); refine held_take (i := 10) (v := ?_) rfl (by kernel_rfl) (by kernel_rfl) (by kernel_rfl) (fun _ _ _ h => h) (by kernel_rfl) (by assumption) ?_ ?_; rotate_left; (focus (intro w hSw; (try unfold SC at hSw); (try unfold FC at hSw); (try unfold MC at hSw); (try unfold BC at hSw); (try unfold RC at hSw); (try unfold KC at hSw); (try unfold KD at hSw); (try dsimp only at hSw); go_simp; (try with_reducible rfl); done)); (simp only [Act.put, List.setIfInBounds_toArray, List.set_cons_zero, List.set_cons_succ]); refine held_take (i := 11) (v := ?_) rfl (by kernel_rfl) (by kernel_rfl) (by kernel_rfl) (fun _ _ _ h => h) (by kernel_rfl) (by assumption) ?_ ?_; rotate_left; (focus (intro w hSw; (try unfold SC at hSw); (try unfold FC at hSw); (try unfold MC at hSw); (try unfold BC at hSw); (try unfold RC at hSw); (try unfold KC at hSw); (try unfold KD at hSw); (try dsimp only at hSw); go_simp; (try with_reducible rfl); done)); (simp only [Act.put, List.setIfInBounds_toArray, List.set_cons_zero, List.set_cons_succ]))
  (refine wpAnyH_ready (P := Tryd.prog) (md := .any) (rs := [12]) (by kernel_rfl) (by simp) ?_; refine held_cons rfl (by kernel_rfl) (fun K hK => ?_) AllReadyH.nil; ((go_simp; refine (hO.out _).mono ?_; rintro _ wn ⟨⟨vh, vw, rfl, hv9, hw9⟩, hbn⟩); refine hK.out _ _ ?_ (fun hHeld => ?_); ((try dsimp only); exact ⟨bch hHeld.1 hbn, cell_below hbn hHeld.2.1, cell_below hbn hHeld.2.2.1, cell_below hbn hHeld.2.2.2⟩); clear hK K; (try clear hHeld0); (try rename_i hHeld0)))
  (refine wpAnyH_ready (P := Tryd.prog) (md := .any) (rs := [13]) (by kernel_rfl) (by simp) ?_; refine held_cons rfl (by kernel_rfl) (fun K hK => ?_) AllReadyH.nil; ((go_simp; refine (hSy.out _ _ _ hHeld.1 hv9 hw9).mono ?_; rintro _ wn ⟨rfl, hbn⟩); refine hK.out _ _ ?_ (fun hHeld => ?_); ((try dsimp only); exact ⟨bch hHeld.1 hbn, cell_below hbn hHeld.2.1, cell_below hbn hHeld.2.2.1, cell_below hbn hHeld.2.2.2⟩); clear hK K; (try clear hHeld0); (try rename_i hHeld0)))
  (refine held_take (i := 14) (v := ?_) rfl (by kernel_rfl) (by kernel_rfl) (by kernel_rfl) (fun _ _ _ h => h) (by kernel_rfl) (by assumption) ?_ ?_; rotate_left; (focus (intro w hSw; (try unfold SC at hSw); (try unfold FC at hSw); (try unfold MC at hSw); (try unfold BC at hSw); (try unfold RC at hSw); (try unfold KC at hSw); (try unfold KD at hSw); (try dsimp only at hSw); go_simp; (try with_reducible rfl); done)); (simp only [Act.put, List.setIfInBounds_toArray, List.set_cons_zero, List.set_cons_succ]); refine held_take (i := 15) (v := ?_) rfl (by kernel_rfl) (by kernel_rfl) (by kernel_rfl) (fun _ _ _ h => h) (by kernel_rfl) (by assumption) ?_ ?_; rotate_left; (focus (intro w hSw; (try unfold SC at hSw); (try unfold FC at hSw); (try unfold MC at hSw); (try unfold BC at hSw); (try unfold RC at hSw); (try unfold KC at hSw); (try unfold KD at hSw); (try dsimp only at hSw); go_simp; (try with_reducible rfl); done)); (simp only [Act.put, List.setIfInBounds_toArray, List.set_cons_zero, List.set_cons_succ]))
  (refine wpAnyH_done (by kernel_rfl) ?_ _)
  have hbf := bch hb5 hHeld.1
  go_wp2
  go_ret
  exact ⟨rfl, hbf⟩
end Go.Proofs.YtdeepahaggkipaaDoor
