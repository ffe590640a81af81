/- The walk of keep.framed. -/
import Derived.Test.YtdeepahaggkipaaDoorWFrameR
import Derived.Test.YtdeepahaggkipaaDoorWSame
import Derived.Test.YtdeepahaggkipaaDoorWBodied
import Derived.Test.YtdeepahaggkipaaDoorShelf
namespace Go.Proofs.YtdeepahaggkipaaDoor
open Go.RowKit
set_option linter.unusedVariables false
set_option linter.unusedSimpArgs false
def fb : List UInt8 := [0, 1, 3, 0, 7, 1, 1, 107, 1, 1, 7, 0, 0, 1, 118]
theorem fb_toks : Match.tokens fb = [Match.ownTok fb 0 15] := by
  unfold Match.tokens
  iterate 15 rw [Match.toks_none (by decide) (by decide +kernel)]
  rw [Match.toks, if_neg (by decide), if_pos (by decide)]
  rfl
theorem fb_squeeze : (Frame.squeeze fb).length = 16 := by
  unfold Frame.squeeze
  rw [fb_toks]
  have h : (Match.ownTok fb 0 15).own.size = 15 := by decide +kernel
  have h2 : (Match.ownTok fb 0 15).own.data.toList.length = 15 := by decide +kernel
  have hp : (Lz.put (Match.ownTok fb 0 15)).length = 16 := by
    unfold Lz.put
    rw [if_pos (by rw [h]; decide), h, List.length_append, h2, Vary.put_small (by omega)]
    rfl
  show ([Match.ownTok fb 0 15].flatMap Lz.put).length = 16
  rw [List.flatMap_cons, List.flatMap_nil, List.append_nil, hp]
theorem fb_kept : Frame.kept fb = (0, fb) := by
  unfold Frame.kept
  rw [fb_squeeze, if_neg (by decide)]
theorem fr_list : Frame.write [] oneH [oneW.plain] = Crc.seal_ ([80, 84, 3, 0, 15] ++ fb) := by
  unfold Frame.write
  rw [show Body.write [] oneH [oneW.plain] = fb from b_list]
  unfold Frame.around Frame.inside
  rw [fb_kept, show fb.length = 15 from rfl, Vary.put_small (by omega)]
  rfl
theorem fr_len : (Frame.write [] oneH [oneW.plain]).length = 24 := by rw [fr_list, Crc.seal_len']; rfl
theorem fr_pre : Lib.hasPrefix (Frame.write [] oneH [oneW.plain]) [80, 84, 3, 0, 15, 0, 1, 3] = true := by
  rw [fr_list, show Crc.seal_ ([80, 84, 3, 0, 15] ++ fb) = [80, 84, 3, 0, 15, 0, 1, 3] ++ ([0, 7, 1, 1, 107, 1, 1, 7, 0, 0, 1, 118] ++ Crc.four (Crc.sum ([80, 84, 3, 0, 15] ++ fb))) from rfl]
  simp [Lib.hasPrefix]
theorem fr_version : Frame.version (Frame.write [] oneH [oneW.plain]) = .inr 3 := by
  unfold Frame.write
  exact Frame.version_around 3 _ (by decide) (by decide) (by unfold Frame.inside; simp)
theorem fr_readB : Frame.readB (Frame.write [] oneH [oneW.plain]) = some ([], oneH, [oneW.plain]) :=
  Frame.readB_write b_right (by rw [show Body.write [] oneH [oneW.plain] = fb from b_list]; decide)
set_option maxHeartbeats 8000000 in
set_option maxRecDepth 20000 in
theorem framed (w : World) (hL : Laid w) : Calls Tryd.prog 10 #[] w fun e w' => e = .returned (.bool true) ∧ Below w.heap.size w w' := by
  have hO := fun W => keep_one W
  obtain ⟨FB, hFB⟩ : ∃ l, l = Frame.write [] oneH [oneW.plain] := ⟨_, rfl⟩
  have hFl : FB.length = 24 := by rw [hFB]; exact fr_len
  have hbl : (bodyOf [] oneH [oneW]).length ≤ 20000 := by rw [b_list]; decide
  have hW := fun vh vw W (hL : Laid W) (h1 : VecIs W vh oneH) (h2 : WrsIs W vw [oneW]) => frame_write_all (.slice none 0 0) vh vw [] oneH [oneW] W hL (vec_nil W none 0) h1 h2 (by decide) (by decide) (by decide)
  have hFW : ∀ s E, FW [] oneH [oneW] s E → E = .nilIface ∧ s = ⟨FB.toArray⟩ := fun s E hf => by
    rcases hf with ⟨h1, -, -, h4⟩ | ⟨-, h2, -⟩
    · exact ⟨h1, by rw [h4, hFB]; rfl⟩
    · exact absurd ⟨b_right, hbl⟩ h2
  have hV := fun W => frame_version ⟨FB.toArray⟩ W (by rw [ba_size]; omega)
  rw [show (ByteArray.mk FB.toArray).data.toList = FB from rfl, show Frame.version FB = .inr 3 by rw [hFB]; exact fr_version] at hV
  unfold verVal at hV
  have hR := fun W (hL : Laid W) => frame_read ⟨FB.toArray⟩ W (by rw [ba_size]; omega) hL
  unfold FrameGot at hR
  rw [show (ByteArray.mk FB.toArray).data.toList = FB from rfl, show Frame.readB FB = some ([], oneH, [oneW.plain]) by rw [hFB]; exact fr_readB] at hR
  simp only at hR
  simp only [if_pos hFB.symm] at hR
  simp only [List.map_cons, List.map_nil, b_of] at hR
  have hHP := fun W => Tryd.strings_HasPrefix ⟨FB.toArray⟩ ⟨#[80, 84, 3, 0, 15, 0, 1, 3]⟩ W
  rw [show Lib.hasPrefix (ByteArray.mk FB.toArray).data.toList (ByteArray.mk #[80, 84, 3, 0, 15, 0, 1, 3]).data.toList = true by rw [hFB]; exact fr_pre] at hHP
  replace hO := Lib.hid hO
  replace hW := Lib.hid hW
  replace hFW := Lib.hid hFW
  replace hV := Lib.hid hV
  replace hR := Lib.hid hR
  replace hHP := Lib.hid hHP
  replace hFB := Lib.hid hFB
  clear hbl
  go_enter Tryd.func10, Tryd.ntmps10
  go_wp2_with fail
  refine (hO.out _).mono ?_
  rintro _ w1 ⟨⟨vh, vw, rfl, hv1, hw1⟩, hb1⟩
  have hWr := Lib.hid (hW.out vh vw w1 (hL.below hb1) hv1 hw1)
  clear hv1 hw1
  go_wp2_with fail
  refine hWr.out.mono ?_
  rintro _ w2 ⟨⟨s, E, rfl, hfw⟩, hb2⟩
  obtain ⟨rfl, rfl⟩ := hFW.out s E hfw
  replace hb1 := bch hb1 hb2
  clear hWr hfw
  go_wp2_with fail
  refine (hV.out _).mono ?_
  rintro _ w3 ⟨rfl, hb3⟩
  replace hb1 := bch hb1 hb3
  have hRd := Lib.hid (hR.out w3 (hL.below hb1))
  go_wp2_with fail
  refine hRd.out.mono ?_
  rintro _ w4 ⟨⟨vf3, vh3, vw3, rfl, hf3, hh3, hw3⟩, hb4⟩
  obtain ⟨o1, c1, rfl, -, -⟩ := hf3.list.at entCells_len
  obtain ⟨o2, c2, e1, -, -⟩ := hh3.list.at entCells_len
  have e1 : vh3 = .slice o2 1 c2 := e1
  subst e1
  obtain ⟨o3, c3, e1, -, -⟩ := ListIs.at hw3 wrBCells_len
  have e1 : vw3 = .slice o3 1 c3 := e1
  subst e1
  replace hb1 := bch hb1 hb4
  replace hf3 := Lib.hid hf3
  replace hh3 := Lib.hid hh3
  replace hw3 := Lib.hid hw3
  clear hRd hb2 hb3 hb4 hR hW hV
  go_wp2_with fail
  have q1 := row_at #[.slice o1 0 c1, .slice o2 1 c2, .slice o3 1 c3] 25 (rfl : w4.heap.size = w4.heap.size)
  have hb4 := bal (Below.refl w4.heap.size w4) (Obj.cells #[.slice o1 0 c1, .slice o2 1 c2, .slice o3 1 c3] 25)
  generalize w4.alloc (Obj.cells #[.slice o1 0 c1, .slice o2 1 c2, .slice o3 1 c3] 25) = w5 at *
  have hb5 : Below w.heap.size w w5 := bch hb1 hb4
  have ha := Lib.hid (hf3.out.below hb4)
  have hb := Lib.hid (hh3.out.below hb4)
  have hc := Lib.hid (hw3.out.below hb4)
  have hSy := fun vh vw W (hW : Below w5.heap.size w5 W) (h1 : VecIs W vh oneH) (h2 : WrsIs W vw [oneW]) => same_yes (.slice o1 0 c1) (.slice o2 1 c2) (.slice o3 1 c3) (.slice none 0 0) vh vw [] oneH [oneW] W (ha.out.below hW) (hb.out.below hW) (hc.out.below hW) (vec_nil W none 0) h1 h2 (by decide) (by decide) (by decide)
  replace hSy := Lib.hid hSy
  clear hf3 hh3 hw3 hb4 hb1
  generalize w4.heap.size = g1 at *
  have r1 := q1.drew
  (have x0 := r1.cell 0; have x1 := r1.cell 1; have x2 := r1.cell 2; simp only [List.set_cons_succ, List.set_cons_zero, List.getElem?_cons_zero, List.getElem?_cons_succ] at x0 x1 x2)
  clear q1 r1
  (refine wp_region_held_drew (S := (fun W => Below w5.heap.size w5 W ∧ W.cell? ⟨g1, 0, none⟩ = some (.slice o1 0 c1) ∧ W.cell? ⟨g1, 1, none⟩ = some (.slice o2 1 c2) ∧ W.cell? ⟨g1, 2, none⟩ = some (.slice o3 1 c3))) (by kernel_rfl) ?_ (fun hHeld => ?_); ((try dsimp only); exact ⟨bdr (Below.refl _ _), x0, x1, x2⟩))
  (refine held_take (i := 0) (v := ?_) rfl (by kernel_rfl) (by kernel_rfl) (by kernel_rfl) (fun _ _ _ h => h) (by kernel_rfl) (by assumption) ?_ ?_; rotate_left; (focus (intro w hSw; (try unfold SC at hSw); (try unfold FC at hSw); (try unfold MC at hSw); (try unfold BC at hSw); (try unfold RC at hSw); (try unfold KC at hSw); (try unfold KD at hSw); (try dsimp only at hSw); go_simp; (try with_reducible rfl); done)); (simp only [Act.put, List.setIfInBounds_toArray, List.set_cons_zero, List.set_cons_succ]); refine held_take (i := 1) (v := ?_) rfl (by kernel_rfl) (by kernel_rfl) (by kernel_rfl) (fun _ _ _ h => h) (by kernel_rfl) (by assumption) ?_ ?_; rotate_left; (focus (intro w hSw; (try unfold SC at hSw); (try unfold FC at hSw); (try unfold MC at hSw); (try unfold BC at hSw); (try unfold RC at hSw); (try unfold KC at hSw); (try unfold KD at hSw); (try dsimp only at hSw); go_simp; (try with_reducible rfl); done)); (simp only [Act.put, List.setIfInBounds_toArray, List.set_cons_zero, List.set_cons_succ]); refine held_take (i := 2) (v := ?_) rfl (by kernel_rfl) (by kernel_rfl) (by kernel_rfl) (fun _ _ _ h => h) (by kernel_rfl) (by assumption) ?_ ?_; rotate_left; (focus (intro w hSw; (try unfold SC at hSw); (try unfold FC at hSw); (try unfold MC at hSw); (try unfold BC at hSw); (try unfold RC at hSw); (try unfold KC at hSw); (try unfold KD at hSw); (try dsimp only at hSw); go_simp; (try with_reducible rfl); done)); (simp only [Act.put, List.setIfInBounds_toArray, List.set_cons_zero, List.set_cons_succ]); refine held_take (i := 3) (v := ?_) rfl (by kernel_rfl) (by kernel_rfl) (by kernel_rfl) (fun _ _ _ h => h) (by kernel_rfl) (by assumption) ?_ ?_; rotate_left; (focus (intro w hSw; (try unfold SC at hSw); (try unfold FC at hSw); (try unfold MC at hSw); (try unfold BC at hSw); (try unfold RC at hSw); (try unfold KC at hSw); (try unfold KD at hSw); (try dsimp only at hSw); go_simp; (try with_reducible rfl); done)); (simp only [Act.put, List.setIfInBounds_toArray, List.set_cons_zero, List.set_cons_succ]); refine held_take (i := 4) (v := ?_) rfl (by kernel_rfl) (by kernel_rfl) (by kernel_rfl) (fun _ _ _ h => h) (by kernel_rfl) (by assumption) ?_ ?_; rotate_left; (focus (intro w hSw; (try unfold SC at hSw); (try unfold FC at hSw); (try unfold MC at hSw); (try unfold BC at hSw); (try unfold RC at hSw); (try unfold KC at hSw); (try unfold KD at hSw); (try dsimp only at hSw); go_simp; (try with_reducible rfl); done)); (simp only [Act.put, List.setIfInBounds_toArray, List.set_cons_zero, List.set_cons_succ]); refine held_take (i := 5) (v := ?_) rfl (by kernel_rfl) (by kernel_rfl) (by kernel_rfl) (fun _ _ _ h => h) (by kernel_rfl) (by assumption) ?_ ?_; rotate_left; (focus (intro w hSw; (try unfold SC at hSw); (try unfold FC at hSw); (try unfold MC at hSw); (try unfold BC at hSw); (try unfold RC at hSw); (try unfold KC at hSw); (try unfold KD at hSw); (try dsimp only at hSw); go_simp; (try with_reducible rfl); done)); (simp only [Act.put, List.setIfInBounds_toArray, List.set_cons_zero, List.set_cons_succ]); refine held_take (i := 6) (v := ?_) rfl (by kernel_rfl) (by kernel_rfl) (by kernel_rfl) (fun _ _ _ h => h) (by kernel_rfl) (by assumption) ?_ ?_; rotate_left; (focus (intro w hSw; (try unfold SC at hSw); (try unfold FC at hSw); (try unfold MC at hSw); (try unfold BC at hSw); (try unfold RC at hSw); (try unfold KC at hSw); (try unfold KD at hSw); (try dsimp only at hSw); go_simp; (try with_reducible rfl); done)); (simp only [Act.put, List.setIfInBounds_toArray, List.set_cons_zero, List.set_cons_succ]); refine held_take (i := 7) (v := ?_) rfl (by kernel_rfl) (by kernel_rfl) (by kernel_rfl) (fun _ _ _ h => h) (by kernel_rfl) (by assumption) ?_ ?_; rotate_left; (focus (intro w hSw; (try unfold SC at hSw); (try unfold FC at hSw); (try unfold MC at hSw); (try unfold BC at hSw); (try unfold RC at hSw); (try unfold KC at hSw); (try unfold KD at hSw); (try dsimp only at hSw); go_simp; (try with_reducible rfl); done)); (simp only [Act.put, List.setIfInBounds_toArray, List.set_cons_zero, List.set_cons_succ]); refine held_take (i := 8) (v := ?_) rfl (by kernel_rfl) (by kernel_rfl) (by kernel_rfl) (fun _ _ _ h => h) (by kernel_rfl) (by assumption) ?_ ?_; rotate_left; (focus (intro w hSw; (try unfold SC at hSw); (try unfold FC at hSw); (try unfold MC at hSw); (try unfold BC at hSw); (try unfold RC at hSw); (try unfold KC at hSw); (try unfold KD at hSw); (try dsimp only at hSw); go_simp; (try with_reducible rfl); done)); (simp only [Act.put, List.setIfInBounds_toArray, List.set_cons_zero, List.set_cons_succ]); refine held_take (i := 9) (v := ?_) rfl (by kernel_rfl) (by kernel_rfl) (by kernel_rfl) (fun _ _ _ h => h) (by kernel_rfl) (by assumption) ?_ ?_; rotate_left; (focus (intro w hSw; (try unfold SC at hSw); (try unfold FC at hSw); (try unfold MC at hSw); (try unfold BC at hSw); (try unfold RC at hSw); (try unfold KC at hSw); (try unfold KD at hSw); (try dsimp only at hSw); go_simp; (try with_reducible rfl); done)); (simp only [Act.put, List.setIfInBounds_toArray, List.set_cons_zero, List.set_cons_succ]); refine held_take (i := 10) (v := ?_) rfl (by kernel_rfl) (by kernel_rfl) (by kernel_rfl) (fun _ _ _ h => h) (by kernel_rfl) (by assumption) ?_ ?_; rotate_left; (focus (intro w hSw; (try unfold SC at hSw); (try unfold FC at hSw); (try unfold MC at hSw); (try unfold BC at hSw); (try unfold RC at hSw); (try unfold KC at hSw); (try unfold KD at hSw); (try dsimp only at hSw); go_simp; (try with_reducible rfl); done)); (simp only [Act.put, List.setIfInBounds_toArray, List.set_cons_zero, List.set_cons_succ]); refine held_take (i := 11) (v := ?_) rfl (by kernel_rfl) (by kernel_rfl) (by kernel_rfl) (fun _ _ _ h => h) (by kernel_rfl) (by assumption) ?_ ?_; rotate_left; (focus (intro w hSw; (try unfold SC at hSw); (try unfold FC at hSw); (try unfold MC at hSw); (try unfold BC at hSw); (try unfold RC at hSw); (try unfold KC at hSw); (try unfold KD at hSw); (try dsimp only at hSw); go_simp; (try with_reducible rfl); done)); (simp only [Act.put, List.setIfInBounds_toArray, List.set_cons_zero, List.set_cons_succ]); refine held_take (i := 12) (v := ?_) rfl (by kernel_rfl) (by kernel_rfl) (by kernel_rfl) (fun _ _ _ h => h) (by kernel_rfl) (by assumption) ?_ ?_; rotate_left; (focus (intro w hSw; (try unfold SC at hSw); (try unfold FC at hSw); (try unfold MC at hSw); (try unfold BC at hSw); (try unfold RC at hSw); (try unfold KC at hSw); (try unfold KD at hSw); (try dsimp only at hSw); go_simp; (try with_reducible rfl); done)); (simp only [Act.put, List.setIfInBounds_toArray, List.set_cons_zero, List.set_cons_succ]); refine held_take (i := 13) (v := ?_) rfl (by kernel_rfl) (by kernel_rfl) (by kernel_rfl) (fun _ _ _ h => h) (by kernel_rfl) (by assumption) ?_ ?_; rotate_left; (focus (intro w hSw; (try unfold SC at hSw); (try unfold FC at hSw); (try unfold MC at hSw); (try unfold BC at hSw); (try unfold RC at hSw); (try unfold KC at hSw); (try unfold KD at hSw); (try dsimp only at hSw); go_simp; (try with_reducible rfl); done)); (simp only [Act.put, List.setIfInBounds_toArray, List.set_cons_zero, List.set_cons_succ]); refine held_take (i := 14) (v := ?_) rfl (by kernel_rfl) (by kernel_rfl) (by kernel_rfl) (fun _ _ _ h => h) (by kernel_rfl) (by assumption) ?_ ?_; rotate_left; (focus (intro w hSw; (try unfold SC at hSw); (try unfold FC at hSw); (try unfold MC at hSw); (try unfold BC at hSw); (try unfold RC at hSw); (try unfold KC at hSw); (try unfold KD at hSw); (try dsimp only at hSw); go_simp; (try with_reducible rfl); done)); (simp only [Act.put, List.setIfInBounds_toArray, List.set_cons_zero, List.set_cons_succ]); refine held_take (i := 15) (v := ?_) rfl (by kernel_rfl) (by kernel_rfl) (by kernel_rfl) (fun _ _ _ h => h) (by kernel_rfl) (by assumption) ?_ ?_; rotate_left; (focus (intro w hSw; (try unfold SC at hSw); (try unfold FC at hSw); (try unfold MC at hSw); (try unfold BC at hSw); (try unfold RC at hSw); (try unfold KC at hSw); (try unfold KD at hSw); (try dsimp only at hSw); go_simp; (try with_reducible rfl); done)); (simp only [Act.put, List.setIfInBounds_toArray, List.set_cons_zero, List.set_cons_succ]))
  (refine wpAnyH_ready (P := Tryd.prog) (md := .any) (rs := [16]) (by kernel_rfl) (by simp) ?_; refine held_cons rfl (by kernel_rfl) (fun K hK => ?_) AllReadyH.nil; ((go_simp; refine (hHP.out _).mono ?_; rintro _ wn ⟨rfl, rfl⟩); refine hK.out _ _ ?_ (fun hHeld => ?_); ((try dsimp only); exact hHeld); clear hK K; (try clear hHeld0); (try rename_i hHeld0)))
  (refine held_take (i := 17) (v := ?_) rfl (by kernel_rfl) (by kernel_rfl) (by kernel_rfl) (fun _ _ _ h => h) (by kernel_rfl) (by assumption) ?_ ?_; rotate_left; (focus (intro w hSw; (try unfold SC at hSw); (try unfold FC at hSw); (try unfold MC at hSw); (try unfold BC at hSw); (try unfold RC at hSw); (try unfold KC at hSw); (try unfold KD at hSw); (try dsimp only at hSw); go_simp; (try with_reducible rfl); done)); (simp only [Act.put, List.setIfInBounds_toArray, List.set_cons_zero, List.set_cons_succ]); refine held_take (i := 18) (v := ?_) rfl (by kernel_rfl) (by kernel_rfl) (by kernel_rfl) (fun _ _ _ h => h) (by kernel_rfl) (by assumption) ?_ ?_; rotate_left; (focus (intro w hSw; (try unfold SC at hSw); (try unfold FC at hSw); (try unfold MC at hSw); (try unfold BC at hSw); (try unfold RC at hSw); (try unfold KC at hSw); (try unfold KD at hSw); (try dsimp only at hSw); go_simp; (try with_reducible rfl); done)); (simp only [Act.put, List.setIfInBounds_toArray, List.set_cons_zero, List.set_cons_succ]); refine held_take (i := 19) (v := ?_) rfl (by kernel_rfl) (by kernel_rfl) (by kernel_rfl) (fun _ _ _ h => h) (by kernel_rfl) (by assumption) ?_ ?_; rotate_left; (focus (intro w hSw; (try unfold SC at hSw); (try unfold FC at hSw); (try unfold MC at hSw); (try unfold BC at hSw); (try unfold RC at hSw); (try unfold KC at hSw); (try unfold KD at hSw); (try dsimp only at hSw); go_simp; (try with_reducible rfl); done)); (simp only [Act.put, List.setIfInBounds_toArray, List.set_cons_zero, List.set_cons_succ]); refine held_take (i := 20) (v := ?_) rfl (by kernel_rfl) (by kernel_rfl) (by kernel_rfl) (fun _ _ _ h => h) (by kernel_rfl) (by assumption) ?_ ?_; rotate_left; (focus (intro w hSw; (try unfold SC at hSw); (try unfold FC at hSw); (try unfold MC at hSw); (try unfold BC at hSw); (try unfold RC at hSw); (try unfold KC at hSw); (try unfold KD at hSw); (try dsimp only at hSw); go_simp; (try with_reducible rfl); done)); (simp only [Act.put, List.setIfInBounds_toArray, List.set_cons_zero, List.set_cons_succ]); refine held_take (i := 21) (v := ?_) rfl (by kernel_rfl) (by kernel_rfl) (by kernel_rfl) (fun _ _ _ h => h) (by kernel_rfl) (by assumption) ?_ ?_; rotate_left; (focus (intro w hSw; (try unfold SC at hSw); (try unfold FC at hSw); (try unfold MC at hSw); (try unfold BC at hSw); (try unfold RC at hSw); (try unfold KC at hSw); (try unfold KD at hSw); (try dsimp only at hSw); go_simp; (try with_reducible rfl); done)); (simp only [Act.put, List.setIfInBounds_toArray, List.set_cons_zero, List.set_cons_succ]); refine held_take (i := 22) (v := ?_) rfl (by kernel_rfl) (by kernel_rfl) (by kernel_rfl) (fun _ _ _ h => h) (by kernel_rfl) (by assumption) ?_ ?_; rotate_left; (focus (intro w hSw; (try unfold SC at hSw); (try unfold FC at hSw); (try unfold MC at hSw); (try unfold BC at hSw); (try unfold RC at hSw); (try unfold KC at hSw); (try unfold KD at hSw); (try dsimp only at hSw); go_simp; (try with_reducible rfl); done)); (simp only [Act.put, List.setIfInBounds_toArray, List.set_cons_zero, List.set_cons_succ]); refine held_take (i := 23) (v := ?_) rfl (by kernel_rfl) (by kernel_rfl) (by kernel_rfl) (fun _ _ _ h => h) (by kernel_rfl) (by assumption) ?_ ?_; rotate_left; (focus (intro w hSw; (try unfold SC at hSw); (try unfold FC at hSw); (try unfold MC at hSw); (try unfold BC at hSw); (try unfold RC at hSw); (try unfold KC at hSw); (try unfold KD at hSw); (try dsimp only at hSw); go_simp; (try with_reducible rfl); done)); (simp only [Act.put, List.setIfInBounds_toArray, List.set_cons_zero, List.set_cons_succ]); refine held_take (i := 24) (v := ?_) rfl (by kernel_rfl) (by kernel_rfl) (by kernel_rfl) (fun _ _ _ h => h) (by kernel_rfl) (by assumption) ?_ ?_; rotate_left; (focus (intro w hSw; (try unfold SC at hSw); (try unfold FC at hSw); (try unfold MC at hSw); (try unfold BC at hSw); (try unfold RC at hSw); (try unfold KC at hSw); (try unfold KD at hSw); (try dsimp only at hSw); go_simp; (try with_reducible rfl); done)); (simp only [Act.put, List.setIfInBounds_toArray, List.set_cons_zero, List.set_cons_succ]))
  (refine wpAnyH_ready (P := Tryd.prog) (md := .any) (rs := [25]) (by kernel_rfl) (by simp) ?_; refine held_cons rfl (by kernel_rfl) (fun K hK => ?_) AllReadyH.nil; ((go_simp; refine (hO.out _).mono ?_; rintro _ wn ⟨⟨vh, vw, rfl, hv9, hw9⟩, hbn⟩); refine hK.out _ _ ?_ (fun hHeld => ?_); ((try dsimp only); exact ⟨bch hHeld.1 hbn, cell_below hbn hHeld.2.1, cell_below hbn hHeld.2.2.1, cell_below hbn hHeld.2.2.2⟩); clear hK K; (try clear hHeld0); (try rename_i hHeld0)))
  (refine wpAnyH_ready (P := Tryd.prog) (md := .any) (rs := [26]) (by kernel_rfl) (by simp) ?_; refine held_cons rfl (by kernel_rfl) (fun K hK => ?_) AllReadyH.nil; ((go_simp; refine (hSy.out _ _ _ hHeld.1 hv9 hw9).mono ?_; rintro _ wn ⟨rfl, hbn⟩); refine hK.out _ _ ?_ (fun hHeld => ?_); ((try dsimp only); exact ⟨bch hHeld.1 hbn, cell_below hbn hHeld.2.1, cell_below hbn hHeld.2.2.1, cell_below hbn hHeld.2.2.2⟩); clear hK K; (try clear hHeld0); (try rename_i hHeld0)))
  (refine held_take (i := 27) (v := ?_) rfl (by kernel_rfl) (by kernel_rfl) (by kernel_rfl) (fun _ _ _ h => h) (by kernel_rfl) (by assumption) ?_ ?_; rotate_left; (focus (intro w hSw; (try unfold SC at hSw); (try unfold FC at hSw); (try unfold MC at hSw); (try unfold BC at hSw); (try unfold RC at hSw); (try unfold KC at hSw); (try unfold KD at hSw); (try dsimp only at hSw); go_simp; (try with_reducible rfl); done)); (simp only [Act.put, List.setIfInBounds_toArray, List.set_cons_zero, List.set_cons_succ]); refine held_take (i := 28) (v := ?_) rfl (by kernel_rfl) (by kernel_rfl) (by kernel_rfl) (fun _ _ _ h => h) (by kernel_rfl) (by assumption) ?_ ?_; rotate_left; (focus (intro w hSw; (try unfold SC at hSw); (try unfold FC at hSw); (try unfold MC at hSw); (try unfold BC at hSw); (try unfold RC at hSw); (try unfold KC at hSw); (try unfold KD at hSw); (try dsimp only at hSw); go_simp; (try with_reducible rfl); done)); (simp only [Act.put, List.setIfInBounds_toArray, List.set_cons_zero, List.set_cons_succ]))
  (refine wpAnyH_done (by kernel_rfl) ?_ _)
  have hbf := bch hb5 hHeld.1
  go_wp2
  go_ret
  exact ⟨rfl, hbf⟩
end Go.Proofs.YtdeepahaggkipaaDoor
