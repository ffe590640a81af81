/- The walk of the law FrameOnly. -/
import Derived.Test.YtopjaflclkdamaaDoorWFramed
namespace Go.Proofs.YtopjaflclkdamaaDoor
open Go.RowKit
set_option linter.unusedVariables false
set_option linter.unusedSimpArgs false
set_option maxHeartbeats 4000000 in
set_option maxRecDepth 20000 in
theorem frame_only_long (s : ByteArray) (w : World) (hL : Laid w) (hs : s.size ≤ 140737488351232) (h : 1500 < s.size) :
    Calls Tryd.prog 3 #[.string s] w fun e w' => e = .returned (.bool true) ∧ Below w.heap.size w w' := by
  have hG := Lib.hid (framed w hL)
  have hm : (1500 : Int) < (s.size : Int) := by omega
  go_enter Tryd.func3, Tryd.ntmps3
  go_wp2_with fail
  refine hG.out.mono ?_
  rintro _ w2 ⟨rfl, hb2⟩
  go_wp2
  go_ret
  exact ⟨rfl, hb2⟩
/-- Where Read tells of something wrong. -/
theorem frame_only_no (s : ByteArray) (w : World) (hL : Laid w) (hs : s.size ≤ 1500)
    (hRd : ∀ W, Laid W → Calls Tryd.prog 10 #[.string s] W fun e w' => (∃ t u, e = .returned (.tuple #[.agg #[.slice none 0 0, .slice none 0 0, .slice none 0 0], .iface t u])) ∧ Below W.heap.size W w') :
    Calls Tryd.prog 3 #[.string s] w fun e w' => e = .returned (.bool true) ∧ Below w.heap.size w w' := by
  have hG := Lib.hid (framed w hL)
  replace hRd := Lib.hid hRd
  have hSy := fun W => same_yes (.slice none 0 0) (.slice none 0 0) (.slice none 0 0) (.slice none 0 0) (.slice none 0 0) (.slice none 0 0) [] [] [] W (vec_nil W none 0) (vec_nil W none 0) (ListIs.nil _ _ _) (vec_nil W none 0) (vec_nil W none 0) (ListIs.nil _ _ _) (by decide) (by decide) (by decide)
  replace hSy := Lib.hid hSy
  go_enter Tryd.func3, Tryd.ntmps3
  go_wp2_with fail
  refine hG.out.mono ?_
  rintro _ w2 ⟨rfl, hb2⟩
  go_wp2_with fail
  refine (hRd.out _ (hL.below hb2)).mono ?_
  rintro _ w3 ⟨⟨t, u, rfl⟩, hb3⟩
  go_wp2_with fail
  refine (hSy.out _).mono ?_
  rintro _ w4 ⟨rfl, hb4⟩
  go_wp2
  go_ret
  exact ⟨rfl, bch (bal (bch hb2 hb3) _) hb4⟩
set_option maxHeartbeats 4000000 in
set_option maxRecDepth 20000 in
theorem FrameOnly_walk (a0 : ByteArray) (w : World) (w0 : a0.size ≤ 140737488351232) (hL : Laid w) :
    Calls Tryd.prog 3 #[.string a0] w fun e w' => e = .returned (.bool true) ∧ Below w.heap.size w w' := by
  by_cases hlong : 1500 < a0.size
  · exact frame_only_long a0 w hL w0 hlong
  have hs : a0.size ≤ 1500 := by omega
  clear w0 hlong
  have hRd := fun W hW => frame_read a0 W (by omega) hW
  unfold FrameGot at hRd
  cases hr : Frame.readB a0.data.toList with
  | none =>
    rw [hr] at hRd
    exact frame_only_no a0 w hL hs hRd
  | some x =>
  obtain ⟨f, h, ws⟩ := x
  rw [hr] at hRd
  simp only at hRd
  by_cases heq : Frame.write f h ws = a0.data.toList
  rotate_left
  · simp only [if_neg heq] at hRd
    exact frame_only_no a0 w hL hs (fun W hW => (hRd W hW).mono fun e w' ⟨h1, h2⟩ => ⟨⟨_, _, h1⟩, h2⟩)
  simp only [if_pos heq] at hRd
  have hG := Lib.hid (framed w hL)
  obtain ⟨hrt, hbl⟩ := Frame.readB_ok hr
  replace hRd := Lib.hid hRd
  have hF := (Bat.right_iff _ _ _).1 hrt
  have hlf := ((Vec.right_iff f).1 hF.from_).len
  have hlh := ((Vec.right_iff h).1 hF.have_).len
  have hlw := hF.len
  have hrt2 : Bat.right f h ((ws.map WrB.of).map WrB.plain) = .ok := by rw [plains_of']; exact hrt
  have hbo : (bodyOf f h (ws.map WrB.of)).length ≤ 20000 := by unfold bodyOf; rw [plains_of']; exact hbl
  have hWo := fun vf vh vw W hW h1 h2 h3 => frame_write_all vf vh vw f h (ws.map WrB.of) W hW h1 h2 h3 (by omega) (by omega) (by rw [List.length_map]; omega)
  have hFW : ∀ u E, FW f h (ws.map WrB.of) u E → E = .nilIface ∧ u = a0 := fun u E hf => by
    rcases hf with ⟨h1, -, -, h4⟩ | ⟨-, h2, -⟩
    · rw [plains_of', heq] at h4
      exact ⟨h1, h4⟩
    · exact absurd ⟨hrt2, hbo⟩ h2
  have hR := fun vf vh vw W hW h1 h2 h3 => batch_right vf vh vw f h (ws.map WrB.of) W hW h1 h2 h3 (by omega) (by omega) (by rw [List.length_map]; omega)
  rw [hrt2] at hR
  replace hWo := Lib.hid hWo
  replace hFW := Lib.hid hFW
  replace hR := Lib.hid hR
  generalize ws.map WrB.of = L at *
  clear hr hrt hF hbo hrt2 heq hbl
  go_enter Tryd.func3, Tryd.ntmps3
  go_wp2_with fail
  refine hG.out.mono ?_
  rintro _ w2 ⟨rfl, hb2⟩
  go_wp2_with fail
  refine (hRd.out _ (hL.below hb2)).mono ?_
  rintro _ w3 ⟨⟨vf, vh, vw, rfl, h1, h2, h3⟩, hb3⟩
  obtain ⟨o4, c4, rfl, -, -⟩ := h1.list.at entCells_len
  obtain ⟨o5, c5, rfl, -, -⟩ := h2.list.at entCells_len
  obtain ⟨o6, c6, rfl, -, -⟩ := ListIs.at h3 wrBCells_len
  replace hb2 := bch hb2 hb3
  have hA := bal (Below.refl w3.heap.size w3) (Obj.cells #[.slice o4 f.length c4, .slice o5 h.length c5, .slice o6 L.length c6] 26)
  have q1 := row_at #[.slice o4 f.length c4, .slice o5 h.length c5, .slice o6 L.length c6] 26 (rfl : w3.heap.size = w3.heap.size)
  replace h1 := h1.below hA
  replace h2 := h2.below hA
  replace h3 := h3.below hA
  have hb4 := bch hb2 hA
  (have d0 := q1.cell 0; have d1 := q1.cell 1; have d2 := q1.cell 2; simp only [List.set_cons_succ, List.set_cons_zero, List.getElem?_cons_zero, List.getElem?_cons_succ] at d0 d1 d2)
  replace q1 := Lib.hid q1
  replace h1 := Lib.hid h1
  replace h2 := Lib.hid h2
  replace h3 := Lib.hid h3
  replace hb4 := Lib.hid hb4
  clear hA hb3 hb2
  go_wp2_with fail
  generalize w3.alloc (Obj.cells #[.slice o4 f.length c4, .slice o5 h.length c5, .slice o6 L.length c6] 26) = w4 at *
  refine (hWo.out _ _ _ _ (hL.below hb4.out) h1.out h2.out h3.out).mono ?_
  rintro _ w5 ⟨⟨u, E, rfl, hfw⟩, hb5⟩
  obtain ⟨rfl, rfl⟩ := hFW.out u E hfw
  replace q1 := q1.out.below hb5
  clear d0 d1 d2 hfw
  (have d0 := q1.cell 0; have d1 := q1.cell 1; have d2 := q1.cell 2; simp only [List.set_cons_succ, List.set_cons_zero, List.getElem?_cons_zero, List.getElem?_cons_succ] at d0 d1 d2)
  have hb6 := Lib.hid (bch hb4.out hb5)
  have hRr := Lib.hid (hR.out _ _ _ w5 (hL.below hb6.out) (h1.out.below hb5) (h2.out.below hb5) (h3.out.below hb5))
  clear hR hWo q1 h1 h2 h3
  go_wp2_with fail
  refine hRr.out.mono ?_
  rintro _ w7 ⟨v, rfl, hv, hb7⟩
  have hv : v = .nilIface := hv
  subst hv
  go_wp2
  go_ret
  exact ⟨rfl, bch hb6.out hb7⟩
end Go.Proofs.YtopjaflclkdamaaDoor
