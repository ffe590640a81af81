/- The walk of the law OldOnly. -/
import Derived.Test.YtdeepahaggkipaaDoorWFramed
import Derived.Test.YtdeepahaggkipaaDoorWOldLen
namespace Go.Proofs.YtdeepahaggkipaaDoor
open Go.RowKit
set_option linter.unusedVariables false
set_option linter.unusedSimpArgs false
set_option maxHeartbeats 4000000 in
set_option maxRecDepth 20000 in
theorem old_only_long (s : ByteArray) (w : World) (hL : Laid w) (hs : s.size ≤ 140737488351232) (h : 1500 < s.size) :
    Calls Tryd.prog 9 #[.string s] w fun e w' => e = .returned (.bool true) ∧ Below w.heap.size w w' := by
  have hG := Lib.hid (framed w hL)
  have hm : (1500 : Int) < (s.size : Int) := by omega
  go_enter Tryd.func9, Tryd.ntmps9
  go_wp2_with fail
  refine hG.out.mono ?_
  rintro _ w2 ⟨rfl, hb2⟩
  go_wp2
  go_ret
  exact ⟨rfl, hb2⟩
/-- Where Read tells of something wrong. -/
theorem old_only_no (s : ByteArray) (w : World) (hL : Laid w) (hs : s.size ≤ 1500)
    (hRd : ∀ W, Laid W → Calls Tryd.prog 30 #[.string s] W fun e w' => (∃ t u, e = .returned (.tuple #[.agg #[.slice none 0 0, .slice none 0 0, .slice none 0 0], .iface t u])) ∧ Below W.heap.size W w') :
    Calls Tryd.prog 9 #[.string s] w fun e w' => e = .returned (.bool true) ∧ Below w.heap.size w w' := by
  have hG := Lib.hid (framed w hL)
  replace hRd := Lib.hid hRd
  have hSy := fun W => same_yes (.slice none 0 0) (.slice none 0 0) (.slice none 0 0) (.slice none 0 0) (.slice none 0 0) (.slice none 0 0) [] [] [] W (vec_nil W none 0) (vec_nil W none 0) (ListIs.nil _ _ _) (vec_nil W none 0) (vec_nil W none 0) (ListIs.nil _ _ _) (by decide) (by decide) (by decide)
  replace hSy := Lib.hid hSy
  go_enter Tryd.func9, Tryd.ntmps9
  go_wp2_with fail
  refine hG.out.mono ?_
  rintro _ w2 ⟨rfl, hb2⟩
  go_wp2_with fail
  refine (hRd.out _ (hL.below hb2)).mono ?_
  rintro _ w3 ⟨⟨t, u, rfl⟩, hb3⟩
  go_wp2_with fail
  refine (hSy.out _).mono ?_
  rintro _ w4 ⟨rfl, hb4⟩
  go_wp2
  go_ret
  exact ⟨rfl, bch (bal (bch hb2 hb3) _) hb4⟩
set_option maxHeartbeats 4000000 in
set_option maxRecDepth 20000 in
theorem OldOnly_walk (a0 : ByteArray) (w : World) (w0 : a0.size ≤ 140737488351232) (hL : Laid w) :
    Calls Tryd.prog 9 #[.string a0] w fun e w' => e = .returned (.bool true) ∧ Below w.heap.size w w' := by
  by_cases hlong : 1500 < a0.size
  · exact old_only_long a0 w hL w0 hlong
  have hs : a0.size ≤ 1500 := by omega
  clear w0 hlong
  have hRd := fun W hW => old_read a0 W (by omega) hW
  unfold OldGot OldRes at hRd
  cases hr : Fst.readB a0.data.toList with
  | none =>
    rw [hr] at hRd
    exact old_only_no a0 w hL hs hRd
  | some x =>
  obtain ⟨f, h, ws⟩ := x
  rw [hr] at hRd
  simp only at hRd
  have hG := Lib.hid (framed w hL)
  obtain ⟨hrt, hver⟩ := Fst.readB_fine hr
  replace hRd := Lib.hid hRd
  have hF := (Bat.right_iff _ _ _).1 hrt
  have hlf := ((Vec.right_iff f).1 hF.from_).len
  have hlh := ((Vec.right_iff h).1 hF.have_).len
  have hlw := hF.len
  have hrt2 : Bat.right f h ((ws.map WrB.of).map WrB.plain) = .ok := by rw [plains_of']; exact hrt
  have hbo : bodyOf f h (ws.map WrB.of) = Body.write f h ws := by unfold bodyOf; rw [plains_of']
  have hF1 := fun vf vh vw W hW h1 h2 h3 => old_first_ok vf vh vw f h (ws.map WrB.of) W hW h1 h2 h3 (by omega) (by omega) (by rw [List.length_map]; omega) hrt2
  have hF2 := fun vf vh vw W hW h1 h2 h3 hl => old_second vf vh vw f h (ws.map WrB.of) W hW h1 h2 h3 (by omega) (by omega) (by rw [List.length_map]; omega) hrt2 hl
  rw [plains_of'] at hF1
  rw [hbo] at hF2
  have hV := fun W => frame_version a0 W (by omega)
  have hmk : (⟨a0.data.toList.toArray⟩ : ByteArray) = a0 := rfl
  clear hr hrt hF hrt2 hbo
  rcases hver with ⟨hv, hse⟩ | ⟨hv, hse, hl2⟩
  · rw [hv] at hV
    rw [show verVal (.inr 1) = .tuple #[.int .i64 1, .nilIface] from rfl] at hV
    rw [← hse, hmk] at hF1
    replace hV := Lib.hid hV
    replace hF1 := Lib.hid hF1
    generalize ws.map WrB.of = L at *
    clear hse hv hF2 hmk
    go_enter Tryd.func9, Tryd.ntmps9
    go_wp2_with fail
    refine hG.out.mono ?_
    rintro _ w2 ⟨rfl, hb2⟩
    go_wp2_with fail
    refine (hRd.out _ (hL.below hb2)).mono ?_
    rintro _ w3 ⟨⟨vf, vh, vw, rfl, h1, h2, h3⟩, hb3⟩
    obtain ⟨o4, c4, rfl, -, -⟩ := h1.list.at entCells_len
    obtain ⟨o5, c5, rfl, -, -⟩ := h2.list.at entCells_len
    obtain ⟨o6, c6, rfl, -, -⟩ := ListIs.at h3 wrBCells_len
    replace hb2 := bch hb2 hb3
    have hA := bal (Below.refl w3.heap.size w3) (Obj.cells #[.slice o4 f.length c4, .slice o5 h.length c5, .slice o6 L.length c6] 25)
    have q1 := row_at #[.slice o4 f.length c4, .slice o5 h.length c5, .slice o6 L.length c6] 25 (rfl : w3.heap.size = w3.heap.size)
    replace h1 := h1.below hA
    replace h2 := h2.below hA
    replace h3 := h3.below hA
    have hb4 := bch hb2 hA
    (have d0 := q1.cell 0; have d1 := q1.cell 1; have d2 := q1.cell 2; simp only [List.set_cons_succ, List.set_cons_zero, List.getElem?_cons_zero, List.getElem?_cons_succ] at d0 d1 d2)
    replace q1 := Lib.hid q1
    replace h1 := Lib.hid h1
    replace h2 := Lib.hid h2
    replace h3 := Lib.hid h3
    replace hb4 := Lib.hid hb4
    clear hA hb3 hb2
    go_wp2_with fail
    generalize w3.alloc (Obj.cells #[.slice o4 f.length c4, .slice o5 h.length c5, .slice o6 L.length c6] 25) = w4 at *
    refine (hV.out _).mono ?_
    rintro _ w5 ⟨rfl, hb5⟩
    replace q1 := q1.out.below hb5
    clear d0 d1 d2
    (have d0 := q1.cell 0; have d1 := q1.cell 1; have d2 := q1.cell 2; simp only [List.set_cons_succ, List.set_cons_zero, List.getElem?_cons_zero, List.getElem?_cons_succ] at d0 d1 d2)
    have hb6 := Lib.hid (bch hb4.out hb5)
    have hRr := Lib.hid (hF1.out _ _ _ w5 (hL.below hb6.out) (h1.out.below hb5) (h2.out.below hb5) (h3.out.below hb5))
    clear hF1 q1 h1 h2 h3
    go_wp2_with fail
    refine hRr.out.mono ?_
    rintro _ w7 ⟨rfl, hb7⟩
    go_wp2
    go_ret
    exact ⟨rfl, bch hb6.out hb7⟩
  · rw [hv] at hV
    rw [show verVal (.inr 2) = .tuple #[.int .i64 2, .nilIface] from rfl] at hV
    have hF2 := fun vf vh vw W hW h1 h2 h3 => hF2 vf vh vw W hW h1 h2 h3 (by omega)
    rw [← hse, hmk] at hF2
    replace hV := Lib.hid hV
    replace hF1 := Lib.hid hF1
    replace hF2 := Lib.hid hF2
    generalize Fst.write f h ws = S1 at *
    generalize ws.map WrB.of = L at *
    clear hse hv hmk hl2
    go_enter Tryd.func9, Tryd.ntmps9
    go_wp2_with fail
    refine hG.out.mono ?_
    rintro _ w2 ⟨rfl, hb2⟩
    go_wp2_with fail
    refine (hRd.out _ (hL.below hb2)).mono ?_
    rintro _ w3 ⟨⟨vf, vh, vw, rfl, h1, h2, h3⟩, hb3⟩
    obtain ⟨o4, c4, rfl, -, -⟩ := h1.list.at entCells_len
    obtain ⟨o5, c5, rfl, -, -⟩ := h2.list.at entCells_len
    obtain ⟨o6, c6, rfl, -, -⟩ := ListIs.at h3 wrBCells_len
    replace hb2 := bch hb2 hb3
    have hA := bal (Below.refl w3.heap.size w3) (Obj.cells #[.slice o4 f.length c4, .slice o5 h.length c5, .slice o6 L.length c6] 25)
    have q1 := row_at #[.slice o4 f.length c4, .slice o5 h.length c5, .slice o6 L.length c6] 25 (rfl : w3.heap.size = w3.heap.size)
    replace h1 := h1.below hA
    replace h2 := h2.below hA
    replace h3 := h3.below hA
    have hb4 := bch hb2 hA
    (have d0 := q1.cell 0; have d1 := q1.cell 1; have d2 := q1.cell 2; simp only [List.set_cons_succ, List.set_cons_zero, List.getElem?_cons_zero, List.getElem?_cons_succ] at d0 d1 d2)
    replace q1 := Lib.hid q1
    replace h1 := Lib.hid h1
    replace h2 := Lib.hid h2
    replace h3 := Lib.hid h3
    replace hb4 := Lib.hid hb4
    clear hA hb3 hb2
    go_wp2_with fail
    generalize w3.alloc (Obj.cells #[.slice o4 f.length c4, .slice o5 h.length c5, .slice o6 L.length c6] 25) = w4 at *
    refine (hV.out _).mono ?_
    rintro _ w5 ⟨rfl, hb5⟩
    replace q1 := q1.out.below hb5
    replace h1 := Lib.hid (h1.out.below hb5)
    replace h2 := Lib.hid (h2.out.below hb5)
    replace h3 := Lib.hid (h3.out.below hb5)
    clear d0 d1 d2
    (have d0 := q1.cell 0; have d1 := q1.cell 1; have d2 := q1.cell 2; simp only [List.set_cons_succ, List.set_cons_zero, List.getElem?_cons_zero, List.getElem?_cons_succ] at d0 d1 d2)
    have hb6 := Lib.hid (bch hb4.out hb5)
    have hRr := Lib.hid (hF1.out _ _ _ w5 (hL.below hb6.out) h1.out h2.out h3.out)
    clear hF1
    replace q1 := Lib.hid q1
    go_wp2_with fail
    refine hRr.out.mono ?_
    rintro _ w7 ⟨rfl, hb7⟩
    replace q1 := q1.out.below hb7
    clear d0 d1 d2
    (have d0 := q1.cell 0; have d1 := q1.cell 1; have d2 := q1.cell 2; simp only [List.set_cons_succ, List.set_cons_zero, List.getElem?_cons_zero, List.getElem?_cons_succ] at d0 d1 d2)
    have hb8 := Lib.hid (bch hb6.out hb7)
    have hR2 := Lib.hid (hF2.out _ _ _ w7 (hL.below hb8.out) (h1.out.below hb7) (h2.out.below hb7) (h3.out.below hb7))
    clear hF2 q1 h1 h2 h3
    go_wp2_with fail
    refine hR2.out.mono ?_
    rintro _ w9 ⟨rfl, hb9⟩
    go_wp2
    go_ret
    exact ⟨rfl, bch hb8.out hb9⟩
end Go.Proofs.YtdeepahaggkipaaDoor
