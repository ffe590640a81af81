/- The walk of the law BodyOnly. -/
import Derived.Test.YtlgaklbfjjpfkaaDoorLawsBodyB
namespace Go.Proofs.YtlgaklbfjjpfkaaDoor
open Go.RowKit
set_option linter.unusedVariables false
set_option linter.unusedSimpArgs false
theorem plains_of (ws : List Wr) : (ws.map WrB.of).map WrB.plain = ws := by
  rw [List.map_map]
  exact (List.map_congr_left (g := id) fun x _ => WrB.plain_of x).trans (List.map_id ws)
set_option maxHeartbeats 4000000 in
set_option maxRecDepth 20000 in
theorem body_only_long (s : ByteArray) (w : World) (hL : Laid w) (hs : s.size ≤ 140737488351232) (h : 1500 < s.size) :
    Calls Tryd.prog 4 #[.string s] w fun e w' => e = .returned (.bool true) ∧ Below w.heap.size w w' := by
  have hG := Lib.hid (bodied w hL)
  have hm : (1500 : Int) < (s.size : Int) := by omega
  go_enter Tryd.func4, Tryd.ntmps4
  go_wp2_with fail
  refine hG.out.mono ?_
  rintro _ w2 ⟨rfl, hb2⟩
  go_wp2
  go_ret
  exact ⟨rfl, hb2⟩
set_option maxHeartbeats 4000000 in
set_option maxRecDepth 20000 in
theorem BodyOnly_walk (a0 : ByteArray) (w : World) (w0 : a0.size ≤ 140737488351232) (hL : Laid w) :
    Calls Tryd.prog 4 #[.string a0] w fun e w' => e = .returned (.bool true) ∧ Below w.heap.size w w' := by
  by_cases hlong : 1500 < a0.size
  · exact body_only_long a0 w hL w0 hlong
  have hG := Lib.hid (bodied w hL)
  have hs : a0.size ≤ 1500 := by omega
  clear w0 hlong
  have hRd := fun W hW => body_read a0 W (by omega) hW
  unfold BodyGot at hRd
  cases hr : Body.read a0.data.toList with
  | error x =>
    rw [hr] at hRd
    replace hRd := Lib.hid hRd
    have hSy := fun W => same_yes (.slice none 0 0) (.slice none 0 0) (.slice none 0 0) (.slice none 0 0) (.slice none 0 0) (.slice none 0 0) [] [] [] W (vec_nil W none 0) (vec_nil W none 0) (ListIs.nil _ _ _) (vec_nil W none 0) (vec_nil W none 0) (ListIs.nil _ _ _) (by decide) (by decide) (by decide)
    replace hSy := Lib.hid hSy
    clear hr
    go_enter Tryd.func4, Tryd.ntmps4
    go_wp2_with fail
    refine hG.out.mono ?_
    rintro _ w2 ⟨rfl, hb2⟩
    go_wp2_with fail
    refine (hRd.out _ (hL.below hb2)).mono ?_
    rintro _ w3 ⟨⟨g, rfl, hg⟩, hb3⟩
    replace hg := Lib.hid hg
    go_wp2_with fail
    refine (hSy.out _).mono ?_
    rintro _ w4 ⟨rfl, hb4⟩
    go_wp2
    go_ret
    exact ⟨rfl, bch (bal (bch hb2 hb3) _) hb4⟩
  | ok x =>
    obtain ⟨f, h, ws⟩ := x
    rw [hr] at hRd
    simp only at hRd
    obtain ⟨hrt, hwr⟩ := Body.read_ok hr
    replace hRd := Lib.hid hRd
    have hF := (Bat.right_iff _ _ _).1 hrt
    have hlf := ((Vec.right_iff f).1 hF.from_).len
    have hlh := ((Vec.right_iff h).1 hF.have_).len
    have hlw := hF.len
    have hbo : bodyOf f h (ws.map WrB.of) = a0.data.toList := by unfold bodyOf; rw [plains_of, hwr]
    have hrt2 : Bat.right f h ((ws.map WrB.of).map WrB.plain) = .ok := by rw [plains_of]; exact hrt
    have hWo := fun vf vh vw W hW h1 h2 h3 => body_write_ok vf vh vw f h (ws.map WrB.of) W hW h1 h2 h3 (by omega) (by omega) (by rw [List.length_map]; omega) hrt2
    rw [hbo, if_neg (by rw [Array.length_toList]; show ¬ 20000 < a0.size; omega), ba_mk] at hWo
    have hR := fun vf vh vw W hW h1 h2 h3 => batch_right vf vh vw f h (ws.map WrB.of) W hW h1 h2 h3 (by omega) (by omega) (by rw [List.length_map]; omega)
    rw [hrt2] at hR
    replace hWo := Lib.hid hWo
    replace hR := Lib.hid hR
    generalize ws.map WrB.of = L at *
    clear hr hrt hwr hF hbo hrt2
    go_enter Tryd.func4, Tryd.ntmps4
    go_wp2_with fail
    refine hG.out.mono ?_
    rintro _ w2 ⟨rfl, hb2⟩
    go_wp2_with fail
    refine (hRd.out _ (hL.below hb2)).mono ?_
    rintro _ w3 ⟨⟨vf, vh, vw, rfl, h1, h2, h3⟩, hb3⟩
    obtain ⟨o4, c4, rfl, -, -⟩ := h1.list.at entCells_len
    obtain ⟨o5, c5, rfl, -, -⟩ := h2.list.at entCells_len
    obtain ⟨o6, c6, rfl, -, -⟩ := ListIs.at h3 wrBCells_len
    replace hb2 := bch hb2 hb3
    have hA := bal (Below.refl w3.heap.size w3) (Obj.cells #[.slice o4 f.length c4, .slice o5 h.length c5, .slice o6 L.length c6] 25)
    have q1 := row_at #[.slice o4 f.length c4, .slice o5 h.length c5, .slice o6 L.length c6] 25 (rfl : w3.heap.size = w3.heap.size)
    replace h1 := h1.below hA
    replace h2 := h2.below hA
    replace h3 := h3.below hA
    have hb4 := bch hb2 hA
    (have d0 := q1.cell 0; have d1 := q1.cell 1; have d2 := q1.cell 2; simp only [List.set_cons_succ, List.set_cons_zero, List.getElem?_cons_zero, List.getElem?_cons_succ] at d0 d1 d2)
    replace q1 := Lib.hid q1
    replace h1 := Lib.hid h1
    replace h2 := Lib.hid h2
    replace h3 := Lib.hid h3
    replace hb4 := Lib.hid hb4
    clear hA hb3 hb2
    go_wp2_with fail
    generalize w3.alloc (Obj.cells #[.slice o4 f.length c4, .slice o5 h.length c5, .slice o6 L.length c6] 25) = w4 at *
    refine (hWo.out _ _ _ _ (hL.below hb4.out) h1.out h2.out h3.out).mono ?_
    rintro _ w5 ⟨rfl, hb5⟩
    replace q1 := q1.out.below hb5
    clear d0 d1 d2
    (have d0 := q1.cell 0; have d1 := q1.cell 1; have d2 := q1.cell 2; simp only [List.set_cons_succ, List.set_cons_zero, List.getElem?_cons_zero, List.getElem?_cons_succ] at d0 d1 d2)
    have hb6 := Lib.hid (bch hb4.out hb5)
    have hRr := Lib.hid (hR.out _ _ _ w5 (hL.below hb6.out) (h1.out.below hb5) (h2.out.below hb5) (h3.out.below hb5))
    clear hR hWo q1 h1 h2 h3
    go_wp2_with fail
    refine hRr.out.mono ?_
    rintro _ w7 ⟨v, rfl, hv, hb7⟩
    have hv : v = .nilIface := hv
    subst hv
    go_wp2
    go_ret
    exact ⟨rfl, bch hb6.out hb7⟩
end Go.Proofs.YtlgaklbfjjpfkaaDoor
