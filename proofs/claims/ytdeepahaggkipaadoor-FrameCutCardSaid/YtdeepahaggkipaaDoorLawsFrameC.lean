/- The walk of the law FrameCut. -/
import Derived.Test.YtdeepahaggkipaaDoorWFramed
import Derived.Test.YtdeepahaggkipaaDoorWSameAny
import Derived.Test.YtdeepahaggkipaaDoorWPick
import Derived.Test.YtdeepahaggkipaaDoorWHeld
import Derived.Test.YtdeepahaggkipaaDoorWBa
namespace Go.Proofs.YtdeepahaggkipaaDoor
open Go.RowKit
set_option linter.unusedVariables false
set_option linter.unusedSimpArgs false
/-- What is read of a beginning is another batch. -/
theorem frame_cut_other {f h f2 h2 : List Vec.Entry} {ws : List WrB} {ws2 : List Wr} {s t : List UInt8} (hs : s = Frame.write f h (ws.map WrB.plain)) (ht : Frame.write f2 h2 ws2 = t) (hl : t.length < s.length) : sameB f h ws f2 h2 (ws2.map WrB.of) = false := by
  cases hb : sameB f h ws f2 h2 (ws2.map WrB.of) with
  | false => rfl
  | true =>
    obtain ⟨rfl, rfl, rfl⟩ := sameB_true hb
    rw [plains_of'] at hs
    rw [hs, ht] at hl
    omega
set_option maxHeartbeats 8000000 in
set_option maxRecDepth 20000 in
theorem frame_cut (vf vh vw : Value) (f h : List Vec.Entry) (ws : List WrB) (n : Int) (w : World) (hL : Laid w) (hf : VecIs w vf f) (hh : VecIs w vh h) (hw : WrsIs w vw ws) (hlf : f.length ≤ 140737488351232) (hlh : h.length ≤ 140737488351232) (hlw : ws.length ≤ 140737488351232) (hq : ∀ x ∈ ws, WrBOk x) :
    Calls Tryd.prog 4 #[.agg #[vf, vh, vw], .int .i64 n] w fun e w' => e = .returned (.bool true) ∧ Below w.heap.size w w' := by
  have hG := fun W (hW : Below w.heap.size w W) => framed W (hL.below hW)
  have hH := fun W (hW : Below w.heap.size w W) => keep_held vf vh vw f h ws W (hL.below hW) (hf.below hW) (hh.below hW) (hw.below hW) hlf hlh hlw hq
  have hFr := fun W (hW : Below w.heap.size w W) => frame_write_all vf vh vw f h ws W (hL.below hW) (hf.below hW) (hh.below hW) (hw.below hW) hlf hlh hlw
  have hS := fun v1 v2 v3 f2 h2 ws2 W (hW : Below w.heap.size w W) a1 a2 a3 a4 a5 a6 => same_any vf vh vw v1 v2 v3 f h ws f2 h2 ws2 W (hf.below hW) (hh.below hW) (hw.below hW) a1 a2 a3 hlf hlh hlw a4 a5 a6
  obtain ⟨o1, m1, e1, -, -⟩ := hf.list.at entCells_len
  obtain ⟨o2, m2, e2, -, -⟩ := hh.list.at entCells_len
  obtain ⟨o3, m3, e3, -, -⟩ := ListIs.at hw wrBCells_len
  clear hf hh hw
  subst e1 e2 e3
  replace hG := Lib.hid hG
  replace hH := Lib.hid hH
  replace hFr := Lib.hid hFr
  replace hS := Lib.hid hS
  replace hq := Lib.hid hq
  go_enter Tryd.func4, Tryd.ntmps4
  go_wp2_with fail
  have q0 := row_at #[.slice o1 f.length m1, .slice o2 h.length m2, .slice o3 ws.length m3] 25 (rfl : w.heap.size = w.heap.size)
  have hb1 := bal (Below.refl w.heap.size w) (Obj.cells #[.slice o1 f.length m1, .slice o2 h.length m2, .slice o3 ws.length m3] 25)
  generalize w.alloc (Obj.cells #[.slice o1 f.length m1, .slice o2 h.length m2, .slice o3 ws.length m3] 25) = w1 at *
  refine (hG.out _ hb1).mono ?_
  rintro _ w2 ⟨rfl, hb2⟩
  replace q0 := q0.below hb2
  replace hb1 := bch hb1 hb2
  clear hb2
  (have c0 := q0.cell 0; have c1 := q0.cell 1; have c2 := q0.cell 2; simp only [List.set_cons_succ, List.set_cons_zero, List.getElem?_cons_zero, List.getElem?_cons_succ] at c0 c1 c2)
  go_wp2_with fail
  refine (hH.out _ hb1).mono ?_
  rintro _ w4 ⟨⟨r, rfl, hr⟩, hb2⟩
  replace q0 := q0.below hb2
  replace hb1 := bch hb1 hb2
  clear hb2 c0 c1 c2
  (have c0 := q0.cell 0; have c1 := q0.cell 1; have c2 := q0.cell 2; simp only [List.set_cons_succ, List.set_cons_zero, List.getElem?_cons_zero, List.getElem?_cons_succ] at c0 c1 c2)
  cases r with
  | false =>
    replace hr := Lib.hid hr
    go_wp2
    go_ret
    exact ⟨rfl, hb1⟩
  | true =>
  have hok := Lib.hid (hr rfl)
  clear hr
  go_wp2_with fail
  refine (hFr.out _ hb1).mono ?_
  rintro _ w5 ⟨⟨s, E, rfl, hfw⟩, hb2⟩
  replace q0 := q0.below hb2
  replace hb1 := bch hb1 hb2
  clear hb2 c0 c1 c2
  (have c0 := q0.cell 0; have c1 := q0.cell 1; have c2 := q0.cell 2; simp only [List.set_cons_succ, List.set_cons_zero, List.getElem?_cons_zero, List.getElem?_cons_succ] at c0 c1 c2)
  rcases hfw with ⟨rfl, -, hlen, hs⟩ | ⟨rfl, -, t, u, rfl⟩
  rotate_left
  · go_wp2
    go_ret
    exact ⟨rfl, hb1⟩
  have hsl : s.data.toList = Frame.write f h (ws.map WrB.plain) := by rw [hs]
  have hln : s.size = (Frame.write f h (ws.map WrB.plain)).length := by rw [← hsl, Array.length_toList]; rfl
  have hS0 : 0 < s.size := by
    rw [hln]; unfold Frame.write
    rw [Frame.around_len]; omega
  have hS1 : s.size ≤ 600000 := by
    rw [hln, Frame.write_len]
    change 8 + (Vary.put (bodyOf f h ws).length).length + (if (Frame.squeeze (bodyOf f h ws)).length < (bodyOf f h ws).length then (Frame.squeeze (bodyOf f h ws)).length else (bodyOf f h ws).length) ≤ 600000
    have := Vary.put_len (bodyOf f h ws).length (by omega)
    split <;> omega
  clear hs hln
  have hse : s.toList.isEmpty = false := ba_full (fun e => by rw [e] at hS0; exact absurd hS0 (by decide))
  have hP0 := fun W => keep_pick n s.size s.size W rfl hS0 (by omega)
  have hkl0 := pickN_lt n s.size hS0
  generalize pickN n s.size = k at *
  have hRd := fun W hW => frame_read (s.extract 0 k) W (by simp only [ByteArray.size_extract]; omega) hW
  unfold FrameGot at hRd
  rw [take_ba s k (by omega)] at hRd
  have hdiff : ∀ f2 h2 ws2, Frame.write f2 h2 ws2 = s.data.toList.take k → sameB f h ws f2 h2 (ws2.map WrB.of) = false := fun f2 h2 ws2 e => frame_cut_other hsl e (by rw [List.length_take, show s.data.toList.length = s.size from Array.length_toList]; omega)
  have hnone : ∀ x, Frame.readB (s.data.toList.take k) = some x → x.1.length ≤ 140737488351232 ∧ x.2.1.length ≤ 140737488351232 ∧ (x.2.2.map WrB.of).length ≤ 140737488351232 := fun x hx => by
    obtain ⟨f2, h2, ws2⟩ := x
    have hF := (Bat.right_iff _ _ _).1 (Frame.readB_ok hx).1
    have := ((Vec.right_iff f2).1 hF.from_).len
    have := ((Vec.right_iff h2).1 hF.have_).len
    have := hF.len
    show f2.length ≤ _ ∧ h2.length ≤ _ ∧ (ws2.map WrB.of).length ≤ _
    rw [List.length_map]
    exact ⟨by omega, by omega, by omega⟩
  have hk0 : (0 : Int) ≤ (k : Int) := by omega
  have hk1 : (k : Int) ≤ (s.size : Int) := by omega
  clear hlen hsl
  generalize s.data.toList.take k = T at *
  replace hP0 := Lib.hid hP0
  replace hdiff := Lib.hid hdiff
  replace hnone := Lib.hid hnone
  replace hRd := Lib.hid hRd
  go_wp2_with fail
  refine (hP0.out _).mono ?_
  rintro _ w6 ⟨rfl, rfl⟩
  have hR1 := hRd.out _ (hL.below hb1)
  clear hRd
  cases hx : Frame.readB T with
  | none =>
    rw [hx] at hR1
    replace hR1 := Lib.hid hR1
    replace hx := Lib.hid hx
    go_wp2_with fail
    refine hR1.out.mono ?_
    rintro _ w7 ⟨⟨t, u, rfl⟩, hb2⟩
    go_wp2
    go_ret
    exact ⟨rfl, bal (bch hb1 hb2) _⟩
  | some x =>
    obtain ⟨f2, h2, ws2⟩ := x
    rw [hx] at hR1
    simp only at hR1
    obtain ⟨l1, l2, l3⟩ := hnone.out _ hx
    simp only at l1 l2 l3
    clear hnone
    by_cases he : Frame.write f2 h2 ws2 = T
    · have hD := hdiff.out _ _ _ he
      simp only [if_pos he] at hR1
      replace hR1 := Lib.hid hR1
      replace hx := Lib.hid hx
      replace he := Lib.hid he
      generalize ws2.map WrB.of = L at *
      clear hdiff
      go_wp2_with fail
      refine hR1.out.mono ?_
      rintro _ w7 ⟨⟨v1, v2, v3, rfl, x1, x2, x3⟩, hb2⟩
      obtain ⟨o4, c4, rfl, -, -⟩ := x1.list.at entCells_len
      obtain ⟨o5, c5, rfl, -, -⟩ := x2.list.at entCells_len
      obtain ⟨o6, c6, rfl, -, -⟩ := ListIs.at x3 wrBCells_len
      have hA := bal (Below.refl w7.heap.size w7) (Obj.cells #[.slice o4 f2.length c4, .slice o5 h2.length c5, .slice o6 L.length c6] 25)
      replace hb1 := bch hb1 hb2
      replace q0 := q0.below hb2
      have hSm := hS.out _ _ _ f2 h2 L _ (bch hb1 hA) (x1.below hA) (x2.below hA) (x3.below hA) l1 l2 l3
      rw [hD] at hSm
      replace q0 := q0.below hA
      replace hSm := Lib.hid hSm
      clear x1 x2 x3 hS hb2 c0 c1 c2
      (have c0 := q0.cell 0; have c1 := q0.cell 1; have c2 := q0.cell 2; simp only [List.set_cons_succ, List.set_cons_zero, List.getElem?_cons_zero, List.getElem?_cons_succ] at c0 c1 c2)
      replace hb1 := Lib.hid (bch hb1 hA)
      clear hA
      replace q0 := Lib.hid q0
      go_wp2_with fail
      refine hSm.out.mono ?_
      rintro _ w8 ⟨rfl, hb2⟩
      go_wp2
      go_ret
      exact ⟨rfl, bch hb1.out hb2⟩
    · simp only [if_neg he] at hR1
      replace hR1 := Lib.hid hR1
      replace hx := Lib.hid hx
      replace he := Lib.hid he
      go_wp2_with fail
      refine hR1.out.mono ?_
      unfold errV
      rintro _ w7 ⟨rfl, hb2⟩
      go_wp2
      go_ret
      exact ⟨rfl, bal (bch hb1 hb2) _⟩
theorem FrameCut_walk (vf vh vw : Value) (a1 : Int) (w : World) (q : BatQ w (vf, vh, vw)) (w1 : (Lit.int .i64 a1).wf = true) (hL : Laid w) :
    Calls Tryd.prog 4 #[.agg #[vf, vh, vw], .int .i64 a1] w fun e w' => e = .returned (.bool true) ∧ Below w.heap.size w w' := by
  obtain ⟨⟨f, hf, -, hlf⟩, ⟨h, hh, -, hlh⟩, ⟨ws, hw, hq, hlw⟩⟩ := q
  exact frame_cut vf vh vw f h ws a1 w hL hf hh hw hlf hlh hlw hq
end Go.Proofs.YtdeepahaggkipaaDoor
