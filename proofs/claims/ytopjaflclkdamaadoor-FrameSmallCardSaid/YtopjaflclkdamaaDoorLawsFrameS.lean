/- The walk of the law FrameSmall. -/
import Derived.Test.YtopjaflclkdamaaDoorWFramed
import Derived.Test.YtopjaflclkdamaaDoorWSqueezed
import Derived.Test.YtopjaflclkdamaaDoorWHeld
namespace Go.Proofs.YtopjaflclkdamaaDoor
open Go.RowKit
set_option linter.unusedVariables false
set_option linter.unusedSimpArgs false
theorem put_len20 {n : Nat} (h : n ≤ 20000) : (Vary.put n).length = if n < 128 then 1 else if n < 16384 then 2 else 3 := by
  by_cases h1 : n < 128
  · rw [Vary.put_small h1, if_pos h1]; rfl
  · rw [Vary.put_big h1, if_neg h1, List.length_cons]
    by_cases h2 : n < 16384
    · rw [if_pos h2, Vary.put_small (by omega)]; rfl
    · rw [if_neg h2, Vary.put_big (by omega), List.length_cons, Vary.put_small (by omega)]; rfl
set_option maxHeartbeats 8000000 in
set_option maxRecDepth 20000 in
theorem frame_small (vf vh vw : Value) (f h : List Vec.Entry) (ws : List WrB) (w : World) (hL : Laid w) (hf : VecIs w vf f) (hh : VecIs w vh h) (hw : WrsIs w vw ws) (hlf : f.length ≤ 140737488351232) (hlh : h.length ≤ 140737488351232) (hlw : ws.length ≤ 140737488351232) (hq : ∀ x ∈ ws, WrBOk x) :
    Calls Tryd.prog 4 #[.agg #[vf, vh, vw]] w fun e w' => e = .returned (.bool true) ∧ Below w.heap.size w w' := by
  have hG := fun W (hW : Below w.heap.size w W) => framed W (hL.below hW)
  have hD := fun W (hW : Below w.heap.size w W) => bodied W (hL.below hW)
  have hQ := fun W => squeezed W
  have hB := fun W (hW : Below w.heap.size w W) => keep_big vf vh vw f h ws W (hf.below hW) (hh.below hW) (hw.below hW) hlf hlh hlw hq
  have hWb := fun W (hW : Below w.heap.size w W) hbad => body_write_bad vf vh vw f h ws W (hL.below hW) (hf.below hW) (hh.below hW) (hw.below hW) hlf hlh hlw hbad
  have hWo := fun W (hW : Below w.heap.size w W) hok => body_write_ok vf vh vw f h ws W (hL.below hW) (hf.below hW) (hh.below hW) (hw.below hW) hlf hlh hlw hok
  have hFr := fun W (hW : Below w.heap.size w W) => frame_write_all vf vh vw f h ws W (hL.below hW) (hf.below hW) (hh.below hW) (hw.below hW) hlf hlh hlw
  obtain ⟨o1, m1, e1, -, -⟩ := hf.list.at entCells_len
  obtain ⟨o2, m2, e2, -, -⟩ := hh.list.at entCells_len
  obtain ⟨o3, m3, e3, -, -⟩ := ListIs.at hw wrBCells_len
  clear hf hh hw
  subst e1 e2 e3
  replace hG := Lib.hid hG
  replace hD := Lib.hid hD
  replace hQ := Lib.hid hQ
  replace hB := Lib.hid hB
  replace hWb := Lib.hid hWb
  replace hWo := Lib.hid hWo
  replace hFr := Lib.hid hFr
  replace hq := Lib.hid hq
  go_enter Tryd.func4, Tryd.ntmps4
  go_wp2_with fail
  have q0 := row_at #[.slice o1 f.length m1, .slice o2 h.length m2, .slice o3 ws.length m3] 26 (rfl : w.heap.size = w.heap.size)
  have hb1 := bal (Below.refl w.heap.size w) (Obj.cells #[.slice o1 f.length m1, .slice o2 h.length m2, .slice o3 ws.length m3] 26)
  generalize w.alloc (Obj.cells #[.slice o1 f.length m1, .slice o2 h.length m2, .slice o3 ws.length m3] 26) = w1 at *
  refine (hG.out _ hb1).mono ?_
  rintro _ w2 ⟨rfl, hb2⟩
  replace q0 := q0.below hb2
  replace hb1 := bch hb1 hb2
  clear hb2
  go_wp2_with fail
  refine (hD.out _ hb1).mono ?_
  rintro _ w3 ⟨rfl, hb2⟩
  replace q0 := q0.below hb2
  replace hb1 := bch hb1 hb2
  clear hb2
  go_wp2_with fail
  refine (hQ.out _).mono ?_
  rintro _ w3 ⟨rfl, hb2⟩
  replace q0 := q0.below hb2
  replace hb1 := bch hb1 hb2
  clear hb2
  (have c0 := q0.cell 0; have c1 := q0.cell 1; have c2 := q0.cell 2; simp only [List.set_cons_succ, List.set_cons_zero, List.getElem?_cons_zero, List.getElem?_cons_succ] at c0 c1 c2)
  go_wp2_with fail
  refine (hB.out _ hb1).mono ?_
  rintro _ w4 ⟨⟨r, rfl⟩, hb2⟩
  replace q0 := q0.below hb2
  replace hb1 := bch hb1 hb2
  clear hb2 c0 c1 c2
  (have c0 := q0.cell 0; have c1 := q0.cell 1; have c2 := q0.cell 2; simp only [List.set_cons_succ, List.set_cons_zero, List.getElem?_cons_zero, List.getElem?_cons_succ] at c0 c1 c2)
  cases r with
  | true =>
    go_wp2
    go_ret
    exact ⟨rfl, hb1⟩
  | false =>
  by_cases hgood : Bat.right f h (ws.map WrB.plain) = .ok ∧ (bodyOf f h ws).length ≤ 20000
  rotate_left
  · have hE : Calls Tryd.prog 17 #[.agg #[.slice o1 f.length m1, .slice o2 h.length m2, .slice o3 ws.length m3]] w4 fun e w' => (∃ t u, e = .returned (.tuple #[.string ⟨#[]⟩, .iface t u])) ∧ Below w4.heap.size w4 w' := by
      by_cases hok : Bat.right f h (ws.map WrB.plain) = .ok
      · have hl : 20000 < (bodyOf f h ws).length := Nat.lt_of_not_le fun hc => hgood ⟨hok, hc⟩
        refine (hWo.out w4 hb1 hok).mono ?_
        rintro e w' ⟨rfl, hb⟩
        rw [if_pos hl]
        exact ⟨⟨_, _, rfl⟩, hb⟩
      · refine (hWb.out w4 hb1 hok).mono ?_
        rintro e w' ⟨⟨E, rfl, hE⟩, hb⟩
        obtain ⟨t, u, rfl⟩ := err_some hE hok
        exact ⟨⟨_, _, rfl⟩, hb⟩
    replace hE := Lib.hid hE
    have hno : ∀ s E, FW f h ws s E → s = ⟨#[]⟩ ∧ ∃ t u, E = .iface t u := fun s E hf => by
      rcases hf with ⟨-, h2, h3, -⟩ | ⟨h1, -, h3⟩
      · exact absurd ⟨h2, h3⟩ hgood
      · exact ⟨h1, h3⟩
    replace hno := Lib.hid hno
    clear hgood
    go_wp2_with fail
    refine hE.out.mono ?_
    rintro _ w5 ⟨⟨t, u, rfl⟩, hb2⟩
    replace q0 := q0.below hb2
    replace hb1 := bch hb1 hb2
    clear hb2 c0 c1 c2
    (have c0 := q0.cell 0; have c1 := q0.cell 1; have c2 := q0.cell 2; simp only [List.set_cons_succ, List.set_cons_zero, List.getElem?_cons_zero, List.getElem?_cons_succ] at c0 c1 c2)
    go_wp2_with fail
    refine (hFr.out _ hb1).mono ?_
    rintro _ w6 ⟨⟨s, E, rfl, hfw⟩, hb2⟩
    obtain ⟨rfl, t2, u2, rfl⟩ := hno.out s E hfw
    replace hfw := Lib.hid hfw
    go_wp2
    go_ret
    exact ⟨rfl, bch hb1 hb2⟩
  · have hE := hWo.out w4 hb1 hgood.1
    rw [if_neg (by omega)] at hE
    have hyes : ∀ s E, FW f h ws s E → E = .nilIface ∧ s = ⟨(Frame.write f h (ws.map WrB.plain)).toArray⟩ := fun s E hf => by
      rcases hf with ⟨h1, -, -, h4⟩ | ⟨-, h2, -⟩
      · exact ⟨h1, h4⟩
      · exact absurd hgood h2
    have hT := Frame.write_len f h (ws.map WrB.plain)
    change _ = 8 + (Vary.put (bodyOf f h ws).length).length + (if (Frame.squeeze (bodyOf f h ws)).length < (bodyOf f h ws).length then (Frame.squeeze (bodyOf f h ws)).length else (bodyOf f h ws).length) at hT
    have hS := hgood.2
    rw [put_len20 hS] at hT
    generalize Frame.write f h (ws.map WrB.plain) = FR at *
    generalize bodyOf f h ws = S at *
    have hZl := squeezed_len S hS
    have hSq := fun W => lz_squeeze ⟨S.toArray⟩ W (by rw [ba_size]; exact hS)
    change ∀ W, Calls Tryd.prog 18 #[.string ⟨S.toArray⟩] W fun e w' => e = .returned (.tuple #[.string ⟨(Frame.squeeze S).toArray⟩, .nilIface]) ∧ Below W.heap.size W w' at hSq
    change (Frame.squeeze S).length ≤ _ at hZl
    have hZ : (Frame.squeeze S).length ≤ 420000 := by omega
    generalize Frame.squeeze S = Z at *
    have hTl : FR.length ≤ 500000 := by rw [hT]; split <;> split <;> (try split) <;> omega
    have hTi : (FR.length : Int) = 8 + (if S.length < 128 then 1 else if S.length < 16384 then 2 else 3) + (if (Z.length : Int) < (S.length : Int) then (Z.length : Int) else (S.length : Int)) := by
      rw [hT]; split <;> split <;> (try split) <;> (try split) <;> omega
    replace hTi := Lib.hid hTi
    replace hT := Lib.hid hT
    replace hE := Lib.hid hE
    replace hyes := Lib.hid hyes
    replace hSq := Lib.hid hSq
    clear hgood hZl
    go_wp2_with fail
    refine hE.out.mono ?_
    rintro _ w5 ⟨rfl, hb2⟩
    replace q0 := q0.below hb2
    replace hb1 := bch hb1 hb2
    clear hb2 c0 c1 c2
    (have c0 := q0.cell 0; have c1 := q0.cell 1; have c2 := q0.cell 2; simp only [List.set_cons_succ, List.set_cons_zero, List.getElem?_cons_zero, List.getElem?_cons_succ] at c0 c1 c2)
    go_wp2_with fail
    refine (hFr.out _ hb1).mono ?_
    rintro _ w6 ⟨⟨s, E, rfl, hfw⟩, hb2⟩
    obtain ⟨rfl, rfl⟩ := hyes.out s E hfw
    replace hb1 := bch hb1 hb2
    clear hfw hb2 q0 c0 c1 c2
    go_wp2_with fail
    refine (hSq.out _).mono ?_
    rintro _ w7 ⟨rfl, hb2⟩
    replace hb1 := bch hb1 hb2
    by_cases h128 : S.length < 128
    · have t1 : decide ((128 : Int) ≤ (S.length : Int)) = false := decide_eq_false (by omega)
      have t2 : decide ((16384 : Int) ≤ (S.length : Int)) = false := decide_eq_false (by omega)
      have hfi := hTi.out
      rw [if_pos h128] at hfi
      replace hfi := Lib.hid hfi
      replace h128 := Lib.hid h128
      go_wp2
      go_ret
      exact ⟨ret_bool (by have := hfi.out; simp; split at this <;> omega), hb1⟩
    · by_cases h16 : S.length < 16384
      · have t1 : decide ((128 : Int) ≤ (S.length : Int)) = true := decide_eq_true (by omega)
        have t2 : decide ((16384 : Int) ≤ (S.length : Int)) = false := decide_eq_false (by omega)
        have hfi := hTi.out
        rw [if_neg h128, if_pos h16] at hfi
        replace hfi := Lib.hid hfi
        replace h128 := Lib.hid h128
        replace h16 := Lib.hid h16
        go_wp2
        go_ret
        exact ⟨ret_bool (by have := hfi.out; simp; split at this <;> omega), hb1⟩
      · have t1 : decide ((128 : Int) ≤ (S.length : Int)) = true := decide_eq_true (by omega)
        have t2 : decide ((16384 : Int) ≤ (S.length : Int)) = true := decide_eq_true (by omega)
        have hfi := hTi.out
        rw [if_neg h128, if_neg h16] at hfi
        replace hfi := Lib.hid hfi
        replace h128 := Lib.hid h128
        replace h16 := Lib.hid h16
        go_wp2
        go_ret
        exact ⟨ret_bool (by have := hfi.out; simp; split at this <;> omega), hb1⟩
theorem FrameSmall_walk (vf vh vw : Value) (w : World) (q : BatQ w (vf, vh, vw)) (hL : Laid w) :
    Calls Tryd.prog 4 #[.agg #[vf, vh, vw]] w fun e w' => e = .returned (.bool true) ∧ Below w.heap.size w w' := by
  obtain ⟨⟨f, hf, -, hlf⟩, ⟨h, hh, -, hlh⟩, ⟨ws, hw, hq, hlw⟩⟩ := q
  exact frame_small vf vh vw f h ws w hL hf hh hw hlf hlh hlw hq
end Go.Proofs.YtopjaflclkdamaaDoor
