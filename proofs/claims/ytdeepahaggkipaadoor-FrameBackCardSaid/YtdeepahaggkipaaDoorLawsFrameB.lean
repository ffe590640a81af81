/- The walk of the law FrameBack. -/
import Derived.Test.YtdeepahaggkipaaDoorWFramed
import Derived.Test.YtdeepahaggkipaaDoorWHeld
import Derived.Test.YtdeepahaggkipaaDoorWSameAny
import Derived.Test.YtdeepahaggkipaaDoorWOldLen
namespace Go.Proofs.YtdeepahaggkipaaDoor
open Go.RowKit
set_option linter.unusedVariables false
set_option linter.unusedSimpArgs false
theorem WrB.of_plain (x : WrB) : WrB.of x.plain = x := by
  obtain ⟨t, r, k, key, val, n⟩ := x
  show WrB.mk t r k ⟨key.data.toList.toArray⟩ ⟨val.data.toList.toArray⟩ n = _
  rw [ba_mk, ba_mk]
theorem of_plains (ws : List WrB) : (ws.map WrB.plain).map WrB.of = ws := by
  rw [List.map_map]
  exact (List.map_congr_left (g := id) fun x _ => WrB.of_plain x).trans (List.map_id ws)
/-- What is read of what was written. -/
theorem three_0 (a b c : Value) (w : World) : (Instr.index 35 (.agg #[a, b, c]) (.int .i64 0)).run Tryd.prog w = .ok a w := by kernel_rfl
theorem three_1 (a b c : Value) (w : World) : (Instr.index 35 (.agg #[a, b, c]) (.int .i64 1)).run Tryd.prog w = .ok b w := by kernel_rfl
theorem three_2 (a b c : Value) (w : World) : (Instr.index 35 (.agg #[a, b, c]) (.int .i64 2)).run Tryd.prog w = .ok c w := by kernel_rfl
theorem three_at (a b c : Value) (i : Nat) (hi : i < 3) (w : World) : (Instr.index 35 (.agg #[a, b, c]) (.int .i64 i)).run Tryd.prog w = .ok (if i = 0 then a else if i = 1 then b else c) w := by
  match i, hi with
  | 0, _ => exact three_0 a b c w
  | 1, _ => exact three_1 a b c w
  | 2, _ => exact three_2 a b c w
set_option maxHeartbeats 8000000 in
set_option maxRecDepth 20000 in
theorem frame_back (vf vh vw : Value) (f h : List Vec.Entry) (ws : List WrB) (w : World) (hL : Laid w) (hf : VecIs w vf f) (hh : VecIs w vh h) (hw : WrsIs w vw ws) (hlf : f.length ≤ 140737488351232) (hlh : h.length ≤ 140737488351232) (hlw : ws.length ≤ 140737488351232) (hq : ∀ x ∈ ws, WrBOk x) :
    Calls Tryd.prog 3 #[.agg #[vf, vh, vw]] w fun e w' => e = .returned (.bool true) ∧ Below w.heap.size w w' := by
  have hG := fun W (hW : Below w.heap.size w W) => framed W (hL.below hW)
  have hH := fun W (hW : Below w.heap.size w W) => keep_big vf vh vw f h ws W (hf.below hW) (hh.below hW) (hw.below hW) hlf hlh hlw hq
  have hFr := fun W (hW : Below w.heap.size w W) => frame_write_all vf vh vw f h ws W (hL.below hW) (hf.below hW) (hh.below hW) (hw.below hW) hlf hlh hlw
  have hF1 := fun W (hW : Below w.heap.size w W) hok => old_first_ok vf vh vw f h ws W (hL.below hW) (hf.below hW) (hh.below hW) (hw.below hW) hlf hlh hlw hok
  have hF2 := fun W (hW : Below w.heap.size w W) hok hl => old_second vf vh vw f h ws W (hL.below hW) (hf.below hW) (hh.below hW) (hw.below hW) hlf hlh hlw hok hl
  have hF3 := fun W (hW : Below w.heap.size w W) hok hl => old_second_long vf vh vw f h ws W (hL.below hW) (hf.below hW) (hh.below hW) (hw.below hW) hlf hlh hlw hok hl
  have hS := fun v1 v2 v3 W (hW : Below w.heap.size w W) a1 a2 a3 => same_any v1 v2 v3 vf vh vw f h ws f h ws W a1 a2 a3 (hf.below hW) (hh.below hW) (hw.below hW) hlf hlh hlw hlf hlh hlw
  have hS2 := fun v1 v2 v3 W (hW : Below w.heap.size w W) a1 a2 a3 => same_any vf vh vw v1 v2 v3 f h ws f h ws W (hf.below hW) (hh.below hW) (hw.below hW) a1 a2 a3 hlf hlh hlw hlf hlh hlw
  obtain ⟨o1, m1, e1, -, -⟩ := hf.list.at entCells_len
  obtain ⟨o2, m2, e2, -, -⟩ := hh.list.at entCells_len
  obtain ⟨o3, m3, e3, -, -⟩ := ListIs.at hw wrBCells_len
  clear hf hh hw
  subst e1 e2 e3
  replace hG := Lib.hid hG
  replace hH := Lib.hid hH
  replace hFr := Lib.hid hFr
  replace hF1 := Lib.hid hF1
  replace hF2 := Lib.hid hF2
  replace hF3 := Lib.hid hF3
  replace hq := Lib.hid hq
  replace hS := Lib.hid hS
  replace hS2 := Lib.hid hS2
  go_enter Tryd.func3, Tryd.ntmps3
  go_wp2_with fail
  have q0 := row_at #[.slice o1 f.length m1, .slice o2 h.length m2, .slice o3 ws.length m3] 25 (rfl : w.heap.size = w.heap.size)
  have hb1 := bal (Below.refl w.heap.size w) (Obj.cells #[.slice o1 f.length m1, .slice o2 h.length m2, .slice o3 ws.length m3] 25)
  generalize w.alloc (Obj.cells #[.slice o1 f.length m1, .slice o2 h.length m2, .slice o3 ws.length m3] 25) = w1 at *
  refine (hG.out _ hb1).mono ?_
  rintro _ w2 ⟨rfl, hb2⟩
  replace q0 := q0.below hb2
  replace hb1 := bch hb1 hb2
  clear hb2
  (have c0 := q0.cell 0; have c1 := q0.cell 1; have c2 := q0.cell 2; simp only [List.set_cons_succ, List.set_cons_zero, List.getElem?_cons_zero, List.getElem?_cons_succ] at c0 c1 c2)
  go_wp2_with fail
  refine (hH.out _ hb1).mono ?_
  rintro _ w4 ⟨⟨r, rfl⟩, hb2⟩
  replace q0 := q0.below hb2
  replace hb1 := bch hb1 hb2
  clear hb2 c0 c1 c2
  (have c0 := q0.cell 0; have c1 := q0.cell 1; have c2 := q0.cell 2; simp only [List.set_cons_succ, List.set_cons_zero, List.getElem?_cons_zero, List.getElem?_cons_succ] at c0 c1 c2)
  cases r with
  | true =>
    go_wp2
    go_ret
    exact ⟨rfl, hb1⟩
  | false =>
  by_cases hgood : Bat.right f h (ws.map WrB.plain) = .ok ∧ (bodyOf f h ws).length ≤ 20000
  rotate_left
  · have hno : ∀ s E, FW f h ws s E → s = ⟨#[]⟩ ∧ ∃ t u, E = .iface t u := fun s E hf => by
      rcases hf with ⟨-, h2, h3, -⟩ | ⟨h1, -, h3⟩
      · exact absurd ⟨h2, h3⟩ hgood
      · exact ⟨h1, h3⟩
    replace hno := Lib.hid hno
    clear hgood
    go_wp2_with fail
    refine (hFr.out _ hb1).mono ?_
    rintro _ w5 ⟨⟨s, E, rfl, hfw⟩, hb2⟩
    obtain ⟨rfl, t, u, rfl⟩ := hno.out s E hfw
    replace q0 := q0.below hb2
    replace hb1 := bch hb1 hb2
    clear hb2 c0 c1 c2
    (have c0 := q0.cell 0; have c1 := q0.cell 1; have c2 := q0.cell 2; simp only [List.set_cons_succ, List.set_cons_zero, List.getElem?_cons_zero, List.getElem?_cons_succ] at c0 c1 c2)
    replace hfw := Lib.hid hfw
    go_wp2
    go_ret
    exact ⟨rfl, hb1⟩
  obtain ⟨hok, hbl⟩ := hgood
  have hlong : ¬ 20000 < (bodyOf f h ws).length := by omega
  have hyes : ∀ s E, FW f h ws s E → E = .nilIface ∧ s = ⟨(Frame.write f h (ws.map WrB.plain)).toArray⟩ := fun s E hf => by
    rcases hf with ⟨h1, -, -, h4⟩ | ⟨-, h2, -⟩
    · exact ⟨h1, h4⟩
    · exact absurd ⟨hok, hbl⟩ h2
  have hl1 := Fst.first_len hok
  have hl3 := Fst.frame_len f h ws hbl
  have hl2 : (Frame.around 2 (bodyOf f h ws)).length ≤ 20100 := by rw [Frame.around_len]; omega
  have ha1 := Fst.anyB_first hok
  have ha2 := Fst.anyB_second (ws := ws.map WrB.plain) hok hbl
  have ha3 := Fst.anyB_third (ws := ws.map WrB.plain) hok hbl
  change Fst.anyB (Frame.around 2 (bodyOf f h ws)) = _ at ha2
  have hv1 := Fst.version_first f h (ws.map WrB.plain)
  have hv2 := Fst.version_second f h (ws.map WrB.plain)
  change Frame.version (Frame.around 2 (bodyOf f h ws)) = _ at hv2
  have hv3 := Fst.version_third f h (ws.map WrB.plain)
  have hfb : Fst.frameB (Frame.write f h (ws.map WrB.plain)) = some (f, h, ws.map WrB.plain) := by
    unfold Fst.frameB
    rw [Frame.readB_write hok hbl]
    simp
  have hof := of_plains ws
  replace hF1 := Lib.hid (fun W hW => hF1.out W hW hok)
  replace hF2 := Lib.hid (fun W hW => hF2.out W hW hok hlong)
  clear hF3 hbl hlong hok
  generalize Fst.write f h (ws.map WrB.plain) = S1 at *
  generalize Frame.write f h (ws.map WrB.plain) = S3 at *
  generalize Frame.around 2 (bodyOf f h ws) = S2 at *
  have hgot : ∀ S : List UInt8, S.length ≤ 50000 → Fst.anyB S = some (f, h, ws.map WrB.plain) → ∀ W, Laid W → Calls Tryd.prog 17 #[.string ⟨S.toArray⟩] W fun e w' => (∃ vf vh vw, e = .returned (.tuple #[.agg #[vf, vh, vw], .nilIface]) ∧ VecIs w' vf f ∧ VecIs w' vh h ∧ WrsIs w' vw ws) ∧ Below W.heap.size W w' := fun S hSl hA W hW => by
    have := old_any ⟨S.toArray⟩ W (by rw [ba_size]; omega) hW
    rw [show (ByteArray.mk S.toArray).data.toList = S from rfl, hA] at this
    unfold OldRes at this
    simp only at this
    rw [hof] at this
    exact this
  have hRd : ∀ W, Laid W → Calls Tryd.prog 15 #[.string ⟨S3.toArray⟩] W fun e w' => (∃ vf vh vw, e = .returned (.tuple #[.agg #[vf, vh, vw], .nilIface]) ∧ VecIs w' vf f ∧ VecIs w' vh h ∧ WrsIs w' vw ws) ∧ Below W.heap.size W w' := fun W hW => by
    have := frame_res ⟨S3.toArray⟩ W (by rw [ba_size]; omega) hW
    rw [show (ByteArray.mk S3.toArray).data.toList = S3 from rfl, hfb] at this
    unfold OldRes at this
    simp only at this
    rw [hof] at this
    exact this
  have hVer : ∀ (S : List UInt8) (v : Nat), S.length ≤ 50000 → Frame.version S = .inr v → ∀ W, Calls Tryd.prog 18 #[.string ⟨S.toArray⟩] W fun e w' => e = .returned (.tuple #[.int .i64 v, .nilIface]) ∧ Below W.heap.size W w' := fun S v hSl hV W => by
    have := frame_version ⟨S.toArray⟩ W (by rw [ba_size]; omega)
    rw [show (ByteArray.mk S.toArray).data.toList = S from rfl, hV] at this
    exact this
  have hB3 : ∀ i, i < 3 → ∃ S : List UInt8, (if i = 0 then Value.string ⟨S1.toArray⟩ else if i = 1 then .string ⟨S2.toArray⟩ else .string ⟨S3.toArray⟩) = .string ⟨S.toArray⟩ ∧ S.length ≤ 50000 ∧ Fst.anyB S = some (f, h, ws.map WrB.plain) ∧ Frame.version S = .inr (i + 1) := fun i hi => by
    match i, hi with
    | 0, _ => exact ⟨S1, rfl, by omega, ha1, hv1⟩
    | 1, _ => exact ⟨S2, rfl, by omega, ha2, hv2⟩
    | 2, _ => exact ⟨S3, rfl, by omega, ha3, hv3⟩
  have hThree := fun i hi W => three_at (.string ⟨S1.toArray⟩) (.string ⟨S2.toArray⟩) (.string ⟨S3.toArray⟩) i hi W
  replace hyes := Lib.hid hyes
  replace hof := Lib.hid hof
  replace hgot := Lib.hid hgot
  replace hRd := Lib.hid hRd
  replace hVer := Lib.hid hVer
  replace hB3 := Lib.hid hB3
  replace hThree := Lib.hid hThree
  clear ha1 ha2 ha3 hv1 hv2 hv3 hfb hl1 hl2 hl3
  go_wp2_with fail
  refine (hFr.out _ hb1).mono ?_
  rintro _ w5 ⟨⟨s, E, rfl, hfw⟩, hb2⟩
  obtain ⟨rfl, rfl⟩ := hyes.out s E hfw
  clear hfw
  replace q0 := q0.below hb2
  replace hb1 := bch hb1 hb2
  clear hb2 c0 c1 c2
  (have c0 := q0.cell 0; have c1 := q0.cell 1; have c2 := q0.cell 2; simp only [List.set_cons_succ, List.set_cons_zero, List.getElem?_cons_zero, List.getElem?_cons_succ] at c0 c1 c2)
  go_wp2_with fail
  refine (hF1.out _ hb1).mono ?_
  rintro _ w6 ⟨rfl, hb2⟩
  replace q0 := q0.below hb2
  replace hb1 := bch hb1 hb2
  clear hb2 c0 c1 c2
  (have c0 := q0.cell 0; have c1 := q0.cell 1; have c2 := q0.cell 2; simp only [List.set_cons_succ, List.set_cons_zero, List.getElem?_cons_zero, List.getElem?_cons_succ] at c0 c1 c2)
  go_wp2_with fail
  refine (hF2.out _ hb1).mono ?_
  rintro _ w7 ⟨rfl, hb2⟩
  replace q0 := q0.below hb2
  replace hb1 := bch hb1 hb2
  clear hb2 c0 c1 c2
  (have c0 := q0.cell 0; have c1 := q0.cell 1; have c2 := q0.cell 2; simp only [List.set_cons_succ, List.set_cons_zero, List.getElem?_cons_zero, List.getElem?_cons_succ] at c0 c1 c2)
  go_wp2_with fail
  refine (hRd.out _ (hL.below hb1)).mono ?_
  rintro _ w8 ⟨⟨v1, v2, v3, rfl, x1, x2, x3⟩, hb2⟩
  obtain ⟨o4, c4, rfl, -, -⟩ := x1.list.at entCells_len
  obtain ⟨o5, c5, rfl, -, -⟩ := x2.list.at entCells_len
  obtain ⟨o6, c6, rfl, -, -⟩ := ListIs.at x3 wrBCells_len
  have hA := bal (Below.refl w8.heap.size w8) (Obj.cells #[.slice o4 f.length c4, .slice o5 h.length c5, .slice o6 ws.length c6] 25)
  replace q0 := (q0.below hb2).below hA
  replace hb1 := bch (bch hb1 hb2) hA
  have hSm := hS.out _ _ _ _ hb1 (x1.below hA) (x2.below hA) (x3.below hA)
  have q5 := row_alloc w8 #[.slice o4 f.length c4, .slice o5 h.length c5, .slice o6 ws.length c6] 25
  rw [sameB_self] at hSm
  replace hSm := Lib.hid hSm
  replace hb1 := Lib.hid hb1
  clear x1 x2 x3 hb2 c0 c1 c2 hA
  (have c0 := q0.cell 0; have c1 := q0.cell 1; have c2 := q0.cell 2; simp only [List.set_cons_succ, List.set_cons_zero, List.getElem?_cons_zero, List.getElem?_cons_succ] at c0 c1 c2)
  replace q0 := Lib.hid q0
  replace q5 := Lib.hid q5
  go_wp2_with fail
  refine hSm.out.mono ?_
  rintro _ w9 ⟨rfl, hb2⟩
  replace hb1 := bch hb1.out hb2
  replace q0 := q0.out.below hb2
  clear hb2 c0 c1 c2 hSm q5
  go_wp2
  go_loopw [65] (fun i wr => ∃ k : Nat, k ≤ 3 ∧ i = .int .i64 k ∧ Row wr w.heap.size 25 [.slice o1 f.length m1, .slice o2 h.length m2, .slice o3 ws.length m3] ∧ Below w.heap.size w wr) (fun i _ => 3 - (intOf i).toNat)
  case atStart => exact ⟨0, by omega, rfl, q0, hb1⟩
  case round =>
    clear q0 hb1
    obtain ⟨k, hk, rfl, q0, hb1⟩ := hrel
    by_cases hlt : k < 3
    · obtain ⟨S, hSe, hSl, hSa, hSv⟩ := hB3.out k hlt
      have hix := fun W => hThree.out k hlt W
      rw [hSe] at hix
      have hAny := Lib.hid (hgot.out S hSl hSa)
      have hVe := hVer.out S _ hSl hSv
      have hk1 : ((k + 1 : Nat) : Int) = (k : Int) + 1 := by omega
      rw [hk1] at hVe
      replace hVe := Lib.hid hVe
      (have c0 := q0.cell 0; have c1 := q0.cell 1; have c2 := q0.cell 2; simp only [List.set_cons_succ, List.set_cons_zero, List.getElem?_cons_zero, List.getElem?_cons_succ] at c0 c1 c2)
      clear hSe hSa hSv hk1
      have hklt : (k : Int) < 3 := by omega
      go_wp2_with fail
      refine (hAny.out _ (hL.below hb1)).mono ?_
      rintro _ wa ⟨⟨v1, v2, v3, rfl, x1, x2, x3⟩, hb2⟩
      obtain ⟨o7, c7, rfl, -, -⟩ := x1.list.at entCells_len
      obtain ⟨o8, c8, rfl, -, -⟩ := x2.list.at entCells_len
      obtain ⟨o9, c9, rfl, -, -⟩ := ListIs.at x3 wrBCells_len
      have hA := bal (Below.refl wa.heap.size wa) (Obj.cells #[.slice o7 f.length c7, .slice o8 h.length c8, .slice o9 ws.length c9] 25)
      have q5 := row_alloc wa #[.slice o7 f.length c7, .slice o8 h.length c8, .slice o9 ws.length c9] 25
      replace q0 := (q0.below hb2).below hA
      replace hb1 := bch (bch hb1 hb2) hA
      replace x1 := Lib.hid (x1.below hA)
      replace x2 := Lib.hid (x2.below hA)
      replace x3 := Lib.hid (x3.below hA)
      clear c0 c1 c2 hb2 hA hix
      go_wp2_with fail
      obtain ⟨g5, hg5⟩ : ∃ g, g = wa.heap.size := ⟨_, rfl⟩
      rw [← hg5] at q5 ⊢
      replace hg5 := Lib.hid hg5
      generalize wa.alloc (Obj.cells #[.slice o7 f.length c7, .slice o8 h.length c8, .slice o9 ws.length c9] 25) = wb at *
      refine (hVe.out _).mono ?_
      rintro _ wc ⟨rfl, hb2⟩
      replace q0 := q0.below hb2
      replace q5 := q5.below hb2
      replace hb1 := bch hb1 hb2
      have hSm := hS2.out _ _ _ _ hb1 (x1.out.below hb2) (x2.out.below hb2) (x3.out.below hb2)
      rw [sameB_self] at hSm
      replace hSm := Lib.hid hSm
      clear hb2
      (have c0 := q0.cell 0; have c1 := q0.cell 1; have c2 := q0.cell 2; simp only [List.set_cons_succ, List.set_cons_zero, List.getElem?_cons_zero, List.getElem?_cons_succ] at c0 c1 c2)
      (have d0 := q5.cell 0; have d1 := q5.cell 1; have d2 := q5.cell 2; simp only [List.set_cons_succ, List.set_cons_zero, List.getElem?_cons_zero, List.getElem?_cons_succ] at d0 d1 d2)
      go_wp2_with fail
      refine hSm.out.mono ?_
      rintro _ wd ⟨rfl, hb2⟩
      replace q0 := Lib.hid (q0.below hb2)
      replace hb1 := Lib.hid (bch hb1 hb2)
      clear q5 hb2 c0 c1 c2 d0 d1 d2 hSm
      go_wp2
      go_roundw
      case rel => exact ⟨k + 1, by omega, by go_num, q0.out, hb1.out⟩
      case measure => simp [intOf]; omega
    · obtain rfl : k = 3 := by omega
      go_wp2
      go_ret
      exact ⟨rfl, hb1⟩
theorem FrameBack_walk (vf vh vw : Value) (w : World) (q : BatQ w (vf, vh, vw)) (hL : Laid w) :
    Calls Tryd.prog 3 #[.agg #[vf, vh, vw]] w fun e w' => e = .returned (.bool true) ∧ Below w.heap.size w w' := by
  obtain ⟨⟨f, hf, -, hlf⟩, ⟨h, hh, -, hlh⟩, ⟨ws, hw, hq, hlw⟩⟩ := q
  exact frame_back vf vh vw f h ws w hL hf hh hw hlf hlh hlw hq
end Go.Proofs.YtdeepahaggkipaaDoor
