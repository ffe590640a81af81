/- The walk of the law BatchLess. -/
import Derived.Test.YtpmedolndkidcaaDoorWGath
import Derived.Test.YtpmedolndkidcaaDoorWHeld
import Derived.Test.YtpmedolndkidcaaDoorWPick
import Derived.Test.YtpmedolndkidcaaDoorWCloneWr
import Derived.Test.YtpmedolndkidcaaDoorWInsW
import Derived.Test.YtpmedolndkidcaaDoorWDelW
namespace Go.Proofs.YtpmedolndkidcaaDoor
open Go.RowKit
set_option linter.unusedVariables false
set_option linter.unusedSimpArgs false
namespace Bat
theorem less_ok {f h : List Vec.Entry} {ws : List Wr} (hr : right f h ws = .ok) (i : Nat) : right f h (ws.take i ++ ws.drop (i + 1)) = .ok := by
  have hF := (right_iff f h ws).1 hr
  have hsub : (ws.take i ++ ws.drop (i + 1)).Sublist ws := by
    have h1 : (ws.drop (i + 1)).Sublist (ws.drop i) := by
      rw [← List.drop_drop]; exact List.drop_sublist _ _
    have h2 := (List.Sublist.refl (ws.take i)).append h1
    rwa [List.take_append_drop] at h2
  exact (right_iff f h _).2 ⟨hF.from_, hF.have_, hF.cov, Nat.le_trans hsub.length_le hF.len, fun x hx => hF.each x (hsub.subset hx), hF.order.sublist hsub⟩
theorem wrongs_skip (f h : List Vec.Entry) : ∀ (l r : List Wr) (prev : Option Wr) (i : Nat), wrongs f h l prev i = .ok → l ≠ [] → wrongs f h (l ++ r) prev i = wrongs f h r l.getLast? (i + l.length)
  | [], r, prev, i, _, hn => absurd rfl hn
  | [x], r, prev, i, hw, _ => by
    simp only [wrongs] at hw ⊢
    split at hw
    · cases hw
    · rename_i h0
      simp only [List.cons_append, List.nil_append, wrongs, if_neg h0]
      rfl
  | x :: y :: l, r, prev, i, hw, _ => by
    have hx : wrong f h prev x = 0 := by
      rw [wrongs] at hw
      split at hw
      · cases hw
      · rename_i h0; simpa using h0
    rw [wrongs, if_neg (by rw [hx]; simp)] at hw
    rw [List.cons_append, wrongs, if_neg (by rw [hx]; simp), wrongs_skip f h (y :: l) r (some x) (i + 1) hw (by simp)]
    simp [Nat.add_assoc, Nat.add_comm 1]
theorem wrong_twice (f h : List Vec.Entry) (x : Wr) (hr : Wr.right x = 0) : wrong f h (some x) x = 10 := by
  have hl : ¬ Later x x := by unfold Later; omega
  unfold wrong behind
  simp [hr, hl]
theorem more_wrong {f h : List Vec.Entry} {ws : List Wr} (hr : right f h ws = .ok) (i : Nat) (hi : i < ws.length) : (right f h (ws.take i ++ [ws[i]] ++ ws.drop i)).code = if ws.length = 60 then 4 else 10 := by
  have hF := (right_iff f h ws).1 hr
  have hlen : (ws.take i ++ [ws[i]] ++ ws.drop i).length = ws.length + 1 := by simp only [List.length_append, List.length_take, List.length_drop, List.length_singleton]; omega
  have h60 := hF.len
  unfold right
  rw [if_neg (by simp [hF.from_]), if_neg (by simp [hF.have_]), if_neg (by simp [hF.cov]), hlen]
  by_cases h6 : ws.length = 60
  · rw [if_pos (by omega), if_pos h6]; rfl
  · rw [if_neg (by omega), if_neg h6]
    have hpre : right f h (ws.take (i + 1)) = .ok := by
      have hsub : (ws.take (i + 1)).Sublist ws := List.take_sublist _ _
      exact (right_iff f h _).2 ⟨hF.from_, hF.have_, hF.cov, Nat.le_trans hsub.length_le hF.len, fun x hx => hF.each x (hsub.subset hx), hF.order.sublist hsub⟩
    have hw : wrongs f h (ws.take (i + 1)) none 0 = .ok := by
      unfold right at hpre
      rw [if_neg (by simp [hF.from_]), if_neg (by simp [hF.have_]), if_neg (by simp [hF.cov]), if_neg (by rw [List.length_take]; omega)] at hpre
      exact hpre
    have et : ws.take i ++ [ws[i]] = ws.take (i + 1) := (List.take_succ_eq_append_getElem hi).symm
    rw [et, wrongs_skip f h _ _ none 0 hw (by intro e; have := congrArg List.length e; rw [List.length_take, List.length_nil] at this; omega)]
    have hl : (ws.take (i + 1)).getLast? = some ws[i] := by rw [← et]; exact List.getLast?_concat
    rw [hl, List.drop_eq_getElem_cons hi, wrongs, wrong_twice f h _ (hF.each _ (List.getElem_mem hi)).1, if_pos (by decide)]
    rfl
end Bat
theorem wrs_take (l : List WrB) (k : Nat) : (l.flatMap wrBCells).take (k * 6) = (l.take k).flatMap wrBCells := by
  induction l generalizing k with
  | nil => simp
  | cons x l ih =>
    cases k with
    | zero => simp
    | succ k => rw [List.flatMap_cons, Nat.add_mul, Nat.one_mul, Nat.add_comm, List.take_append, wrBCells_len, List.take_of_length_le (by rw [wrBCells_len]; omega), Nat.add_sub_cancel_left, ih, List.take_succ_cons, List.flatMap_cons]
theorem wrs_drop (l : List WrB) (k : Nat) : (l.flatMap wrBCells).drop (k * 6) = (l.drop k).flatMap wrBCells := by
  induction l generalizing k with
  | nil => simp
  | cons x l ih =>
    cases k with
    | zero => simp
    | succ k => rw [List.flatMap_cons, Nat.add_mul, Nat.one_mul, Nat.add_comm, List.drop_append, wrBCells_len, List.drop_of_length_le (by rw [wrBCells_len]; omega), Nat.add_sub_cancel_left, ih, List.drop_succ_cons, List.nil_append]
theorem wrs_one (l : List WrB) : ∀ u ∈ l.flatMap wrBCells, u.oneCell' = true := fun u hu => by
  obtain ⟨x, -, hx⟩ := List.mem_flatMap.1 hu
  simp only [wrBCells, List.mem_cons, List.not_mem_nil, or_false] at hx
  rcases hx with rfl | rfl | rfl | rfl | rfl | rfl <;> rfl
theorem owns_set {w : World} {base : Nat} {e : TypeId} {sz n : Nat} {v : Value} {xs : List Value} (h : w.ownsRow base e sz v n xs) {p : Addr} (hp : v.ownBlock ≠ some p.block) (u : Value) : (w.setCell p u).ownsRow base e sz v n xs :=
  owns_only h ((Only.refl (fun j => j = p.block) w).set (.inl rfl) u) fun k hk e => hp (by rw [hk, e])
theorem cell_below2 {w0 w w' : World} {r : Option Nat} {p : Addr} {v : Value} (hb : Below w0.heap.size w0 w) (hg : w.grownBy w' r) (hr : ∀ j, r = some j → w0.heap.size ≤ j) (hc : w.cell? p = some v) (h0 : p.block < w0.heap.size) : w'.cell? p = some v :=
  (World.cell?_of_block (w := w) (hg.block p.block (Nat.lt_of_lt_of_le h0 hb.size) (fun e => by have := hr _ e.symm; omega))).trans hc
def LC (b : Nat) (v : Value) (g o : Nat) (x : WrB) (W : World) : Prop := W.cell? ⟨b, 2, none⟩ = some v ∧ W.cell? ⟨g, o, none⟩ = some (.int .i64 x.t) ∧ W.cell? ⟨g, o + 1, none⟩ = some (.int .i64 x.r) ∧ W.cell? ⟨g, o + 2, none⟩ = some (.int .i64 x.k) ∧ W.cell? ⟨g, o + 3, none⟩ = some (.string x.key) ∧ W.cell? ⟨g, o + 4, none⟩ = some (.string x.val) ∧ W.cell? ⟨g, o + 5, none⟩ = some (.int .i64 x.n)
theorem LC.step {W W' : World} {b g o : Nat} {v : Value} {x : WrB} (h : LC b v g o x W) (hb : W'.heap[b]? = W.heap[b]?) (hg : W'.heap[g]? = W.heap[g]?) : LC b v g o x W' := by
  have hc : ∀ i v, W.cell? ⟨g, i, none⟩ = some v → W'.cell? ⟨g, i, none⟩ = some v := fun i v hv => (World.cell?_of_block (w := W) hg).trans hv
  exact ⟨(World.cell?_of_block (w := W) hb).trans h.1, hc _ _ h.2.1, hc _ _ h.2.2.1, hc _ _ h.2.2.2.1, hc _ _ h.2.2.2.2.1, hc _ _ h.2.2.2.2.2.1, hc _ _ h.2.2.2.2.2.2⟩
theorem LC.blocks {W : World} {b g o : Nat} {v : Value} {x : WrB} (h : LC b v g o x W) : b < W.heap.size ∧ g < W.heap.size := ⟨World.block_lt_of_cell? W _ h.1, World.block_lt_of_cell? W _ h.2.1⟩
theorem LC.below {W W' : World} {b g o : Nat} {v : Value} {x : WrB} (h : LC b v g o x W) (hb : Below W.heap.size W W') : LC b v g o x W' := h.step (hb.block b h.blocks.1) (hb.block g h.blocks.2)
theorem LC.grown {W W' : World} {b g o : Nat} {v : Value} {x : WrB} (h : LC b v g o x W) {r : Option Nat} (hgr : W.grownBy W' r) (h1 : some b ≠ r) (h2 : some g ≠ r) : LC b v g o x W' := h.step (hgr.block b h.blocks.1 h1) (hgr.block g h.blocks.2 h2)
theorem LC.set {W : World} {b g o : Nat} {v : Value} {x : WrB} (h : LC b v g o x W) {p : Addr} (h1 : b ≠ p.block) (h2 : g ≠ p.block) (u : Value) : LC b v g o x (W.setCell p u) := h.step (Below.heap_setCell W p u b h1) (Below.heap_setCell W p u g h2)
set_option maxHeartbeats 20000000 in
set_option maxRecDepth 20000 in
theorem batch_less (vf vh vw : Value) (f h : List Vec.Entry) (ws : List WrB) (n : Int) (w : World) (hL : Laid w) (hf : VecIs w vf f) (hh : VecIs w vh h) (hw : WrsIs w vw ws) (hlf : f.length ≤ 140737488351232) (hlh : h.length ≤ 140737488351232) (hlw : ws.length ≤ 140737488351232) (hq : ∀ x ∈ ws, WrBOk x) :
    Calls Tryd.prog 11 #[.agg #[vf, vh, vw], .int .i64 n] w fun e w' => e = .returned (.bool true) ∧ Below w.heap.size w w' := by
  have hG := fun W (hW : Below w.heap.size w W) => gathered W (hL.below hW)
  have hH := fun W (hW : Below w.heap.size w W) => keep_held vf vh vw f h ws W (hL.below hW) (hf.below hW) (hh.below hW) (hw.below hW) hlf hlh hlw hq
  have hCl := fun W (hW : Below w.heap.size w W) hl => clone_wrs vw ws W (hw.below hW) hl
  have hR := fun (v : Value) (l : List WrB) W (hW : Below w.heap.size w W) (hv : WrsIs W v l) (hl : l.length ≤ 140737488351232) => batch_right vf vh v f h l W (hL.below hW) (hf.below hW) (hh.below hW) hv hlf hlh hl
  obtain ⟨o1, m1, e1, -, -⟩ := hf.list.at entCells_len
  obtain ⟨o2, m2, e2, -, -⟩ := hh.list.at entCells_len
  obtain ⟨o3, m3, e3, -, hcell⟩ := ListIs.at hw wrBCells_len
  clear hf hh hw
  subst e1 e2 e3
  replace hG := Lib.hid hG
  replace hH := Lib.hid hH
  replace hCl := Lib.hid hCl
  replace hR := Lib.hid hR
  replace hq := Lib.hid hq
  replace hcell := Lib.hid hcell
  go_enter Tryd.func11, Tryd.ntmps11
  go_wp2_with fail
  have q0 := row_at #[.slice o1 f.length m1, .slice o2 h.length m2, .slice o3 ws.length m3] 67 (rfl : w.heap.size = w.heap.size)
  have hb1 := bal (Below.refl w.heap.size w) (Obj.cells #[.slice o1 f.length m1, .slice o2 h.length m2, .slice o3 ws.length m3] 67)
  generalize w.alloc (Obj.cells #[.slice o1 f.length m1, .slice o2 h.length m2, .slice o3 ws.length m3] 67) = w1 at *
  refine (hG.out _ hb1).mono ?_
  rintro _ w2 ⟨rfl, hb2⟩
  replace q0 := q0.below hb2
  replace hb1 := bch hb1 hb2
  clear hb2
  (have c0 := q0.cell 0; have c1 := q0.cell 1; have c2 := q0.cell 2; simp only [List.set_cons_succ, List.set_cons_zero, List.getElem?_cons_zero, List.getElem?_cons_succ] at c0 c1 c2)
  go_wp2_with fail
  refine (hH.out _ hb1).mono ?_
  rintro _ w4 ⟨⟨r, rfl, hr⟩, hb2⟩
  replace q0 := q0.below hb2
  replace hb1 := bch hb1 hb2
  clear hb2 c0 c1 c2
  (have c0 := q0.cell 0; have c1 := q0.cell 1; have c2 := q0.cell 2; simp only [List.set_cons_succ, List.set_cons_zero, List.getElem?_cons_zero, List.getElem?_cons_succ] at c0 c1 c2)
  cases r with
  | false =>
    replace hr := Lib.hid hr
    go_wp2
    go_ret
    exact ⟨rfl, hb1⟩
  | true =>
  have hok := hr rfl
  clear hr
  have hl60 := ((Bat.right_iff _ _ _).1 hok).len
  rw [List.length_map] at hl60
  by_cases hz : ws.length = 0
  · replace hok := Lib.hid hok
    have hz2 : ((ws.length : Int) == 0) = true := by rw [hz]; rfl
    replace hz := Lib.hid hz
    go_wp2
    go_ret
    exact ⟨rfl, hb1⟩
  have hz2 : ((ws.length : Int) == 0) = false := by simpa using hz
  have hP0 := fun W => keep_pick n ws.length ws.length W rfl (by omega) (by omega)
  have hkl0 := pickN_lt n ws.length (by omega)
  generalize pickN n ws.length = k at *
  have hC1 := Bat.less_ok hok k
  have hD1 := Bat.more_wrong hok k (by rw [List.length_map]; exact hkl0)
  simp only [List.length_map] at hD1
  have eC : ((ws.take k ++ ws.drop (k + 1)).map WrB.plain) = (ws.map WrB.plain).take k ++ (ws.map WrB.plain).drop (k + 1) := by rw [List.map_append, List.map_take, List.map_drop]
  have eD : ((ws.take k ++ [ws[k]] ++ ws.drop k).map WrB.plain) = (ws.map WrB.plain).take k ++ [(ws.map WrB.plain)[k]'(by rw [List.length_map]; exact hkl0)] ++ (ws.map WrB.plain).drop k := by
    rw [List.map_append, List.map_append, List.map_take, List.map_drop, List.map_singleton, List.getElem_map]
  rw [← eC] at hC1
  rw [← eD] at hD1
  clear eC eD
  replace hP0 := Lib.hid hP0
  replace hCl := Lib.hid (fun W hW => hCl.out W hW (by omega))
  replace hok := Lib.hid hok
  replace hC1 := Lib.hid hC1
  replace hD1 := Lib.hid hD1
  replace hz := Lib.hid hz
  go_wp2_with fail
  refine (hP0.out _).mono ?_
  rintro _ w4' ⟨rfl, rfl⟩
  have hs0 := q0.lt
  replace q0 := Lib.hid q0
  go_wp2_with fail
  go_region
  · have qa := (row_at #[.slice o1 f.length m1, .slice o2 h.length m2, .slice o3 ws.length m3] 67 (rfl : w4.heap.size = w4.heap.size)).alloc (Obj.cells #[.slice o1 f.length m1, .slice o2 h.length m2, .slice o3 ws.length m3] 67)
    have qz := row_at (w := w4.alloc (Obj.cells #[.slice o1 f.length m1, .slice o2 h.length m2, .slice o3 ws.length m3] 67)) (g := w4.heap.size + 1) #[.slice o1 f.length m1, .slice o2 h.length m2, .slice o3 ws.length m3] 67 (by simp)
    have hb5 : Below w.heap.size w ((w4.alloc (Obj.cells #[.slice o1 f.length m1, .slice o2 h.length m2, .slice o3 ws.length m3] 67)).alloc (Obj.cells #[.slice o1 f.length m1, .slice o2 h.length m2, .slice o3 ws.length m3] 67)).drew := bdr (bal (bal hb1 _) _)
    have q05 := ((q0.out.alloc (Obj.cells #[.slice o1 f.length m1, .slice o2 h.length m2, .slice o3 ws.length m3] 67)).alloc (Obj.cells #[.slice o1 f.length m1, .slice o2 h.length m2, .slice o3 ws.length m3] 67)).drew
    have hsz : ((w4.alloc (Obj.cells #[.slice o1 f.length m1, .slice o2 h.length m2, .slice o3 ws.length m3] 67)).alloc (Obj.cells #[.slice o1 f.length m1, .slice o2 h.length m2, .slice o3 ws.length m3] 67)).drew.heap.size = w4.heap.size + 1 + 1 := by simp [World.drew]
    replace qa := qa.drew
    replace qz := qz.drew
    obtain ⟨gd, hgz⟩ : ∃ g, g = w4.heap.size + 1 := ⟨_, rfl⟩
    rw [← hgz] at qz hsz ⊢
    obtain ⟨gc, hga⟩ : ∃ g, g = w4.heap.size := ⟨_, rfl⟩
    rw [← hga] at qa ⊢
    generalize ((w4.alloc (Obj.cells #[.slice o1 f.length m1, .slice o2 h.length m2, .slice o3 ws.length m3] 67)).alloc (Obj.cells #[.slice o1 f.length m1, .slice o2 h.length m2, .slice o3 ws.length m3] 67)).drew = w5 at *
    have hgc0 : w.heap.size < gc := by omega
    have hgd0 : w.heap.size < gd := by omega
    have hcd : gc ≠ gd := by omega
    have hgc5 : gc < w5.heap.size := by omega
    have hgd5 : gd < w5.heap.size := by omega
    have qc := qa
    have qd := qz
    replace hga := Lib.hid hga
    replace hgz := Lib.hid hgz
    replace hsz := Lib.hid hsz
    clear q0 hb1 c0 c1 c2 hs0 qa qz
    have e2 := q05.cell 2
    simp only [List.getElem?_cons_zero, List.getElem?_cons_succ] at e2
    have hCl5 := Lib.hid (hCl.out w5 hb5)
    go_wp2_with fail
    refine hCl5.out.mono ?_
    rintro _ w6 ⟨⟨u1, rfl, hown1⟩, hb6⟩
    have hb6w := bch hb5 hb6
    have hDe := Lib.hid (delete_wr u1 ws.length k (ws.flatMap wrBCells) w5.heap.size w6 hown1 hkl0 (by omega) (wrs_one ws))
    have hs6 := hb6.size
    replace q05 := q05.below hb6
    replace qc := qc.below hb6
    replace qd := qd.below hb6
    clear hCl5 e2
    go_wp2_with fail
    refine hDe.out.mono ?_
    rintro _ w7 ⟨u2, rfl, hown2, hb7⟩
    rw [wrs_take, wrs_drop, ← List.flatMap_append] at hown2
    obtain ⟨L1, hL1⟩ : ∃ L1, L1 = ws.length - 1 := ⟨_, rfl⟩
    have hcl : (ws.take k ++ ws.drop (k + 1)).length = L1 := by rw [List.length_append, List.length_take, List.length_drop]; omega
    rw [← hL1] at hown2
    replace hL1 := Lib.hid hL1
    have hb57 : Below w5.heap.size w5 w7 := hb6.trans hb7
    have hs7 := hb57.size
    replace q05 := Row.of_block q05 (hb7.block w.heap.size (by omega))
    replace qc := Row.of_block qc (hb7.block gc hgc5)
    replace qd := Row.of_block qd (hb7.block gd hgd5)
    clear hDe hb6 hb6w hown1 hb7
    obtain ⟨oc, mc, rfl⟩ := owns_slice_ hown2
    have x2 := qc.cell 2
    have z2 := qc.frozen 2 (by simp)
    simp only [List.getElem?_cons_zero, List.getElem?_cons_succ] at x2
    have hb7 := bch hb5 hb57
    have qc2 := qc.set 2 (.slice oc L1 mc)
    have qd2 := qd.other (p := ⟨gc, 2, none⟩) hcd (.slice oc L1 mc)
    have q02 := q05.other (p := ⟨gc, 2, none⟩) (show gc ≠ w.heap.size by omega) (.slice oc L1 mc)
    have hown3 := owns_set hown2 (p := ⟨gc, 2, none⟩) (fun e => by have : w5.heap.size ≤ gc := (hown2.lt _ e).1; omega) (.slice oc L1 mc)
    have hb8 := Below.setCell hb7 (p := ⟨gc, 2, none⟩) (show w.heap.size ≤ gc by omega) (.slice oc L1 mc)
    have hs8 : (w7.setCell ⟨gc, 2, none⟩ (.slice oc L1 mc)).heap.size = w7.heap.size := by simp
    obtain ⟨bw, ow, rfl, hbw, hxw⟩ := hcell.out k hkl0
    simp only [List.set_cons_succ, List.set_cons_zero] at qc2
    replace qc2 := Lib.hid qc2
    replace qd2 := Lib.hid qd2
    replace q02 := Lib.hid q02
    replace hown3 := Lib.hid hown3
    replace hb8 := Lib.hid hb8
    replace hs8 := Lib.hid hs8
    clear qc qd q05 hown2 hb7 hb57
    replace hcl := Lib.hid hcl
    go_wp2_with fail
    have qc := qc2.out
    have qd := qd2.out
    have q0 := q02.out
    have hown3 := hown3.out
    have hb8 := hb8.out
    have hs8 := hs8.out
    clear qc2 qd2 q02 x2 z2
    generalize w7.setCell ⟨gc, 2, none⟩ (.slice oc L1 mc) = w8 at *
    have hgd8 : gd < w8.heap.size := by omega
    have hgc8 : gc < w8.heap.size := by omega
    have h8lo : w.heap.size < w8.heap.size := by omega
    replace hs8 := Lib.hid hs8
    have hx' : ∀ (j : Nat) (u : Value), (wrBCells ws[k])[j]? = some u → w8.cell? ⟨bw, ow + k * 6 + j, none⟩ = some u := fun j u hu => (hb8.cell (p := ⟨bw, ow + k * 6 + j, none⟩) (hbw (by decide))).trans (hxw j u hu)
    have e2 := q0.cell 2
    simp only [List.getElem?_cons_zero, List.getElem?_cons_succ] at e2
    obtain ⟨x, hx⟩ : ∃ x, x = ws[k] := ⟨_, rfl⟩
    rw [← hx] at hx' hD1
    have hbw0 : bw < w.heap.size := hbw (by decide)
    have hS0 : LC w.heap.size (.slice (some ⟨bw, ow, none⟩) ws.length m3) bw (ow + k * 6) x w8.drew := ⟨e2, hx' 0 _ rfl, hx' 1 _ rfl, hx' 2 _ rfl, hx' 3 _ rfl, hx' 4 _ rfl, hx' 5 _ rfl⟩
    have hCl8 := Lib.hid (fun W (hW : Below w8.heap.size w8 W) => hCl.out W (bch hb8 hW))
    have hk1 : (k : Int) < (ws.length : Int) := by omega
    replace hx := Lib.hid hx
    replace hx' := Lib.hid hx'
    clear e2
    (refine wp_region_held_drew (S := (LC w.heap.size (.slice (some ⟨bw, ow, none⟩) ws.length m3) bw (ow + k * 6) x)) (by kernel_rfl) ?_ (fun hHeld => ?_); ((try dsimp only); exact hS0))
    clear hS0
    (refine held_take (i := 0) (v := ?_) rfl (by kernel_rfl) (by kernel_rfl) (by kernel_rfl) (fun _ _ _ h => h) (by kernel_rfl) (by assumption) ?_ ?_; rotate_left; (focus (intro w hSw; (try unfold SC at hSw); (try unfold FC at hSw); (try unfold LC at hSw); (try unfold TC at hSw); (try unfold MC at hSw); (try unfold BC at hSw); (try unfold RC at hSw); (try unfold KC at hSw); (try unfold KD at hSw); (try dsimp only at hSw); go_simp; (try with_reducible rfl); done)); (simp only [Act.put, List.setIfInBounds_toArray, List.set_cons_zero, List.set_cons_succ]); refine held_take (i := 1) (v := ?_) rfl (by kernel_rfl) (by kernel_rfl) (by kernel_rfl) (fun _ _ _ h => h) (by kernel_rfl) (by assumption) ?_ ?_; rotate_left; (focus (intro w hSw; (try unfold SC at hSw); (try unfold FC at hSw); (try unfold LC at hSw); (try unfold TC at hSw); (try unfold MC at hSw); (try unfold BC at hSw); (try unfold RC at hSw); (try unfold KC at hSw); (try unfold KD at hSw); (try dsimp only at hSw); go_simp; (try with_reducible rfl); done)); (simp only [Act.put, List.setIfInBounds_toArray, List.set_cons_zero, List.set_cons_succ]); refine held_take (i := 3) (v := ?_) rfl (by kernel_rfl) (by kernel_rfl) (by kernel_rfl) (fun _ _ _ h => h) (by kernel_rfl) (by assumption) ?_ ?_; rotate_left; (focus (intro w hSw; (try unfold SC at hSw); (try unfold FC at hSw); (try unfold LC at hSw); (try unfold TC at hSw); (try unfold MC at hSw); (try unfold BC at hSw); (try unfold RC at hSw); (try unfold KC at hSw); (try unfold KD at hSw); (try dsimp only at hSw); go_simp; (try with_reducible rfl); done)); (simp only [Act.put, List.setIfInBounds_toArray, List.set_cons_zero, List.set_cons_succ]); refine held_take (i := 4) (v := ?_) rfl (by kernel_rfl) (by kernel_rfl) (by kernel_rfl) (fun _ _ _ h => h) (by kernel_rfl) (by assumption) ?_ ?_; rotate_left; (focus (intro w hSw; (try unfold SC at hSw); (try unfold FC at hSw); (try unfold LC at hSw); (try unfold TC at hSw); (try unfold MC at hSw); (try unfold BC at hSw); (try unfold RC at hSw); (try unfold KC at hSw); (try unfold KD at hSw); (try dsimp only at hSw); go_simp; (try with_reducible rfl); done)); (simp only [Act.put, List.setIfInBounds_toArray, List.set_cons_zero, List.set_cons_succ]); refine held_take (i := 5) (v := ?_) rfl (by kernel_rfl) (by kernel_rfl) (by kernel_rfl) (fun _ _ _ h => h) (by kernel_rfl) (by assumption) ?_ ?_; rotate_left; (focus (intro w hSw; (try unfold SC at hSw); (try unfold FC at hSw); (try unfold LC at hSw); (try unfold TC at hSw); (try unfold MC at hSw); (try unfold BC at hSw); (try unfold RC at hSw); (try unfold KC at hSw); (try unfold KD at hSw); (try dsimp only at hSw); go_simp; (try with_reducible rfl); done)); (simp only [Act.put, List.setIfInBounds_toArray, List.set_cons_zero, List.set_cons_succ]); refine held_take (i := 6) (v := ?_) rfl (by kernel_rfl) (by kernel_rfl) (by kernel_rfl) (fun _ _ _ h => h) (by kernel_rfl) (by assumption) ?_ ?_; rotate_left; (focus (intro w hSw; (try unfold SC at hSw); (try unfold FC at hSw); (try unfold LC at hSw); (try unfold TC at hSw); (try unfold MC at hSw); (try unfold BC at hSw); (try unfold RC at hSw); (try unfold KC at hSw); (try unfold KD at hSw); (try dsimp only at hSw); go_simp; (try with_reducible rfl); done)); (simp only [Act.put, List.setIfInBounds_toArray, List.set_cons_zero, List.set_cons_succ]); refine held_take (i := 7) (v := ?_) rfl (by kernel_rfl) (by kernel_rfl) (by kernel_rfl) (fun _ _ _ h => h) (by kernel_rfl) (by assumption) ?_ ?_; rotate_left; (focus (intro w hSw; (try unfold SC at hSw); (try unfold FC at hSw); (try unfold LC at hSw); (try unfold TC at hSw); (try unfold MC at hSw); (try unfold BC at hSw); (try unfold RC at hSw); (try unfold KC at hSw); (try unfold KD at hSw); (try dsimp only at hSw); go_simp; (try with_reducible rfl); done)); (simp only [Act.put, List.setIfInBounds_toArray, List.set_cons_zero, List.set_cons_succ]); refine held_take (i := 8) (v := ?_) rfl (by kernel_rfl) (by kernel_rfl) (by kernel_rfl) (fun _ _ _ h => h) (by kernel_rfl) (by assumption) ?_ ?_; rotate_left; (focus (intro w hSw; (try unfold SC at hSw); (try unfold FC at hSw); (try unfold LC at hSw); (try unfold TC at hSw); (try unfold MC at hSw); (try unfold BC at hSw); (try unfold RC at hSw); (try unfold KC at hSw); (try unfold KD at hSw); (try dsimp only at hSw); go_simp; (try with_reducible rfl); done)); (simp only [Act.put, List.setIfInBounds_toArray, List.set_cons_zero, List.set_cons_succ]))
    refine wpAnyH_ready (P := Tryd.prog) (md := .any) (rs := [2, 9]) (by kernel_rfl) (by simp) ?_
    refine held_cons rfl (by kernel_rfl) (fun K hK => ?_) (held_cons rfl (by kernel_rfl) (fun K hK => ?_) AllReadyH.nil)
    · ((go_simp; refine (hCl8.out _ (bdr (Below.refl _ _))).mono ?_; rintro _ wn ⟨⟨v1, rfl, hv1⟩, hbn⟩); refine hK.out _ _ ?_ (fun hHeld => ?_); ((try dsimp only); exact LC.below hHeld hbn); clear hK K; (try clear hHeld0); (try rename_i hHeld0))
      have hgv : (wn.alloc (Obj.cells #[.int .i64 x.t, .int .i64 x.r, .int .i64 x.k, .string x.key, .string x.val, .int .i64 x.n] 36)).heap[wn.heap.size]? = some (.cells #[.int .i64 x.t, .int .i64 x.r, .int .i64 x.k, .string x.key, .string x.val, .int .i64 x.n] 36 (0, 0)) := heap_alloc_new wn _
      have hv2 := hv1.alloc (Obj.cells #[.int .i64 x.t, .int .i64 x.r, .int .i64 x.k, .string x.key, .string x.val, .int .i64 x.n] 36)
      have hne := owns_lt hv1 wn.heap.size (Nat.le_refl _)
      (refine wpAnyH_ready (P := Tryd.prog) (md := .any) (rs := [9]) (by kernel_rfl) (by simp) ?_; refine held_cons rfl (by kernel_rfl) (fun K hK => ?_) AllReadyH.nil; (go_simp; refine hK.out _ _ ?_ (fun hHeld => ?_); ((try dsimp only); exact LC.below hHeld (bal (Below.refl _ _) _)); clear hK K; (try clear hHeld0); (try rename_i hHeld0)))
      have hbI : Below w8.heap.size w8 (wn.alloc (Obj.cells #[.int .i64 x.t, .int .i64 x.r, .int .i64 x.k, .string x.key, .string x.val, .int .i64 x.n] 36)) := bal (bch (bdr (Below.refl _ _)) hbn) _
      have hbase : w8.drew.heap.size ≤ (wn.alloc (Obj.cells #[.int .i64 x.t, .int .i64 x.r, .int .i64 x.k, .string x.key, .string x.val, .int .i64 x.n] 36)).heap.size := hbI.size
      have hIn := Lib.hid (insert_wr v1 ws.length k (ws.flatMap wrBCells) [.int .i64 x.t, .int .i64 x.r, .int .i64 x.k, .string x.key, .string x.val, .int .i64 x.n] wn.heap.size 1 w8.drew.heap.size _ hv2 (by omega) (by omega) rfl (wrs_one ws) (by intro u hu; simp only [List.mem_cons, List.not_mem_nil, or_false] at hu; rcases hu with rfl | rfl | rfl | rfl | rfl | rfl <;> rfl) hgv hne hbase)
      clear hgv hne
      have hlo : ∀ j, v1.ownBlock = some j → w8.heap.size ≤ j := fun j hj =>  (hv1.lt j hj).1
      clear hv1 hv2
      (refine wpAnyH_ready (P := Tryd.prog) (md := .any) (rs := [10]) (by kernel_rfl) (by simp) ?_; refine held_cons rfl (by kernel_rfl) (fun K hK => ?_) AllReadyH.nil; ((go_simp; refine hIn.out.mono ?_; rintro _ wm ⟨v3, rfl, hv3, hgr, hbk, hnil⟩); refine hK.out _ _ ?_ (fun hHeld => ?_); ((try dsimp only); exact hHeld.grown hgr (fun e => by have := hlo _ e.symm; omega) (fun e => by have := hlo _ e.symm; omega)); clear hK K; (try clear hHeld0); (try rename_i hHeld0)))
      have hbm : Below w8.heap.size w8 wm := hbI.grown hgr hbI.size hlo
      obtain ⟨g3, m4, rfl⟩ := owns_addr hv3 hnil
      have qc := qc.below hbm
      have qd := qd.below hbm
      have q0 := q0.below hbm
      have y2 := qd.cell 2
      have u2 := qd.frozen 2 (by simp)
      simp only [List.getElem?_cons_zero, List.getElem?_cons_succ] at y2
      have hg3 : w8.heap.size ≤ g3 :=  (hv3.lt g3 rfl).1
      (refine held_take (i := 11) (v := ?_) rfl (by kernel_rfl) (by kernel_rfl) (by kernel_rfl) (fun _ _ _ h => h) (by kernel_rfl) (by assumption) ?_ ?_; rotate_left; (focus (intro w hSw; (try unfold SC at hSw); (try unfold FC at hSw); (try unfold LC at hSw); (try unfold TC at hSw); (try unfold MC at hSw); (try unfold BC at hSw); (try unfold RC at hSw); (try unfold KC at hSw); (try unfold KD at hSw); (try dsimp only at hSw); go_simp; (try with_reducible rfl); done)); (simp only [Act.put, List.setIfInBounds_toArray, List.set_cons_zero, List.set_cons_succ]))
      (refine wpAnyH_ready (P := Tryd.prog) (md := .any) (rs := [12]) (by kernel_rfl) (by simp) ?_; refine held_cons rfl (by kernel_rfl) (fun K hK => ?_) AllReadyH.nil; (go_simp; refine hK.out _ _ ?_ (fun hHeld => ?_); ((try dsimp only); exact hHeld.set (p := ⟨gd, 2, none⟩) (show w.heap.size ≠ gd by omega) (show bw ≠ gd by omega) _); clear hK K; (try clear hHeld0); (try rename_i hHeld0)))
      (refine wpAnyH_done (by kernel_rfl) ?_ _)
      have hgb3 : g3 ≠ gd := by omega
      have eL : (ws.flatMap wrBCells).take (k * 6) ++ ([.int .i64 x.t, .int .i64 x.r, .int .i64 x.k, .string x.key, .string x.val, .int .i64 x.n] : List Value) ++ (ws.flatMap wrBCells).drop (k * 6) = (ws.take k ++ [ws[k]] ++ ws.drop k).flatMap wrBCells := by rw [wrs_take, wrs_drop, List.flatMap_append, List.flatMap_append, List.flatMap_singleton, ← hx.out]; rfl
      have hv4 := owns_set hv3 (p := ⟨gd, 2, none⟩) (fun e => by injection e with e; exact hgb3 e) (.slice (some ⟨g3, 0, none⟩) (ws.length + 1) m4)
      rw [eL] at hv4
      have eN : (ws.take k ++ [ws[k]] ++ ws.drop k).length = ws.length + 1 := by simp only [List.length_append, List.length_take, List.length_drop, List.length_singleton]; omega
      have hown4 := owns_set (owns_below hown3 hbm) (p := ⟨gd, 2, none⟩) (fun e => by have : w5.heap.size ≤ gd := (hown3.lt _ e).1; omega) (.slice (some ⟨g3, 0, none⟩) (ws.length + 1) m4)
      have qd3 := qd.set 2 (.slice (some ⟨g3, 0, none⟩) (ws.length + 1) m4)
      have qc3 := qc.other (p := ⟨gd, 2, none⟩) (Ne.symm hcd) (.slice (some ⟨g3, 0, none⟩) (ws.length + 1) m4)
      have q03 := q0.other (p := ⟨gd, 2, none⟩) (show gd ≠ w.heap.size by omega) (.slice (some ⟨g3, 0, none⟩) (ws.length + 1) m4)
      have hb9 := Below.setCell (hb8.trans (hbm.mono (by omega))) (p := ⟨gd, 2, none⟩) (show w.heap.size ≤ gd by omega) (.slice (some ⟨g3, 0, none⟩) (ws.length + 1) m4)
      have eC : WrsIs (wm.setCell ⟨gd, 2, none⟩ (.slice (some ⟨g3, 0, none⟩) (ws.length + 1) m4)) (.slice oc L1 mc) (ws.take k ++ ws.drop (k + 1)) := ListIs.of_owns (by rw [hcl.out]; exact hown4)
      have eD : WrsIs (wm.setCell ⟨gd, 2, none⟩ (.slice (some ⟨g3, 0, none⟩) (ws.length + 1) m4)) (.slice (some ⟨g3, 0, none⟩) (ws.length + 1) m4) (ws.take k ++ [ws[k]] ++ ws.drop k) := ListIs.of_owns (by rw [eN]; exact hv4)
      simp only [List.set_cons_succ, List.set_cons_zero] at qd3
      clear hv3 hgr hbk hnil hv4 hIn eL qc qd q0 hHeld hown4 hown3 hbm hCl8 y2 u2
      generalize wm.setCell ⟨gd, 2, none⟩ (.slice (some ⟨g3, 0, none⟩) (ws.length + 1) m4) = w9 at *
      rw [← hx.out] at eN eD
      (have a0 := qd3.cell 0; have a1 := qd3.cell 1; have a2 := qd3.cell 2; simp only [List.set_cons_succ, List.set_cons_zero, List.getElem?_cons_zero, List.getElem?_cons_succ] at a0 a1 a2)
      have hRD := Lib.hid (hR.out _ _ w9 hb9 eD (by rw [eN]; omega))
      replace eC := Lib.hid eC
      replace eD := Lib.hid eD
      go_wp2_with fail
      refine hRD.out.mono ?_
      rintro _ w10 ⟨v10, rfl, hv10, hb10⟩
      have hT := Lib.hid (tell_err v10 _ w10 (hL.below (bch hb9 hb10)) hv10)
      clear hv10 hRD a0 a1 a2
      go_wp2_with fail
      refine hT.out.mono ?_
      rintro _ w11 ⟨rfl, hb11⟩
      have hb911 := bch hb10 hb11
      have hbw11 := bch hb9 hb911
      have hRC := Lib.hid (hR.out _ _ w11 hbw11 (eC.out.below hb911) (by rw [hcl.out]; have := hL1.out; omega))
      replace qc3 := qc3.below hb911
      replace q03 := q03.below hb911
      (have a0 := qc3.cell 0; have a1 := qc3.cell 1; have a2 := qc3.cell 2; simp only [List.set_cons_succ, List.set_cons_zero, List.getElem?_cons_zero, List.getElem?_cons_succ] at a0 a1 a2)
      clear hT
      by_cases h6 : ws.length = 60
      · have hcode := hD1.out
        rw [if_pos h6] at hcode
        rw [hcode]
        have h60 : ((ws.length : Int) == 60) = true := by rw [h6]; rfl
        replace h6 := Lib.hid h6
        replace hcode := Lib.hid hcode
        go_wp2_with fail
        refine hRC.out.mono ?_
        rintro _ w12 ⟨v12, rfl, hv12, hb12⟩
        rw [hC1.out] at hv12
        have hv12 : v12 = .nilIface := hv12
        subst hv12
        replace q03 := q03.below hb12
        clear a0 a1 a2 hRC
        (have a0 := q03.cell 0; have a1 := q03.cell 1; have a2 := q03.cell 2; simp only [List.set_cons_succ, List.set_cons_zero, List.getElem?_cons_zero, List.getElem?_cons_succ] at a0 a1 a2)
        go_wp2
        go_ret
        exact ⟨rfl, bch hbw11 hb12⟩
      · have hcode := hD1.out
        rw [if_neg h6] at hcode
        rw [hcode]
        replace h6 := Lib.hid h6
        replace hcode := Lib.hid hcode
        go_wp2_with fail
        refine hRC.out.mono ?_
        rintro _ w12 ⟨v12, rfl, hv12, hb12⟩
        rw [hC1.out] at hv12
        have hv12 : v12 = .nilIface := hv12
        subst hv12
        replace q03 := q03.below hb12
        clear a0 a1 a2 hRC
        (have a0 := q03.cell 0; have a1 := q03.cell 1; have a2 := q03.cell 2; simp only [List.set_cons_succ, List.set_cons_zero, List.getElem?_cons_zero, List.getElem?_cons_succ] at a0 a1 a2)
        go_wp2
        go_ret
        exact ⟨rfl, bch hbw11 hb12⟩
    · (go_simp; refine hK.out _ _ ?_ (fun hHeld => ?_); ((try dsimp only); exact LC.below hHeld (bal (Below.refl _ _) _)); clear hK K; (try clear hHeld0); (try rename_i hHeld0))
      (refine wpAnyH_ready (P := Tryd.prog) (md := .any) (rs := [2]) (by kernel_rfl) (by simp) ?_; refine held_cons rfl (by kernel_rfl) (fun K hK => ?_) AllReadyH.nil; ((go_simp; refine (hCl8.out _ (bal (bdr (Below.refl _ _)) _)).mono ?_; rintro _ wn ⟨⟨v1, rfl, hv1⟩, hbn⟩); refine hK.out _ _ ?_ (fun hHeld => ?_); ((try dsimp only); exact LC.below hHeld hbn); clear hK K; (try clear hHeld0); (try rename_i hHeld0)))
      have hgv : (w8.drew.alloc (Obj.cells #[.int .i64 x.t, .int .i64 x.r, .int .i64 x.k, .string x.key, .string x.val, .int .i64 x.n] 36)).heap[w8.heap.size]? = some (.cells #[.int .i64 x.t, .int .i64 x.r, .int .i64 x.k, .string x.key, .string x.val, .int .i64 x.n] 36 (0, 0)) := heap_alloc_new w8.drew _
      have hgs : w8.heap.size < (w8.drew.alloc (Obj.cells #[.int .i64 x.t, .int .i64 x.r, .int .i64 x.k, .string x.key, .string x.val, .int .i64 x.n] 36)).heap.size := (row_alloc w8.drew _ _ : Row (w8.drew.alloc (Obj.cells #[.int .i64 x.t, .int .i64 x.r, .int .i64 x.k, .string x.key, .string x.val, .int .i64 x.n] 36)) w8.drew.heap.size _ _).lt
      have hgv2 := (hbn.block w8.heap.size hgs).trans hgv
      have hbI : Below w8.heap.size w8 wn := bch (bal (bdr (Below.refl _ _)) _) hbn
      have hbase : (w8.drew.alloc (Obj.cells #[.int .i64 x.t, .int .i64 x.r, .int .i64 x.k, .string x.key, .string x.val, .int .i64 x.n] 36)).heap.size ≤ wn.heap.size := hbn.size
      have hne : v1.ownBlock ≠ some w8.heap.size := fun e => by have := (hv1.lt _ e).1; omega
      have hIn := Lib.hid (insert_wr v1 ws.length k (ws.flatMap wrBCells) [.int .i64 x.t, .int .i64 x.r, .int .i64 x.k, .string x.key, .string x.val, .int .i64 x.n] w8.heap.size 1 (w8.drew.alloc (Obj.cells #[.int .i64 x.t, .int .i64 x.r, .int .i64 x.k, .string x.key, .string x.val, .int .i64 x.n] 36)).heap.size _ hv1 (by omega) (by omega) rfl (wrs_one ws) (by intro u hu; simp only [List.mem_cons, List.not_mem_nil, or_false] at hu; rcases hu with rfl | rfl | rfl | rfl | rfl | rfl <;> rfl) hgv2 hne hbase)
      have hv2 := hv1
      have hlo3 := Lib.hid (fun g (h : (w8.drew.alloc (Obj.cells #[.int .i64 x.t, .int .i64 x.r, .int .i64 x.k, .string x.key, .string x.val, .int .i64 x.n] 36)).heap.size ≤ g) => Nat.le_trans (Nat.le_of_lt hgs) h)
      clear hgv hgv2 hne hgs hbase
      have hlo : ∀ j, v1.ownBlock = some j → w8.heap.size ≤ j := fun j hj => hlo3.out _ (hv1.lt j hj).1
      clear hv1 hv2
      (refine wpAnyH_ready (P := Tryd.prog) (md := .any) (rs := [10]) (by kernel_rfl) (by simp) ?_; refine held_cons rfl (by kernel_rfl) (fun K hK => ?_) AllReadyH.nil; ((go_simp; refine hIn.out.mono ?_; rintro _ wm ⟨v3, rfl, hv3, hgr, hbk, hnil⟩); refine hK.out _ _ ?_ (fun hHeld => ?_); ((try dsimp only); exact hHeld.grown hgr (fun e => by have := hlo _ e.symm; omega) (fun e => by have := hlo _ e.symm; omega)); clear hK K; (try clear hHeld0); (try rename_i hHeld0)))
      have hbm : Below w8.heap.size w8 wm := hbI.grown hgr hbI.size hlo
      obtain ⟨g3, m4, rfl⟩ := owns_addr hv3 hnil
      have qc := qc.below hbm
      have qd := qd.below hbm
      have q0 := q0.below hbm
      have y2 := qd.cell 2
      have u2 := qd.frozen 2 (by simp)
      simp only [List.getElem?_cons_zero, List.getElem?_cons_succ] at y2
      have hg3 : w8.heap.size ≤ g3 := hlo3.out _ (hv3.lt g3 rfl).1
      (refine held_take (i := 11) (v := ?_) rfl (by kernel_rfl) (by kernel_rfl) (by kernel_rfl) (fun _ _ _ h => h) (by kernel_rfl) (by assumption) ?_ ?_; rotate_left; (focus (intro w hSw; (try unfold SC at hSw); (try unfold FC at hSw); (try unfold LC at hSw); (try unfold TC at hSw); (try unfold MC at hSw); (try unfold BC at hSw); (try unfold RC at hSw); (try unfold KC at hSw); (try unfold KD at hSw); (try dsimp only at hSw); go_simp; (try with_reducible rfl); done)); (simp only [Act.put, List.setIfInBounds_toArray, List.set_cons_zero, List.set_cons_succ]))
      (refine wpAnyH_ready (P := Tryd.prog) (md := .any) (rs := [12]) (by kernel_rfl) (by simp) ?_; refine held_cons rfl (by kernel_rfl) (fun K hK => ?_) AllReadyH.nil; (go_simp; refine hK.out _ _ ?_ (fun hHeld => ?_); ((try dsimp only); exact hHeld.set (p := ⟨gd, 2, none⟩) (show w.heap.size ≠ gd by omega) (show bw ≠ gd by omega) _); clear hK K; (try clear hHeld0); (try rename_i hHeld0)))
      (refine wpAnyH_done (by kernel_rfl) ?_ _)
      have hgb3 : g3 ≠ gd := by omega
      have eL : (ws.flatMap wrBCells).take (k * 6) ++ ([.int .i64 x.t, .int .i64 x.r, .int .i64 x.k, .string x.key, .string x.val, .int .i64 x.n] : List Value) ++ (ws.flatMap wrBCells).drop (k * 6) = (ws.take k ++ [ws[k]] ++ ws.drop k).flatMap wrBCells := by rw [wrs_take, wrs_drop, List.flatMap_append, List.flatMap_append, List.flatMap_singleton, ← hx.out]; rfl
      have hv4 := owns_set hv3 (p := ⟨gd, 2, none⟩) (fun e => by injection e with e; exact hgb3 e) (.slice (some ⟨g3, 0, none⟩) (ws.length + 1) m4)
      rw [eL] at hv4
      have eN : (ws.take k ++ [ws[k]] ++ ws.drop k).length = ws.length + 1 := by simp only [List.length_append, List.length_take, List.length_drop, List.length_singleton]; omega
      have hown4 := owns_set (owns_below hown3 hbm) (p := ⟨gd, 2, none⟩) (fun e => by have : w5.heap.size ≤ gd := (hown3.lt _ e).1; omega) (.slice (some ⟨g3, 0, none⟩) (ws.length + 1) m4)
      have qd3 := qd.set 2 (.slice (some ⟨g3, 0, none⟩) (ws.length + 1) m4)
      have qc3 := qc.other (p := ⟨gd, 2, none⟩) (Ne.symm hcd) (.slice (some ⟨g3, 0, none⟩) (ws.length + 1) m4)
      have q03 := q0.other (p := ⟨gd, 2, none⟩) (show gd ≠ w.heap.size by omega) (.slice (some ⟨g3, 0, none⟩) (ws.length + 1) m4)
      have hb9 := Below.setCell (hb8.trans (hbm.mono (by omega))) (p := ⟨gd, 2, none⟩) (show w.heap.size ≤ gd by omega) (.slice (some ⟨g3, 0, none⟩) (ws.length + 1) m4)
      have eC : WrsIs (wm.setCell ⟨gd, 2, none⟩ (.slice (some ⟨g3, 0, none⟩) (ws.length + 1) m4)) (.slice oc L1 mc) (ws.take k ++ ws.drop (k + 1)) := ListIs.of_owns (by rw [hcl.out]; exact hown4)
      have eD : WrsIs (wm.setCell ⟨gd, 2, none⟩ (.slice (some ⟨g3, 0, none⟩) (ws.length + 1) m4)) (.slice (some ⟨g3, 0, none⟩) (ws.length + 1) m4) (ws.take k ++ [ws[k]] ++ ws.drop k) := ListIs.of_owns (by rw [eN]; exact hv4)
      simp only [List.set_cons_succ, List.set_cons_zero] at qd3
      clear hv3 hgr hbk hnil hv4 hIn eL qc qd q0 hHeld hown4 hown3 hbm hCl8 y2 u2
      generalize wm.setCell ⟨gd, 2, none⟩ (.slice (some ⟨g3, 0, none⟩) (ws.length + 1) m4) = w9 at *
      rw [← hx.out] at eN eD
      (have a0 := qd3.cell 0; have a1 := qd3.cell 1; have a2 := qd3.cell 2; simp only [List.set_cons_succ, List.set_cons_zero, List.getElem?_cons_zero, List.getElem?_cons_succ] at a0 a1 a2)
      have hRD := Lib.hid (hR.out _ _ w9 hb9 eD (by rw [eN]; omega))
      replace eC := Lib.hid eC
      replace eD := Lib.hid eD
      go_wp2_with fail
      refine hRD.out.mono ?_
      rintro _ w10 ⟨v10, rfl, hv10, hb10⟩
      have hT := Lib.hid (tell_err v10 _ w10 (hL.below (bch hb9 hb10)) hv10)
      clear hv10 hRD a0 a1 a2
      go_wp2_with fail
      refine hT.out.mono ?_
      rintro _ w11 ⟨rfl, hb11⟩
      have hb911 := bch hb10 hb11
      have hbw11 := bch hb9 hb911
      have hRC := Lib.hid (hR.out _ _ w11 hbw11 (eC.out.below hb911) (by rw [hcl.out]; have := hL1.out; omega))
      replace qc3 := qc3.below hb911
      replace q03 := q03.below hb911
      (have a0 := qc3.cell 0; have a1 := qc3.cell 1; have a2 := qc3.cell 2; simp only [List.set_cons_succ, List.set_cons_zero, List.getElem?_cons_zero, List.getElem?_cons_succ] at a0 a1 a2)
      clear hT
      by_cases h6 : ws.length = 60
      · have hcode := hD1.out
        rw [if_pos h6] at hcode
        rw [hcode]
        have h60 : ((ws.length : Int) == 60) = true := by rw [h6]; rfl
        replace h6 := Lib.hid h6
        replace hcode := Lib.hid hcode
        go_wp2_with fail
        refine hRC.out.mono ?_
        rintro _ w12 ⟨v12, rfl, hv12, hb12⟩
        rw [hC1.out] at hv12
        have hv12 : v12 = .nilIface := hv12
        subst hv12
        replace q03 := q03.below hb12
        clear a0 a1 a2 hRC
        (have a0 := q03.cell 0; have a1 := q03.cell 1; have a2 := q03.cell 2; simp only [List.set_cons_succ, List.set_cons_zero, List.getElem?_cons_zero, List.getElem?_cons_succ] at a0 a1 a2)
        go_wp2
        go_ret
        exact ⟨rfl, bch hbw11 hb12⟩
      · have hcode := hD1.out
        rw [if_neg h6] at hcode
        rw [hcode]
        replace h6 := Lib.hid h6
        replace hcode := Lib.hid hcode
        go_wp2_with fail
        refine hRC.out.mono ?_
        rintro _ w12 ⟨v12, rfl, hv12, hb12⟩
        rw [hC1.out] at hv12
        have hv12 : v12 = .nilIface := hv12
        subst hv12
        replace q03 := q03.below hb12
        clear a0 a1 a2 hRC
        (have a0 := q03.cell 0; have a1 := q03.cell 1; have a2 := q03.cell 2; simp only [List.set_cons_succ, List.set_cons_zero, List.getElem?_cons_zero, List.getElem?_cons_succ] at a0 a1 a2)
        go_wp2
        go_ret
        exact ⟨rfl, bch hbw11 hb12⟩
  · have qa := (row_at #[.slice o1 f.length m1, .slice o2 h.length m2, .slice o3 ws.length m3] 67 (rfl : w4.heap.size = w4.heap.size)).alloc (Obj.cells #[.slice o1 f.length m1, .slice o2 h.length m2, .slice o3 ws.length m3] 67)
    have qz := row_at (w := w4.alloc (Obj.cells #[.slice o1 f.length m1, .slice o2 h.length m2, .slice o3 ws.length m3] 67)) (g := w4.heap.size + 1) #[.slice o1 f.length m1, .slice o2 h.length m2, .slice o3 ws.length m3] 67 (by simp)
    have hb5 : Below w.heap.size w ((w4.alloc (Obj.cells #[.slice o1 f.length m1, .slice o2 h.length m2, .slice o3 ws.length m3] 67)).alloc (Obj.cells #[.slice o1 f.length m1, .slice o2 h.length m2, .slice o3 ws.length m3] 67)).drew := bdr (bal (bal hb1 _) _)
    have q05 := ((q0.out.alloc (Obj.cells #[.slice o1 f.length m1, .slice o2 h.length m2, .slice o3 ws.length m3] 67)).alloc (Obj.cells #[.slice o1 f.length m1, .slice o2 h.length m2, .slice o3 ws.length m3] 67)).drew
    have hsz : ((w4.alloc (Obj.cells #[.slice o1 f.length m1, .slice o2 h.length m2, .slice o3 ws.length m3] 67)).alloc (Obj.cells #[.slice o1 f.length m1, .slice o2 h.length m2, .slice o3 ws.length m3] 67)).drew.heap.size = w4.heap.size + 1 + 1 := by simp [World.drew]
    replace qa := qa.drew
    replace qz := qz.drew
    obtain ⟨gc, hgz⟩ : ∃ g, g = w4.heap.size + 1 := ⟨_, rfl⟩
    rw [← hgz] at qz hsz ⊢
    obtain ⟨gd, hga⟩ : ∃ g, g = w4.heap.size := ⟨_, rfl⟩
    rw [← hga] at qa ⊢
    generalize ((w4.alloc (Obj.cells #[.slice o1 f.length m1, .slice o2 h.length m2, .slice o3 ws.length m3] 67)).alloc (Obj.cells #[.slice o1 f.length m1, .slice o2 h.length m2, .slice o3 ws.length m3] 67)).drew = w5 at *
    have hgc0 : w.heap.size < gc := by omega
    have hgd0 : w.heap.size < gd := by omega
    have hcd : gc ≠ gd := by omega
    have hgc5 : gc < w5.heap.size := by omega
    have hgd5 : gd < w5.heap.size := by omega
    have qc := qz
    have qd := qa
    replace hga := Lib.hid hga
    replace hgz := Lib.hid hgz
    replace hsz := Lib.hid hsz
    clear q0 hb1 c0 c1 c2 hs0 qa qz
    have e2 := q05.cell 2
    simp only [List.getElem?_cons_zero, List.getElem?_cons_succ] at e2
    have hCl5 := Lib.hid (hCl.out w5 hb5)
    go_wp2_with fail
    refine hCl5.out.mono ?_
    rintro _ w6 ⟨⟨u1, rfl, hown1⟩, hb6⟩
    have hb6w := bch hb5 hb6
    have hDe := Lib.hid (delete_wr u1 ws.length k (ws.flatMap wrBCells) w5.heap.size w6 hown1 hkl0 (by omega) (wrs_one ws))
    have hs6 := hb6.size
    replace q05 := q05.below hb6
    replace qc := qc.below hb6
    replace qd := qd.below hb6
    clear hCl5 e2
    go_wp2_with fail
    refine hDe.out.mono ?_
    rintro _ w7 ⟨u2, rfl, hown2, hb7⟩
    rw [wrs_take, wrs_drop, ← List.flatMap_append] at hown2
    obtain ⟨L1, hL1⟩ : ∃ L1, L1 = ws.length - 1 := ⟨_, rfl⟩
    have hcl : (ws.take k ++ ws.drop (k + 1)).length = L1 := by rw [List.length_append, List.length_take, List.length_drop]; omega
    rw [← hL1] at hown2
    replace hL1 := Lib.hid hL1
    have hb57 : Below w5.heap.size w5 w7 := hb6.trans hb7
    have hs7 := hb57.size
    replace q05 := Row.of_block q05 (hb7.block w.heap.size (by omega))
    replace qc := Row.of_block qc (hb7.block gc hgc5)
    replace qd := Row.of_block qd (hb7.block gd hgd5)
    clear hDe hb6 hb6w hown1 hb7
    obtain ⟨oc, mc, rfl⟩ := owns_slice_ hown2
    have x2 := qc.cell 2
    have z2 := qc.frozen 2 (by simp)
    simp only [List.getElem?_cons_zero, List.getElem?_cons_succ] at x2
    have hb7 := bch hb5 hb57
    have qc2 := qc.set 2 (.slice oc L1 mc)
    have qd2 := qd.other (p := ⟨gc, 2, none⟩) hcd (.slice oc L1 mc)
    have q02 := q05.other (p := ⟨gc, 2, none⟩) (show gc ≠ w.heap.size by omega) (.slice oc L1 mc)
    have hown3 := owns_set hown2 (p := ⟨gc, 2, none⟩) (fun e => by have : w5.heap.size ≤ gc := (hown2.lt _ e).1; omega) (.slice oc L1 mc)
    have hb8 := Below.setCell hb7 (p := ⟨gc, 2, none⟩) (show w.heap.size ≤ gc by omega) (.slice oc L1 mc)
    have hs8 : (w7.setCell ⟨gc, 2, none⟩ (.slice oc L1 mc)).heap.size = w7.heap.size := by simp
    obtain ⟨bw, ow, rfl, hbw, hxw⟩ := hcell.out k hkl0
    simp only [List.set_cons_succ, List.set_cons_zero] at qc2
    replace qc2 := Lib.hid qc2
    replace qd2 := Lib.hid qd2
    replace q02 := Lib.hid q02
    replace hown3 := Lib.hid hown3
    replace hb8 := Lib.hid hb8
    replace hs8 := Lib.hid hs8
    clear qc qd q05 hown2 hb7 hb57
    replace hcl := Lib.hid hcl
    go_wp2_with fail
    have qc := qc2.out
    have qd := qd2.out
    have q0 := q02.out
    have hown3 := hown3.out
    have hb8 := hb8.out
    have hs8 := hs8.out
    clear qc2 qd2 q02 x2 z2
    generalize w7.setCell ⟨gc, 2, none⟩ (.slice oc L1 mc) = w8 at *
    have hgd8 : gd < w8.heap.size := by omega
    have hgc8 : gc < w8.heap.size := by omega
    have h8lo : w.heap.size < w8.heap.size := by omega
    replace hs8 := Lib.hid hs8
    have hx' : ∀ (j : Nat) (u : Value), (wrBCells ws[k])[j]? = some u → w8.cell? ⟨bw, ow + k * 6 + j, none⟩ = some u := fun j u hu => (hb8.cell (p := ⟨bw, ow + k * 6 + j, none⟩) (hbw (by decide))).trans (hxw j u hu)
    have e2 := q0.cell 2
    simp only [List.getElem?_cons_zero, List.getElem?_cons_succ] at e2
    obtain ⟨x, hx⟩ : ∃ x, x = ws[k] := ⟨_, rfl⟩
    rw [← hx] at hx' hD1
    have hbw0 : bw < w.heap.size := hbw (by decide)
    have hS0 : LC w.heap.size (.slice (some ⟨bw, ow, none⟩) ws.length m3) bw (ow + k * 6) x w8.drew := ⟨e2, hx' 0 _ rfl, hx' 1 _ rfl, hx' 2 _ rfl, hx' 3 _ rfl, hx' 4 _ rfl, hx' 5 _ rfl⟩
    have hCl8 := Lib.hid (fun W (hW : Below w8.heap.size w8 W) => hCl.out W (bch hb8 hW))
    have hk1 : (k : Int) < (ws.length : Int) := by omega
    replace hx := Lib.hid hx
    replace hx' := Lib.hid hx'
    clear e2
    (refine wp_region_held_drew (S := (LC w.heap.size (.slice (some ⟨bw, ow, none⟩) ws.length m3) bw (ow + k * 6) x)) (by kernel_rfl) ?_ (fun hHeld => ?_); ((try dsimp only); exact hS0))
    clear hS0
    (refine held_take (i := 0) (v := ?_) rfl (by kernel_rfl) (by kernel_rfl) (by kernel_rfl) (fun _ _ _ h => h) (by kernel_rfl) (by assumption) ?_ ?_; rotate_left; (focus (intro w hSw; (try unfold SC at hSw); (try unfold FC at hSw); (try unfold LC at hSw); (try unfold TC at hSw); (try unfold MC at hSw); (try unfold BC at hSw); (try unfold RC at hSw); (try unfold KC at hSw); (try unfold KD at hSw); (try dsimp only at hSw); go_simp; (try with_reducible rfl); done)); (simp only [Act.put, List.setIfInBounds_toArray, List.set_cons_zero, List.set_cons_succ]); refine held_take (i := 1) (v := ?_) rfl (by kernel_rfl) (by kernel_rfl) (by kernel_rfl) (fun _ _ _ h => h) (by kernel_rfl) (by assumption) ?_ ?_; rotate_left; (focus (intro w hSw; (try unfold SC at hSw); (try unfold FC at hSw); (try unfold LC at hSw); (try unfold TC at hSw); (try unfold MC at hSw); (try unfold BC at hSw); (try unfold RC at hSw); (try unfold KC at hSw); (try unfold KD at hSw); (try dsimp only at hSw); go_simp; (try with_reducible rfl); done)); (simp only [Act.put, List.setIfInBounds_toArray, List.set_cons_zero, List.set_cons_succ]); refine held_take (i := 3) (v := ?_) rfl (by kernel_rfl) (by kernel_rfl) (by kernel_rfl) (fun _ _ _ h => h) (by kernel_rfl) (by assumption) ?_ ?_; rotate_left; (focus (intro w hSw; (try unfold SC at hSw); (try unfold FC at hSw); (try unfold LC at hSw); (try unfold TC at hSw); (try unfold MC at hSw); (try unfold BC at hSw); (try unfold RC at hSw); (try unfold KC at hSw); (try unfold KD at hSw); (try dsimp only at hSw); go_simp; (try with_reducible rfl); done)); (simp only [Act.put, List.setIfInBounds_toArray, List.set_cons_zero, List.set_cons_succ]); refine held_take (i := 4) (v := ?_) rfl (by kernel_rfl) (by kernel_rfl) (by kernel_rfl) (fun _ _ _ h => h) (by kernel_rfl) (by assumption) ?_ ?_; rotate_left; (focus (intro w hSw; (try unfold SC at hSw); (try unfold FC at hSw); (try unfold LC at hSw); (try unfold TC at hSw); (try unfold MC at hSw); (try unfold BC at hSw); (try unfold RC at hSw); (try unfold KC at hSw); (try unfold KD at hSw); (try dsimp only at hSw); go_simp; (try with_reducible rfl); done)); (simp only [Act.put, List.setIfInBounds_toArray, List.set_cons_zero, List.set_cons_succ]); refine held_take (i := 5) (v := ?_) rfl (by kernel_rfl) (by kernel_rfl) (by kernel_rfl) (fun _ _ _ h => h) (by kernel_rfl) (by assumption) ?_ ?_; rotate_left; (focus (intro w hSw; (try unfold SC at hSw); (try unfold FC at hSw); (try unfold LC at hSw); (try unfold TC at hSw); (try unfold MC at hSw); (try unfold BC at hSw); (try unfold RC at hSw); (try unfold KC at hSw); (try unfold KD at hSw); (try dsimp only at hSw); go_simp; (try with_reducible rfl); done)); (simp only [Act.put, List.setIfInBounds_toArray, List.set_cons_zero, List.set_cons_succ]); refine held_take (i := 6) (v := ?_) rfl (by kernel_rfl) (by kernel_rfl) (by kernel_rfl) (fun _ _ _ h => h) (by kernel_rfl) (by assumption) ?_ ?_; rotate_left; (focus (intro w hSw; (try unfold SC at hSw); (try unfold FC at hSw); (try unfold LC at hSw); (try unfold TC at hSw); (try unfold MC at hSw); (try unfold BC at hSw); (try unfold RC at hSw); (try unfold KC at hSw); (try unfold KD at hSw); (try dsimp only at hSw); go_simp; (try with_reducible rfl); done)); (simp only [Act.put, List.setIfInBounds_toArray, List.set_cons_zero, List.set_cons_succ]); refine held_take (i := 7) (v := ?_) rfl (by kernel_rfl) (by kernel_rfl) (by kernel_rfl) (fun _ _ _ h => h) (by kernel_rfl) (by assumption) ?_ ?_; rotate_left; (focus (intro w hSw; (try unfold SC at hSw); (try unfold FC at hSw); (try unfold LC at hSw); (try unfold TC at hSw); (try unfold MC at hSw); (try unfold BC at hSw); (try unfold RC at hSw); (try unfold KC at hSw); (try unfold KD at hSw); (try dsimp only at hSw); go_simp; (try with_reducible rfl); done)); (simp only [Act.put, List.setIfInBounds_toArray, List.set_cons_zero, List.set_cons_succ]); refine held_take (i := 8) (v := ?_) rfl (by kernel_rfl) (by kernel_rfl) (by kernel_rfl) (fun _ _ _ h => h) (by kernel_rfl) (by assumption) ?_ ?_; rotate_left; (focus (intro w hSw; (try unfold SC at hSw); (try unfold FC at hSw); (try unfold LC at hSw); (try unfold TC at hSw); (try unfold MC at hSw); (try unfold BC at hSw); (try unfold RC at hSw); (try unfold KC at hSw); (try unfold KD at hSw); (try dsimp only at hSw); go_simp; (try with_reducible rfl); done)); (simp only [Act.put, List.setIfInBounds_toArray, List.set_cons_zero, List.set_cons_succ]))
    refine wpAnyH_ready (P := Tryd.prog) (md := .any) (rs := [2, 9]) (by kernel_rfl) (by simp) ?_
    refine held_cons rfl (by kernel_rfl) (fun K hK => ?_) (held_cons rfl (by kernel_rfl) (fun K hK => ?_) AllReadyH.nil)
    · ((go_simp; refine (hCl8.out _ (bdr (Below.refl _ _))).mono ?_; rintro _ wn ⟨⟨v1, rfl, hv1⟩, hbn⟩); refine hK.out _ _ ?_ (fun hHeld => ?_); ((try dsimp only); exact LC.below hHeld hbn); clear hK K; (try clear hHeld0); (try rename_i hHeld0))
      have hgv : (wn.alloc (Obj.cells #[.int .i64 x.t, .int .i64 x.r, .int .i64 x.k, .string x.key, .string x.val, .int .i64 x.n] 36)).heap[wn.heap.size]? = some (.cells #[.int .i64 x.t, .int .i64 x.r, .int .i64 x.k, .string x.key, .string x.val, .int .i64 x.n] 36 (0, 0)) := heap_alloc_new wn _
      have hv2 := hv1.alloc (Obj.cells #[.int .i64 x.t, .int .i64 x.r, .int .i64 x.k, .string x.key, .string x.val, .int .i64 x.n] 36)
      have hne := owns_lt hv1 wn.heap.size (Nat.le_refl _)
      (refine wpAnyH_ready (P := Tryd.prog) (md := .any) (rs := [9]) (by kernel_rfl) (by simp) ?_; refine held_cons rfl (by kernel_rfl) (fun K hK => ?_) AllReadyH.nil; (go_simp; refine hK.out _ _ ?_ (fun hHeld => ?_); ((try dsimp only); exact LC.below hHeld (bal (Below.refl _ _) _)); clear hK K; (try clear hHeld0); (try rename_i hHeld0)))
      have hbI : Below w8.heap.size w8 (wn.alloc (Obj.cells #[.int .i64 x.t, .int .i64 x.r, .int .i64 x.k, .string x.key, .string x.val, .int .i64 x.n] 36)) := bal (bch (bdr (Below.refl _ _)) hbn) _
      have hbase : w8.drew.heap.size ≤ (wn.alloc (Obj.cells #[.int .i64 x.t, .int .i64 x.r, .int .i64 x.k, .string x.key, .string x.val, .int .i64 x.n] 36)).heap.size := hbI.size
      have hIn := Lib.hid (insert_wr v1 ws.length k (ws.flatMap wrBCells) [.int .i64 x.t, .int .i64 x.r, .int .i64 x.k, .string x.key, .string x.val, .int .i64 x.n] wn.heap.size 1 w8.drew.heap.size _ hv2 (by omega) (by omega) rfl (wrs_one ws) (by intro u hu; simp only [List.mem_cons, List.not_mem_nil, or_false] at hu; rcases hu with rfl | rfl | rfl | rfl | rfl | rfl <;> rfl) hgv hne hbase)
      clear hgv hne
      have hlo : ∀ j, v1.ownBlock = some j → w8.heap.size ≤ j := fun j hj =>  (hv1.lt j hj).1
      clear hv1 hv2
      (refine wpAnyH_ready (P := Tryd.prog) (md := .any) (rs := [10]) (by kernel_rfl) (by simp) ?_; refine held_cons rfl (by kernel_rfl) (fun K hK => ?_) AllReadyH.nil; ((go_simp; refine hIn.out.mono ?_; rintro _ wm ⟨v3, rfl, hv3, hgr, hbk, hnil⟩); refine hK.out _ _ ?_ (fun hHeld => ?_); ((try dsimp only); exact hHeld.grown hgr (fun e => by have := hlo _ e.symm; omega) (fun e => by have := hlo _ e.symm; omega)); clear hK K; (try clear hHeld0); (try rename_i hHeld0)))
      have hbm : Below w8.heap.size w8 wm := hbI.grown hgr hbI.size hlo
      obtain ⟨g3, m4, rfl⟩ := owns_addr hv3 hnil
      have qc := qc.below hbm
      have qd := qd.below hbm
      have q0 := q0.below hbm
      have y2 := qd.cell 2
      have u2 := qd.frozen 2 (by simp)
      simp only [List.getElem?_cons_zero, List.getElem?_cons_succ] at y2
      have hg3 : w8.heap.size ≤ g3 :=  (hv3.lt g3 rfl).1
      (refine held_take (i := 11) (v := ?_) rfl (by kernel_rfl) (by kernel_rfl) (by kernel_rfl) (fun _ _ _ h => h) (by kernel_rfl) (by assumption) ?_ ?_; rotate_left; (focus (intro w hSw; (try unfold SC at hSw); (try unfold FC at hSw); (try unfold LC at hSw); (try unfold TC at hSw); (try unfold MC at hSw); (try unfold BC at hSw); (try unfold RC at hSw); (try unfold KC at hSw); (try unfold KD at hSw); (try dsimp only at hSw); go_simp; (try with_reducible rfl); done)); (simp only [Act.put, List.setIfInBounds_toArray, List.set_cons_zero, List.set_cons_succ]))
      (refine wpAnyH_ready (P := Tryd.prog) (md := .any) (rs := [12]) (by kernel_rfl) (by simp) ?_; refine held_cons rfl (by kernel_rfl) (fun K hK => ?_) AllReadyH.nil; (go_simp; refine hK.out _ _ ?_ (fun hHeld => ?_); ((try dsimp only); exact hHeld.set (p := ⟨gd, 2, none⟩) (show w.heap.size ≠ gd by omega) (show bw ≠ gd by omega) _); clear hK K; (try clear hHeld0); (try rename_i hHeld0)))
      (refine wpAnyH_done (by kernel_rfl) ?_ _)
      have hgb3 : g3 ≠ gd := by omega
      have eL : (ws.flatMap wrBCells).take (k * 6) ++ ([.int .i64 x.t, .int .i64 x.r, .int .i64 x.k, .string x.key, .string x.val, .int .i64 x.n] : List Value) ++ (ws.flatMap wrBCells).drop (k * 6) = (ws.take k ++ [ws[k]] ++ ws.drop k).flatMap wrBCells := by rw [wrs_take, wrs_drop, List.flatMap_append, List.flatMap_append, List.flatMap_singleton, ← hx.out]; rfl
      have hv4 := owns_set hv3 (p := ⟨gd, 2, none⟩) (fun e => by injection e with e; exact hgb3 e) (.slice (some ⟨g3, 0, none⟩) (ws.length + 1) m4)
      rw [eL] at hv4
      have eN : (ws.take k ++ [ws[k]] ++ ws.drop k).length = ws.length + 1 := by simp only [List.length_append, List.length_take, List.length_drop, List.length_singleton]; omega
      have hown4 := owns_set (owns_below hown3 hbm) (p := ⟨gd, 2, none⟩) (fun e => by have : w5.heap.size ≤ gd := (hown3.lt _ e).1; omega) (.slice (some ⟨g3, 0, none⟩) (ws.length + 1) m4)
      have qd3 := qd.set 2 (.slice (some ⟨g3, 0, none⟩) (ws.length + 1) m4)
      have qc3 := qc.other (p := ⟨gd, 2, none⟩) (Ne.symm hcd) (.slice (some ⟨g3, 0, none⟩) (ws.length + 1) m4)
      have q03 := q0.other (p := ⟨gd, 2, none⟩) (show gd ≠ w.heap.size by omega) (.slice (some ⟨g3, 0, none⟩) (ws.length + 1) m4)
      have hb9 := Below.setCell (hb8.trans (hbm.mono (by omega))) (p := ⟨gd, 2, none⟩) (show w.heap.size ≤ gd by omega) (.slice (some ⟨g3, 0, none⟩) (ws.length + 1) m4)
      have eC : WrsIs (wm.setCell ⟨gd, 2, none⟩ (.slice (some ⟨g3, 0, none⟩) (ws.length + 1) m4)) (.slice oc L1 mc) (ws.take k ++ ws.drop (k + 1)) := ListIs.of_owns (by rw [hcl.out]; exact hown4)
      have eD : WrsIs (wm.setCell ⟨gd, 2, none⟩ (.slice (some ⟨g3, 0, none⟩) (ws.length + 1) m4)) (.slice (some ⟨g3, 0, none⟩) (ws.length + 1) m4) (ws.take k ++ [ws[k]] ++ ws.drop k) := ListIs.of_owns (by rw [eN]; exact hv4)
      simp only [List.set_cons_succ, List.set_cons_zero] at qd3
      clear hv3 hgr hbk hnil hv4 hIn eL qc qd q0 hHeld hown4 hown3 hbm hCl8 y2 u2
      generalize wm.setCell ⟨gd, 2, none⟩ (.slice (some ⟨g3, 0, none⟩) (ws.length + 1) m4) = w9 at *
      rw [← hx.out] at eN eD
      (have a0 := qd3.cell 0; have a1 := qd3.cell 1; have a2 := qd3.cell 2; simp only [List.set_cons_succ, List.set_cons_zero, List.getElem?_cons_zero, List.getElem?_cons_succ] at a0 a1 a2)
      have hRD := Lib.hid (hR.out _ _ w9 hb9 eD (by rw [eN]; omega))
      replace eC := Lib.hid eC
      replace eD := Lib.hid eD
      go_wp2_with fail
      refine hRD.out.mono ?_
      rintro _ w10 ⟨v10, rfl, hv10, hb10⟩
      have hT := Lib.hid (tell_err v10 _ w10 (hL.below (bch hb9 hb10)) hv10)
      clear hv10 hRD a0 a1 a2
      go_wp2_with fail
      refine hT.out.mono ?_
      rintro _ w11 ⟨rfl, hb11⟩
      have hb911 := bch hb10 hb11
      have hbw11 := bch hb9 hb911
      have hRC := Lib.hid (hR.out _ _ w11 hbw11 (eC.out.below hb911) (by rw [hcl.out]; have := hL1.out; omega))
      replace qc3 := qc3.below hb911
      replace q03 := q03.below hb911
      (have a0 := qc3.cell 0; have a1 := qc3.cell 1; have a2 := qc3.cell 2; simp only [List.set_cons_succ, List.set_cons_zero, List.getElem?_cons_zero, List.getElem?_cons_succ] at a0 a1 a2)
      clear hT
      by_cases h6 : ws.length = 60
      · have hcode := hD1.out
        rw [if_pos h6] at hcode
        rw [hcode]
        have h60 : ((ws.length : Int) == 60) = true := by rw [h6]; rfl
        replace h6 := Lib.hid h6
        replace hcode := Lib.hid hcode
        go_wp2_with fail
        refine hRC.out.mono ?_
        rintro _ w12 ⟨v12, rfl, hv12, hb12⟩
        rw [hC1.out] at hv12
        have hv12 : v12 = .nilIface := hv12
        subst hv12
        replace q03 := q03.below hb12
        clear a0 a1 a2 hRC
        (have a0 := q03.cell 0; have a1 := q03.cell 1; have a2 := q03.cell 2; simp only [List.set_cons_succ, List.set_cons_zero, List.getElem?_cons_zero, List.getElem?_cons_succ] at a0 a1 a2)
        go_wp2
        go_ret
        exact ⟨rfl, bch hbw11 hb12⟩
      · have hcode := hD1.out
        rw [if_neg h6] at hcode
        rw [hcode]
        replace h6 := Lib.hid h6
        replace hcode := Lib.hid hcode
        go_wp2_with fail
        refine hRC.out.mono ?_
        rintro _ w12 ⟨v12, rfl, hv12, hb12⟩
        rw [hC1.out] at hv12
        have hv12 : v12 = .nilIface := hv12
        subst hv12
        replace q03 := q03.below hb12
        clear a0 a1 a2 hRC
        (have a0 := q03.cell 0; have a1 := q03.cell 1; have a2 := q03.cell 2; simp only [List.set_cons_succ, List.set_cons_zero, List.getElem?_cons_zero, List.getElem?_cons_succ] at a0 a1 a2)
        go_wp2
        go_ret
        exact ⟨rfl, bch hbw11 hb12⟩
    · (go_simp; refine hK.out _ _ ?_ (fun hHeld => ?_); ((try dsimp only); exact LC.below hHeld (bal (Below.refl _ _) _)); clear hK K; (try clear hHeld0); (try rename_i hHeld0))
      (refine wpAnyH_ready (P := Tryd.prog) (md := .any) (rs := [2]) (by kernel_rfl) (by simp) ?_; refine held_cons rfl (by kernel_rfl) (fun K hK => ?_) AllReadyH.nil; ((go_simp; refine (hCl8.out _ (bal (bdr (Below.refl _ _)) _)).mono ?_; rintro _ wn ⟨⟨v1, rfl, hv1⟩, hbn⟩); refine hK.out _ _ ?_ (fun hHeld => ?_); ((try dsimp only); exact LC.below hHeld hbn); clear hK K; (try clear hHeld0); (try rename_i hHeld0)))
      have hgv : (w8.drew.alloc (Obj.cells #[.int .i64 x.t, .int .i64 x.r, .int .i64 x.k, .string x.key, .string x.val, .int .i64 x.n] 36)).heap[w8.heap.size]? = some (.cells #[.int .i64 x.t, .int .i64 x.r, .int .i64 x.k, .string x.key, .string x.val, .int .i64 x.n] 36 (0, 0)) := heap_alloc_new w8.drew _
      have hgs : w8.heap.size < (w8.drew.alloc (Obj.cells #[.int .i64 x.t, .int .i64 x.r, .int .i64 x.k, .string x.key, .string x.val, .int .i64 x.n] 36)).heap.size := (row_alloc w8.drew _ _ : Row (w8.drew.alloc (Obj.cells #[.int .i64 x.t, .int .i64 x.r, .int .i64 x.k, .string x.key, .string x.val, .int .i64 x.n] 36)) w8.drew.heap.size _ _).lt
      have hgv2 := (hbn.block w8.heap.size hgs).trans hgv
      have hbI : Below w8.heap.size w8 wn := bch (bal (bdr (Below.refl _ _)) _) hbn
      have hbase : (w8.drew.alloc (Obj.cells #[.int .i64 x.t, .int .i64 x.r, .int .i64 x.k, .string x.key, .string x.val, .int .i64 x.n] 36)).heap.size ≤ wn.heap.size := hbn.size
      have hne : v1.ownBlock ≠ some w8.heap.size := fun e => by have := (hv1.lt _ e).1; omega
      have hIn := Lib.hid (insert_wr v1 ws.length k (ws.flatMap wrBCells) [.int .i64 x.t, .int .i64 x.r, .int .i64 x.k, .string x.key, .string x.val, .int .i64 x.n] w8.heap.size 1 (w8.drew.alloc (Obj.cells #[.int .i64 x.t, .int .i64 x.r, .int .i64 x.k, .string x.key, .string x.val, .int .i64 x.n] 36)).heap.size _ hv1 (by omega) (by omega) rfl (wrs_one ws) (by intro u hu; simp only [List.mem_cons, List.not_mem_nil, or_false] at hu; rcases hu with rfl | rfl | rfl | rfl | rfl | rfl <;> rfl) hgv2 hne hbase)
      have hv2 := hv1
      have hlo3 := Lib.hid (fun g (h : (w8.drew.alloc (Obj.cells #[.int .i64 x.t, .int .i64 x.r, .int .i64 x.k, .string x.key, .string x.val, .int .i64 x.n] 36)).heap.size ≤ g) => Nat.le_trans (Nat.le_of_lt hgs) h)
      clear hgv hgv2 hne hgs hbase
      have hlo : ∀ j, v1.ownBlock = some j → w8.heap.size ≤ j := fun j hj => hlo3.out _ (hv1.lt j hj).1
      clear hv1 hv2
      (refine wpAnyH_ready (P := Tryd.prog) (md := .any) (rs := [10]) (by kernel_rfl) (by simp) ?_; refine held_cons rfl (by kernel_rfl) (fun K hK => ?_) AllReadyH.nil; ((go_simp; refine hIn.out.mono ?_; rintro _ wm ⟨v3, rfl, hv3, hgr, hbk, hnil⟩); refine hK.out _ _ ?_ (fun hHeld => ?_); ((try dsimp only); exact hHeld.grown hgr (fun e => by have := hlo _ e.symm; omega) (fun e => by have := hlo _ e.symm; omega)); clear hK K; (try clear hHeld0); (try rename_i hHeld0)))
      have hbm : Below w8.heap.size w8 wm := hbI.grown hgr hbI.size hlo
      obtain ⟨g3, m4, rfl⟩ := owns_addr hv3 hnil
      have qc := qc.below hbm
      have qd := qd.below hbm
      have q0 := q0.below hbm
      have y2 := qd.cell 2
      have u2 := qd.frozen 2 (by simp)
      simp only [List.getElem?_cons_zero, List.getElem?_cons_succ] at y2
      have hg3 : w8.heap.size ≤ g3 := hlo3.out _ (hv3.lt g3 rfl).1
      (refine held_take (i := 11) (v := ?_) rfl (by kernel_rfl) (by kernel_rfl) (by kernel_rfl) (fun _ _ _ h => h) (by kernel_rfl) (by assumption) ?_ ?_; rotate_left; (focus (intro w hSw; (try unfold SC at hSw); (try unfold FC at hSw); (try unfold LC at hSw); (try unfold TC at hSw); (try unfold MC at hSw); (try unfold BC at hSw); (try unfold RC at hSw); (try unfold KC at hSw); (try unfold KD at hSw); (try dsimp only at hSw); go_simp; (try with_reducible rfl); done)); (simp only [Act.put, List.setIfInBounds_toArray, List.set_cons_zero, List.set_cons_succ]))
      (refine wpAnyH_ready (P := Tryd.prog) (md := .any) (rs := [12]) (by kernel_rfl) (by simp) ?_; refine held_cons rfl (by kernel_rfl) (fun K hK => ?_) AllReadyH.nil; (go_simp; refine hK.out _ _ ?_ (fun hHeld => ?_); ((try dsimp only); exact hHeld.set (p := ⟨gd, 2, none⟩) (show w.heap.size ≠ gd by omega) (show bw ≠ gd by omega) _); clear hK K; (try clear hHeld0); (try rename_i hHeld0)))
      (refine wpAnyH_done (by kernel_rfl) ?_ _)
      have hgb3 : g3 ≠ gd := by omega
      have eL : (ws.flatMap wrBCells).take (k * 6) ++ ([.int .i64 x.t, .int .i64 x.r, .int .i64 x.k, .string x.key, .string x.val, .int .i64 x.n] : List Value) ++ (ws.flatMap wrBCells).drop (k * 6) = (ws.take k ++ [ws[k]] ++ ws.drop k).flatMap wrBCells := by rw [wrs_take, wrs_drop, List.flatMap_append, List.flatMap_append, List.flatMap_singleton, ← hx.out]; rfl
      have hv4 := owns_set hv3 (p := ⟨gd, 2, none⟩) (fun e => by injection e with e; exact hgb3 e) (.slice (some ⟨g3, 0, none⟩) (ws.length + 1) m4)
      rw [eL] at hv4
      have eN : (ws.take k ++ [ws[k]] ++ ws.drop k).length = ws.length + 1 := by simp only [List.length_append, List.length_take, List.length_drop, List.length_singleton]; omega
      have hown4 := owns_set (owns_below hown3 hbm) (p := ⟨gd, 2, none⟩) (fun e => by have : w5.heap.size ≤ gd := (hown3.lt _ e).1; omega) (.slice (some ⟨g3, 0, none⟩) (ws.length + 1) m4)
      have qd3 := qd.set 2 (.slice (some ⟨g3, 0, none⟩) (ws.length + 1) m4)
      have qc3 := qc.other (p := ⟨gd, 2, none⟩) (Ne.symm hcd) (.slice (some ⟨g3, 0, none⟩) (ws.length + 1) m4)
      have q03 := q0.other (p := ⟨gd, 2, none⟩) (show gd ≠ w.heap.size by omega) (.slice (some ⟨g3, 0, none⟩) (ws.length + 1) m4)
      have hb9 := Below.setCell (hb8.trans (hbm.mono (by omega))) (p := ⟨gd, 2, none⟩) (show w.heap.size ≤ gd by omega) (.slice (some ⟨g3, 0, none⟩) (ws.length + 1) m4)
      have eC : WrsIs (wm.setCell ⟨gd, 2, none⟩ (.slice (some ⟨g3, 0, none⟩) (ws.length + 1) m4)) (.slice oc L1 mc) (ws.take k ++ ws.drop (k + 1)) := ListIs.of_owns (by rw [hcl.out]; exact hown4)
      have eD : WrsIs (wm.setCell ⟨gd, 2, none⟩ (.slice (some ⟨g3, 0, none⟩) (ws.length + 1) m4)) (.slice (some ⟨g3, 0, none⟩) (ws.length + 1) m4) (ws.take k ++ [ws[k]] ++ ws.drop k) := ListIs.of_owns (by rw [eN]; exact hv4)
      simp only [List.set_cons_succ, List.set_cons_zero] at qd3
      clear hv3 hgr hbk hnil hv4 hIn eL qc qd q0 hHeld hown4 hown3 hbm hCl8 y2 u2
      generalize wm.setCell ⟨gd, 2, none⟩ (.slice (some ⟨g3, 0, none⟩) (ws.length + 1) m4) = w9 at *
      rw [← hx.out] at eN eD
      (have a0 := qd3.cell 0; have a1 := qd3.cell 1; have a2 := qd3.cell 2; simp only [List.set_cons_succ, List.set_cons_zero, List.getElem?_cons_zero, List.getElem?_cons_succ] at a0 a1 a2)
      have hRD := Lib.hid (hR.out _ _ w9 hb9 eD (by rw [eN]; omega))
      replace eC := Lib.hid eC
      replace eD := Lib.hid eD
      go_wp2_with fail
      refine hRD.out.mono ?_
      rintro _ w10 ⟨v10, rfl, hv10, hb10⟩
      have hT := Lib.hid (tell_err v10 _ w10 (hL.below (bch hb9 hb10)) hv10)
      clear hv10 hRD a0 a1 a2
      go_wp2_with fail
      refine hT.out.mono ?_
      rintro _ w11 ⟨rfl, hb11⟩
      have hb911 := bch hb10 hb11
      have hbw11 := bch hb9 hb911
      have hRC := Lib.hid (hR.out _ _ w11 hbw11 (eC.out.below hb911) (by rw [hcl.out]; have := hL1.out; omega))
      replace qc3 := qc3.below hb911
      replace q03 := q03.below hb911
      (have a0 := qc3.cell 0; have a1 := qc3.cell 1; have a2 := qc3.cell 2; simp only [List.set_cons_succ, List.set_cons_zero, List.getElem?_cons_zero, List.getElem?_cons_succ] at a0 a1 a2)
      clear hT
      by_cases h6 : ws.length = 60
      · have hcode := hD1.out
        rw [if_pos h6] at hcode
        rw [hcode]
        have h60 : ((ws.length : Int) == 60) = true := by rw [h6]; rfl
        replace h6 := Lib.hid h6
        replace hcode := Lib.hid hcode
        go_wp2_with fail
        refine hRC.out.mono ?_
        rintro _ w12 ⟨v12, rfl, hv12, hb12⟩
        rw [hC1.out] at hv12
        have hv12 : v12 = .nilIface := hv12
        subst hv12
        replace q03 := q03.below hb12
        clear a0 a1 a2 hRC
        (have a0 := q03.cell 0; have a1 := q03.cell 1; have a2 := q03.cell 2; simp only [List.set_cons_succ, List.set_cons_zero, List.getElem?_cons_zero, List.getElem?_cons_succ] at a0 a1 a2)
        go_wp2
        go_ret
        exact ⟨rfl, bch hbw11 hb12⟩
      · have hcode := hD1.out
        rw [if_neg h6] at hcode
        rw [hcode]
        replace h6 := Lib.hid h6
        replace hcode := Lib.hid hcode
        go_wp2_with fail
        refine hRC.out.mono ?_
        rintro _ w12 ⟨v12, rfl, hv12, hb12⟩
        rw [hC1.out] at hv12
        have hv12 : v12 = .nilIface := hv12
        subst hv12
        replace q03 := q03.below hb12
        clear a0 a1 a2 hRC
        (have a0 := q03.cell 0; have a1 := q03.cell 1; have a2 := q03.cell 2; simp only [List.set_cons_succ, List.set_cons_zero, List.getElem?_cons_zero, List.getElem?_cons_succ] at a0 a1 a2)
        go_wp2
        go_ret
        exact ⟨rfl, bch hbw11 hb12⟩
theorem BatchLess_walk (vf vh vw : Value) (a1 : Int) (w : World) (q : BatQ w (vf, vh, vw)) (w1 : (Lit.int .i64 a1).wf = true) (hL : Laid w) :
    Calls Tryd.prog 11 #[.agg #[vf, vh, vw], .int .i64 a1] w fun e w' => e = .returned (.bool true) ∧ Below w.heap.size w w' := by
  obtain ⟨⟨A, ha, -, hlA⟩, ⟨B, hb, -, hlB⟩, ⟨L, hc, hq, hlL⟩⟩ := q
  exact batch_less vf vh vw A B L a1 w hL ha hb hc hlA hlB hlL hq
end Go.Proofs.YtpmedolndkidcaaDoor
