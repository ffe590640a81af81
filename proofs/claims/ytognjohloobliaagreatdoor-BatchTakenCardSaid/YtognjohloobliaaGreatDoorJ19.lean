/- Walks of what the laws over batches share: gathered. -/
import Derived.Test.YtognjohloobliaaGreatDoorJ18
import Derived.Test.YtognjohloobliaaGreatDoorJ15
import Derived.Test.YtognjohloobliaaGreatDoorJ01
namespace Go.Proofs.YtognjohloobliaaGreatDoor
open Go.RowKit
set_option linter.unusedVariables false
set_option linter.unusedSimpArgs false
theorem one_rightG : Bat.right [] oneH [oneW.plain] = .ok := by decide +kernel
theorem one_wrong : Bat.right oneH oneH [oneW.plain] = .at_ 6 0 := by decide +kernel
set_option maxHeartbeats 8000000 in
set_option maxRecDepth 20000 in
theorem gathered (w : World) (hL : Laid w) : Calls Tryz.prog 7 #[] w fun e w' => e = .returned (.bool true) ∧ Below w.heap.size w w' := by
 have hO := fun W => keep_one W
 have hll : ∀ l : List WrB, l.length = 1 → l.length ≤ 140737488351232 := fun l h => by omega
 replace hO := Lib.hid hO
 go_enter Tryz.func7, Tryz.ntmps7
 go_wp2_with fail
 refine (hO.out _).mono ?_
 rintro _ w1 ⟨⟨vh, vw, rfl, hv1, hw1⟩, hb1⟩
 obtain ⟨o2, c2, e1, -, -⟩ := hv1.list.at entCells_len
 have e1 : vh = .slice o2 1 c2 := e1
 subst e1
 obtain ⟨o3, c3, e1, -, -⟩ := ListIs.at hw1 wrBCells_len
 have e1 : vw = .slice o3 1 c3 := e1
 subst e1
 replace hv1 := Lib.hid hv1
 replace hw1 := Lib.hid hw1
 go_wp2_with fail
 have q1 := row_at #[.slice none 0 0, .slice o2 1 c2, .slice o3 1 c3] 25 (rfl : w1.heap.size = w1.heap.size)
 have hb20 := bal (Below.refl w1.heap.size w1) (Obj.cells #[.slice none 0 0, .slice o2 1 c2, .slice o3 1 c3] 25)
 generalize w1.alloc (Obj.cells #[.slice none 0 0, .slice o2 1 c2, .slice o3 1 c3] 25) = w2 at *
 refine (hO.out _).mono ?_
 rintro _ w3 ⟨⟨vh, vw, rfl, hv3, hw3⟩, hb3⟩
 obtain ⟨p2, d2, e1, -, -⟩ := hv3.list.at entCells_len
 have e1 : vh = .slice p2 1 d2 := e1
 subst e1
 obtain ⟨p3, d3, e1, -, -⟩ := ListIs.at hw3 wrBCells_len
 have e1 : vw = .slice p3 1 d3 := e1
 subst e1
 replace q1 := q1.below hb3
 have hb13 : Below w1.heap.size w1 w3 := bch hb20 hb3
 replace hv3 := Lib.hid hv3
 replace hw3 := Lib.hid hw3
 clear hb20 hb3
 go_wp2_with fail
 replace q1 := q1.alloc (Obj.cells #[.slice p2 1 d2, .slice p2 1 d2, .slice p3 1 d3] 25)
 have q2 := row_at #[.slice p2 1 d2, .slice p2 1 d2, .slice p3 1 d3] 25 (rfl : w3.heap.size = w3.heap.size)
 have hb35 : Below w3.heap.size w3 (w3.alloc (Obj.cells #[.slice p2 1 d2, .slice p2 1 d2, .slice p3 1 d3] 25)) := bal (Below.refl _ _) _
 generalize w3.alloc (Obj.cells #[.slice p2 1 d2, .slice p2 1 d2, .slice p3 1 d3] 25) = w5 at *
 have hb15 : Below w1.heap.size w1 w5 := bch hb13 hb35
 have hb5 : Below w.heap.size w w5 := bch hb1 hb15
 have ha := Lib.hid (hv1.out.below hb15)
 have hb := Lib.hid (hw1.out.below hb15)
 have hc := Lib.hid (hv3.out.below hb35)
 have hd := Lib.hid (hw3.out.below hb35)
 clear hv1 hw1 hv3 hw3 hb13 hb15 hb35 hb1
 have hL5 := Lib.hid (hL.below hb5)
 have hRb : ∀ W, Below w5.heap.size w5 W → Calls Tryz.prog 29 #[.agg #[.slice none 0 0, .slice o2 1 c2, .slice o3 1 c3]] W fun e w' => e = .returned .nilIface ∧ Below W.heap.size W w' := fun W hW => (batch_right (.slice none 0 0) (.slice o2 1 c2) (.slice o3 1 c3) [] oneH [oneW] W (hL5.out.below hW) (vec_nil W none 0) (ha.out.below hW) (hb.out.below hW) (by decide) (by decide) (by decide)).mono fun e w' ⟨v, h1, h2, h3⟩ => by
  rw [show ([oneW].map WrB.plain) = [oneW.plain] from rfl, one_rightG] at h2
  have h2 : v = .nilIface := h2
  exact ⟨h2 ▸ h1, h3⟩
 have hRc : ∀ W, Below w5.heap.size w5 W → Calls Tryz.prog 29 #[.agg #[.slice p2 1 d2, .slice p2 1 d2, .slice p3 1 d3]] W fun e w' => (∃ g, e = .returned (.iface 82 (.pointer (some ⟨g, 0, none⟩))) ∧ Row w' g 84 [.int .i64 6, .int .i64 0]) ∧ Below W.heap.size W w' := fun W hW => (batch_right (.slice p2 1 d2) (.slice p2 1 d2) (.slice p3 1 d3) oneH oneH [oneW] W (hL5.out.below hW) (hc.out.below hW) (hc.out.below hW) (hd.out.below hW) (by decide) (by decide) (by decide)).mono fun e w' ⟨v, h1, h2, h3⟩ => by
  rw [show ([oneW].map WrB.plain) = [oneW.plain] from rfl, one_wrong] at h2
  obtain ⟨g, h4, h5⟩ := h2
  exact ⟨⟨g, h4 ▸ h1, h5⟩, h3⟩
 have hT := fun g W (hW : Below w5.heap.size w5 W) (hr : Row W g 84 [.int .i64 6, .int .i64 0]) => tell_err (.iface 82 (.pointer (some ⟨g, 0, none⟩))) (.at_ 6 0) W (hL5.out.below hW) ⟨g, rfl, hr⟩
 have hSy := fun vh vw W (hW : Below w5.heap.size w5 W) (h1 : VecIs W vh oneH) (h2 : WrsIs W vw [oneW]) => same_yes (.slice none 0 0) (.slice o2 1 c2) (.slice o3 1 c3) (.slice none 0 0) vh vw [] oneH [oneW] W (vec_nil W none 0) (ha.out.below hW) (hb.out.below hW) (vec_nil W none 0) h1 h2 (by decide) (by decide) (by decide)
 have hSn := fun W (hW : Below w5.heap.size w5 W) => same_no (.slice none 0 0) (.slice o2 1 c2) (.slice o3 1 c3) (.slice p2 1 d2) (.slice p2 1 d2) (.slice p3 1 d3) [] oneH W (vec_nil W none 0) (hc.out.below hW) (by decide) (by decide) (by decide) ⟨_, _, _, rfl⟩ ⟨_, _, _, rfl⟩ ⟨_, _, _, rfl⟩ ⟨_, _, _, rfl⟩
 replace hRb := Lib.hid hRb
 replace hRc := Lib.hid hRc
 replace hT := Lib.hid hT
 replace hSy := Lib.hid hSy
 replace hSn := Lib.hid hSn
 generalize w1.heap.size = g1 at *
 generalize w3.heap.size = g3 at *
 have r1 := q1.drew
 have r3 := q2.drew
 obtain ⟨x0, x1, x2⟩ := r1.c3
 obtain ⟨y0, y1, y2⟩ := r3.c3
 clear q1 q2 r1 r3
 (refine wp_region_held_drew (S := (fun W => Below w5.heap.size w5 W ∧ W.cell? ⟨g1, 0, none⟩ = some (.slice none 0 0) ∧ W.cell? ⟨g1, 1, none⟩ = some (.slice o2 1 c2) ∧ W.cell? ⟨g1, 2, none⟩ = some (.slice o3 1 c3) ∧ W.cell? ⟨g3, 0, none⟩ = some (.slice p2 1 d2) ∧ W.cell? ⟨g3, 1, none⟩ = some (.slice p2 1 d2) ∧ W.cell? ⟨g3, 2, none⟩ = some (.slice p3 1 d3))) (by kernel_rfl) ?_ (fun hHeld => ?_); ((try dsimp only); exact ⟨bdr (Below.refl _ _), x0, x1, x2, y0, y1, y2⟩))
 (refine tkO 0 ?_)
 (refine tdoO 1 (fun K hK => ?_); ((go_simp; refine (hRb.out _ hHeld.1).mono ?_; rintro _ wn ⟨rfl, hbn⟩); refine hK.out _ _ ?_ (fun hHeld => ?_); ((try dsimp only); exact ⟨bch hHeld.1 hbn, cell_below hbn hHeld.2.1, cell_below hbn hHeld.2.2.1, cell_below hbn hHeld.2.2.2.1, cell_below hbn hHeld.2.2.2.2.1, cell_below hbn hHeld.2.2.2.2.2.1, cell_below hbn hHeld.2.2.2.2.2.2⟩); clear hK K; (try clear hHeld0); (try rename_i hHeld0)))
 (refine tkO 2 ?_; refine tkO 3 ?_; refine tkO 4 ?_)
 (refine tdoO 5 (fun K hK => ?_); ((go_simp; refine (hRc.out _ hHeld.1).mono ?_; rintro _ wn ⟨⟨ga, rfl, hrow⟩, hbn⟩); refine hK.out _ _ ?_ (fun hHeld => ?_); ((try dsimp only); exact ⟨bch hHeld.1 hbn, cell_below hbn hHeld.2.1, cell_below hbn hHeld.2.2.1, cell_below hbn hHeld.2.2.2.1, cell_below hbn hHeld.2.2.2.2.1, cell_below hbn hHeld.2.2.2.2.2.1, cell_below hbn hHeld.2.2.2.2.2.2⟩); clear hK K; (try clear hHeld0); (try rename_i hHeld0)))
 (refine tdoO 6 (fun K hK => ?_); ((go_simp; refine (hT.out _ _ hHeld.1 hrow).mono ?_; rintro _ wn ⟨rfl, hbn⟩); refine hK.out _ _ ?_ (fun hHeld => ?_); ((try dsimp only); exact ⟨bch hHeld.1 hbn, cell_below hbn hHeld.2.1, cell_below hbn hHeld.2.2.1, cell_below hbn hHeld.2.2.2.1, cell_below hbn hHeld.2.2.2.2.1, cell_below hbn hHeld.2.2.2.2.2.1, cell_below hbn hHeld.2.2.2.2.2.2⟩); clear hK K; (try clear hHeld0); (try rename_i hHeld0)))
 (refine tkO 7 ?_; refine tkO 8 ?_; refine tkO 9 ?_; refine tkO 10 ?_)
 (refine tdoO 11 (fun K hK => ?_); ((go_simp; refine (hO.out _).mono ?_; rintro _ wn ⟨⟨vh, vw, rfl, hv9, hw9⟩, hbn⟩); refine hK.out _ _ ?_ (fun hHeld => ?_); ((try dsimp only); exact ⟨bch hHeld.1 hbn, cell_below hbn hHeld.2.1, cell_below hbn hHeld.2.2.1, cell_below hbn hHeld.2.2.2.1, cell_below hbn hHeld.2.2.2.2.1, cell_below hbn hHeld.2.2.2.2.2.1, cell_below hbn hHeld.2.2.2.2.2.2⟩); clear hK K; (try clear hHeld0); (try rename_i hHeld0)))
 (refine tdoO 12 (fun K hK => ?_); ((go_simp; refine (hSy.out _ _ _ hHeld.1 hv9 hw9).mono ?_; rintro _ wn ⟨rfl, hbn⟩); refine hK.out _ _ ?_ (fun hHeld => ?_); ((try dsimp only); exact ⟨bch hHeld.1 hbn, cell_below hbn hHeld.2.1, cell_below hbn hHeld.2.2.1, cell_below hbn hHeld.2.2.2.1, cell_below hbn hHeld.2.2.2.2.1, cell_below hbn hHeld.2.2.2.2.2.1, cell_below hbn hHeld.2.2.2.2.2.2⟩); clear hK K; (try clear hHeld0); (try rename_i hHeld0)))
 (refine tkO 13 ?_; refine tkO 14 ?_; refine tkO 15 ?_; refine tkO 16 ?_)
 (refine tdoO 17 (fun K hK => ?_); ((go_simp; refine (hSn.out _ hHeld.1).mono ?_; rintro _ wn ⟨rfl, hbn⟩); refine hK.out _ _ ?_ (fun hHeld => ?_); ((try dsimp only); exact ⟨bch hHeld.1 hbn, cell_below hbn hHeld.2.1, cell_below hbn hHeld.2.2.1, cell_below hbn hHeld.2.2.2.1, cell_below hbn hHeld.2.2.2.2.1, cell_below hbn hHeld.2.2.2.2.2.1, cell_below hbn hHeld.2.2.2.2.2.2⟩); clear hK K; (try clear hHeld0); (try rename_i hHeld0)))
 (refine tkO 18 ?_; refine tkO 19 ?_; refine tkO 20 ?_)
 (refine wpAnyH_done (by kernel_rfl) ?_ _)
 have hbf := bch hb5 hHeld.1
 go_wp2
 go_ret
 exact ⟨rfl, hbf⟩
end Go.Proofs.YtognjohloobliaaGreatDoor
/- slices.Equal over writes, whatever they are. -/
namespace Go.Proofs.YtognjohloobliaaGreatDoor
open Go.RowKit
set_option linter.unusedVariables false
set_option linter.unusedSimpArgs false
instance : DecidableEq WrB := fun a b => decidable_of_iff (a.t = b.t ∧ a.r = b.r ∧ a.k = b.k ∧ a.key = b.key ∧ a.val = b.val ∧ a.n = b.n) (by cases a; cases b; simp)
theorem wrb_ext {x y : WrB} (h : x.t = y.t ∧ x.r = y.r ∧ x.k = y.k ∧ x.key = y.key ∧ x.val = y.val ∧ x.n = y.n) : x = y := by
 cases x; cases y; simp only [WrB.mk.injEq] at *; exact h
theorem ba_ne {x y : ByteArray} (h : ¬ x = y) : (x.toList == y.toList) = false := by
 rw [beq_eq_false_iff_ne]
 intro e
 rw [ByteArray.toList_eq, ByteArray.toList_eq] at e
 exact h (ba_ext e)
theorem eqw_drop {a b : List WrB} {k : Nat} (ha : k < a.length) (hb : k < b.length) (he : a[k] = b[k]) : (a.drop k = b.drop k) ↔ (a.drop (k + 1) = b.drop (k + 1)) := by
 rw [List.drop_eq_getElem_cons ha, List.drop_eq_getElem_cons hb, he]; exact List.cons_inj_right _
theorem new_drop {a b : List WrB} {k : Nat} (ha : k < a.length) (hb : k < b.length) (he : a[k] ≠ b[k]) : a.drop k ≠ b.drop k := by
 rw [List.drop_eq_getElem_cons ha, List.drop_eq_getElem_cons hb]; intro h; injection h with h _; exact he h
set_option maxHeartbeats 8000000 in
theorem eq_wrs (va vb : Value) (a b : List WrB) (w : World) (ha : WrsIs w va a) (hb : WrsIs w vb b) (hla : a.length ≤ 140737488351232) (hlb : b.length ≤ 140737488351232) :
  Calls Tryz.prog 17 #[va, vb] w fun e w' => e = .returned (.bool (decide (a = b))) ∧ Below w.heap.size w w' := by
 obtain ⟨oa, ca, rfl, -, hcella⟩ := ListIs.at ha wrBCells_len
 obtain ⟨ob, cb, rfl, -, hcellb⟩ := ListIs.at hb wrBCells_len
 clear ha hb
 replace hcella := Lib.hid hcella
 replace hcellb := Lib.hid hcellb
 by_cases hl : a.length = b.length
 ·have hl1 : a.length ≤ b.length := by omega
  have hl2 : b.length ≤ a.length := by omega
  have hle : ((a.length : Int) == (b.length : Int)) = true := by simp; omega
  have hle2 : ((a.length : Int) != (b.length : Int)) = false := by simp; omega
  replace hl := Lib.hid hl
  go_enter Tryz.func17, Tryz.ntmps17
  go_wp2
  go_loopw [13] (fun i wr => ∃ k : Nat, k ≤ a.length ∧ i = .int .i64 k ∧ (a.drop k = b.drop k ↔ a = b) ∧ Below w.heap.size w wr) (fun i _ => a.length - (intOf i).toNat)
  case atStart => exact ⟨0, by omega, rfl, by simp, by exact blw⟩
  case round =>
   obtain ⟨k, hk, rfl, heq, hbel⟩ := hrel
   have hsz := hbel.size
   by_cases hlt : k < a.length
   ·have hlt2 : k < b.length := by omega
    obtain ⟨b1, f1, rfl, hb1, hc1⟩ := hcella.out k hlt
    obtain ⟨b2, f2, rfl, hb2, hc2⟩ := hcellb.out k hlt2
    have hb1 := hb1 (by omega)
    have hb2 := hb2 (by omega)
    have c0 : wr.cell? ⟨b1, f1 + k * 6, none⟩ = some (.int .i64 a[k].t) := (hbel.cell (p := ⟨b1, f1 + k * 6, none⟩) hb1).trans (hc1 0 _ rfl)
    have c1 : wr.cell? ⟨b1, f1 + k * 6 + 1, none⟩ = some (.int .i64 a[k].r) := (hbel.cell (p := ⟨b1, f1 + k * 6 + 1, none⟩) hb1).trans (hc1 1 _ rfl)
    have c2 : wr.cell? ⟨b1, f1 + k * 6 + 2, none⟩ = some (.int .i64 a[k].k) := (hbel.cell (p := ⟨b1, f1 + k * 6 + 2, none⟩) hb1).trans (hc1 2 _ rfl)
    have c3 : wr.cell? ⟨b1, f1 + k * 6 + 3, none⟩ = some (.string a[k].key) := (hbel.cell (p := ⟨b1, f1 + k * 6 + 3, none⟩) hb1).trans (hc1 3 _ rfl)
    have c4 : wr.cell? ⟨b1, f1 + k * 6 + 4, none⟩ = some (.string a[k].val) := (hbel.cell (p := ⟨b1, f1 + k * 6 + 4, none⟩) hb1).trans (hc1 4 _ rfl)
    have c5 : wr.cell? ⟨b1, f1 + k * 6 + 5, none⟩ = some (.int .i64 a[k].n) := (hbel.cell (p := ⟨b1, f1 + k * 6 + 5, none⟩) hb1).trans (hc1 5 _ rfl)
    have d0 : wr.cell? ⟨b2, f2 + k * 6, none⟩ = some (.int .i64 b[k].t) := (hbel.cell (p := ⟨b2, f2 + k * 6, none⟩) hb2).trans (hc2 0 _ rfl)
    have d1 : wr.cell? ⟨b2, f2 + k * 6 + 1, none⟩ = some (.int .i64 b[k].r) := (hbel.cell (p := ⟨b2, f2 + k * 6 + 1, none⟩) hb2).trans (hc2 1 _ rfl)
    have d2 : wr.cell? ⟨b2, f2 + k * 6 + 2, none⟩ = some (.int .i64 b[k].k) := (hbel.cell (p := ⟨b2, f2 + k * 6 + 2, none⟩) hb2).trans (hc2 2 _ rfl)
    have d3 : wr.cell? ⟨b2, f2 + k * 6 + 3, none⟩ = some (.string b[k].key) := (hbel.cell (p := ⟨b2, f2 + k * 6 + 3, none⟩) hb2).trans (hc2 3 _ rfl)
    have d4 : wr.cell? ⟨b2, f2 + k * 6 + 4, none⟩ = some (.string b[k].val) := (hbel.cell (p := ⟨b2, f2 + k * 6 + 4, none⟩) hb2).trans (hc2 4 _ rfl)
    have d5 : wr.cell? ⟨b2, f2 + k * 6 + 5, none⟩ = some (.int .i64 b[k].n) := (hbel.cell (p := ⟨b2, f2 + k * 6 + 5, none⟩) hb2).trans (hc2 5 _ rfl)
    clear hc1 hc2
    by_cases hxy : a[k] = b[k]
    ·have hnx : Hid (a.drop (k + 1) = b.drop (k + 1) ↔ a = b) := Lib.hid ((eqw_drop hlt hlt2 hxy).symm.trans heq)
     rw [hxy] at c0 c1 c2 c3 c4 c5
     replace hxy := Lib.hid hxy
     clear heq
     generalize b[k] = y at *
     have e0 : (y.t == y.t) = true := by simp
     have e1 : (y.r == y.r) = true := by simp
     have e2 : (y.k == y.k) = true := by simp
     have e3 : (y.key.toList == y.key.toList) = true := by simp
     have e4 : (y.val.toList == y.val.toList) = true := by simp
     have e5 : (y.n == y.n) = true := by simp
     go_wp2
     go_quiet (fail)
     go_wp2
     go_roundw
     case rel => exact ⟨k + 1, by omega, by go_num, hnx.out, by exact blw⟩
     case measure => simp [intOf]; omega
    ·have hfin : Hid (decide (a = b) = false) := Lib.hid (decide_eq_false (fun h => new_drop hlt hlt2 hxy (heq.2 h)))
     have hrt : ¬ (a[k].t = b[k].t ∧ a[k].r = b[k].r ∧ a[k].k = b[k].k ∧ a[k].key = b[k].key ∧ a[k].val = b[k].val ∧ a[k].n = b[k].n) := fun h => hxy (wrb_ext h)
     clear heq hxy
     generalize a[k] = x at *
     generalize b[k] = y at *
     by_cases g0 : x.t = y.t
     ·skip
      by_cases g1 : x.r = y.r
      ·skip
       by_cases g2 : x.k = y.k
       ·skip
        by_cases g3 : x.key = y.key
        ·skip
         by_cases g4 : x.val = y.val
         ·skip
          by_cases g5 : x.n = y.n
          ·skip
           exact absurd ⟨g0, g1, g2, g3, g4, g5⟩ hrt
          ·skip
           rw [g0] at c0
           rw [g1] at c1
           rw [g2] at c2
           rw [g3] at c3
           rw [g4] at c4
           have e0 : (y.t == y.t) = true := by simp
           have e1 : (y.r == y.r) = true := by simp
           have e2 : (y.k == y.k) = true := by simp
           have e3 : (y.key.toList == y.key.toList) = true := by simp
           have e4 : (y.val.toList == y.val.toList) = true := by simp
           have hne : (x.n == y.n) = false := by simp; exact g5
           clear hrt
           replace g0 := Lib.hid g0
           replace g1 := Lib.hid g1
           replace g2 := Lib.hid g2
           replace g3 := Lib.hid g3
           replace g4 := Lib.hid g4
           replace g5 := Lib.hid g5
           go_wp2
           go_quiet (fail)
           go_wp2
           go_ret
           exact ⟨ret_bool hfin.out.symm, by exact blw⟩
         ·skip
          rw [g0] at c0
          rw [g1] at c1
          rw [g2] at c2
          rw [g3] at c3
          have e0 : (y.t == y.t) = true := by simp
          have e1 : (y.r == y.r) = true := by simp
          have e2 : (y.k == y.k) = true := by simp
          have e3 : (y.key.toList == y.key.toList) = true := by simp
          have hne := ba_ne g4
          clear hrt
          replace g0 := Lib.hid g0
          replace g1 := Lib.hid g1
          replace g2 := Lib.hid g2
          replace g3 := Lib.hid g3
          replace g4 := Lib.hid g4
          go_wp2
          go_quiet (fail)
          go_wp2
          go_ret
          exact ⟨ret_bool hfin.out.symm, by exact blw⟩
        ·skip
         rw [g0] at c0
         rw [g1] at c1
         rw [g2] at c2
         have e0 : (y.t == y.t) = true := by simp
         have e1 : (y.r == y.r) = true := by simp
         have e2 : (y.k == y.k) = true := by simp
         have hne := ba_ne g3
         clear hrt
         replace g0 := Lib.hid g0
         replace g1 := Lib.hid g1
         replace g2 := Lib.hid g2
         replace g3 := Lib.hid g3
         go_wp2
         go_quiet (fail)
         go_wp2
         go_ret
         exact ⟨ret_bool hfin.out.symm, by exact blw⟩
       ·skip
        rw [g0] at c0
        rw [g1] at c1
        have e0 : (y.t == y.t) = true := by simp
        have e1 : (y.r == y.r) = true := by simp
        have hne : (x.k == y.k) = false := by simp; exact g2
        clear hrt
        replace g0 := Lib.hid g0
        replace g1 := Lib.hid g1
        replace g2 := Lib.hid g2
        go_wp2
        go_quiet (fail)
        go_wp2
        go_ret
        exact ⟨ret_bool hfin.out.symm, by exact blw⟩
      ·skip
       rw [g0] at c0
       have e0 : (y.t == y.t) = true := by simp
       have hne : (x.r == y.r) = false := by simp; exact g1
       clear hrt
       replace g0 := Lib.hid g0
       replace g1 := Lib.hid g1
       go_wp2
       go_quiet (fail)
       go_wp2
       go_ret
       exact ⟨ret_bool hfin.out.symm, by exact blw⟩
     ·skip
      have hne : (x.t == y.t) = false := by simp; exact g0
      clear hrt
      replace g0 := Lib.hid g0
      go_wp2
      go_quiet (fail)
      go_wp2
      go_ret
      exact ⟨ret_bool hfin.out.symm, by exact blw⟩
   ·have hfin : Hid (decide (a = b) = true) := Lib.hid (decide_eq_true (heq.1 (by rw [List.drop_of_length_le (by omega), List.drop_of_length_le (by omega)])))
    clear heq
    go_wp2
    go_ret
    exact ⟨ret_bool hfin.out.symm, by exact blw⟩
 ·have hne : Hid (decide (a = b) = false) := Lib.hid (decide_eq_false (fun h => hl (by rw [h])))
  have hle : ((a.length : Int) == (b.length : Int)) = false := by simp; omega
  have hle2 : ((a.length : Int) != (b.length : Int)) = true := by simp; omega
  go_enter Tryz.func17, Tryz.ntmps17
  go_wp2
  go_ret
  exact ⟨ret_bool hne.out.symm, by exact blw⟩
end Go.Proofs.YtognjohloobliaaGreatDoor
