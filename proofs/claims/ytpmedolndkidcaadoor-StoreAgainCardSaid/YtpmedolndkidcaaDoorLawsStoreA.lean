/- The walk of the law StoreAgain. -/
import Derived.Test.YtpmedolndkidcaaDoorLawsStoreP
import Derived.Test.YtpmedolndkidcaaDoorWPick
import Derived.Test.YtpmedolndkidcaaDoorWCloneWr
import Derived.Test.YtpmedolndkidcaaDoorWInsW
namespace Go.Proofs.YtpmedolndkidcaaDoor
open Go.RowKit
set_option linter.unusedVariables false
set_option linter.unusedSimpArgs false
theorem wrs_take (l : List WrB) (k : Nat) : (l.flatMap wrBCells).take (k * 6) = (l.take k).flatMap wrBCells := by
  induction l generalizing k with
  | nil => simp
  | cons x l ih =>
    cases k with
    | zero => simp
    | succ k => rw [List.flatMap_cons, Nat.add_mul, Nat.one_mul, Nat.add_comm, List.take_append, wrBCells_len, List.take_of_length_le (by rw [wrBCells_len]; omega), Nat.add_sub_cancel_left, ih, List.take_succ_cons, List.flatMap_cons]
theorem wrs_drop (l : List WrB) (k : Nat) : (l.flatMap wrBCells).drop (k * 6) = (l.drop k).flatMap wrBCells := by
  induction l generalizing k with
  | nil => simp
  | cons x l ih =>
    cases k with
    | zero => simp
    | succ k => rw [List.flatMap_cons, Nat.add_mul, Nat.one_mul, Nat.add_comm, List.drop_append, wrBCells_len, List.drop_of_length_le (by rw [wrBCells_len]; omega), Nat.add_sub_cancel_left, ih, List.drop_succ_cons, List.nil_append]
theorem wrs_one (l : List WrB) : ∀ u ∈ l.flatMap wrBCells, u.oneCell' = true := fun u hu => by
  obtain ⟨x, -, hx⟩ := List.mem_flatMap.1 hu
  simp only [wrBCells, List.mem_cons, List.not_mem_nil, or_false] at hx
  rcases hx with rfl | rfl | rfl | rfl | rfl | rfl <;> rfl
def LC (w0 : World) (g o : Nat) (x : WrB) (W : World) : Prop := Below w0.heap.size w0 W ∧ W.cell? ⟨g, o, none⟩ = some (.int .i64 x.t) ∧ W.cell? ⟨g, o + 1, none⟩ = some (.int .i64 x.r) ∧ W.cell? ⟨g, o + 2, none⟩ = some (.int .i64 x.k) ∧ W.cell? ⟨g, o + 3, none⟩ = some (.string x.key) ∧ W.cell? ⟨g, o + 4, none⟩ = some (.string x.val) ∧ W.cell? ⟨g, o + 5, none⟩ = some (.int .i64 x.n)
theorem LC.below {w0 W W' : World} {g o : Nat} {x : WrB} (h : LC w0 g o x W) (hb : Below W.heap.size W W') : LC w0 g o x W' :=
  ⟨bch h.1 hb, cell_below hb h.2.1, cell_below hb h.2.2.1, cell_below hb h.2.2.2.1, cell_below hb h.2.2.2.2.1, cell_below hb h.2.2.2.2.2.1, cell_below hb h.2.2.2.2.2.2⟩
theorem LC.grown {w0 W W' : World} {g o : Nat} {x : WrB} (h : LC w0 g o x W) (hg : g < w0.heap.size) {r : Option Nat} (hgr : W.grownBy W' r) (hr : ∀ j, r = some j → w0.heap.size ≤ j) : LC w0 g o x W' := by
  have hc : ∀ i v, W.cell? ⟨g, i, none⟩ = some v → W'.cell? ⟨g, i, none⟩ = some v := fun i v hv =>
    (World.cell?_of_block (w := W) (hgr.block g (Nat.lt_of_lt_of_le hg h.1.size) (fun e => by have := hr _ e.symm; omega))).trans hv
  exact ⟨h.1.grown hgr h.1.size hr, hc _ _ h.2.1, hc _ _ h.2.2.1, hc _ _ h.2.2.2.1, hc _ _ h.2.2.2.2.1, hc _ _ h.2.2.2.2.2.1, hc _ _ h.2.2.2.2.2.2⟩
theorem again_right {A : List WrB} (h : ∀ x ∈ A, Right_ x) (i : Nat) (hi : i < A.length) : ∀ x ∈ A.take i ++ [A[i]] ++ A.drop i, Right_ x := fun x hx => by
  simp only [List.mem_append, List.mem_singleton] at hx
  rcases hx with (hx | hx) | hx
  · exact h x (List.mem_of_mem_take hx)
  · rw [hx]; exact h _ (List.getElem_mem hi)
  · exact h x (List.mem_of_mem_drop hx)
theorem again_at {A : List WrB} (i : Nat) (hi : i < A.length) (hk : A[i].k = 1 ∨ A[i].k = 2) (s : ByteArray) : St.at_ ((A.take i ++ [A[i]] ++ A.drop i).map WrB.sw) s = St.at_ (A.map WrB.sw) s := by
  have := St.at_again (A.map WrB.sw) i (by rw [List.length_map]; exact hi) (by rw [List.getElem_map]; exact hk) s
  rw [List.getElem_map] at this
  rw [← this, List.map_append, List.map_append, List.map_take, List.map_drop, List.map_singleton]
set_option maxHeartbeats 20000000 in
set_option maxRecDepth 20000 in
theorem StoreAgain_walk (v : Value) (l : List WrB) (at_ : Int) (w : World) (hl : ListIs wrBCells 6 w v l) (q : ∀ x ∈ l, WrBOk x) (z : l.length ≤ 140737488351232) (q1 : (Lit.int .i64 at_).wf = true) (hL : Laid w) :
    Calls Tryd.prog 6 #[v, .int .i64 at_] w fun e w' => e = .returned (.bool true) ∧ Below w.heap.size w w' := by
  have hSt := Lib.hid keep_stored
  have hRa := Lib.hid (fun W (hW : Below w.heap.size w W) => keep_right v l W (ListIs.below hl (by omega) hW) z)
  clear hl q hL q1
  go_enter Tryd.func6, Tryd.ntmps6
  go_wp2_with fail
  refine (hSt.out w).mono ?_
  rintro _ w1 ⟨rfl, hb1⟩
  go_wp2_with fail
  refine (hRa.out _ hb1).mono ?_
  rintro _ w2 ⟨ua, A, rfl, hA, hAr0, hA60, hb2⟩
  have hbw2 := bch hb1 hb2
  obtain ⟨oa, ca, rfl⟩ := owns_slice_ hA
  have hA2 : WrsIs w2 _ A := ListIs.of_owns hA
  have hAr : ∀ x ∈ A, Right_ x := fun x hx => (hAr0 x hx).1
  clear hA hb1 hb2 hRa hSt hAr0
  by_cases hz : A.length = 0
  · have hz2 : ((A.length : Int) == 0) = true := by rw [hz]; rfl
    replace hz := Lib.hid hz
    replace hAr := Lib.hid hAr
    go_wp2
    go_ret
    exact ⟨rfl, hbw2⟩
  have hz2 : ((A.length : Int) == 0) = false := by simpa using hz
  have hP0 := fun W => keep_pick at_ A.length A.length W rfl (by omega) (by omega)
  have hi := pickN_lt at_ A.length (by omega)
  generalize pickN at_ A.length = i at *
  replace hP0 := Lib.hid hP0
  replace hz := Lib.hid hz
  replace hAr := Lib.hid hAr
  go_wp2_with fail
  refine (hP0.out _).mono ?_
  rintro _ w2' ⟨rfl, rfl⟩
  obtain ⟨o1, c1, e1, -, hcA⟩ := ListIs.at hA2 wrBCells_len
  injection e1 with e1 _ e2
  subst e1; subst e2
  obtain ⟨b1, f1, rfl, hb1, hc1⟩ := hcA i hi
  have hb1 := hb1 (by omega)
  have hOf := Lib.hid (fun W (hW : Below w2.heap.size w2 W) => store_of _ A W (hA2.below hW) hAr.out (by omega))
  have hCl := Lib.hid (fun W (hW : Below w2.heap.size w2 W) => clone_wrs _ A W (hA2.below hW) (by omega))
  have hk3 : A[i].k = 1 ∨ A[i].k = 2 ∨ (A[i].k ≠ 1 ∧ A[i].k ≠ 2) := by omega
  have hrt := Lib.hid (again_right hAr.out i hi)
  have hat := Lib.hid (again_at (A := A) i hi)
  obtain ⟨x, hx⟩ : ∃ x, x = A[i] := ⟨_, rfl⟩
  rw [← hx] at hc1 hk3
  have d0 : w2.cell? ⟨b1, f1 + i * 6, none⟩ = _ := hc1 0 _ rfl
  have d1 := hc1 1 _ rfl
  have d2 := hc1 2 _ rfl
  have d3 := hc1 3 _ rfl
  have d4 := hc1 4 _ rfl
  have d5 := hc1 5 _ rfl
  replace hx := Lib.hid hx
  have hi2 : (i : Int) < (A.length : Int) := by omega
  clear hc1 hcA hA2 hP0
  have hkinds : (x.k = 1 ∨ x.k = 2) ∨ (x.k ≠ 1 ∧ x.k ≠ 2) := by omega
  clear hk3
  rcases hkinds with hk | ⟨hk1, hk2⟩
  · have hkk := Lib.hid hk
    obtain ⟨xt, xr, xk, xkey, xval, xn⟩ := x
    (try simp only at hk d0 d1 d2 d3 d4 d5)
    rcases hk with rfl | rfl
    · go_wp2_with fail
      refine (hOf.out _ (Below.refl _ _)).mono ?_
      rintro _ w5 ⟨v5, L5, rfl, hO5, hS5, hI5, hb5⟩
      have hA5 := bch hbw2 hb5
      have hS0 := (show LC w5 b1 (f1 + i * 6) ⟨xt, xr, 1, xkey, xval, xn⟩ w5.drew from ⟨bdr (Below.refl _ _), cell_below (bdr hb5) d0, cell_below (bdr hb5) d1, cell_below (bdr hb5) d2, cell_below (bdr hb5) d3, cell_below (bdr hb5) d4, cell_below (bdr hb5) d5⟩)
      have hb1w5 : b1 < w5.heap.size := Nat.lt_of_lt_of_le hb1 hb5.size
      have hCl5 := Lib.hid (fun W (hW : Below w5.heap.size w5 W) => hCl.out W (bch hb5 hW))
      replace hO5 := Lib.hid hO5
      replace hS5 := Lib.hid hS5
      replace hI5 := Lib.hid hI5
      clear d0 d1 d2 d3 d4 d5
      go_wp2_with fail
      -- REGION 10
      (refine wp_region_held_drew (S := (LC w5 b1 (f1 + i * 6) ⟨xt, xr, 1, xkey, xval, xn⟩)) (by kernel_rfl) ?_ (fun hHeld => ?_); ((try dsimp only); exact hS0))
      clear hS0
      (refine held_take (i := 0) (v := ?_) rfl (by kernel_rfl) (by kernel_rfl) (by kernel_rfl) (fun _ _ _ h => h) (by kernel_rfl) (by assumption) ?_ ?_; rotate_left; (focus (intro w hSw; (try unfold SC at hSw); (try unfold FC at hSw); (try unfold LC at hSw); (try unfold TC at hSw); (try unfold MC at hSw); (try unfold BC at hSw); (try unfold RC at hSw); (try unfold KC at hSw); (try unfold KD at hSw); (try dsimp only at hSw); go_simp; (try with_reducible rfl); done)); (simp only [Act.put, List.setIfInBounds_toArray, List.set_cons_zero, List.set_cons_succ]); refine held_take (i := 2) (v := ?_) rfl (by kernel_rfl) (by kernel_rfl) (by kernel_rfl) (fun _ _ _ h => h) (by kernel_rfl) (by assumption) ?_ ?_; rotate_left; (focus (intro w hSw; (try unfold SC at hSw); (try unfold FC at hSw); (try unfold LC at hSw); (try unfold TC at hSw); (try unfold MC at hSw); (try unfold BC at hSw); (try unfold RC at hSw); (try unfold KC at hSw); (try unfold KD at hSw); (try dsimp only at hSw); go_simp; (try with_reducible rfl); done)); (simp only [Act.put, List.setIfInBounds_toArray, List.set_cons_zero, List.set_cons_succ]); refine held_take (i := 3) (v := ?_) rfl (by kernel_rfl) (by kernel_rfl) (by kernel_rfl) (fun _ _ _ h => h) (by kernel_rfl) (by assumption) ?_ ?_; rotate_left; (focus (intro w hSw; (try unfold SC at hSw); (try unfold FC at hSw); (try unfold LC at hSw); (try unfold TC at hSw); (try unfold MC at hSw); (try unfold BC at hSw); (try unfold RC at hSw); (try unfold KC at hSw); (try unfold KD at hSw); (try dsimp only at hSw); go_simp; (try with_reducible rfl); done)); (simp only [Act.put, List.setIfInBounds_toArray, List.set_cons_zero, List.set_cons_succ]); refine held_take (i := 4) (v := ?_) rfl (by kernel_rfl) (by kernel_rfl) (by kernel_rfl) (fun _ _ _ h => h) (by kernel_rfl) (by assumption) ?_ ?_; rotate_left; (focus (intro w hSw; (try unfold SC at hSw); (try unfold FC at hSw); (try unfold LC at hSw); (try unfold TC at hSw); (try unfold MC at hSw); (try unfold BC at hSw); (try unfold RC at hSw); (try unfold KC at hSw); (try unfold KD at hSw); (try dsimp only at hSw); go_simp; (try with_reducible rfl); done)); (simp only [Act.put, List.setIfInBounds_toArray, List.set_cons_zero, List.set_cons_succ]); refine held_take (i := 5) (v := ?_) rfl (by kernel_rfl) (by kernel_rfl) (by kernel_rfl) (fun _ _ _ h => h) (by kernel_rfl) (by assumption) ?_ ?_; rotate_left; (focus (intro w hSw; (try unfold SC at hSw); (try unfold FC at hSw); (try unfold LC at hSw); (try unfold TC at hSw); (try unfold MC at hSw); (try unfold BC at hSw); (try unfold RC at hSw); (try unfold KC at hSw); (try unfold KD at hSw); (try dsimp only at hSw); go_simp; (try with_reducible rfl); done)); (simp only [Act.put, List.setIfInBounds_toArray, List.set_cons_zero, List.set_cons_succ]); refine held_take (i := 6) (v := ?_) rfl (by kernel_rfl) (by kernel_rfl) (by kernel_rfl) (fun _ _ _ h => h) (by kernel_rfl) (by assumption) ?_ ?_; rotate_left; (focus (intro w hSw; (try unfold SC at hSw); (try unfold FC at hSw); (try unfold LC at hSw); (try unfold TC at hSw); (try unfold MC at hSw); (try unfold BC at hSw); (try unfold RC at hSw); (try unfold KC at hSw); (try unfold KD at hSw); (try dsimp only at hSw); go_simp; (try with_reducible rfl); done)); (simp only [Act.put, List.setIfInBounds_toArray, List.set_cons_zero, List.set_cons_succ]))
      refine wpAnyH_ready (P := Tryd.prog) (md := .any) (rs := [1, 7]) (by kernel_rfl) (by simp) ?_
      refine held_cons rfl (by kernel_rfl) (fun K hK => ?_) (held_cons rfl (by kernel_rfl) (fun K hK => ?_) AllReadyH.nil)
      · ((go_simp; refine (hCl5.out _ (bdr (Below.refl _ _))).mono ?_; rintro _ wn ⟨⟨v1, rfl, hv1⟩, hbn⟩); refine hK.out _ _ ?_ (fun hHeld => ?_); ((try dsimp only); exact LC.below hHeld hbn); clear hK K; (try clear hHeld0); (try rename_i hHeld0))
        have hgv : (wn.alloc (Obj.cells #[.int .i64 xt, .int .i64 xr, .int .i64 1, .string xkey, .string xval, .int .i64 xn] 36)).heap[wn.heap.size]? = some (.cells #[.int .i64 xt, .int .i64 xr, .int .i64 1, .string xkey, .string xval, .int .i64 xn] 36 (0, 0)) := heap_alloc_new wn _
        have hv2 := hv1.alloc (Obj.cells #[.int .i64 xt, .int .i64 xr, .int .i64 1, .string xkey, .string xval, .int .i64 xn] 36)
        have hne := owns_lt hv1 wn.heap.size (Nat.le_refl _)
        (refine wpAnyH_ready (P := Tryd.prog) (md := .any) (rs := [7]) (by kernel_rfl) (by simp) ?_; refine held_cons rfl (by kernel_rfl) (fun K hK => ?_) AllReadyH.nil; (go_simp; refine hK.out _ _ ?_ (fun hHeld => ?_); ((try dsimp only); exact LC.below hHeld (bal (Below.refl _ _) _)); clear hK K; (try clear hHeld0); (try rename_i hHeld0)))
        have hbI : Below w5.heap.size w5 (wn.alloc (Obj.cells #[.int .i64 xt, .int .i64 xr, .int .i64 1, .string xkey, .string xval, .int .i64 xn] 36)) := bal (bch (bdr (Below.refl _ _)) hbn) _
        have hbase : w5.drew.heap.size ≤ (wn.alloc (Obj.cells #[.int .i64 xt, .int .i64 xr, .int .i64 1, .string xkey, .string xval, .int .i64 xn] 36)).heap.size := hbI.size
        have hIn := Lib.hid (insert_wr v1 A.length i (A.flatMap wrBCells) ([.int .i64 xt, .int .i64 xr, .int .i64 1, .string xkey, .string xval, .int .i64 xn] : List Value) wn.heap.size 1 w5.drew.heap.size _ hv2 (by omega) (by omega) rfl (wrs_one A) (by intro u hu; simp only [List.mem_cons, List.not_mem_nil, or_false] at hu; rcases hu with rfl | rfl | rfl | rfl | rfl | rfl <;> rfl) hgv hne hbase)
        have hlo : ∀ j, v1.ownBlock = some j → w5.heap.size ≤ j := fun j hj => (hv1.lt j hj).1
        clear hgv hne hv1 hv2
        (refine wpAnyH_ready (P := Tryd.prog) (md := .any) (rs := [8]) (by kernel_rfl) (by simp) ?_; refine held_cons rfl (by kernel_rfl) (fun K hK => ?_) AllReadyH.nil; ((go_simp; refine hIn.out.mono ?_; rintro _ wm ⟨v3, rfl, hv3, hgr, hbk, hnil⟩); refine hK.out _ _ ?_ (fun hHeld => ?_); ((try dsimp only); exact LC.grown hHeld hb1w5 hgr hlo); clear hK K; (try clear hHeld0); (try rename_i hHeld0)))
        have eL : (A.flatMap wrBCells).take (i * 6) ++ ([.int .i64 xt, .int .i64 xr, .int .i64 1, .string xkey, .string xval, .int .i64 xn] : List Value) ++ (A.flatMap wrBCells).drop (i * 6) = (A.take i ++ [A[i]] ++ A.drop i).flatMap wrBCells := by rw [wrs_take, wrs_drop, List.flatMap_append, List.flatMap_append, List.flatMap_singleton, ← hx.out]; rfl
        have e1 : A.length + 1 = (A.take i ++ [A[i]] ++ A.drop i).length := by simp only [List.length_append, List.length_take, List.length_drop, List.length_singleton]; omega
        have hv4 := hv3
        rw [eL, e1] at hv4
        clear eL e1
        have hlen : (A.take i ++ [A[i]] ++ A.drop i).length ≤ 1000 := by simp only [List.length_append, List.length_take, List.length_drop, List.length_singleton]; omega
        have hOfX := Lib.hid (store_of v3 _ wm (ListIs.of_owns hv4) hrt.out hlen)
        clear hv3 hgr hbk hnil hv4 hlen hIn
        (refine wpAnyH_ready (P := Tryd.prog) (md := .any) (rs := [9]) (by kernel_rfl) (by simp) ?_; refine held_cons rfl (by kernel_rfl) (fun K hK => ?_) AllReadyH.nil; ((go_simp; refine hOfX.out.mono ?_; rintro _ wk ⟨v4, L4, rfl, hO4, hS4, hI4, hb4⟩); refine hK.out _ _ ?_ (fun hHeld => ?_); ((try dsimp only); exact LC.below hHeld hb4); clear hK K; (try clear hHeld0); (try rename_i hHeld0)))
        (refine held_take (i := 10) (v := ?_) rfl (by kernel_rfl) (by kernel_rfl) (by kernel_rfl) (fun _ _ _ h => h) (by kernel_rfl) (by assumption) ?_ ?_; rotate_left; (focus (intro w hSw; (try unfold SC at hSw); (try unfold FC at hSw); (try unfold LC at hSw); (try unfold TC at hSw); (try unfold MC at hSw); (try unfold BC at hSw); (try unfold RC at hSw); (try unfold KC at hSw); (try unfold KD at hSw); (try dsimp only at hSw); go_simp; (try with_reducible rfl); done)); (simp only [Act.put, List.setIfInBounds_toArray, List.set_cons_zero, List.set_cons_succ]); refine held_take (i := 11) (v := ?_) rfl (by kernel_rfl) (by kernel_rfl) (by kernel_rfl) (fun _ _ _ h => h) (by kernel_rfl) (by assumption) ?_ ?_; rotate_left; (focus (intro w hSw; (try unfold SC at hSw); (try unfold FC at hSw); (try unfold LC at hSw); (try unfold TC at hSw); (try unfold MC at hSw); (try unfold BC at hSw); (try unfold RC at hSw); (try unfold KC at hSw); (try unfold KD at hSw); (try dsimp only at hSw); go_simp; (try with_reducible rfl); done)); (simp only [Act.put, List.setIfInBounds_toArray, List.set_cons_zero, List.set_cons_succ]); refine held_take (i := 12) (v := ?_) rfl (by kernel_rfl) (by kernel_rfl) (by kernel_rfl) (fun _ _ _ h => h) (by kernel_rfl) (by assumption) ?_ ?_; rotate_left; (focus (intro w hSw; (try unfold SC at hSw); (try unfold FC at hSw); (try unfold LC at hSw); (try unfold TC at hSw); (try unfold MC at hSw); (try unfold BC at hSw); (try unfold RC at hSw); (try unfold KC at hSw); (try unfold KD at hSw); (try dsimp only at hSw); go_simp; (try with_reducible rfl); done)); (simp only [Act.put, List.setIfInBounds_toArray, List.set_cons_zero, List.set_cons_succ]); refine held_take (i := 13) (v := ?_) rfl (by kernel_rfl) (by kernel_rfl) (by kernel_rfl) (fun _ _ _ h => h) (by kernel_rfl) (by assumption) ?_ ?_; rotate_left; (focus (intro w hSw; (try unfold SC at hSw); (try unfold FC at hSw); (try unfold LC at hSw); (try unfold TC at hSw); (try unfold MC at hSw); (try unfold BC at hSw); (try unfold RC at hSw); (try unfold KC at hSw); (try unfold KD at hSw); (try dsimp only at hSw); go_simp; (try with_reducible rfl); done)); (simp only [Act.put, List.setIfInBounds_toArray, List.set_cons_zero, List.set_cons_succ]); refine held_take (i := 14) (v := ?_) rfl (by kernel_rfl) (by kernel_rfl) (by kernel_rfl) (fun _ _ _ h => h) (by kernel_rfl) (by assumption) ?_ ?_; rotate_left; (focus (intro w hSw; (try unfold SC at hSw); (try unfold FC at hSw); (try unfold LC at hSw); (try unfold TC at hSw); (try unfold MC at hSw); (try unfold BC at hSw); (try unfold RC at hSw); (try unfold KC at hSw); (try unfold KD at hSw); (try dsimp only at hSw); go_simp; (try with_reducible rfl); done)); (simp only [Act.put, List.setIfInBounds_toArray, List.set_cons_zero, List.set_cons_succ]))
        (refine wpAnyH_done (by kernel_rfl) ?_ _)
        have hI4' := hI4.congr (hat.out (by rw [← hx.out]; first | exact .inl rfl | exact .inr rfl))
        have hb5k := hHeld.1
        have hn := celB_le hAr.out (by omega) hI5.out
        have hsc := Lib.hid (same_cells v5 v4 L5 L4 wk ((celL_of hO5.out hS5.out).below hb5k) (celL_of hO4 hS4) (hI5.out.unique hI4') hn.1 hn.2)
        clear hO4 hS4 hI4 hI4' hb4 hHeld hn hOfX
        go_wp2_with fail
        refine hsc.out.mono ?_
        rintro _ w11 ⟨rfl, hb11⟩
        go_wp2
        go_ret
        exact ⟨rfl, bch hA5 (bch hb5k hb11)⟩
      · (go_simp; refine hK.out _ _ ?_ (fun hHeld => ?_); ((try dsimp only); exact LC.below hHeld (bal (Below.refl _ _) _)); clear hK K; (try clear hHeld0); (try rename_i hHeld0))
        have hgv : (w5.drew.alloc (Obj.cells #[.int .i64 xt, .int .i64 xr, .int .i64 1, .string xkey, .string xval, .int .i64 xn] 36)).heap[w5.heap.size]? = some (.cells #[.int .i64 xt, .int .i64 xr, .int .i64 1, .string xkey, .string xval, .int .i64 xn] 36 (0, 0)) := heap_alloc_new w5.drew _
        (refine wpAnyH_ready (P := Tryd.prog) (md := .any) (rs := [1]) (by kernel_rfl) (by simp) ?_; refine held_cons rfl (by kernel_rfl) (fun K hK => ?_) AllReadyH.nil; ((go_simp; refine (hCl5.out _ (bal (bdr (Below.refl _ _)) _)).mono ?_; rintro _ wn ⟨⟨v1, rfl, hv1⟩, hbn⟩); refine hK.out _ _ ?_ (fun hHeld => ?_); ((try dsimp only); exact LC.below hHeld hbn); clear hK K; (try clear hHeld0); (try rename_i hHeld0)))
        have hgs : w5.heap.size < (w5.drew.alloc (Obj.cells #[.int .i64 xt, .int .i64 xr, .int .i64 1, .string xkey, .string xval, .int .i64 xn] 36)).heap.size := (row_alloc w5.drew _ _ : Row (w5.drew.alloc (Obj.cells #[.int .i64 xt, .int .i64 xr, .int .i64 1, .string xkey, .string xval, .int .i64 xn] 36)) w5.drew.heap.size _ _).lt
        have hgv2 := (hbn.block w5.heap.size hgs).trans hgv
        have hbI : Below w5.heap.size w5 wn := bch (bal (bdr (Below.refl _ _)) _) hbn
        have hbase : (w5.drew.alloc (Obj.cells #[.int .i64 xt, .int .i64 xr, .int .i64 1, .string xkey, .string xval, .int .i64 xn] 36)).heap.size ≤ wn.heap.size := hbn.size
        have hne : v1.ownBlock ≠ some w5.heap.size := fun e => by have := (hv1.lt _ e).1; omega
        have hIn := Lib.hid (insert_wr v1 A.length i (A.flatMap wrBCells) ([.int .i64 xt, .int .i64 xr, .int .i64 1, .string xkey, .string xval, .int .i64 xn] : List Value) w5.heap.size 1 (w5.drew.alloc (Obj.cells #[.int .i64 xt, .int .i64 xr, .int .i64 1, .string xkey, .string xval, .int .i64 xn] 36)).heap.size _ hv1 (by omega) (by omega) rfl (wrs_one A) (by intro u hu; simp only [List.mem_cons, List.not_mem_nil, or_false] at hu; rcases hu with rfl | rfl | rfl | rfl | rfl | rfl <;> rfl) hgv2 hne hbase)
        have hlo : ∀ j, v1.ownBlock = some j → w5.heap.size ≤ j := fun j hj => by have := (hv1.lt j hj).1; omega
        clear hgv hgv2 hne hgs hv1
        (refine wpAnyH_ready (P := Tryd.prog) (md := .any) (rs := [8]) (by kernel_rfl) (by simp) ?_; refine held_cons rfl (by kernel_rfl) (fun K hK => ?_) AllReadyH.nil; ((go_simp; refine hIn.out.mono ?_; rintro _ wm ⟨v3, rfl, hv3, hgr, hbk, hnil⟩); refine hK.out _ _ ?_ (fun hHeld => ?_); ((try dsimp only); exact LC.grown hHeld hb1w5 hgr hlo); clear hK K; (try clear hHeld0); (try rename_i hHeld0)))
        have eL : (A.flatMap wrBCells).take (i * 6) ++ ([.int .i64 xt, .int .i64 xr, .int .i64 1, .string xkey, .string xval, .int .i64 xn] : List Value) ++ (A.flatMap wrBCells).drop (i * 6) = (A.take i ++ [A[i]] ++ A.drop i).flatMap wrBCells := by rw [wrs_take, wrs_drop, List.flatMap_append, List.flatMap_append, List.flatMap_singleton, ← hx.out]; rfl
        have e1 : A.length + 1 = (A.take i ++ [A[i]] ++ A.drop i).length := by simp only [List.length_append, List.length_take, List.length_drop, List.length_singleton]; omega
        have hv4 := hv3
        rw [eL, e1] at hv4
        clear eL e1
        have hlen : (A.take i ++ [A[i]] ++ A.drop i).length ≤ 1000 := by simp only [List.length_append, List.length_take, List.length_drop, List.length_singleton]; omega
        have hOfX := Lib.hid (store_of v3 _ wm (ListIs.of_owns hv4) hrt.out hlen)
        clear hv3 hgr hbk hnil hv4 hlen hIn
        (refine wpAnyH_ready (P := Tryd.prog) (md := .any) (rs := [9]) (by kernel_rfl) (by simp) ?_; refine held_cons rfl (by kernel_rfl) (fun K hK => ?_) AllReadyH.nil; ((go_simp; refine hOfX.out.mono ?_; rintro _ wk ⟨v4, L4, rfl, hO4, hS4, hI4, hb4⟩); refine hK.out _ _ ?_ (fun hHeld => ?_); ((try dsimp only); exact LC.below hHeld hb4); clear hK K; (try clear hHeld0); (try rename_i hHeld0)))
        (refine held_take (i := 10) (v := ?_) rfl (by kernel_rfl) (by kernel_rfl) (by kernel_rfl) (fun _ _ _ h => h) (by kernel_rfl) (by assumption) ?_ ?_; rotate_left; (focus (intro w hSw; (try unfold SC at hSw); (try unfold FC at hSw); (try unfold LC at hSw); (try unfold TC at hSw); (try unfold MC at hSw); (try unfold BC at hSw); (try unfold RC at hSw); (try unfold KC at hSw); (try unfold KD at hSw); (try dsimp only at hSw); go_simp; (try with_reducible rfl); done)); (simp only [Act.put, List.setIfInBounds_toArray, List.set_cons_zero, List.set_cons_succ]); refine held_take (i := 11) (v := ?_) rfl (by kernel_rfl) (by kernel_rfl) (by kernel_rfl) (fun _ _ _ h => h) (by kernel_rfl) (by assumption) ?_ ?_; rotate_left; (focus (intro w hSw; (try unfold SC at hSw); (try unfold FC at hSw); (try unfold LC at hSw); (try unfold TC at hSw); (try unfold MC at hSw); (try unfold BC at hSw); (try unfold RC at hSw); (try unfold KC at hSw); (try unfold KD at hSw); (try dsimp only at hSw); go_simp; (try with_reducible rfl); done)); (simp only [Act.put, List.setIfInBounds_toArray, List.set_cons_zero, List.set_cons_succ]); refine held_take (i := 12) (v := ?_) rfl (by kernel_rfl) (by kernel_rfl) (by kernel_rfl) (fun _ _ _ h => h) (by kernel_rfl) (by assumption) ?_ ?_; rotate_left; (focus (intro w hSw; (try unfold SC at hSw); (try unfold FC at hSw); (try unfold LC at hSw); (try unfold TC at hSw); (try unfold MC at hSw); (try unfold BC at hSw); (try unfold RC at hSw); (try unfold KC at hSw); (try unfold KD at hSw); (try dsimp only at hSw); go_simp; (try with_reducible rfl); done)); (simp only [Act.put, List.setIfInBounds_toArray, List.set_cons_zero, List.set_cons_succ]); refine held_take (i := 13) (v := ?_) rfl (by kernel_rfl) (by kernel_rfl) (by kernel_rfl) (fun _ _ _ h => h) (by kernel_rfl) (by assumption) ?_ ?_; rotate_left; (focus (intro w hSw; (try unfold SC at hSw); (try unfold FC at hSw); (try unfold LC at hSw); (try unfold TC at hSw); (try unfold MC at hSw); (try unfold BC at hSw); (try unfold RC at hSw); (try unfold KC at hSw); (try unfold KD at hSw); (try dsimp only at hSw); go_simp; (try with_reducible rfl); done)); (simp only [Act.put, List.setIfInBounds_toArray, List.set_cons_zero, List.set_cons_succ]); refine held_take (i := 14) (v := ?_) rfl (by kernel_rfl) (by kernel_rfl) (by kernel_rfl) (fun _ _ _ h => h) (by kernel_rfl) (by assumption) ?_ ?_; rotate_left; (focus (intro w hSw; (try unfold SC at hSw); (try unfold FC at hSw); (try unfold LC at hSw); (try unfold TC at hSw); (try unfold MC at hSw); (try unfold BC at hSw); (try unfold RC at hSw); (try unfold KC at hSw); (try unfold KD at hSw); (try dsimp only at hSw); go_simp; (try with_reducible rfl); done)); (simp only [Act.put, List.setIfInBounds_toArray, List.set_cons_zero, List.set_cons_succ]))
        (refine wpAnyH_done (by kernel_rfl) ?_ _)
        have hI4' := hI4.congr (hat.out (by rw [← hx.out]; first | exact .inl rfl | exact .inr rfl))
        have hb5k := hHeld.1
        have hn := celB_le hAr.out (by omega) hI5.out
        have hsc := Lib.hid (same_cells v5 v4 L5 L4 wk ((celL_of hO5.out hS5.out).below hb5k) (celL_of hO4 hS4) (hI5.out.unique hI4') hn.1 hn.2)
        clear hO4 hS4 hI4 hI4' hb4 hHeld hn hOfX
        go_wp2_with fail
        refine hsc.out.mono ?_
        rintro _ w11 ⟨rfl, hb11⟩
        go_wp2
        go_ret
        exact ⟨rfl, bch hA5 (bch hb5k hb11)⟩
    · go_wp2_with fail
      refine (hOf.out _ (Below.refl _ _)).mono ?_
      rintro _ w5 ⟨v5, L5, rfl, hO5, hS5, hI5, hb5⟩
      have hA5 := bch hbw2 hb5
      have hS0 := (show LC w5 b1 (f1 + i * 6) ⟨xt, xr, 2, xkey, xval, xn⟩ w5.drew from ⟨bdr (Below.refl _ _), cell_below (bdr hb5) d0, cell_below (bdr hb5) d1, cell_below (bdr hb5) d2, cell_below (bdr hb5) d3, cell_below (bdr hb5) d4, cell_below (bdr hb5) d5⟩)
      have hb1w5 : b1 < w5.heap.size := Nat.lt_of_lt_of_le hb1 hb5.size
      have hCl5 := Lib.hid (fun W (hW : Below w5.heap.size w5 W) => hCl.out W (bch hb5 hW))
      replace hO5 := Lib.hid hO5
      replace hS5 := Lib.hid hS5
      replace hI5 := Lib.hid hI5
      clear d0 d1 d2 d3 d4 d5
      go_wp2_with fail
      -- REGION 10
      (refine wp_region_held_drew (S := (LC w5 b1 (f1 + i * 6) ⟨xt, xr, 2, xkey, xval, xn⟩)) (by kernel_rfl) ?_ (fun hHeld => ?_); ((try dsimp only); exact hS0))
      clear hS0
      (refine held_take (i := 0) (v := ?_) rfl (by kernel_rfl) (by kernel_rfl) (by kernel_rfl) (fun _ _ _ h => h) (by kernel_rfl) (by assumption) ?_ ?_; rotate_left; (focus (intro w hSw; (try unfold SC at hSw); (try unfold FC at hSw); (try unfold LC at hSw); (try unfold TC at hSw); (try unfold MC at hSw); (try unfold BC at hSw); (try unfold RC at hSw); (try unfold KC at hSw); (try unfold KD at hSw); (try dsimp only at hSw); go_simp; (try with_reducible rfl); done)); (simp only [Act.put, List.setIfInBounds_toArray, List.set_cons_zero, List.set_cons_succ]); refine held_take (i := 2) (v := ?_) rfl (by kernel_rfl) (by kernel_rfl) (by kernel_rfl) (fun _ _ _ h => h) (by kernel_rfl) (by assumption) ?_ ?_; rotate_left; (focus (intro w hSw; (try unfold SC at hSw); (try unfold FC at hSw); (try unfold LC at hSw); (try unfold TC at hSw); (try unfold MC at hSw); (try unfold BC at hSw); (try unfold RC at hSw); (try unfold KC at hSw); (try unfold KD at hSw); (try dsimp only at hSw); go_simp; (try with_reducible rfl); done)); (simp only [Act.put, List.setIfInBounds_toArray, List.set_cons_zero, List.set_cons_succ]); refine held_take (i := 3) (v := ?_) rfl (by kernel_rfl) (by kernel_rfl) (by kernel_rfl) (fun _ _ _ h => h) (by kernel_rfl) (by assumption) ?_ ?_; rotate_left; (focus (intro w hSw; (try unfold SC at hSw); (try unfold FC at hSw); (try unfold LC at hSw); (try unfold TC at hSw); (try unfold MC at hSw); (try unfold BC at hSw); (try unfold RC at hSw); (try unfold KC at hSw); (try unfold KD at hSw); (try dsimp only at hSw); go_simp; (try with_reducible rfl); done)); (simp only [Act.put, List.setIfInBounds_toArray, List.set_cons_zero, List.set_cons_succ]); refine held_take (i := 4) (v := ?_) rfl (by kernel_rfl) (by kernel_rfl) (by kernel_rfl) (fun _ _ _ h => h) (by kernel_rfl) (by assumption) ?_ ?_; rotate_left; (focus (intro w hSw; (try unfold SC at hSw); (try unfold FC at hSw); (try unfold LC at hSw); (try unfold TC at hSw); (try unfold MC at hSw); (try unfold BC at hSw); (try unfold RC at hSw); (try unfold KC at hSw); (try unfold KD at hSw); (try dsimp only at hSw); go_simp; (try with_reducible rfl); done)); (simp only [Act.put, List.setIfInBounds_toArray, List.set_cons_zero, List.set_cons_succ]); refine held_take (i := 5) (v := ?_) rfl (by kernel_rfl) (by kernel_rfl) (by kernel_rfl) (fun _ _ _ h => h) (by kernel_rfl) (by assumption) ?_ ?_; rotate_left; (focus (intro w hSw; (try unfold SC at hSw); (try unfold FC at hSw); (try unfold LC at hSw); (try unfold TC at hSw); (try unfold MC at hSw); (try unfold BC at hSw); (try unfold RC at hSw); (try unfold KC at hSw); (try unfold KD at hSw); (try dsimp only at hSw); go_simp; (try with_reducible rfl); done)); (simp only [Act.put, List.setIfInBounds_toArray, List.set_cons_zero, List.set_cons_succ]); refine held_take (i := 6) (v := ?_) rfl (by kernel_rfl) (by kernel_rfl) (by kernel_rfl) (fun _ _ _ h => h) (by kernel_rfl) (by assumption) ?_ ?_; rotate_left; (focus (intro w hSw; (try unfold SC at hSw); (try unfold FC at hSw); (try unfold LC at hSw); (try unfold TC at hSw); (try unfold MC at hSw); (try unfold BC at hSw); (try unfold RC at hSw); (try unfold KC at hSw); (try unfold KD at hSw); (try dsimp only at hSw); go_simp; (try with_reducible rfl); done)); (simp only [Act.put, List.setIfInBounds_toArray, List.set_cons_zero, List.set_cons_succ]))
      refine wpAnyH_ready (P := Tryd.prog) (md := .any) (rs := [1, 7]) (by kernel_rfl) (by simp) ?_
      refine held_cons rfl (by kernel_rfl) (fun K hK => ?_) (held_cons rfl (by kernel_rfl) (fun K hK => ?_) AllReadyH.nil)
      · ((go_simp; refine (hCl5.out _ (bdr (Below.refl _ _))).mono ?_; rintro _ wn ⟨⟨v1, rfl, hv1⟩, hbn⟩); refine hK.out _ _ ?_ (fun hHeld => ?_); ((try dsimp only); exact LC.below hHeld hbn); clear hK K; (try clear hHeld0); (try rename_i hHeld0))
        have hgv : (wn.alloc (Obj.cells #[.int .i64 xt, .int .i64 xr, .int .i64 2, .string xkey, .string xval, .int .i64 xn] 36)).heap[wn.heap.size]? = some (.cells #[.int .i64 xt, .int .i64 xr, .int .i64 2, .string xkey, .string xval, .int .i64 xn] 36 (0, 0)) := heap_alloc_new wn _
        have hv2 := hv1.alloc (Obj.cells #[.int .i64 xt, .int .i64 xr, .int .i64 2, .string xkey, .string xval, .int .i64 xn] 36)
        have hne := owns_lt hv1 wn.heap.size (Nat.le_refl _)
        (refine wpAnyH_ready (P := Tryd.prog) (md := .any) (rs := [7]) (by kernel_rfl) (by simp) ?_; refine held_cons rfl (by kernel_rfl) (fun K hK => ?_) AllReadyH.nil; (go_simp; refine hK.out _ _ ?_ (fun hHeld => ?_); ((try dsimp only); exact LC.below hHeld (bal (Below.refl _ _) _)); clear hK K; (try clear hHeld0); (try rename_i hHeld0)))
        have hbI : Below w5.heap.size w5 (wn.alloc (Obj.cells #[.int .i64 xt, .int .i64 xr, .int .i64 2, .string xkey, .string xval, .int .i64 xn] 36)) := bal (bch (bdr (Below.refl _ _)) hbn) _
        have hbase : w5.drew.heap.size ≤ (wn.alloc (Obj.cells #[.int .i64 xt, .int .i64 xr, .int .i64 2, .string xkey, .string xval, .int .i64 xn] 36)).heap.size := hbI.size
        have hIn := Lib.hid (insert_wr v1 A.length i (A.flatMap wrBCells) ([.int .i64 xt, .int .i64 xr, .int .i64 2, .string xkey, .string xval, .int .i64 xn] : List Value) wn.heap.size 1 w5.drew.heap.size _ hv2 (by omega) (by omega) rfl (wrs_one A) (by intro u hu; simp only [List.mem_cons, List.not_mem_nil, or_false] at hu; rcases hu with rfl | rfl | rfl | rfl | rfl | rfl <;> rfl) hgv hne hbase)
        have hlo : ∀ j, v1.ownBlock = some j → w5.heap.size ≤ j := fun j hj => (hv1.lt j hj).1
        clear hgv hne hv1 hv2
        (refine wpAnyH_ready (P := Tryd.prog) (md := .any) (rs := [8]) (by kernel_rfl) (by simp) ?_; refine held_cons rfl (by kernel_rfl) (fun K hK => ?_) AllReadyH.nil; ((go_simp; refine hIn.out.mono ?_; rintro _ wm ⟨v3, rfl, hv3, hgr, hbk, hnil⟩); refine hK.out _ _ ?_ (fun hHeld => ?_); ((try dsimp only); exact LC.grown hHeld hb1w5 hgr hlo); clear hK K; (try clear hHeld0); (try rename_i hHeld0)))
        have eL : (A.flatMap wrBCells).take (i * 6) ++ ([.int .i64 xt, .int .i64 xr, .int .i64 2, .string xkey, .string xval, .int .i64 xn] : List Value) ++ (A.flatMap wrBCells).drop (i * 6) = (A.take i ++ [A[i]] ++ A.drop i).flatMap wrBCells := by rw [wrs_take, wrs_drop, List.flatMap_append, List.flatMap_append, List.flatMap_singleton, ← hx.out]; rfl
        have e1 : A.length + 1 = (A.take i ++ [A[i]] ++ A.drop i).length := by simp only [List.length_append, List.length_take, List.length_drop, List.length_singleton]; omega
        have hv4 := hv3
        rw [eL, e1] at hv4
        clear eL e1
        have hlen : (A.take i ++ [A[i]] ++ A.drop i).length ≤ 1000 := by simp only [List.length_append, List.length_take, List.length_drop, List.length_singleton]; omega
        have hOfX := Lib.hid (store_of v3 _ wm (ListIs.of_owns hv4) hrt.out hlen)
        clear hv3 hgr hbk hnil hv4 hlen hIn
        (refine wpAnyH_ready (P := Tryd.prog) (md := .any) (rs := [9]) (by kernel_rfl) (by simp) ?_; refine held_cons rfl (by kernel_rfl) (fun K hK => ?_) AllReadyH.nil; ((go_simp; refine hOfX.out.mono ?_; rintro _ wk ⟨v4, L4, rfl, hO4, hS4, hI4, hb4⟩); refine hK.out _ _ ?_ (fun hHeld => ?_); ((try dsimp only); exact LC.below hHeld hb4); clear hK K; (try clear hHeld0); (try rename_i hHeld0)))
        (refine held_take (i := 10) (v := ?_) rfl (by kernel_rfl) (by kernel_rfl) (by kernel_rfl) (fun _ _ _ h => h) (by kernel_rfl) (by assumption) ?_ ?_; rotate_left; (focus (intro w hSw; (try unfold SC at hSw); (try unfold FC at hSw); (try unfold LC at hSw); (try unfold TC at hSw); (try unfold MC at hSw); (try unfold BC at hSw); (try unfold RC at hSw); (try unfold KC at hSw); (try unfold KD at hSw); (try dsimp only at hSw); go_simp; (try with_reducible rfl); done)); (simp only [Act.put, List.setIfInBounds_toArray, List.set_cons_zero, List.set_cons_succ]); refine held_take (i := 11) (v := ?_) rfl (by kernel_rfl) (by kernel_rfl) (by kernel_rfl) (fun _ _ _ h => h) (by kernel_rfl) (by assumption) ?_ ?_; rotate_left; (focus (intro w hSw; (try unfold SC at hSw); (try unfold FC at hSw); (try unfold LC at hSw); (try unfold TC at hSw); (try unfold MC at hSw); (try unfold BC at hSw); (try unfold RC at hSw); (try unfold KC at hSw); (try unfold KD at hSw); (try dsimp only at hSw); go_simp; (try with_reducible rfl); done)); (simp only [Act.put, List.setIfInBounds_toArray, List.set_cons_zero, List.set_cons_succ]); refine held_take (i := 12) (v := ?_) rfl (by kernel_rfl) (by kernel_rfl) (by kernel_rfl) (fun _ _ _ h => h) (by kernel_rfl) (by assumption) ?_ ?_; rotate_left; (focus (intro w hSw; (try unfold SC at hSw); (try unfold FC at hSw); (try unfold LC at hSw); (try unfold TC at hSw); (try unfold MC at hSw); (try unfold BC at hSw); (try unfold RC at hSw); (try unfold KC at hSw); (try unfold KD at hSw); (try dsimp only at hSw); go_simp; (try with_reducible rfl); done)); (simp only [Act.put, List.setIfInBounds_toArray, List.set_cons_zero, List.set_cons_succ]); refine held_take (i := 13) (v := ?_) rfl (by kernel_rfl) (by kernel_rfl) (by kernel_rfl) (fun _ _ _ h => h) (by kernel_rfl) (by assumption) ?_ ?_; rotate_left; (focus (intro w hSw; (try unfold SC at hSw); (try unfold FC at hSw); (try unfold LC at hSw); (try unfold TC at hSw); (try unfold MC at hSw); (try unfold BC at hSw); (try unfold RC at hSw); (try unfold KC at hSw); (try unfold KD at hSw); (try dsimp only at hSw); go_simp; (try with_reducible rfl); done)); (simp only [Act.put, List.setIfInBounds_toArray, List.set_cons_zero, List.set_cons_succ]); refine held_take (i := 14) (v := ?_) rfl (by kernel_rfl) (by kernel_rfl) (by kernel_rfl) (fun _ _ _ h => h) (by kernel_rfl) (by assumption) ?_ ?_; rotate_left; (focus (intro w hSw; (try unfold SC at hSw); (try unfold FC at hSw); (try unfold LC at hSw); (try unfold TC at hSw); (try unfold MC at hSw); (try unfold BC at hSw); (try unfold RC at hSw); (try unfold KC at hSw); (try unfold KD at hSw); (try dsimp only at hSw); go_simp; (try with_reducible rfl); done)); (simp only [Act.put, List.setIfInBounds_toArray, List.set_cons_zero, List.set_cons_succ]))
        (refine wpAnyH_done (by kernel_rfl) ?_ _)
        have hI4' := hI4.congr (hat.out (by rw [← hx.out]; first | exact .inl rfl | exact .inr rfl))
        have hb5k := hHeld.1
        have hn := celB_le hAr.out (by omega) hI5.out
        have hsc := Lib.hid (same_cells v5 v4 L5 L4 wk ((celL_of hO5.out hS5.out).below hb5k) (celL_of hO4 hS4) (hI5.out.unique hI4') hn.1 hn.2)
        clear hO4 hS4 hI4 hI4' hb4 hHeld hn hOfX
        go_wp2_with fail
        refine hsc.out.mono ?_
        rintro _ w11 ⟨rfl, hb11⟩
        go_wp2
        go_ret
        exact ⟨rfl, bch hA5 (bch hb5k hb11)⟩
      · (go_simp; refine hK.out _ _ ?_ (fun hHeld => ?_); ((try dsimp only); exact LC.below hHeld (bal (Below.refl _ _) _)); clear hK K; (try clear hHeld0); (try rename_i hHeld0))
        have hgv : (w5.drew.alloc (Obj.cells #[.int .i64 xt, .int .i64 xr, .int .i64 2, .string xkey, .string xval, .int .i64 xn] 36)).heap[w5.heap.size]? = some (.cells #[.int .i64 xt, .int .i64 xr, .int .i64 2, .string xkey, .string xval, .int .i64 xn] 36 (0, 0)) := heap_alloc_new w5.drew _
        (refine wpAnyH_ready (P := Tryd.prog) (md := .any) (rs := [1]) (by kernel_rfl) (by simp) ?_; refine held_cons rfl (by kernel_rfl) (fun K hK => ?_) AllReadyH.nil; ((go_simp; refine (hCl5.out _ (bal (bdr (Below.refl _ _)) _)).mono ?_; rintro _ wn ⟨⟨v1, rfl, hv1⟩, hbn⟩); refine hK.out _ _ ?_ (fun hHeld => ?_); ((try dsimp only); exact LC.below hHeld hbn); clear hK K; (try clear hHeld0); (try rename_i hHeld0)))
        have hgs : w5.heap.size < (w5.drew.alloc (Obj.cells #[.int .i64 xt, .int .i64 xr, .int .i64 2, .string xkey, .string xval, .int .i64 xn] 36)).heap.size := (row_alloc w5.drew _ _ : Row (w5.drew.alloc (Obj.cells #[.int .i64 xt, .int .i64 xr, .int .i64 2, .string xkey, .string xval, .int .i64 xn] 36)) w5.drew.heap.size _ _).lt
        have hgv2 := (hbn.block w5.heap.size hgs).trans hgv
        have hbI : Below w5.heap.size w5 wn := bch (bal (bdr (Below.refl _ _)) _) hbn
        have hbase : (w5.drew.alloc (Obj.cells #[.int .i64 xt, .int .i64 xr, .int .i64 2, .string xkey, .string xval, .int .i64 xn] 36)).heap.size ≤ wn.heap.size := hbn.size
        have hne : v1.ownBlock ≠ some w5.heap.size := fun e => by have := (hv1.lt _ e).1; omega
        have hIn := Lib.hid (insert_wr v1 A.length i (A.flatMap wrBCells) ([.int .i64 xt, .int .i64 xr, .int .i64 2, .string xkey, .string xval, .int .i64 xn] : List Value) w5.heap.size 1 (w5.drew.alloc (Obj.cells #[.int .i64 xt, .int .i64 xr, .int .i64 2, .string xkey, .string xval, .int .i64 xn] 36)).heap.size _ hv1 (by omega) (by omega) rfl (wrs_one A) (by intro u hu; simp only [List.mem_cons, List.not_mem_nil, or_false] at hu; rcases hu with rfl | rfl | rfl | rfl | rfl | rfl <;> rfl) hgv2 hne hbase)
        have hlo : ∀ j, v1.ownBlock = some j → w5.heap.size ≤ j := fun j hj => by have := (hv1.lt j hj).1; omega
        clear hgv hgv2 hne hgs hv1
        (refine wpAnyH_ready (P := Tryd.prog) (md := .any) (rs := [8]) (by kernel_rfl) (by simp) ?_; refine held_cons rfl (by kernel_rfl) (fun K hK => ?_) AllReadyH.nil; ((go_simp; refine hIn.out.mono ?_; rintro _ wm ⟨v3, rfl, hv3, hgr, hbk, hnil⟩); refine hK.out _ _ ?_ (fun hHeld => ?_); ((try dsimp only); exact LC.grown hHeld hb1w5 hgr hlo); clear hK K; (try clear hHeld0); (try rename_i hHeld0)))
        have eL : (A.flatMap wrBCells).take (i * 6) ++ ([.int .i64 xt, .int .i64 xr, .int .i64 2, .string xkey, .string xval, .int .i64 xn] : List Value) ++ (A.flatMap wrBCells).drop (i * 6) = (A.take i ++ [A[i]] ++ A.drop i).flatMap wrBCells := by rw [wrs_take, wrs_drop, List.flatMap_append, List.flatMap_append, List.flatMap_singleton, ← hx.out]; rfl
        have e1 : A.length + 1 = (A.take i ++ [A[i]] ++ A.drop i).length := by simp only [List.length_append, List.length_take, List.length_drop, List.length_singleton]; omega
        have hv4 := hv3
        rw [eL, e1] at hv4
        clear eL e1
        have hlen : (A.take i ++ [A[i]] ++ A.drop i).length ≤ 1000 := by simp only [List.length_append, List.length_take, List.length_drop, List.length_singleton]; omega
        have hOfX := Lib.hid (store_of v3 _ wm (ListIs.of_owns hv4) hrt.out hlen)
        clear hv3 hgr hbk hnil hv4 hlen hIn
        (refine wpAnyH_ready (P := Tryd.prog) (md := .any) (rs := [9]) (by kernel_rfl) (by simp) ?_; refine held_cons rfl (by kernel_rfl) (fun K hK => ?_) AllReadyH.nil; ((go_simp; refine hOfX.out.mono ?_; rintro _ wk ⟨v4, L4, rfl, hO4, hS4, hI4, hb4⟩); refine hK.out _ _ ?_ (fun hHeld => ?_); ((try dsimp only); exact LC.below hHeld hb4); clear hK K; (try clear hHeld0); (try rename_i hHeld0)))
        (refine held_take (i := 10) (v := ?_) rfl (by kernel_rfl) (by kernel_rfl) (by kernel_rfl) (fun _ _ _ h => h) (by kernel_rfl) (by assumption) ?_ ?_; rotate_left; (focus (intro w hSw; (try unfold SC at hSw); (try unfold FC at hSw); (try unfold LC at hSw); (try unfold TC at hSw); (try unfold MC at hSw); (try unfold BC at hSw); (try unfold RC at hSw); (try unfold KC at hSw); (try unfold KD at hSw); (try dsimp only at hSw); go_simp; (try with_reducible rfl); done)); (simp only [Act.put, List.setIfInBounds_toArray, List.set_cons_zero, List.set_cons_succ]); refine held_take (i := 11) (v := ?_) rfl (by kernel_rfl) (by kernel_rfl) (by kernel_rfl) (fun _ _ _ h => h) (by kernel_rfl) (by assumption) ?_ ?_; rotate_left; (focus (intro w hSw; (try unfold SC at hSw); (try unfold FC at hSw); (try unfold LC at hSw); (try unfold TC at hSw); (try unfold MC at hSw); (try unfold BC at hSw); (try unfold RC at hSw); (try unfold KC at hSw); (try unfold KD at hSw); (try dsimp only at hSw); go_simp; (try with_reducible rfl); done)); (simp only [Act.put, List.setIfInBounds_toArray, List.set_cons_zero, List.set_cons_succ]); refine held_take (i := 12) (v := ?_) rfl (by kernel_rfl) (by kernel_rfl) (by kernel_rfl) (fun _ _ _ h => h) (by kernel_rfl) (by assumption) ?_ ?_; rotate_left; (focus (intro w hSw; (try unfold SC at hSw); (try unfold FC at hSw); (try unfold LC at hSw); (try unfold TC at hSw); (try unfold MC at hSw); (try unfold BC at hSw); (try unfold RC at hSw); (try unfold KC at hSw); (try unfold KD at hSw); (try dsimp only at hSw); go_simp; (try with_reducible rfl); done)); (simp only [Act.put, List.setIfInBounds_toArray, List.set_cons_zero, List.set_cons_succ]); refine held_take (i := 13) (v := ?_) rfl (by kernel_rfl) (by kernel_rfl) (by kernel_rfl) (fun _ _ _ h => h) (by kernel_rfl) (by assumption) ?_ ?_; rotate_left; (focus (intro w hSw; (try unfold SC at hSw); (try unfold FC at hSw); (try unfold LC at hSw); (try unfold TC at hSw); (try unfold MC at hSw); (try unfold BC at hSw); (try unfold RC at hSw); (try unfold KC at hSw); (try unfold KD at hSw); (try dsimp only at hSw); go_simp; (try with_reducible rfl); done)); (simp only [Act.put, List.setIfInBounds_toArray, List.set_cons_zero, List.set_cons_succ]); refine held_take (i := 14) (v := ?_) rfl (by kernel_rfl) (by kernel_rfl) (by kernel_rfl) (fun _ _ _ h => h) (by kernel_rfl) (by assumption) ?_ ?_; rotate_left; (focus (intro w hSw; (try unfold SC at hSw); (try unfold FC at hSw); (try unfold LC at hSw); (try unfold TC at hSw); (try unfold MC at hSw); (try unfold BC at hSw); (try unfold RC at hSw); (try unfold KC at hSw); (try unfold KD at hSw); (try dsimp only at hSw); go_simp; (try with_reducible rfl); done)); (simp only [Act.put, List.setIfInBounds_toArray, List.set_cons_zero, List.set_cons_succ]))
        (refine wpAnyH_done (by kernel_rfl) ?_ _)
        have hI4' := hI4.congr (hat.out (by rw [← hx.out]; first | exact .inl rfl | exact .inr rfl))
        have hb5k := hHeld.1
        have hn := celB_le hAr.out (by omega) hI5.out
        have hsc := Lib.hid (same_cells v5 v4 L5 L4 wk ((celL_of hO5.out hS5.out).below hb5k) (celL_of hO4 hS4) (hI5.out.unique hI4') hn.1 hn.2)
        clear hO4 hS4 hI4 hI4' hb4 hHeld hn hOfX
        go_wp2_with fail
        refine hsc.out.mono ?_
        rintro _ w11 ⟨rfl, hb11⟩
        go_wp2
        go_ret
        exact ⟨rfl, bch hA5 (bch hb5k hb11)⟩
  · have e1 : (x.k == 1) = false := by simpa using hk1
    have e2 : (x.k == 2) = false := by simpa using hk2
    have e3 : (x.k != 1) = true := by simpa using hk1
    have e4 : (x.k != 2) = true := by simpa using hk2
    clear hk1 hk2
    go_wp2
    go_ret
    exact ⟨rfl, hbw2⟩
end Go.Proofs.YtpmedolndkidcaaDoor
