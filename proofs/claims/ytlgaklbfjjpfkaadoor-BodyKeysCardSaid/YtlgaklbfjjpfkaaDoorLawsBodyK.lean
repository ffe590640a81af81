/- The walk of the law BodyKeys. -/
import Derived.Test.YtlgaklbfjjpfkaaDoorLawsBodyB
import Derived.Test.YtlgaklbfjjpfkaaDoorPlainBodyK
import Derived.Test.YtlgaklbfjjpfkaaDoorWUpd
namespace Go.Proofs.YtlgaklbfjjpfkaaDoor
open Go.RowKit
set_option linter.unusedVariables false
set_option linter.unusedSimpArgs false
def keyB (K : ByteArray) (x : WrB) : WrB := { x with key := K }
theorem keyB_plain (K : ByteArray) (x : WrB) : (keyB K x).plain = Body.keyed K.data.toList x.plain := rfl
theorem keyBs_plain (K : ByteArray) (ws : List WrB) : (ws.map (keyB K)).map WrB.plain = (ws.map WrB.plain).map (Body.keyed K.data.toList) := by
  rw [List.map_map, List.map_map]
  exact List.map_congr_left fun x _ => keyB_plain K x
theorem keyB_cells (K : ByteArray) (x : WrB) : wrBCells (keyB K x) = (wrBCells x).set 3 (.string K) := rfl
/-- Two blocks alone differ. -/
def OG2 (g h : Nat) (w W : World) : Prop := Only (fun j => j = g ∨ j = h) w W
def KC (gc gd b : Nat) (v : Value) (w W : World) : Prop := OG2 gc gd w W ∧ W.cell? ⟨b, 2, none⟩ = some v
theorem KC.below {gc gd b : Nat} {v : Value} {w W W' : World} (h : KC gc gd b v w W) (hb : Below W.heap.size W W') : KC gc gd b v w W' := ⟨Only.chain h.1 hb, cell_below hb h.2⟩
theorem KC.set {gc gd b : Nat} {v : Value} {w W : World} (h : KC gc gd b v w W) {p : Addr} (hp : p.block = gc ∨ p.block = gd) (hn : p.block ≠ b) (u : Value) : KC gc gd b v w (W.setCell p u) :=
  ⟨Only.set h.1 (.inl hp) u, (World.cell?_setCell_other _ _ _ _ (fun e => hn (by rw [e]))).trans h.2⟩
def KD (g1 g2 gc gd : Nat) (v1 v2 : Value) (w W : World) : Prop := OG2 g1 g2 w W ∧ W.cell? ⟨gc, 2, none⟩ = some v1 ∧ W.cell? ⟨gd, 2, none⟩ = some v2
theorem KD.set {g1 g2 gc gd : Nat} {v1 v2 : Value} {w W : World} (h : KD g1 g2 gc gd v1 v2 w W) {p : Addr} (hp : p.block = g1 ∨ p.block = g2) (hc : p.block ≠ gc) (hd : p.block ≠ gd) (u : Value) : KD g1 g2 gc gd v1 v2 w (W.setCell p u) :=
  ⟨Only.set h.1 (.inl hp) u, (World.cell?_setCell_other _ _ _ _ (fun e => hc (by rw [e]))).trans h.2.1, (World.cell?_setCell_other _ _ _ _ (fun e => hd (by rw [e]))).trans h.2.2⟩
theorem owns_base {w : World} {b1 b2 : Nat} {e : TypeId} {sz n : Nat} {v : Value} {xs : List Value} (h : w.ownsRow b1 e sz v n xs) (hb : b2 ≤ b1) : w.ownsRow b2 e sz v n xs := by
  refine ⟨h.1, ?_⟩
  rcases h.2 with h0 | ⟨g, cap, cur, h1, h2, h3⟩
  · exact .inl h0
  · exact .inr ⟨g, cap, cur, h1, by omega, h3⟩
/-- What body.Write tells, whatever it is given. -/
theorem body_write_any (vf vh vw : Value) (f h : List Vec.Entry) (ws : List WrB) (w : World) (hL : Laid w) (hf : VecIs w vf f) (hh : VecIs w vh h) (hw : WrsIs w vw ws) (hlf : f.length ≤ 140737488351232) (hlh : h.length ≤ 140737488351232) (hlw : ws.length ≤ 140737488351232) :
    Calls Tryd.prog 11 #[.agg #[vf, vh, vw]] w fun e w' => (∃ s E, e = .returned (.tuple #[.string s, E]) ∧ ((E = .nilIface ∧ s = ⟨(bodyOf f h ws).toArray⟩ ∧ (bodyOf f h ws).length ≤ 20000) ∨ ∃ t u, E = .iface t u)) ∧ Below w.heap.size w w' := by
  by_cases hok : Bat.right f h (ws.map WrB.plain) = .ok
  · refine (body_write_ok vf vh vw f h ws w hL hf hh hw hlf hlh hlw hok).mono ?_
    rintro e w' ⟨rfl, hb⟩
    by_cases hl : 20000 < (bodyOf f h ws).length
    · rw [if_pos hl]
      exact ⟨⟨_, _, rfl, .inr ⟨_, _, rfl⟩⟩, hb⟩
    · rw [if_neg hl]
      exact ⟨⟨_, _, rfl, .inl ⟨rfl, rfl, by omega⟩⟩, hb⟩
  · refine (body_write_bad vf vh vw f h ws w hL hf hh hw hlf hlh hlw hok).mono ?_
    rintro e w' ⟨⟨E, rfl, hE⟩, hb⟩
    exact ⟨⟨_, _, rfl, .inr (err_some hE hok)⟩, hb⟩
set_option maxHeartbeats 8000000 in
set_option maxRecDepth 20000 in
theorem body_keys (vf vh vw : Value) (f h : List Vec.Entry) (ws : List WrB) (key : ByteArray) (w : World) (hL : Laid w) (hf : VecIs w vf f) (hh : VecIs w vh h) (hw : WrsIs w vw ws) (hlf : f.length ≤ 140737488351232) (hlh : h.length ≤ 140737488351232) (hlw : ws.length ≤ 140737488351232) (hq : ∀ x ∈ ws, WrBOk x) (hkz : key.size ≤ 140737488351232) :
    Calls Tryd.prog 6 #[.agg #[vf, vh, vw], .string key] w fun e w' => e = .returned (.bool true) ∧ Below w.heap.size w w' := by
  have hG := fun W (hW : Below w.heap.size w W) => bodied W (hL.below hW)
  have hH := fun W (hW : Below w.heap.size w W) => keep_held vf vh vw f h ws W (hL.below hW) (hf.below hW) (hh.below hW) (hw.below hW) hlf hlh hlw hq
  have hWd := fun K vd W (hW : Below w.heap.size w W) hvd => body_write_any vf vh vd f h (ws.map (keyB K)) W (hL.below hW) (hf.below hW) (hh.below hW) hvd hlf hlh (by rw [List.length_map]; exact hlw)
  have hCl := fun W (hW : Below w.heap.size w W) hl => clone_wrs vw ws W (hw.below hW) hl
  obtain ⟨o1, m1, e1, -, -⟩ := hf.list.at entCells_len
  obtain ⟨o2, m2, e2, -, -⟩ := hh.list.at entCells_len
  obtain ⟨o3, m3, e3, -, -⟩ := ListIs.at hw wrBCells_len
  clear hf hh hw
  subst e1 e2 e3
  replace hG := Lib.hid hG
  replace hH := Lib.hid hH
  replace hWd := Lib.hid hWd
  replace hCl := Lib.hid hCl
  replace hq := Lib.hid hq
  have hkz2 : (key.size : Int) ≤ 140737488351232 := by omega
  go_enter Tryd.func6, Tryd.ntmps6
  go_wp2_with fail
  have q0 := row_at #[.slice o1 f.length m1, .slice o2 h.length m2, .slice o3 ws.length m3] 25 (rfl : w.heap.size = w.heap.size)
  have hb1 := bal (Below.refl w.heap.size w) (Obj.cells #[.slice o1 f.length m1, .slice o2 h.length m2, .slice o3 ws.length m3] 25)
  generalize w.alloc (Obj.cells #[.slice o1 f.length m1, .slice o2 h.length m2, .slice o3 ws.length m3] 25) = w1 at *
  refine (hG.out _ hb1).mono ?_
  rintro _ w2 ⟨rfl, hb2⟩
  replace q0 := q0.below hb2
  replace hb1 := bch hb1 hb2
  clear hb2
  (have c0 := q0.cell 0; have c1 := q0.cell 1; have c2 := q0.cell 2; simp only [List.set_cons_succ, List.set_cons_zero, List.getElem?_cons_zero, List.getElem?_cons_succ] at c0 c1 c2)
  go_wp2_with fail
  refine (hH.out _ hb1).mono ?_
  rintro _ w4 ⟨⟨r, rfl, hr⟩, hb2⟩
  replace q0 := q0.below hb2
  replace hb1 := bch hb1 hb2
  clear hb2 c0 c1 c2
  (have c0 := q0.cell 0; have c1 := q0.cell 1; have c2 := q0.cell 2; simp only [List.set_cons_succ, List.set_cons_zero, List.getElem?_cons_zero, List.getElem?_cons_succ] at c0 c1 c2)
  cases r with
  | false =>
    replace hr := Lib.hid hr
    go_wp2
    go_ret
    exact ⟨rfl, hb1⟩
  | true =>
  by_cases hk40 : (40 : Int) < (key.size : Int)
  · replace hr := Lib.hid hr
    go_wp2
    go_ret
    exact ⟨rfl, hb1⟩
  have hok := hr rfl
  clear hr
  have hF := (Bat.right_iff _ _ _).1 hok
  have hl60 := hF.len
  rw [List.length_map] at hl60
  have hk127 : key.data.toList.length < 128 := by rw [Array.length_toList]; show key.size < 128; omega
  have hfin : ws ≠ [] → (bodyOf f h (ws.map (keyB key))).length = (bodyOf f h (ws.map (keyB ⟨#[]⟩))).length + key.size := fun hne => by
    have := Body.keyed_len f h (ws.map WrB.plain) key.data.toList hk127 (by simpa using hne)
    unfold bodyOf
    rw [keyBs_plain, keyBs_plain, this]
    exact congrArg _ (Array.length_toList)
  have hfin0 : ws = [] → bodyOf f h (ws.map (keyB key)) = bodyOf f h (ws.map (keyB ⟨#[]⟩)) := fun hne => by rw [hne]; rfl
  replace hCl := Lib.hid (fun W hW => hCl.out W hW (by omega))
  replace hfin := Lib.hid hfin
  replace hfin0 := Lib.hid hfin0
  clear hF hok hk127
  have hs0 := q0.lt
  replace q0 := Lib.hid q0
  go_wp2_with fail
  go_region
  -- REST
  · have qa := (row_at #[.slice o1 f.length m1, .slice o2 h.length m2, .slice o3 ws.length m3] 25 (rfl : w4.heap.size = w4.heap.size)).alloc (Obj.cells #[.slice o1 f.length m1, .slice o2 h.length m2, .slice o3 ws.length m3] 25)
    have qz := row_at (w := w4.alloc (Obj.cells #[.slice o1 f.length m1, .slice o2 h.length m2, .slice o3 ws.length m3] 25)) (g := w4.heap.size + 1) #[.slice o1 f.length m1, .slice o2 h.length m2, .slice o3 ws.length m3] 25 (by simp)
    have hb5 : Below w.heap.size w ((w4.alloc (Obj.cells #[.slice o1 f.length m1, .slice o2 h.length m2, .slice o3 ws.length m3] 25)).alloc (Obj.cells #[.slice o1 f.length m1, .slice o2 h.length m2, .slice o3 ws.length m3] 25)).drew := bdr (bal (bal hb1 _) _)
    have q05 := ((q0.out.alloc (Obj.cells #[.slice o1 f.length m1, .slice o2 h.length m2, .slice o3 ws.length m3] 25)).alloc (Obj.cells #[.slice o1 f.length m1, .slice o2 h.length m2, .slice o3 ws.length m3] 25)).drew
    have hsz : ((w4.alloc (Obj.cells #[.slice o1 f.length m1, .slice o2 h.length m2, .slice o3 ws.length m3] 25)).alloc (Obj.cells #[.slice o1 f.length m1, .slice o2 h.length m2, .slice o3 ws.length m3] 25)).drew.heap.size = w4.heap.size + 1 + 1 := by simp [World.drew]
    replace qa := qa.drew
    replace qz := qz.drew
    obtain ⟨gd, hgd⟩ : ∃ g, g = w4.heap.size + 1 := ⟨_, rfl⟩
    rw [← hgd] at qz hsz ⊢
    obtain ⟨gc, hgc⟩ : ∃ g, g = w4.heap.size := ⟨_, rfl⟩
    rw [← hgc] at qa ⊢
    generalize ((w4.alloc (Obj.cells #[.slice o1 f.length m1, .slice o2 h.length m2, .slice o3 ws.length m3] 25)).alloc (Obj.cells #[.slice o1 f.length m1, .slice o2 h.length m2, .slice o3 ws.length m3] 25)).drew = w5 at *
    have hgc0 : w.heap.size < gc := by omega
    have hgd0 : w.heap.size < gd := by omega
    have hcd : gc ≠ gd := by omega
    have hgc5 : gc < w5.heap.size := by omega
    have hgd5 : gd < w5.heap.size := by omega
    replace hgc := Lib.hid hgc
    replace hgd := Lib.hid hgd
    replace hsz := Lib.hid hsz
    clear q0 hb1 c0 c1 c2 hs0
    have qc := qa
    have qd := qz
    clear qa qz
    have e2 := q05.cell 2
    simp only [List.getElem?_cons_zero, List.getElem?_cons_succ] at e2
    have hCl5 := Lib.hid (fun W (hW : Below w5.heap.size w5 W) => hCl.out W (bch hb5 hW))
    go_wp2_with fail
    have e2d : w5.drew.cell? ⟨w.heap.size, 2, none⟩ = some (.slice o3 ws.length m3) := e2
    have hS0 : KC gc gd w.heap.size (.slice o3 ws.length m3) w5 w5.drew := ⟨(Only.refl _ _).drew, e2d⟩
    clear e2
    (refine wp_region_held_drew (S := KC gc gd w.heap.size (.slice o3 ws.length m3) w5) (by kernel_rfl) ?_ (fun hHeld => ?_); ((try dsimp only); exact hS0))
    (refine held_take (i := 0) (v := ?_) rfl (by kernel_rfl) (by kernel_rfl) (by kernel_rfl) (fun _ _ _ h => h) (by kernel_rfl) (by assumption) ?_ ?_; rotate_left; (focus (intro w hSw; (try unfold SC at hSw); (try unfold MC at hSw); (try unfold BC at hSw); (try unfold RC at hSw); (try unfold KC at hSw); (try unfold KD at hSw); (try dsimp only at hSw); go_simp; (try with_reducible rfl); done)); (simp only [Act.put, List.setIfInBounds_toArray, List.set_cons_zero, List.set_cons_succ]); refine held_take (i := 1) (v := ?_) rfl (by kernel_rfl) (by kernel_rfl) (by kernel_rfl) (fun _ _ _ h => h) (by kernel_rfl) (by assumption) ?_ ?_; rotate_left; (focus (intro w hSw; (try unfold SC at hSw); (try unfold MC at hSw); (try unfold BC at hSw); (try unfold RC at hSw); (try unfold KC at hSw); (try unfold KD at hSw); (try dsimp only at hSw); go_simp; (try with_reducible rfl); done)); (simp only [Act.put, List.setIfInBounds_toArray, List.set_cons_zero, List.set_cons_succ]); refine held_take (i := 3) (v := ?_) rfl (by kernel_rfl) (by kernel_rfl) (by kernel_rfl) (fun _ _ _ h => h) (by kernel_rfl) (by assumption) ?_ ?_; rotate_left; (focus (intro w hSw; (try unfold SC at hSw); (try unfold MC at hSw); (try unfold BC at hSw); (try unfold RC at hSw); (try unfold KC at hSw); (try unfold KD at hSw); (try dsimp only at hSw); go_simp; (try with_reducible rfl); done)); (simp only [Act.put, List.setIfInBounds_toArray, List.set_cons_zero, List.set_cons_succ]); refine held_take (i := 4) (v := ?_) rfl (by kernel_rfl) (by kernel_rfl) (by kernel_rfl) (fun _ _ _ h => h) (by kernel_rfl) (by assumption) ?_ ?_; rotate_left; (focus (intro w hSw; (try unfold SC at hSw); (try unfold MC at hSw); (try unfold BC at hSw); (try unfold RC at hSw); (try unfold KC at hSw); (try unfold KD at hSw); (try dsimp only at hSw); go_simp; (try with_reducible rfl); done)); (simp only [Act.put, List.setIfInBounds_toArray, List.set_cons_zero, List.set_cons_succ]))
    (refine wpAnyH_ready (P := Tryd.prog) (md := .any) (rs := [2]) (by kernel_rfl) (by simp) ?_; refine held_cons rfl (by kernel_rfl) (fun K hK => ?_) AllReadyH.nil; ((go_simp; refine (hCl5.out _ (bdr (Below.refl _ _))).mono ?_; rintro _ wn ⟨⟨u1, rfl, hown1⟩, hbn⟩); refine hK.out _ _ ?_ (fun hHeld => ?_); ((try dsimp only); exact KC.below hHeld hbn); clear hK K; (try clear hHeld0); (try rename_i hHeld0)))
    have hbn1 : Below w5.heap.size w5 wn := bch (bdr (Below.refl _ _)) hbn
    have hbase1 : w5.drew.heap.size = w5.heap.size := rfl
    rw [hbase1] at hown1
    clear hbn hbase1
    (refine held_take (i := 6) (v := ?_) rfl (by kernel_rfl) (by kernel_rfl) (by kernel_rfl) (fun _ _ _ h => h) (by kernel_rfl) (by assumption) ?_ ?_; rotate_left; (focus (intro w hSw; (try unfold SC at hSw); (try unfold MC at hSw); (try unfold BC at hSw); (try unfold RC at hSw); (try unfold KC at hSw); (try unfold KD at hSw); (try dsimp only at hSw); go_simp; (try with_reducible rfl); done)); (simp only [Act.put, List.setIfInBounds_toArray, List.set_cons_zero, List.set_cons_succ]))
    (refine wpAnyH_ready (P := Tryd.prog) (md := .any) (rs := [5]) (by kernel_rfl) (by simp) ?_; refine held_cons rfl (by kernel_rfl) (fun K hK => ?_) AllReadyH.nil; ((go_simp; refine (hCl5.out _ hbn1).mono ?_; rintro _ wm ⟨⟨u2, rfl, hown2⟩, hbm⟩); refine hK.out _ _ ?_ (fun hHeld => ?_); ((try dsimp only); exact KC.below hHeld hbm); clear hK K; (try clear hHeld0); (try rename_i hHeld0)))
    have hs1 := hbn1.size
    have hs2 := hbm.size
    have hlt1 := owns_lt hown1
    replace hown1 := owns_below hown1 hbm
    have hbm2 := bch hbn1 hbm
    obtain ⟨ou1, cu1, rfl⟩ := owns_slice hown1
    obtain ⟨ou2, cu2, rfl⟩ := owns_slice hown2
    have hdis : ∀ k, (Value.slice ou1 ws.length cu1).ownBlock = some k → (Value.slice ou2 ws.length cu2).ownBlock ≠ some k := fun k hk e => hlt1 k (owns_fresh hown2 k e) hk
    replace hdis := Lib.hid hdis
    replace hown2 : wm.ownsRow w5.heap.size 45 6 (.slice ou2 ws.length cu2) ws.length (ws.flatMap wrBCells) := owns_base hown2 hs1
    have qc := qc.below hbm2
    have qd := qd.below hbm2
    have q0 := q05.below hbm2
    clear hlt1 hbm hbn1 q05
    have xc := qc.cell 2
    have zc := qc.frozen 2 (by simp)
    have xd := qd.cell 2
    have zd := qd.frozen 2 (by simp)
    simp only [List.getElem?_cons_zero, List.getElem?_cons_succ] at xc xd
    have qd1 := qd.other (p := ⟨gc, 2, none⟩) hcd (.slice ou1 ws.length cu1)
    have xd1 := qd1.cell 2
    have zd1 := qd1.frozen 2 (by simp)
    simp only [List.getElem?_cons_zero, List.getElem?_cons_succ] at xd1
    (refine wpAnyH_ready (P := Tryd.prog) (md := .any) (rs := [7]) (by kernel_rfl) (by simp) ?_; refine held_cons rfl (by kernel_rfl) (fun K hK => ?_) AllReadyH.nil; (go_simp; refine hK.out _ _ ?_ (fun hHeld => ?_); ((try dsimp only); exact KC.set hHeld (.inl rfl) (show gc ≠ w.heap.size by omega) _); clear hK K; (try clear hHeld0); (try rename_i hHeld0)))
    (refine held_take (i := 8) (v := ?_) rfl (by kernel_rfl) (by kernel_rfl) (by kernel_rfl) (fun _ _ _ h => h) (by kernel_rfl) (by assumption) ?_ ?_; rotate_left; (focus (intro w hSw; (try unfold SC at hSw); (try unfold MC at hSw); (try unfold BC at hSw); (try unfold RC at hSw); (try unfold KC at hSw); (try unfold KD at hSw); (try dsimp only at hSw); go_simp; (try with_reducible rfl); done)); (simp only [Act.put, List.setIfInBounds_toArray, List.set_cons_zero, List.set_cons_succ]))
    (refine wpAnyH_ready (P := Tryd.prog) (md := .any) (rs := [9]) (by kernel_rfl) (by simp) ?_; refine held_cons rfl (by kernel_rfl) (fun K hK => ?_) AllReadyH.nil; (go_simp; refine hK.out _ _ ?_ (fun hHeld => ?_); ((try dsimp only); exact KC.set hHeld (.inr rfl) (show gd ≠ w.heap.size by omega) _); clear hK K; (try clear hHeld0); (try rename_i hHeld0)))
    (refine wpAnyH_done (by kernel_rfl) ?_ _)
    have hOk : Only (fun j => j = gc ∨ j = gd) w5 ((wm.setCell ⟨gc, 2, none⟩ (.slice ou1 ws.length cu1)).setCell ⟨gd, 2, none⟩ (.slice ou2 ws.length cu2)) := hHeld.1
    have qc2 : Row ((wm.setCell ⟨gc, 2, none⟩ (.slice ou1 ws.length cu1)).setCell ⟨gd, 2, none⟩ (.slice ou2 ws.length cu2)) gc 25 [.slice o1 f.length m1, .slice o2 h.length m2, .slice ou1 ws.length cu1] := (qc.set 2 _).other (p := ⟨gd, 2, none⟩) (fun e => hcd e.symm) _
    have qd2 : Row ((wm.setCell ⟨gc, 2, none⟩ (.slice ou1 ws.length cu1)).setCell ⟨gd, 2, none⟩ (.slice ou2 ws.length cu2)) gd 25 [.slice o1 f.length m1, .slice o2 h.length m2, .slice ou2 ws.length cu2] := qd1.set 2 _
    have q02 := (q0.other (p := ⟨gc, 2, none⟩) (show gc ≠ w.heap.size by omega) (.slice ou1 ws.length cu1)).other (p := ⟨gd, 2, none⟩) (show gd ≠ w.heap.size by omega) (.slice ou2 ws.length cu2)
    have hA := ownsRow_setCell_below (ownsRow_setCell_below hown1 (a := ⟨gc, 2, none⟩) hgc5 (.slice ou1 ws.length cu1)) (a := ⟨gd, 2, none⟩) hgd5 (.slice ou2 ws.length cu2)
    have hD := ownsRow_setCell_below (ownsRow_setCell_below hown2 (a := ⟨gc, 2, none⟩) hgc5 (.slice ou1 ws.length cu1)) (a := ⟨gd, 2, none⟩) hgd5 (.slice ou2 ws.length cu2)
    have hb7 := hb5.trans (hOk.below (fun k hk => by omega) hb5.size)
    generalize (wm.setCell ⟨gc, 2, none⟩ (.slice ou1 ws.length cu1)).setCell ⟨gd, 2, none⟩ (.slice ou2 ws.length cu2) = w7 at *
    clear hHeld hHeld0 qc qd q0 hown1 hown2 xc zc xd zd qd1 xd1 zd1 hOk hCl5 hb5 hbm2
    have xc := qc2.cell 2
    simp only [List.getElem?_cons_zero, List.getElem?_cons_succ] at xc
    have hwb : w.heap.size < w5.heap.size := by omega
    go_wp2_with fail
    clear xc
    go_loopw [35] (fun i wr => ∃ k : Nat, k ≤ ws.length ∧ i = .int .i64 k ∧ Row wr w.heap.size 25 [.slice o1 f.length m1, .slice o2 h.length m2, .slice o3 ws.length m3] ∧ Row wr gc 25 [.slice o1 f.length m1, .slice o2 h.length m2, .slice ou1 ws.length cu1] ∧ Row wr gd 25 [.slice o1 f.length m1, .slice o2 h.length m2, .slice ou2 ws.length cu2] ∧
      wr.ownsRow w5.heap.size 45 6 (.slice ou1 ws.length cu1) ws.length (((ws.take k).map (keyB key) ++ ws.drop k).flatMap wrBCells) ∧ wr.ownsRow w5.heap.size 45 6 (.slice ou2 ws.length cu2) ws.length (((ws.take k).map (keyB ⟨#[]⟩) ++ ws.drop k).flatMap wrBCells) ∧ Below w.heap.size w wr) (fun i _ => ws.length - (intOf i).toNat)
    case atStart => exact ⟨0, by omega, rfl, q02, qc2, qd2, by simpa using hA, by simpa using hD, hb7⟩
    case round =>
      clear q02 qc2 qd2 hA hD hb7
      obtain ⟨k, hk, rfl, q0, qc, qd, hA, hD, hb1⟩ := hrel
      by_cases hlt : k < ws.length
      · obtain ⟨g1, rfl, hg1⟩ := owns_pos hA (by omega)
        obtain ⟨g2, rfl, hg2⟩ := owns_pos hD (by omega)
        have hg12 : g1 ≠ g2 := fun e => hdis.out g1 rfl (by rw [e]; rfl)
        have xc := qc.cell 2
        have xd := qd.cell 2
        simp only [List.getElem?_cons_zero, List.getElem?_cons_succ] at xc xd
        have y1 : wr.cell? ⟨g1, k * 6 + 3, none⟩ = some (.string ws[k].key) := by rw [hA.cellAt (k * 6 + 3) (by omega), upd_at _ _ k hlt 3 (by omega)]; rfl
        have v1 := hA.frozenAt (k * 6 + 3)
        have y2 : wr.cell? ⟨g2, k * 6 + 3, none⟩ = some (.string ws[k].key) := by rw [hD.cellAt (k * 6 + 3) (by omega), upd_at _ _ k hlt 3 (by omega)]; rfl
        have v2 := hD.frozenAt (k * 6 + 3)
        have hA2 := (hA.stored (k * 6 + 3) (.string key)).1
        rw [upd_next (keyB key) ws k hlt 3 (by omega) _ (keyB_cells _ _)] at hA2
        have hD2 := (hD.stored (k * 6 + 3) (.string ⟨#[]⟩)).1
        rw [upd_next (keyB ⟨#[]⟩) ws k hlt 3 (by omega) _ (keyB_cells _ _)] at hD2
        generalize ws[k].key = oldk at *
        have hDs := owns_set hD (p := ⟨g1, k * 6 + 3, none⟩) (fun e => by injection e with e; exact hg12 e.symm) (.string key)
        have y2s := hDs.cellAt (k * 6 + 3) (by omega)
        have v2s := hDs.frozenAt (k * 6 + 3)
        have y2t : (wr.setCell ⟨g1, k * 6 + 3, none⟩ (.string key)).cell? ⟨g2, k * 6 + 3, none⟩ = some (.string oldk) := by rw [y2s, ← hD.cellAt (k * 6 + 3) (by omega)]; exact y2
        have hAf := Lib.hid (owns_set hA2 (p := ⟨g2, k * 6 + 3, none⟩) (fun e => by injection e with e; exact hg12 e) (.string ⟨#[]⟩))
        have hDf := (hDs.stored (k * 6 + 3) (.string ⟨#[]⟩)).1
        rw [upd_next (keyB ⟨#[]⟩) ws k hlt 3 (by omega) _ (keyB_cells _ _)] at hDf
        replace hDf := Lib.hid hDf
        have q0f := Lib.hid ((q0.other (p := ⟨g1, k * 6 + 3, none⟩) (show g1 ≠ w.heap.size by omega) (.string key)).other (p := ⟨g2, k * 6 + 3, none⟩) (show g2 ≠ w.heap.size by omega) (.string ⟨#[]⟩))
        have qcf := Lib.hid ((qc.other (p := ⟨g1, k * 6 + 3, none⟩) (show g1 ≠ gc by omega) (.string key)).other (p := ⟨g2, k * 6 + 3, none⟩) (show g2 ≠ gc by omega) (.string ⟨#[]⟩))
        have qdf := Lib.hid ((qd.other (p := ⟨g1, k * 6 + 3, none⟩) (show g1 ≠ gd by omega) (.string key)).other (p := ⟨g2, k * 6 + 3, none⟩) (show g2 ≠ gd by omega) (.string ⟨#[]⟩))
        have hbf := Lib.hid (hb1.setCell (p := ⟨g1, k * 6 + 3, none⟩) (by show w.heap.size ≤ g1; omega) (.string key) |>.setCell (p := ⟨g2, k * 6 + 3, none⟩) (by show w.heap.size ≤ g2; omega) (.string ⟨#[]⟩))
        have hS0 : KD g1 g2 gc gd (.slice (some ⟨g1, 0, none⟩) ws.length cu1) (.slice (some ⟨g2, 0, none⟩) ws.length cu2) wr wr.drew := ⟨(Only.refl _ _).drew, xc, xd⟩
        have y1d : wr.drew.cell? ⟨g1, k * 6 + 3, none⟩ = some (.string oldk) := y1
        have v1d : wr.drew.frozen? ⟨g1, k * 6 + 3, none⟩ = false := v1
        have y2d : (wr.setCell ⟨g1, k * 6 + 3, none⟩ (.string key)).drew.cell? ⟨g2, k * 6 + 3, none⟩ = some (.string oldk) := y2t
        have v2d : (wr.setCell ⟨g1, k * 6 + 3, none⟩ (.string key)).drew.frozen? ⟨g2, k * 6 + 3, none⟩ = false := v2s
        clear hA hD hA2 hD2 hDs y2s y1 v1 y2 v2 xc xd q0 qc qd hb1
        go_wp2_with fail
        (refine wp_region_held_drew (S := KD g1 g2 gc gd (.slice (some ⟨g1, 0, none⟩) ws.length cu1) (.slice (some ⟨g2, 0, none⟩) ws.length cu2) wr) (by kernel_rfl) ?_ (fun hHeld => ?_); ((try dsimp only); exact hS0))
        clear hS0
        (refine held_take (i := 0) (v := ?_) rfl (by kernel_rfl) (by kernel_rfl) (by kernel_rfl) (fun _ _ _ h => h) (by kernel_rfl) (by assumption) ?_ ?_; rotate_left; (focus (intro w hSw; (try unfold SC at hSw); (try unfold MC at hSw); (try unfold BC at hSw); (try unfold RC at hSw); (try unfold KC at hSw); (try unfold KD at hSw); (try dsimp only at hSw); go_simp; (try with_reducible rfl); done)); (simp only [Act.put, List.setIfInBounds_toArray, List.set_cons_zero, List.set_cons_succ]); refine held_take (i := 1) (v := ?_) rfl (by kernel_rfl) (by kernel_rfl) (by kernel_rfl) (fun _ _ _ h => h) (by kernel_rfl) (by assumption) ?_ ?_; rotate_left; (focus (intro w hSw; (try unfold SC at hSw); (try unfold MC at hSw); (try unfold BC at hSw); (try unfold RC at hSw); (try unfold KC at hSw); (try unfold KD at hSw); (try dsimp only at hSw); go_simp; (try with_reducible rfl); done)); (simp only [Act.put, List.setIfInBounds_toArray, List.set_cons_zero, List.set_cons_succ]); refine held_take (i := 2) (v := ?_) rfl (by kernel_rfl) (by kernel_rfl) (by kernel_rfl) (fun _ _ _ h => h) (by kernel_rfl) (by assumption) ?_ ?_; rotate_left; (focus (intro w hSw; (try unfold SC at hSw); (try unfold MC at hSw); (try unfold BC at hSw); (try unfold RC at hSw); (try unfold KC at hSw); (try unfold KD at hSw); (try dsimp only at hSw); go_simp; (try with_reducible rfl); done)); (simp only [Act.put, List.setIfInBounds_toArray, List.set_cons_zero, List.set_cons_succ]); refine held_take (i := 3) (v := ?_) rfl (by kernel_rfl) (by kernel_rfl) (by kernel_rfl) (fun _ _ _ h => h) (by kernel_rfl) (by assumption) ?_ ?_; rotate_left; (focus (intro w hSw; (try unfold SC at hSw); (try unfold MC at hSw); (try unfold BC at hSw); (try unfold RC at hSw); (try unfold KC at hSw); (try unfold KD at hSw); (try dsimp only at hSw); go_simp; (try with_reducible rfl); done)); (simp only [Act.put, List.setIfInBounds_toArray, List.set_cons_zero, List.set_cons_succ]); refine held_take (i := 4) (v := ?_) rfl (by kernel_rfl) (by kernel_rfl) (by kernel_rfl) (fun _ _ _ h => h) (by kernel_rfl) (by assumption) ?_ ?_; rotate_left; (focus (intro w hSw; (try unfold SC at hSw); (try unfold MC at hSw); (try unfold BC at hSw); (try unfold RC at hSw); (try unfold KC at hSw); (try unfold KD at hSw); (try dsimp only at hSw); go_simp; (try with_reducible rfl); done)); (simp only [Act.put, List.setIfInBounds_toArray, List.set_cons_zero, List.set_cons_succ]); refine held_take (i := 5) (v := ?_) rfl (by kernel_rfl) (by kernel_rfl) (by kernel_rfl) (fun _ _ _ h => h) (by kernel_rfl) (by assumption) ?_ ?_; rotate_left; (focus (intro w hSw; (try unfold SC at hSw); (try unfold MC at hSw); (try unfold BC at hSw); (try unfold RC at hSw); (try unfold KC at hSw); (try unfold KD at hSw); (try dsimp only at hSw); go_simp; (try with_reducible rfl); done)); (simp only [Act.put, List.setIfInBounds_toArray, List.set_cons_zero, List.set_cons_succ]); refine held_take (i := 6) (v := ?_) rfl (by kernel_rfl) (by kernel_rfl) (by kernel_rfl) (fun _ _ _ h => h) (by kernel_rfl) (by assumption) ?_ ?_; rotate_left; (focus (intro w hSw; (try unfold SC at hSw); (try unfold MC at hSw); (try unfold BC at hSw); (try unfold RC at hSw); (try unfold KC at hSw); (try unfold KD at hSw); (try dsimp only at hSw); go_simp; (try with_reducible rfl); done)); (simp only [Act.put, List.setIfInBounds_toArray, List.set_cons_zero, List.set_cons_succ]); refine held_take (i := 7) (v := ?_) rfl (by kernel_rfl) (by kernel_rfl) (by kernel_rfl) (fun _ _ _ h => h) (by kernel_rfl) (by assumption) ?_ ?_; rotate_left; (focus (intro w hSw; (try unfold SC at hSw); (try unfold MC at hSw); (try unfold BC at hSw); (try unfold RC at hSw); (try unfold KC at hSw); (try unfold KD at hSw); (try dsimp only at hSw); go_simp; (try with_reducible rfl); done)); (simp only [Act.put, List.setIfInBounds_toArray, List.set_cons_zero, List.set_cons_succ]); refine held_take (i := 8) (v := ?_) rfl (by kernel_rfl) (by kernel_rfl) (by kernel_rfl) (fun _ _ _ h => h) (by kernel_rfl) (by assumption) ?_ ?_; rotate_left; (focus (intro w hSw; (try unfold SC at hSw); (try unfold MC at hSw); (try unfold BC at hSw); (try unfold RC at hSw); (try unfold KC at hSw); (try unfold KD at hSw); (try dsimp only at hSw); go_simp; (try with_reducible rfl); done)); (simp only [Act.put, List.setIfInBounds_toArray, List.set_cons_zero, List.set_cons_succ]))
        (refine wpAnyH_ready (P := Tryd.prog) (md := .any) (rs := [9]) (by kernel_rfl) (by simp) ?_; refine held_cons rfl (by kernel_rfl) (fun K hK => ?_) AllReadyH.nil; (go_simp; refine hK.out _ _ ?_ (fun hHeld => ?_); ((try dsimp only); exact KD.set hHeld (.inl rfl) (show g1 ≠ gc by omega) (show g1 ≠ gd by omega) _); clear hK K; (try clear hHeld0); (try rename_i hHeld0)))
        (refine held_take (i := 10) (v := ?_) rfl (by kernel_rfl) (by kernel_rfl) (by kernel_rfl) (fun _ _ _ h => h) (by kernel_rfl) (by assumption) ?_ ?_; rotate_left; (focus (intro w hSw; (try unfold SC at hSw); (try unfold MC at hSw); (try unfold BC at hSw); (try unfold RC at hSw); (try unfold KC at hSw); (try unfold KD at hSw); (try dsimp only at hSw); go_simp; (try with_reducible rfl); done)); (simp only [Act.put, List.setIfInBounds_toArray, List.set_cons_zero, List.set_cons_succ]); refine held_take (i := 11) (v := ?_) rfl (by kernel_rfl) (by kernel_rfl) (by kernel_rfl) (fun _ _ _ h => h) (by kernel_rfl) (by assumption) ?_ ?_; rotate_left; (focus (intro w hSw; (try unfold SC at hSw); (try unfold MC at hSw); (try unfold BC at hSw); (try unfold RC at hSw); (try unfold KC at hSw); (try unfold KD at hSw); (try dsimp only at hSw); go_simp; (try with_reducible rfl); done)); (simp only [Act.put, List.setIfInBounds_toArray, List.set_cons_zero, List.set_cons_succ]))
        (refine wpAnyH_ready (P := Tryd.prog) (md := .any) (rs := [12]) (by kernel_rfl) (by simp) ?_; refine held_cons rfl (by kernel_rfl) (fun K hK => ?_) AllReadyH.nil; (go_simp; refine hK.out _ _ ?_ (fun hHeld => ?_); ((try dsimp only); exact KD.set hHeld (.inr rfl) (show g2 ≠ gc by omega) (show g2 ≠ gd by omega) _); clear hK K; (try clear hHeld0); (try rename_i hHeld0)))
        (refine wpAnyH_done (by kernel_rfl) ?_ _)
        clear hHeld hHeld0 y1d v1d y2d v2d
        go_wp2
        go_roundw
        case rel => exact ⟨k + 1, by omega, by go_num, q0f.out, qcf.out, qdf.out, hAf.out, hDf.out, hbf.out.drew⟩
        case measure => simp [intOf]; omega
      · obtain rfl : k = ws.length := by omega
        rw [upd_all] at hA hD
        have hv1 : WrsIs wr (.slice ou1 ws.length cu1) (ws.map (keyB key)) := ListIs.of_owns (by rw [List.length_map]; exact hA)
        have hv2 : WrsIs wr (.slice ou2 ws.length cu2) (ws.map (keyB ⟨#[]⟩)) := ListIs.of_owns (by rw [List.length_map]; exact hD)
        have hW1 := Lib.hid (hWd.out key _ wr hb1 hv1)
        clear hA hD hv1
        (have c0 := qc.cell 0; have c1 := qc.cell 1; have c2 := qc.cell 2; simp only [List.set_cons_succ, List.set_cons_zero, List.getElem?_cons_zero, List.getElem?_cons_succ] at c0 c1 c2)
        go_wp2_with fail
        refine hW1.out.mono ?_
        rintro _ w8 ⟨⟨s1, E1, rfl, hE1⟩, hb2⟩
        replace qd := qd.below hb2
        replace q0 := q0.below hb2
        replace hb1 := bch hb1 hb2
        have hW2 := Lib.hid (hWd.out ⟨#[]⟩ _ w8 hb1 (hv2.below hb2))
        clear c0 c1 c2 hW1 hv2 hb2 qc
        replace hE1 := Lib.hid hE1
        (have c0 := qd.cell 0; have c1 := qd.cell 1; have c2 := qd.cell 2; simp only [List.set_cons_succ, List.set_cons_zero, List.getElem?_cons_zero, List.getElem?_cons_succ] at c0 c1 c2)
        go_wp2_with fail
        refine hW2.out.mono ?_
        rintro _ w9 ⟨⟨s2, E2, rfl, hE2⟩, hb2⟩
        replace q0 := q0.below hb2
        replace hb1 := bch hb1 hb2
        clear c0 c1 c2 hW2 hb2 qd
        replace hE2 := Lib.hid hE2
        rcases hE1.out with ⟨rfl, hs1, hl1⟩ | ⟨t1, x1, rfl⟩
        · rcases hE2.out with ⟨rfl, hs2, hl2⟩ | ⟨t2, x2, rfl⟩
          · have c2 := q0.cell 2
            simp only [List.getElem?_cons_zero, List.getElem?_cons_succ] at c2
            by_cases hne : ws = []
            · have hee := hfin0.out hne
              have hss : s1 = s2 := by rw [hs1, hs2, hee]
              have hl0 : ((ws.length : Int) == 0) = true := by rw [hne]; rfl
              subst hss
              clear hs1 hs2 hl1 hl2 hee hE1 hE2
              replace hne := Lib.hid hne
              go_wp2
              go_ret
              exact ⟨ret_bool (by simp), hb1⟩
            · have hll := hfin.out hne
              have hz1 : s1.size = s2.size + key.size := by rw [hs1, hs2, ba_size, ba_size]; exact hll
              have hz2 : s2.size ≤ 20000 := by rw [hs2, ba_size]; exact hl2
              have hl0 : ((ws.length : Int) == 0) = false := by
                have : 0 < ws.length := List.length_pos_iff.2 hne
                simp; omega
              have hz3 : ((s1.size : Int) == (s2.size : Int) + (key.size : Int)) = true := by rw [hz1]; simp
              replace hz1 := Lib.hid hz1
              replace hne := Lib.hid hne
              clear hs1 hs2 hl1 hl2 hll hE1 hE2
              go_wp2
              go_ret
              exact ⟨rfl, hb1⟩
          · clear hE1 hE2 hs1 hl1
            go_wp2
            go_ret
            exact ⟨rfl, hb1⟩
        · clear hE1
          go_wp2
          go_ret
          exact ⟨rfl, hb1⟩
  · have qa := (row_at #[.slice o1 f.length m1, .slice o2 h.length m2, .slice o3 ws.length m3] 25 (rfl : w4.heap.size = w4.heap.size)).alloc (Obj.cells #[.slice o1 f.length m1, .slice o2 h.length m2, .slice o3 ws.length m3] 25)
    have qz := row_at (w := w4.alloc (Obj.cells #[.slice o1 f.length m1, .slice o2 h.length m2, .slice o3 ws.length m3] 25)) (g := w4.heap.size + 1) #[.slice o1 f.length m1, .slice o2 h.length m2, .slice o3 ws.length m3] 25 (by simp)
    have hb5 : Below w.heap.size w ((w4.alloc (Obj.cells #[.slice o1 f.length m1, .slice o2 h.length m2, .slice o3 ws.length m3] 25)).alloc (Obj.cells #[.slice o1 f.length m1, .slice o2 h.length m2, .slice o3 ws.length m3] 25)).drew := bdr (bal (bal hb1 _) _)
    have q05 := ((q0.out.alloc (Obj.cells #[.slice o1 f.length m1, .slice o2 h.length m2, .slice o3 ws.length m3] 25)).alloc (Obj.cells #[.slice o1 f.length m1, .slice o2 h.length m2, .slice o3 ws.length m3] 25)).drew
    have hsz : ((w4.alloc (Obj.cells #[.slice o1 f.length m1, .slice o2 h.length m2, .slice o3 ws.length m3] 25)).alloc (Obj.cells #[.slice o1 f.length m1, .slice o2 h.length m2, .slice o3 ws.length m3] 25)).drew.heap.size = w4.heap.size + 1 + 1 := by simp [World.drew]
    replace qa := qa.drew
    replace qz := qz.drew
    obtain ⟨gc, hgc⟩ : ∃ g, g = w4.heap.size + 1 := ⟨_, rfl⟩
    rw [← hgc] at qz hsz ⊢
    obtain ⟨gd, hgd⟩ : ∃ g, g = w4.heap.size := ⟨_, rfl⟩
    rw [← hgd] at qa ⊢
    generalize ((w4.alloc (Obj.cells #[.slice o1 f.length m1, .slice o2 h.length m2, .slice o3 ws.length m3] 25)).alloc (Obj.cells #[.slice o1 f.length m1, .slice o2 h.length m2, .slice o3 ws.length m3] 25)).drew = w5 at *
    have hgc0 : w.heap.size < gc := by omega
    have hgd0 : w.heap.size < gd := by omega
    have hcd : gc ≠ gd := by omega
    have hgc5 : gc < w5.heap.size := by omega
    have hgd5 : gd < w5.heap.size := by omega
    replace hgc := Lib.hid hgc
    replace hgd := Lib.hid hgd
    replace hsz := Lib.hid hsz
    clear q0 hb1 c0 c1 c2 hs0
    have qd := qa
    have qc := qz
    clear qa qz
    have e2 := q05.cell 2
    simp only [List.getElem?_cons_zero, List.getElem?_cons_succ] at e2
    have hCl5 := Lib.hid (fun W (hW : Below w5.heap.size w5 W) => hCl.out W (bch hb5 hW))
    go_wp2_with fail
    have e2d : w5.drew.cell? ⟨w.heap.size, 2, none⟩ = some (.slice o3 ws.length m3) := e2
    have hS0 : KC gc gd w.heap.size (.slice o3 ws.length m3) w5 w5.drew := ⟨(Only.refl _ _).drew, e2d⟩
    clear e2
    (refine wp_region_held_drew (S := KC gc gd w.heap.size (.slice o3 ws.length m3) w5) (by kernel_rfl) ?_ (fun hHeld => ?_); ((try dsimp only); exact hS0))
    (refine held_take (i := 0) (v := ?_) rfl (by kernel_rfl) (by kernel_rfl) (by kernel_rfl) (fun _ _ _ h => h) (by kernel_rfl) (by assumption) ?_ ?_; rotate_left; (focus (intro w hSw; (try unfold SC at hSw); (try unfold MC at hSw); (try unfold BC at hSw); (try unfold RC at hSw); (try unfold KC at hSw); (try unfold KD at hSw); (try dsimp only at hSw); go_simp; (try with_reducible rfl); done)); (simp only [Act.put, List.setIfInBounds_toArray, List.set_cons_zero, List.set_cons_succ]); refine held_take (i := 1) (v := ?_) rfl (by kernel_rfl) (by kernel_rfl) (by kernel_rfl) (fun _ _ _ h => h) (by kernel_rfl) (by assumption) ?_ ?_; rotate_left; (focus (intro w hSw; (try unfold SC at hSw); (try unfold MC at hSw); (try unfold BC at hSw); (try unfold RC at hSw); (try unfold KC at hSw); (try unfold KD at hSw); (try dsimp only at hSw); go_simp; (try with_reducible rfl); done)); (simp only [Act.put, List.setIfInBounds_toArray, List.set_cons_zero, List.set_cons_succ]); refine held_take (i := 3) (v := ?_) rfl (by kernel_rfl) (by kernel_rfl) (by kernel_rfl) (fun _ _ _ h => h) (by kernel_rfl) (by assumption) ?_ ?_; rotate_left; (focus (intro w hSw; (try unfold SC at hSw); (try unfold MC at hSw); (try unfold BC at hSw); (try unfold RC at hSw); (try unfold KC at hSw); (try unfold KD at hSw); (try dsimp only at hSw); go_simp; (try with_reducible rfl); done)); (simp only [Act.put, List.setIfInBounds_toArray, List.set_cons_zero, List.set_cons_succ]); refine held_take (i := 4) (v := ?_) rfl (by kernel_rfl) (by kernel_rfl) (by kernel_rfl) (fun _ _ _ h => h) (by kernel_rfl) (by assumption) ?_ ?_; rotate_left; (focus (intro w hSw; (try unfold SC at hSw); (try unfold MC at hSw); (try unfold BC at hSw); (try unfold RC at hSw); (try unfold KC at hSw); (try unfold KD at hSw); (try dsimp only at hSw); go_simp; (try with_reducible rfl); done)); (simp only [Act.put, List.setIfInBounds_toArray, List.set_cons_zero, List.set_cons_succ]))
    (refine wpAnyH_ready (P := Tryd.prog) (md := .any) (rs := [2]) (by kernel_rfl) (by simp) ?_; refine held_cons rfl (by kernel_rfl) (fun K hK => ?_) AllReadyH.nil; ((go_simp; refine (hCl5.out _ (bdr (Below.refl _ _))).mono ?_; rintro _ wn ⟨⟨u1, rfl, hown1⟩, hbn⟩); refine hK.out _ _ ?_ (fun hHeld => ?_); ((try dsimp only); exact KC.below hHeld hbn); clear hK K; (try clear hHeld0); (try rename_i hHeld0)))
    have hbn1 : Below w5.heap.size w5 wn := bch (bdr (Below.refl _ _)) hbn
    have hbase1 : w5.drew.heap.size = w5.heap.size := rfl
    rw [hbase1] at hown1
    clear hbn hbase1
    (refine held_take (i := 6) (v := ?_) rfl (by kernel_rfl) (by kernel_rfl) (by kernel_rfl) (fun _ _ _ h => h) (by kernel_rfl) (by assumption) ?_ ?_; rotate_left; (focus (intro w hSw; (try unfold SC at hSw); (try unfold MC at hSw); (try unfold BC at hSw); (try unfold RC at hSw); (try unfold KC at hSw); (try unfold KD at hSw); (try dsimp only at hSw); go_simp; (try with_reducible rfl); done)); (simp only [Act.put, List.setIfInBounds_toArray, List.set_cons_zero, List.set_cons_succ]))
    (refine wpAnyH_ready (P := Tryd.prog) (md := .any) (rs := [5]) (by kernel_rfl) (by simp) ?_; refine held_cons rfl (by kernel_rfl) (fun K hK => ?_) AllReadyH.nil; ((go_simp; refine (hCl5.out _ hbn1).mono ?_; rintro _ wm ⟨⟨u2, rfl, hown2⟩, hbm⟩); refine hK.out _ _ ?_ (fun hHeld => ?_); ((try dsimp only); exact KC.below hHeld hbm); clear hK K; (try clear hHeld0); (try rename_i hHeld0)))
    have hs1 := hbn1.size
    have hs2 := hbm.size
    have hlt1 := owns_lt hown1
    replace hown1 := owns_below hown1 hbm
    have hbm2 := bch hbn1 hbm
    obtain ⟨ou1, cu1, rfl⟩ := owns_slice hown1
    obtain ⟨ou2, cu2, rfl⟩ := owns_slice hown2
    have hdis : ∀ k, (Value.slice ou1 ws.length cu1).ownBlock = some k → (Value.slice ou2 ws.length cu2).ownBlock ≠ some k := fun k hk e => hlt1 k (owns_fresh hown2 k e) hk
    replace hdis := Lib.hid hdis
    replace hown2 : wm.ownsRow w5.heap.size 45 6 (.slice ou2 ws.length cu2) ws.length (ws.flatMap wrBCells) := owns_base hown2 hs1
    have qc := qc.below hbm2
    have qd := qd.below hbm2
    have q0 := q05.below hbm2
    clear hlt1 hbm hbn1 q05
    have xc := qc.cell 2
    have zc := qc.frozen 2 (by simp)
    have xd := qd.cell 2
    have zd := qd.frozen 2 (by simp)
    simp only [List.getElem?_cons_zero, List.getElem?_cons_succ] at xc xd
    have qd1 := qd.other (p := ⟨gc, 2, none⟩) hcd (.slice ou1 ws.length cu1)
    have xd1 := qd1.cell 2
    have zd1 := qd1.frozen 2 (by simp)
    simp only [List.getElem?_cons_zero, List.getElem?_cons_succ] at xd1
    (refine wpAnyH_ready (P := Tryd.prog) (md := .any) (rs := [7]) (by kernel_rfl) (by simp) ?_; refine held_cons rfl (by kernel_rfl) (fun K hK => ?_) AllReadyH.nil; (go_simp; refine hK.out _ _ ?_ (fun hHeld => ?_); ((try dsimp only); exact KC.set hHeld (.inl rfl) (show gc ≠ w.heap.size by omega) _); clear hK K; (try clear hHeld0); (try rename_i hHeld0)))
    (refine held_take (i := 8) (v := ?_) rfl (by kernel_rfl) (by kernel_rfl) (by kernel_rfl) (fun _ _ _ h => h) (by kernel_rfl) (by assumption) ?_ ?_; rotate_left; (focus (intro w hSw; (try unfold SC at hSw); (try unfold MC at hSw); (try unfold BC at hSw); (try unfold RC at hSw); (try unfold KC at hSw); (try unfold KD at hSw); (try dsimp only at hSw); go_simp; (try with_reducible rfl); done)); (simp only [Act.put, List.setIfInBounds_toArray, List.set_cons_zero, List.set_cons_succ]))
    (refine wpAnyH_ready (P := Tryd.prog) (md := .any) (rs := [9]) (by kernel_rfl) (by simp) ?_; refine held_cons rfl (by kernel_rfl) (fun K hK => ?_) AllReadyH.nil; (go_simp; refine hK.out _ _ ?_ (fun hHeld => ?_); ((try dsimp only); exact KC.set hHeld (.inr rfl) (show gd ≠ w.heap.size by omega) _); clear hK K; (try clear hHeld0); (try rename_i hHeld0)))
    (refine wpAnyH_done (by kernel_rfl) ?_ _)
    have hOk : Only (fun j => j = gc ∨ j = gd) w5 ((wm.setCell ⟨gc, 2, none⟩ (.slice ou1 ws.length cu1)).setCell ⟨gd, 2, none⟩ (.slice ou2 ws.length cu2)) := hHeld.1
    have qc2 : Row ((wm.setCell ⟨gc, 2, none⟩ (.slice ou1 ws.length cu1)).setCell ⟨gd, 2, none⟩ (.slice ou2 ws.length cu2)) gc 25 [.slice o1 f.length m1, .slice o2 h.length m2, .slice ou1 ws.length cu1] := (qc.set 2 _).other (p := ⟨gd, 2, none⟩) (fun e => hcd e.symm) _
    have qd2 : Row ((wm.setCell ⟨gc, 2, none⟩ (.slice ou1 ws.length cu1)).setCell ⟨gd, 2, none⟩ (.slice ou2 ws.length cu2)) gd 25 [.slice o1 f.length m1, .slice o2 h.length m2, .slice ou2 ws.length cu2] := qd1.set 2 _
    have q02 := (q0.other (p := ⟨gc, 2, none⟩) (show gc ≠ w.heap.size by omega) (.slice ou1 ws.length cu1)).other (p := ⟨gd, 2, none⟩) (show gd ≠ w.heap.size by omega) (.slice ou2 ws.length cu2)
    have hA := ownsRow_setCell_below (ownsRow_setCell_below hown1 (a := ⟨gc, 2, none⟩) hgc5 (.slice ou1 ws.length cu1)) (a := ⟨gd, 2, none⟩) hgd5 (.slice ou2 ws.length cu2)
    have hD := ownsRow_setCell_below (ownsRow_setCell_below hown2 (a := ⟨gc, 2, none⟩) hgc5 (.slice ou1 ws.length cu1)) (a := ⟨gd, 2, none⟩) hgd5 (.slice ou2 ws.length cu2)
    have hb7 := hb5.trans (hOk.below (fun k hk => by omega) hb5.size)
    generalize (wm.setCell ⟨gc, 2, none⟩ (.slice ou1 ws.length cu1)).setCell ⟨gd, 2, none⟩ (.slice ou2 ws.length cu2) = w7 at *
    clear hHeld hHeld0 qc qd q0 hown1 hown2 xc zc xd zd qd1 xd1 zd1 hOk hCl5 hb5 hbm2
    have xc := qc2.cell 2
    simp only [List.getElem?_cons_zero, List.getElem?_cons_succ] at xc
    have hwb : w.heap.size < w5.heap.size := by omega
    go_wp2_with fail
    clear xc
    go_loopw [35] (fun i wr => ∃ k : Nat, k ≤ ws.length ∧ i = .int .i64 k ∧ Row wr w.heap.size 25 [.slice o1 f.length m1, .slice o2 h.length m2, .slice o3 ws.length m3] ∧ Row wr gc 25 [.slice o1 f.length m1, .slice o2 h.length m2, .slice ou1 ws.length cu1] ∧ Row wr gd 25 [.slice o1 f.length m1, .slice o2 h.length m2, .slice ou2 ws.length cu2] ∧
      wr.ownsRow w5.heap.size 45 6 (.slice ou1 ws.length cu1) ws.length (((ws.take k).map (keyB key) ++ ws.drop k).flatMap wrBCells) ∧ wr.ownsRow w5.heap.size 45 6 (.slice ou2 ws.length cu2) ws.length (((ws.take k).map (keyB ⟨#[]⟩) ++ ws.drop k).flatMap wrBCells) ∧ Below w.heap.size w wr) (fun i _ => ws.length - (intOf i).toNat)
    case atStart => exact ⟨0, by omega, rfl, q02, qc2, qd2, by simpa using hA, by simpa using hD, hb7⟩
    case round =>
      clear q02 qc2 qd2 hA hD hb7
      obtain ⟨k, hk, rfl, q0, qc, qd, hA, hD, hb1⟩ := hrel
      by_cases hlt : k < ws.length
      · obtain ⟨g1, rfl, hg1⟩ := owns_pos hA (by omega)
        obtain ⟨g2, rfl, hg2⟩ := owns_pos hD (by omega)
        have hg12 : g1 ≠ g2 := fun e => hdis.out g1 rfl (by rw [e]; rfl)
        have xc := qc.cell 2
        have xd := qd.cell 2
        simp only [List.getElem?_cons_zero, List.getElem?_cons_succ] at xc xd
        have y1 : wr.cell? ⟨g1, k * 6 + 3, none⟩ = some (.string ws[k].key) := by rw [hA.cellAt (k * 6 + 3) (by omega), upd_at _ _ k hlt 3 (by omega)]; rfl
        have v1 := hA.frozenAt (k * 6 + 3)
        have y2 : wr.cell? ⟨g2, k * 6 + 3, none⟩ = some (.string ws[k].key) := by rw [hD.cellAt (k * 6 + 3) (by omega), upd_at _ _ k hlt 3 (by omega)]; rfl
        have v2 := hD.frozenAt (k * 6 + 3)
        have hA2 := (hA.stored (k * 6 + 3) (.string key)).1
        rw [upd_next (keyB key) ws k hlt 3 (by omega) _ (keyB_cells _ _)] at hA2
        have hD2 := (hD.stored (k * 6 + 3) (.string ⟨#[]⟩)).1
        rw [upd_next (keyB ⟨#[]⟩) ws k hlt 3 (by omega) _ (keyB_cells _ _)] at hD2
        generalize ws[k].key = oldk at *
        have hDs := owns_set hD (p := ⟨g1, k * 6 + 3, none⟩) (fun e => by injection e with e; exact hg12 e.symm) (.string key)
        have y2s := hDs.cellAt (k * 6 + 3) (by omega)
        have v2s := hDs.frozenAt (k * 6 + 3)
        have y2t : (wr.setCell ⟨g1, k * 6 + 3, none⟩ (.string key)).cell? ⟨g2, k * 6 + 3, none⟩ = some (.string oldk) := by rw [y2s, ← hD.cellAt (k * 6 + 3) (by omega)]; exact y2
        have hAf := Lib.hid (owns_set hA2 (p := ⟨g2, k * 6 + 3, none⟩) (fun e => by injection e with e; exact hg12 e) (.string ⟨#[]⟩))
        have hDf := (hDs.stored (k * 6 + 3) (.string ⟨#[]⟩)).1
        rw [upd_next (keyB ⟨#[]⟩) ws k hlt 3 (by omega) _ (keyB_cells _ _)] at hDf
        replace hDf := Lib.hid hDf
        have q0f := Lib.hid ((q0.other (p := ⟨g1, k * 6 + 3, none⟩) (show g1 ≠ w.heap.size by omega) (.string key)).other (p := ⟨g2, k * 6 + 3, none⟩) (show g2 ≠ w.heap.size by omega) (.string ⟨#[]⟩))
        have qcf := Lib.hid ((qc.other (p := ⟨g1, k * 6 + 3, none⟩) (show g1 ≠ gc by omega) (.string key)).other (p := ⟨g2, k * 6 + 3, none⟩) (show g2 ≠ gc by omega) (.string ⟨#[]⟩))
        have qdf := Lib.hid ((qd.other (p := ⟨g1, k * 6 + 3, none⟩) (show g1 ≠ gd by omega) (.string key)).other (p := ⟨g2, k * 6 + 3, none⟩) (show g2 ≠ gd by omega) (.string ⟨#[]⟩))
        have hbf := Lib.hid (hb1.setCell (p := ⟨g1, k * 6 + 3, none⟩) (by show w.heap.size ≤ g1; omega) (.string key) |>.setCell (p := ⟨g2, k * 6 + 3, none⟩) (by show w.heap.size ≤ g2; omega) (.string ⟨#[]⟩))
        have hS0 : KD g1 g2 gc gd (.slice (some ⟨g1, 0, none⟩) ws.length cu1) (.slice (some ⟨g2, 0, none⟩) ws.length cu2) wr wr.drew := ⟨(Only.refl _ _).drew, xc, xd⟩
        have y1d : wr.drew.cell? ⟨g1, k * 6 + 3, none⟩ = some (.string oldk) := y1
        have v1d : wr.drew.frozen? ⟨g1, k * 6 + 3, none⟩ = false := v1
        have y2d : (wr.setCell ⟨g1, k * 6 + 3, none⟩ (.string key)).drew.cell? ⟨g2, k * 6 + 3, none⟩ = some (.string oldk) := y2t
        have v2d : (wr.setCell ⟨g1, k * 6 + 3, none⟩ (.string key)).drew.frozen? ⟨g2, k * 6 + 3, none⟩ = false := v2s
        clear hA hD hA2 hD2 hDs y2s y1 v1 y2 v2 xc xd q0 qc qd hb1
        go_wp2_with fail
        (refine wp_region_held_drew (S := KD g1 g2 gc gd (.slice (some ⟨g1, 0, none⟩) ws.length cu1) (.slice (some ⟨g2, 0, none⟩) ws.length cu2) wr) (by kernel_rfl) ?_ (fun hHeld => ?_); ((try dsimp only); exact hS0))
        clear hS0
        (refine held_take (i := 0) (v := ?_) rfl (by kernel_rfl) (by kernel_rfl) (by kernel_rfl) (fun _ _ _ h => h) (by kernel_rfl) (by assumption) ?_ ?_; rotate_left; (focus (intro w hSw; (try unfold SC at hSw); (try unfold MC at hSw); (try unfold BC at hSw); (try unfold RC at hSw); (try unfold KC at hSw); (try unfold KD at hSw); (try dsimp only at hSw); go_simp; (try with_reducible rfl); done)); (simp only [Act.put, List.setIfInBounds_toArray, List.set_cons_zero, List.set_cons_succ]); refine held_take (i := 1) (v := ?_) rfl (by kernel_rfl) (by kernel_rfl) (by kernel_rfl) (fun _ _ _ h => h) (by kernel_rfl) (by assumption) ?_ ?_; rotate_left; (focus (intro w hSw; (try unfold SC at hSw); (try unfold MC at hSw); (try unfold BC at hSw); (try unfold RC at hSw); (try unfold KC at hSw); (try unfold KD at hSw); (try dsimp only at hSw); go_simp; (try with_reducible rfl); done)); (simp only [Act.put, List.setIfInBounds_toArray, List.set_cons_zero, List.set_cons_succ]); refine held_take (i := 2) (v := ?_) rfl (by kernel_rfl) (by kernel_rfl) (by kernel_rfl) (fun _ _ _ h => h) (by kernel_rfl) (by assumption) ?_ ?_; rotate_left; (focus (intro w hSw; (try unfold SC at hSw); (try unfold MC at hSw); (try unfold BC at hSw); (try unfold RC at hSw); (try unfold KC at hSw); (try unfold KD at hSw); (try dsimp only at hSw); go_simp; (try with_reducible rfl); done)); (simp only [Act.put, List.setIfInBounds_toArray, List.set_cons_zero, List.set_cons_succ]); refine held_take (i := 3) (v := ?_) rfl (by kernel_rfl) (by kernel_rfl) (by kernel_rfl) (fun _ _ _ h => h) (by kernel_rfl) (by assumption) ?_ ?_; rotate_left; (focus (intro w hSw; (try unfold SC at hSw); (try unfold MC at hSw); (try unfold BC at hSw); (try unfold RC at hSw); (try unfold KC at hSw); (try unfold KD at hSw); (try dsimp only at hSw); go_simp; (try with_reducible rfl); done)); (simp only [Act.put, List.setIfInBounds_toArray, List.set_cons_zero, List.set_cons_succ]); refine held_take (i := 4) (v := ?_) rfl (by kernel_rfl) (by kernel_rfl) (by kernel_rfl) (fun _ _ _ h => h) (by kernel_rfl) (by assumption) ?_ ?_; rotate_left; (focus (intro w hSw; (try unfold SC at hSw); (try unfold MC at hSw); (try unfold BC at hSw); (try unfold RC at hSw); (try unfold KC at hSw); (try unfold KD at hSw); (try dsimp only at hSw); go_simp; (try with_reducible rfl); done)); (simp only [Act.put, List.setIfInBounds_toArray, List.set_cons_zero, List.set_cons_succ]); refine held_take (i := 5) (v := ?_) rfl (by kernel_rfl) (by kernel_rfl) (by kernel_rfl) (fun _ _ _ h => h) (by kernel_rfl) (by assumption) ?_ ?_; rotate_left; (focus (intro w hSw; (try unfold SC at hSw); (try unfold MC at hSw); (try unfold BC at hSw); (try unfold RC at hSw); (try unfold KC at hSw); (try unfold KD at hSw); (try dsimp only at hSw); go_simp; (try with_reducible rfl); done)); (simp only [Act.put, List.setIfInBounds_toArray, List.set_cons_zero, List.set_cons_succ]); refine held_take (i := 6) (v := ?_) rfl (by kernel_rfl) (by kernel_rfl) (by kernel_rfl) (fun _ _ _ h => h) (by kernel_rfl) (by assumption) ?_ ?_; rotate_left; (focus (intro w hSw; (try unfold SC at hSw); (try unfold MC at hSw); (try unfold BC at hSw); (try unfold RC at hSw); (try unfold KC at hSw); (try unfold KD at hSw); (try dsimp only at hSw); go_simp; (try with_reducible rfl); done)); (simp only [Act.put, List.setIfInBounds_toArray, List.set_cons_zero, List.set_cons_succ]); refine held_take (i := 7) (v := ?_) rfl (by kernel_rfl) (by kernel_rfl) (by kernel_rfl) (fun _ _ _ h => h) (by kernel_rfl) (by assumption) ?_ ?_; rotate_left; (focus (intro w hSw; (try unfold SC at hSw); (try unfold MC at hSw); (try unfold BC at hSw); (try unfold RC at hSw); (try unfold KC at hSw); (try unfold KD at hSw); (try dsimp only at hSw); go_simp; (try with_reducible rfl); done)); (simp only [Act.put, List.setIfInBounds_toArray, List.set_cons_zero, List.set_cons_succ]); refine held_take (i := 8) (v := ?_) rfl (by kernel_rfl) (by kernel_rfl) (by kernel_rfl) (fun _ _ _ h => h) (by kernel_rfl) (by assumption) ?_ ?_; rotate_left; (focus (intro w hSw; (try unfold SC at hSw); (try unfold MC at hSw); (try unfold BC at hSw); (try unfold RC at hSw); (try unfold KC at hSw); (try unfold KD at hSw); (try dsimp only at hSw); go_simp; (try with_reducible rfl); done)); (simp only [Act.put, List.setIfInBounds_toArray, List.set_cons_zero, List.set_cons_succ]))
        (refine wpAnyH_ready (P := Tryd.prog) (md := .any) (rs := [9]) (by kernel_rfl) (by simp) ?_; refine held_cons rfl (by kernel_rfl) (fun K hK => ?_) AllReadyH.nil; (go_simp; refine hK.out _ _ ?_ (fun hHeld => ?_); ((try dsimp only); exact KD.set hHeld (.inl rfl) (show g1 ≠ gc by omega) (show g1 ≠ gd by omega) _); clear hK K; (try clear hHeld0); (try rename_i hHeld0)))
        (refine held_take (i := 10) (v := ?_) rfl (by kernel_rfl) (by kernel_rfl) (by kernel_rfl) (fun _ _ _ h => h) (by kernel_rfl) (by assumption) ?_ ?_; rotate_left; (focus (intro w hSw; (try unfold SC at hSw); (try unfold MC at hSw); (try unfold BC at hSw); (try unfold RC at hSw); (try unfold KC at hSw); (try unfold KD at hSw); (try dsimp only at hSw); go_simp; (try with_reducible rfl); done)); (simp only [Act.put, List.setIfInBounds_toArray, List.set_cons_zero, List.set_cons_succ]); refine held_take (i := 11) (v := ?_) rfl (by kernel_rfl) (by kernel_rfl) (by kernel_rfl) (fun _ _ _ h => h) (by kernel_rfl) (by assumption) ?_ ?_; rotate_left; (focus (intro w hSw; (try unfold SC at hSw); (try unfold MC at hSw); (try unfold BC at hSw); (try unfold RC at hSw); (try unfold KC at hSw); (try unfold KD at hSw); (try dsimp only at hSw); go_simp; (try with_reducible rfl); done)); (simp only [Act.put, List.setIfInBounds_toArray, List.set_cons_zero, List.set_cons_succ]))
        (refine wpAnyH_ready (P := Tryd.prog) (md := .any) (rs := [12]) (by kernel_rfl) (by simp) ?_; refine held_cons rfl (by kernel_rfl) (fun K hK => ?_) AllReadyH.nil; (go_simp; refine hK.out _ _ ?_ (fun hHeld => ?_); ((try dsimp only); exact KD.set hHeld (.inr rfl) (show g2 ≠ gc by omega) (show g2 ≠ gd by omega) _); clear hK K; (try clear hHeld0); (try rename_i hHeld0)))
        (refine wpAnyH_done (by kernel_rfl) ?_ _)
        clear hHeld hHeld0 y1d v1d y2d v2d
        go_wp2
        go_roundw
        case rel => exact ⟨k + 1, by omega, by go_num, q0f.out, qcf.out, qdf.out, hAf.out, hDf.out, hbf.out.drew⟩
        case measure => simp [intOf]; omega
      · obtain rfl : k = ws.length := by omega
        rw [upd_all] at hA hD
        have hv1 : WrsIs wr (.slice ou1 ws.length cu1) (ws.map (keyB key)) := ListIs.of_owns (by rw [List.length_map]; exact hA)
        have hv2 : WrsIs wr (.slice ou2 ws.length cu2) (ws.map (keyB ⟨#[]⟩)) := ListIs.of_owns (by rw [List.length_map]; exact hD)
        have hW1 := Lib.hid (hWd.out key _ wr hb1 hv1)
        clear hA hD hv1
        (have c0 := qc.cell 0; have c1 := qc.cell 1; have c2 := qc.cell 2; simp only [List.set_cons_succ, List.set_cons_zero, List.getElem?_cons_zero, List.getElem?_cons_succ] at c0 c1 c2)
        go_wp2_with fail
        refine hW1.out.mono ?_
        rintro _ w8 ⟨⟨s1, E1, rfl, hE1⟩, hb2⟩
        replace qd := qd.below hb2
        replace q0 := q0.below hb2
        replace hb1 := bch hb1 hb2
        have hW2 := Lib.hid (hWd.out ⟨#[]⟩ _ w8 hb1 (hv2.below hb2))
        clear c0 c1 c2 hW1 hv2 hb2 qc
        replace hE1 := Lib.hid hE1
        (have c0 := qd.cell 0; have c1 := qd.cell 1; have c2 := qd.cell 2; simp only [List.set_cons_succ, List.set_cons_zero, List.getElem?_cons_zero, List.getElem?_cons_succ] at c0 c1 c2)
        go_wp2_with fail
        refine hW2.out.mono ?_
        rintro _ w9 ⟨⟨s2, E2, rfl, hE2⟩, hb2⟩
        replace q0 := q0.below hb2
        replace hb1 := bch hb1 hb2
        clear c0 c1 c2 hW2 hb2 qd
        replace hE2 := Lib.hid hE2
        rcases hE1.out with ⟨rfl, hs1, hl1⟩ | ⟨t1, x1, rfl⟩
        · rcases hE2.out with ⟨rfl, hs2, hl2⟩ | ⟨t2, x2, rfl⟩
          · have c2 := q0.cell 2
            simp only [List.getElem?_cons_zero, List.getElem?_cons_succ] at c2
            by_cases hne : ws = []
            · have hee := hfin0.out hne
              have hss : s1 = s2 := by rw [hs1, hs2, hee]
              have hl0 : ((ws.length : Int) == 0) = true := by rw [hne]; rfl
              subst hss
              clear hs1 hs2 hl1 hl2 hee hE1 hE2
              replace hne := Lib.hid hne
              go_wp2
              go_ret
              exact ⟨ret_bool (by simp), hb1⟩
            · have hll := hfin.out hne
              have hz1 : s1.size = s2.size + key.size := by rw [hs1, hs2, ba_size, ba_size]; exact hll
              have hz2 : s2.size ≤ 20000 := by rw [hs2, ba_size]; exact hl2
              have hl0 : ((ws.length : Int) == 0) = false := by
                have : 0 < ws.length := List.length_pos_iff.2 hne
                simp; omega
              have hz3 : ((s1.size : Int) == (s2.size : Int) + (key.size : Int)) = true := by rw [hz1]; simp
              replace hz1 := Lib.hid hz1
              replace hne := Lib.hid hne
              clear hs1 hs2 hl1 hl2 hll hE1 hE2
              go_wp2
              go_ret
              exact ⟨rfl, hb1⟩
          · clear hE1 hE2 hs1 hl1
            go_wp2
            go_ret
            exact ⟨rfl, hb1⟩
        · clear hE1
          go_wp2
          go_ret
          exact ⟨rfl, hb1⟩
theorem BodyKeys_walk (vf vh vw : Value) (a1 : ByteArray) (w : World) (q : BatQ w (vf, vh, vw)) (w1 : a1.size ≤ 140737488351232) (hL : Laid w) :
    Calls Tryd.prog 6 #[.agg #[vf, vh, vw], .string a1] w fun e w' => e = .returned (.bool true) ∧ Below w.heap.size w w' := by
  obtain ⟨⟨f, hf, -, hlf⟩, ⟨h, hh, -, hlh⟩, ⟨ws, hw, hq, hlw⟩⟩ := q
  exact body_keys vf vh vw f h ws a1 w hL hf hh hw hlf hlh hlw hq w1
end Go.Proofs.YtlgaklbfjjpfkaaDoor
