/- The walk of the law BodyValues. -/
import Derived.Test.YtlgaklbfjjpfkaaDoorLawsBodyB
import Derived.Test.YtlgaklbfjjpfkaaDoorPlainBodyK
import Derived.Test.YtlgaklbfjjpfkaaDoorWUpd
import Derived.Test.YtlgaklbfjjpfkaaDoorShelf
namespace Go.Proofs.YtlgaklbfjjpfkaaDoor
open Go.RowKit
set_option linter.unusedVariables false
set_option linter.unusedSimpArgs false
def valB (c : UInt8) (x : WrB) : WrB := { x with val := ⟨(List.replicate x.val.size c).toArray⟩ }
theorem valB_plain (c : UInt8) (x : WrB) : (valB c x).plain = Body.valued c x.plain := by
  have : x.val.size = x.val.data.toList.length := (Array.length_toList).symm
  show wr x.t x.r x.k x.key ⟨(List.replicate x.val.size c).toArray⟩ x.n = { wr x.t x.r x.k x.key x.val x.n with val := List.replicate x.val.data.toList.length c }
  rw [this]; rfl
theorem valBs_plain (c : UInt8) (ws : List WrB) : (ws.map (valB c)).map WrB.plain = (ws.map WrB.plain).map (Body.valued c) := by
  rw [List.map_map, List.map_map]
  exact List.map_congr_left fun x _ => valB_plain c x
theorem valB_cells (c : UInt8) (x : WrB) : wrBCells (valB c x) = (wrBCells x).set 4 (.string ⟨(List.replicate x.val.size c).toArray⟩) := rfl
/-- All but one block is as it was. -/
def OG (g : Nat) (w W : World) : Prop := Only (fun j => j = g) w W
theorem OG.refl (g : Nat) (w : World) : OG g w w := Only.refl _ _
theorem OG.refl' (g : Nat) (w : World) : OG g w w.drew := (Only.refl _ w).drew
theorem OG.alloc {g : Nat} {w W : World} (h : OG g w W) (o : Obj) : OG g w (W.alloc o) := Only.alloc h o
theorem OG.below {g : Nat} {w W W' : World} (h : OG g w W) (hb : Below W.heap.size W W') : OG g w W' := Only.chain h hb
theorem OG.set {g : Nat} {w W : World} (h : OG g w W) (j : Nat) (v : Value) : OG g w (W.setCell ⟨g, j, none⟩ v) := Only.set (S := fun j => j = g) h (p := ⟨g, j, none⟩) (.inl rfl) v
theorem ownsRow_drew_ {w : World} {base : Nat} {e : TypeId} {sz n : Nat} {v : Value} {xs : List Value} (h : w.ownsRow base e sz v n xs) : w.drew.ownsRow base e sz v n xs := h
theorem str_oneO (W0 : World) (b : UInt8) (kn : Nat) (hb : b.toNat = kn) (g : Nat) (hg : g = W0.heap.size) (W : World) (k : Nat) (hW : OG k (W0.alloc (.cells #[.int .u8 kn] 5)) W) (hk : k < W0.heap.size) :
    Sem.run Tryd.prog (convert 51 9 (.slice (some ⟨g, 0, none⟩) 1 1)) W = .ok (.string ⟨#[b]⟩) W := by
  subst hg; subst hb
  exact str_of_row ((row_alloc W0 #[.int .u8 b.toNat] 5).only hW (by omega)) (l := [b]) 51 9 Tryd.underlying51 Tryd.underlying5 Tryd.underlying9 1 1 rfl
theorem repeat_val (c : UInt8) (n : Nat) (W : World) (hn : n ≤ 300) : Calls Tryd.prog 22 #[.string ⟨#[c]⟩, .int .i64 n] W fun e w' => e = .returned (.string ⟨(List.replicate n c).toArray⟩) ∧ Below W.heap.size W w' := by
  have hR := Tryd.strings_Repeat ⟨#[c]⟩ n W (by omega) (by show 1 * n ≤ _; omega)
  have : Lib.repeatL (ByteArray.data ⟨#[c]⟩).toList n = List.replicate n c := by
    have := Lib.repeatL_replicate c 1 n
    simpa using this
  rw [this] at hR
  exact hR
set_option maxHeartbeats 8000000 in
set_option maxRecDepth 20000 in
theorem body_values (vf vh vw : Value) (f h : List Vec.Entry) (ws : List WrB) (cn : Nat) (w : World) (hL : Laid w) (hf : VecIs w vf f) (hh : VecIs w vh h) (hw : WrsIs w vw ws) (hlf : f.length ≤ 140737488351232) (hlh : h.length ≤ 140737488351232) (hlw : ws.length ≤ 140737488351232) (hq : ∀ x ∈ ws, WrBOk x) (hc : cn < 256) :
    Calls Tryd.prog 8 #[.agg #[vf, vh, vw], .int .u8 cn] w fun e w' => e = .returned (.bool true) ∧ Below w.heap.size w w' := by
  have hG := fun W (hW : Below w.heap.size w W) => bodied W (hL.below hW)
  have hH := fun W (hW : Below w.heap.size w W) => keep_held vf vh vw f h ws W (hL.below hW) (hf.below hW) (hh.below hW) (hw.below hW) hlf hlh hlw hq
  have hWo := fun W (hW : Below w.heap.size w W) hok => body_write_ok vf vh vw f h ws W (hL.below hW) (hf.below hW) (hh.below hW) (hw.below hW) hlf hlh hlw hok
  have hWd := fun vd W (hW : Below w.heap.size w W) hvd hok => body_write_ok vf vh vd f h (ws.map (valB (UInt8.ofNat cn))) W (hL.below hW) (hf.below hW) (hh.below hW) hvd hlf hlh (by rw [List.length_map]; exact hlw) hok
  have hCl := fun W (hW : Below w.heap.size w W) hl => clone_wrs vw ws W (hw.below hW) hl
  obtain ⟨o1, m1, e1, -, -⟩ := hf.list.at entCells_len
  obtain ⟨o2, m2, e2, -, -⟩ := hh.list.at entCells_len
  obtain ⟨o3, m3, e3, -, -⟩ := ListIs.at hw wrBCells_len
  clear hf hh hw
  subst e1 e2 e3
  replace hG := Lib.hid hG
  replace hH := Lib.hid hH
  replace hWo := Lib.hid hWo
  replace hWd := Lib.hid hWd
  replace hCl := Lib.hid hCl
  replace hq := Lib.hid hq
  go_enter Tryd.func8, Tryd.ntmps8
  go_wp2_with fail
  have q0 := row_at #[.slice o1 f.length m1, .slice o2 h.length m2, .slice o3 ws.length m3] 25 (rfl : w.heap.size = w.heap.size)
  have hb1 := bal (Below.refl w.heap.size w) (Obj.cells #[.slice o1 f.length m1, .slice o2 h.length m2, .slice o3 ws.length m3] 25)
  generalize w.alloc (Obj.cells #[.slice o1 f.length m1, .slice o2 h.length m2, .slice o3 ws.length m3] 25) = w1 at *
  refine (hG.out _ hb1).mono ?_
  rintro _ w2 ⟨rfl, hb2⟩
  replace q0 := q0.below hb2
  replace hb1 := bch hb1 hb2
  clear hb2
  (have c0 := q0.cell 0; have c1 := q0.cell 1; have c2 := q0.cell 2; simp only [List.set_cons_succ, List.set_cons_zero, List.getElem?_cons_zero, List.getElem?_cons_succ] at c0 c1 c2)
  go_wp2_with fail
  refine (hH.out _ hb1).mono ?_
  rintro _ w4 ⟨⟨r, rfl, hr⟩, hb2⟩
  replace q0 := q0.below hb2
  replace hb1 := bch hb1 hb2
  clear hb2 c0 c1 c2
  (have c0 := q0.cell 0; have c1 := q0.cell 1; have c2 := q0.cell 2; simp only [List.set_cons_succ, List.set_cons_zero, List.getElem?_cons_zero, List.getElem?_cons_succ] at c0 c1 c2)
  cases r with
  | false =>
    replace hr := Lib.hid hr
    go_wp2
    go_ret
    exact ⟨rfl, hb1⟩
  | true =>
  have hok := hr rfl
  clear hr
  have hok2 : Bat.right f h ((ws.map (valB (UInt8.ofNat cn))).map WrB.plain) = .ok := by rw [valBs_plain]; exact Body.bright_valued _ hok
  have hlen : (bodyOf f h (ws.map (valB (UInt8.ofNat cn)))).length = (bodyOf f h ws).length := by
    unfold bodyOf
    rw [valBs_plain]; exact Body.valued_len _ _ _ _
  have hF := (Bat.right_iff _ _ _).1 hok
  have hl60 := hF.len
  rw [List.length_map] at hl60
  have hval : ∀ x ∈ ws, x.val.size ≤ 300 := fun x hx => by
    obtain ⟨-, -, -, -, -, -, -, h8, -⟩ := Wr.right_zero (hF.each x.plain (List.mem_map_of_mem hx)).1
    have : x.val.size = x.plain.val.length := (ba_len _).symm
    omega
  replace hWo := Lib.hid (fun W hW => hWo.out W hW hok)
  replace hWd := Lib.hid (fun vd W hW hv => hWd.out vd W hW hv hok2)
  replace hCl := Lib.hid (fun W hW => hCl.out W hW (by omega))
  replace hval := Lib.hid hval
  replace hlen := Lib.hid hlen
  clear hF hok hok2
  have hA := bal (Below.refl w4.heap.size w4) (Obj.cells #[.slice o1 f.length m1, .slice o2 h.length m2, .slice o3 ws.length m3] 25)
  have q5 := row_at #[.slice o1 f.length m1, .slice o2 h.length m2, .slice o3 ws.length m3] 25 (rfl : w4.heap.size = w4.heap.size)
  have h04 := q0.lt
  have hs0 := hb1.size
  replace q0 := q0.below hA
  have c2' := q0.cell 2
  simp only [List.getElem?_cons_zero, List.getElem?_cons_succ] at c2'
  replace q0 := Lib.hid q0
  replace q5 := Lib.hid q5
  go_wp2_with fail
  replace hb1 := bch hb1 hA
  clear c0 c1 c2 c2'
  have hs5 : (w4.alloc (Obj.cells #[.slice o1 f.length m1, .slice o2 h.length m2, .slice o3 ws.length m3] 25)).heap.size = w4.heap.size + 1 := by simp
  generalize w4.alloc (Obj.cells #[.slice o1 f.length m1, .slice o2 h.length m2, .slice o3 ws.length m3] 25) = w5 at *
  refine (hCl.out _ hb1).mono ?_
  rintro _ w6 ⟨⟨u, rfl, hown⟩, hb2⟩
  obtain ⟨ou, cu, rfl⟩ := owns_slice hown
  replace q0 := q0.out.below hb2
  replace q5 := q5.out.below hb2
  replace hb1 := bch hb1 hb2
  have hs6 := hb2.size
  obtain ⟨base, hbase⟩ : ∃ b, b = w5.heap.size := ⟨_, rfl⟩
  rw [← hbase] at hown
  obtain ⟨g5, hg5⟩ : ∃ g, g = w4.heap.size := ⟨_, rfl⟩
  rw [← hg5] at q5 ⊢
  have hg5b : g5 < base := by omega
  have hng : g5 ≠ w.heap.size := by omega
  have hwg : w.heap.size ≤ g5 := by omega
  have hwb : w.heap.size < base := by omega
  have f2 := q5.frozen 2 (by simp)
  have d2 := q5.cell 2
  simp only [List.getElem?_cons_zero, List.getElem?_cons_succ] at d2
  have q5' := Lib.hid (q5.set 2 (.slice ou ws.length cu))
  have q0' := Lib.hid (q0.other (p := ⟨g5, 2, none⟩) hng (.slice ou ws.length cu))
  have hown' := Lib.hid (ownsRow_setCell_below hown (a := ⟨g5, 2, none⟩) hg5b (.slice ou ws.length cu))
  have hb1' := Lib.hid (bst hb1 (p := ⟨g5, 2, none⟩) hwg (.slice ou ws.length cu))
  have d2' : (w6.setCell ⟨g5, 2, none⟩ (.slice ou ws.length cu)).cell? ⟨g5, 2, none⟩ = some (.slice ou ws.length cu) := q5'.out.cell 2
  replace hbase := Lib.hid hbase
  replace hg5 := Lib.hid hg5
  clear q0 q5 hown hb1 hb2 hA hs5 h04 hs0 hs6
  go_wp2_with fail
  -- LOOP
  generalize w6.setCell ⟨g5, 2, none⟩ (.slice ou ws.length cu) = w7 at *
  have q0 : Row w7 w.heap.size 25 [.slice o1 f.length m1, .slice o2 h.length m2, .slice o3 ws.length m3] := q0'.out
  have q5 : Row w7 g5 25 [.slice o1 f.length m1, .slice o2 h.length m2, .slice ou ws.length cu] := q5'.out
  have hb1 := hb1'.out
  have hown := hown'.out
  clear q0' q5' hb1' hown' d2' d2 f2
  go_loopw [25] (fun i wr => ∃ k : Nat, k ≤ ws.length ∧ i = .int .i64 k ∧ Row wr w.heap.size 25 [.slice o1 f.length m1, .slice o2 h.length m2, .slice o3 ws.length m3] ∧ Row wr g5 25 [.slice o1 f.length m1, .slice o2 h.length m2, .slice ou ws.length cu] ∧ wr.ownsRow base 45 6 (.slice ou ws.length cu) ws.length (((ws.take k).map (valB (UInt8.ofNat cn)) ++ ws.drop k).flatMap wrBCells) ∧ Below w.heap.size w wr) (fun i _ => ws.length - (intOf i).toNat)
  case atStart => exact ⟨0, by omega, rfl, q0, q5, by simpa using hown, hb1⟩
  case round =>
    clear q0 q5 hb1 hown
    obtain ⟨k, hk, rfl, q0, q5, hown, hb1⟩ := hrel
    by_cases hlt : k < ws.length
    · obtain ⟨g, rfl, hgb⟩ := owns_pos hown (by omega)
      have hgw : g < wr.heap.size := World.block_lt_of_cell? wr ⟨g, k * 6 + 4, none⟩ (by rw [hown.cellAt (k * 6 + 4) (by omega), upd_at _ _ k hlt 4 (by omega)]; rfl)
      have d2 := q5.cell 2
      simp only [List.getElem?_cons_zero, List.getElem?_cons_succ] at d2
      obtain ⟨val, hval2⟩ : ∃ v, v = ws[k].val := ⟨_, rfl⟩
      have hvs : val.size ≤ 300 := by rw [hval2]; exact hval.out _ (List.getElem_mem hlt)
      have x4 : wr.cell? ⟨g, k * 6 + 4, none⟩ = some (.string val) := by rw [hown.cellAt (k * 6 + 4) (by omega), upd_at _ _ k hlt 4 (by omega), hval2]; rfl
      replace hval2 := Lib.hid hval2
      have hbn8 : (UInt8.ofNat cn).toNat = cn := by rw [UInt8.toNat_ofNat_of_lt']; exact hc
      have hstr := Lib.hid (fun W0 g' hg' W (hW : OG g (W0.alloc (.cells #[.int .u8 cn] 5)) W) => str_oneO W0 (UInt8.ofNat cn) cn hbn8 g' hg' W g hW)
      have hRp := Lib.hid (fun W => repeat_val (UInt8.ofNat cn) val.size W hvs)
      have hS0 : OG g wr wr.drew := OG.refl' _ _
      replace hbn8 := Lib.hid hbn8
      go_wp2_with fail
      have x4d : wr.drew.cell? ⟨g, k * 6 + 4, none⟩ = some (.string val) := x4
      have x4a := cell_alloc x4d (Obj.cells #[.int .u8 cn] 5)
      have x4b : (wr.alloc (Obj.cells #[.int .u8 cn] 5)).drew.cell? ⟨g, k * 6 + 4, none⟩ = some (.string val) := x4a
      clear d2 x4
      (refine wp_region_held_drew (S := OG g wr) (by kernel_rfl) ?_ (fun hHeld => ?_); ((try dsimp only); exact hS0))
      (refine held_take (i := 0) (v := ?_) rfl (by kernel_rfl) (by kernel_rfl) (by kernel_rfl) (fun _ _ _ h => h) (by kernel_rfl) (by assumption) ?_ ?_; rotate_left; (focus (intro w hSw; (try unfold SC at hSw); (try unfold MC at hSw); (try unfold BC at hSw); (try unfold RC at hSw); (try dsimp only at hSw); go_simp; (try with_reducible rfl); done)); (simp only [Act.put, List.setIfInBounds_toArray, List.set_cons_zero, List.set_cons_succ]); refine held_take (i := 1) (v := ?_) rfl (by kernel_rfl) (by kernel_rfl) (by kernel_rfl) (fun _ _ _ h => h) (by kernel_rfl) (by assumption) ?_ ?_; rotate_left; (focus (intro w hSw; (try unfold SC at hSw); (try unfold MC at hSw); (try unfold BC at hSw); (try unfold RC at hSw); (try dsimp only at hSw); go_simp; (try with_reducible rfl); done)); (simp only [Act.put, List.setIfInBounds_toArray, List.set_cons_zero, List.set_cons_succ]); refine held_take (i := 4) (v := ?_) rfl (by kernel_rfl) (by kernel_rfl) (by kernel_rfl) (fun _ _ _ h => h) (by kernel_rfl) (by assumption) ?_ ?_; rotate_left; (focus (intro w hSw; (try unfold SC at hSw); (try unfold MC at hSw); (try unfold BC at hSw); (try unfold RC at hSw); (try dsimp only at hSw); go_simp; (try with_reducible rfl); done)); (simp only [Act.put, List.setIfInBounds_toArray, List.set_cons_zero, List.set_cons_succ]); refine held_take (i := 5) (v := ?_) rfl (by kernel_rfl) (by kernel_rfl) (by kernel_rfl) (fun _ _ _ h => h) (by kernel_rfl) (by assumption) ?_ ?_; rotate_left; (focus (intro w hSw; (try unfold SC at hSw); (try unfold MC at hSw); (try unfold BC at hSw); (try unfold RC at hSw); (try dsimp only at hSw); go_simp; (try with_reducible rfl); done)); (simp only [Act.put, List.setIfInBounds_toArray, List.set_cons_zero, List.set_cons_succ]); refine held_take (i := 6) (v := ?_) rfl (by kernel_rfl) (by kernel_rfl) (by kernel_rfl) (fun _ _ _ h => h) (by kernel_rfl) (by assumption) ?_ ?_; rotate_left; (focus (intro w hSw; (try unfold SC at hSw); (try unfold MC at hSw); (try unfold BC at hSw); (try unfold RC at hSw); (try dsimp only at hSw); go_simp; (try with_reducible rfl); done)); (simp only [Act.put, List.setIfInBounds_toArray, List.set_cons_zero, List.set_cons_succ]))
      clear hS0
      refine wpAnyH_ready (P := Tryd.prog) (md := .any) (rs := [2, 7]) (by kernel_rfl) (by simp) ?_
      refine held_cons rfl (by kernel_rfl) (fun K hK => ?_) (held_cons rfl (by kernel_rfl) (fun K hK => ?_) AllReadyH.nil)
      · (go_simp; refine hK.out _ _ ?_ (fun hHeld => ?_); ((try dsimp only); exact OG.alloc hHeld _); clear hK K; (try clear hHeld0); (try rename_i hHeld0))
        refine held_mono (S' := fun W => OG g wr W ∧ OG g (wr.drew.alloc (Obj.cells #[.int .u8 cn] 5)) W) (fun _ h => h.1) _ _ _ _ ?_
        replace hHeld : OG g wr (wr.drew.alloc (Obj.cells #[.int .u8 cn] 5)) ∧ OG g (wr.drew.alloc (Obj.cells #[.int .u8 cn] 5)) (wr.drew.alloc (Obj.cells #[.int .u8 cn] 5)) := ⟨hHeld, OG.refl _ _⟩
        have hst := fun W (h : OG g wr W ∧ OG g (wr.drew.alloc (Obj.cells #[.int .u8 cn] 5)) W) => hstr.out wr.drew wr.heap.size rfl W h.2 hgw
        refine held_take (i := 3) (v := ?_) rfl (by kernel_rfl) (by kernel_rfl) (by kernel_rfl) (fun _ _ _ h => h) (by kernel_rfl) hHeld ?_ ?_; rotate_left; (focus (intro w hSw; have hx := hst w hSw; go_simp; (try with_reducible rfl); done)); (simp only [Act.put, List.setIfInBounds_toArray, List.set_cons_zero, List.set_cons_succ]); clear hst
        (refine wpAnyH_ready (P := Tryd.prog) (md := .any) (rs := [7]) (by kernel_rfl) (by simp) ?_; refine held_cons rfl (by kernel_rfl) (fun K hK => ?_) AllReadyH.nil; (go_simp; refine hK.out _ _ ?_ (fun hHeld => ?_); ((try dsimp only); exact hHeld); clear hK K; (try clear hHeld0); (try rename_i hHeld0)))
        (refine held_take (i := 8) (v := ?_) rfl (by kernel_rfl) (by kernel_rfl) (by kernel_rfl) (fun _ _ _ h => h) (by kernel_rfl) (by assumption) ?_ ?_; rotate_left; (focus (intro w hSw; (try unfold SC at hSw); (try unfold MC at hSw); (try unfold BC at hSw); (try unfold RC at hSw); (try dsimp only at hSw); go_simp; (try with_reducible rfl); done)); (simp only [Act.put, List.setIfInBounds_toArray, List.set_cons_zero, List.set_cons_succ]))
        (refine wpAnyH_ready (P := Tryd.prog) (md := .any) (rs := [9]) (by kernel_rfl) (by simp) ?_; refine held_cons rfl (by kernel_rfl) (fun K hK => ?_) AllReadyH.nil; ((go_simp; refine (hRp.out _).mono ?_; rintro _ wn ⟨rfl, hbn⟩); refine hK.out _ _ ?_ (fun hHeld => ?_); ((try dsimp only); exact ⟨OG.below hHeld.1 hbn, OG.below hHeld.2 hbn⟩); clear hK K; (try clear hHeld0); (try rename_i hHeld0)))
        (refine held_take (i := 10) (v := ?_) rfl (by kernel_rfl) (by kernel_rfl) (by kernel_rfl) (fun _ _ _ h => h) (by kernel_rfl) (by assumption) ?_ ?_; rotate_left; (focus (intro w hSw; (try unfold SC at hSw); (try unfold MC at hSw); (try unfold BC at hSw); (try unfold RC at hSw); (try dsimp only at hSw); go_simp; (try with_reducible rfl); done)); (simp only [Act.put, List.setIfInBounds_toArray, List.set_cons_zero, List.set_cons_succ]); refine held_take (i := 11) (v := ?_) rfl (by kernel_rfl) (by kernel_rfl) (by kernel_rfl) (fun _ _ _ h => h) (by kernel_rfl) (by assumption) ?_ ?_; rotate_left; (focus (intro w hSw; (try unfold SC at hSw); (try unfold MC at hSw); (try unfold BC at hSw); (try unfold RC at hSw); (try dsimp only at hSw); go_simp; (try with_reducible rfl); done)); (simp only [Act.put, List.setIfInBounds_toArray, List.set_cons_zero, List.set_cons_succ]))
        have hownN := owns_below ((ownsRow_drew_ hown).alloc (Obj.cells #[.int .u8 cn] 5)) hbn
        have xN : wn.cell? ⟨g, k * 6 + 4, none⟩ = some (.string val) := by rw [hownN.cellAt (k * 6 + 4) (by omega), upd_at _ _ k hlt 4 (by omega), hval2.out]; rfl
        have zN := hownN.frozenAt (k * 6 + 4)
        (refine wpAnyH_ready (P := Tryd.prog) (md := .any) (rs := [12]) (by kernel_rfl) (by simp) ?_; refine held_cons rfl (by kernel_rfl) (fun K hK => ?_) AllReadyH.nil; (go_simp; refine hK.out _ _ ?_ (fun hHeld => ?_); ((try dsimp only); exact ⟨OG.set hHeld.1 _ _, OG.set hHeld.2 _ _⟩); clear hK K; (try clear hHeld0); (try rename_i hHeld0)))
        (refine wpAnyH_done (by kernel_rfl) ?_ _)
        have hOf := hHeld.1
        have hownF := (hownN.stored (k * 6 + 4) (.string ⟨(List.replicate val.size (UInt8.ofNat cn)).toArray⟩)).1
        rw [upd_next (valB (UInt8.ofNat cn)) ws k hlt 4 (by omega) _ (by rw [valB_cells, hval2.out])] at hownF
        replace hownF := Lib.hid hownF
        replace hOf := Lib.hid hOf
        clear hownN xN zN hHeld hHeld0
        go_wp2
        go_roundw
        case rel => exact ⟨k + 1, by omega, by go_num, Row.only q0 hOf.out (by omega), Row.only q5 hOf.out (by omega), hownF.out, hb1.trans (Only.below hOf.out (by omega) hb1.size)⟩
        case measure => simp [intOf]; omega
      · (go_simp; refine hK.out _ _ ?_ (fun hHeld => ?_); ((try dsimp only); exact hHeld); clear hK K; (try clear hHeld0); (try rename_i hHeld0))
        (refine held_take (i := 8) (v := ?_) rfl (by kernel_rfl) (by kernel_rfl) (by kernel_rfl) (fun _ _ _ h => h) (by kernel_rfl) (by assumption) ?_ ?_; rotate_left; (focus (intro w hSw; (try unfold SC at hSw); (try unfold MC at hSw); (try unfold BC at hSw); (try unfold RC at hSw); (try dsimp only at hSw); go_simp; (try with_reducible rfl); done)); (simp only [Act.put, List.setIfInBounds_toArray, List.set_cons_zero, List.set_cons_succ]))
        (refine wpAnyH_ready (P := Tryd.prog) (md := .any) (rs := [2]) (by kernel_rfl) (by simp) ?_; refine held_cons rfl (by kernel_rfl) (fun K hK => ?_) AllReadyH.nil; (go_simp; refine hK.out _ _ ?_ (fun hHeld => ?_); ((try dsimp only); exact OG.alloc hHeld _); clear hK K; (try clear hHeld0); (try rename_i hHeld0)))
        refine held_mono (S' := fun W => OG g wr W ∧ OG g (wr.drew.alloc (Obj.cells #[.int .u8 cn] 5)) W) (fun _ h => h.1) _ _ _ _ ?_
        replace hHeld : OG g wr (wr.drew.alloc (Obj.cells #[.int .u8 cn] 5)) ∧ OG g (wr.drew.alloc (Obj.cells #[.int .u8 cn] 5)) (wr.drew.alloc (Obj.cells #[.int .u8 cn] 5)) := ⟨hHeld, OG.refl _ _⟩
        have hst := fun W (h : OG g wr W ∧ OG g (wr.drew.alloc (Obj.cells #[.int .u8 cn] 5)) W) => hstr.out wr.drew wr.heap.size rfl W h.2 hgw
        refine held_take (i := 3) (v := ?_) rfl (by kernel_rfl) (by kernel_rfl) (by kernel_rfl) (fun _ _ _ h => h) (by kernel_rfl) hHeld ?_ ?_; rotate_left; (focus (intro w hSw; have hx := hst w hSw; go_simp; (try with_reducible rfl); done)); (simp only [Act.put, List.setIfInBounds_toArray, List.set_cons_zero, List.set_cons_succ]); clear hst
        (refine wpAnyH_ready (P := Tryd.prog) (md := .any) (rs := [9]) (by kernel_rfl) (by simp) ?_; refine held_cons rfl (by kernel_rfl) (fun K hK => ?_) AllReadyH.nil; ((go_simp; refine (hRp.out _).mono ?_; rintro _ wn ⟨rfl, hbn⟩); refine hK.out _ _ ?_ (fun hHeld => ?_); ((try dsimp only); exact ⟨OG.below hHeld.1 hbn, OG.below hHeld.2 hbn⟩); clear hK K; (try clear hHeld0); (try rename_i hHeld0)))
        (refine held_take (i := 10) (v := ?_) rfl (by kernel_rfl) (by kernel_rfl) (by kernel_rfl) (fun _ _ _ h => h) (by kernel_rfl) (by assumption) ?_ ?_; rotate_left; (focus (intro w hSw; (try unfold SC at hSw); (try unfold MC at hSw); (try unfold BC at hSw); (try unfold RC at hSw); (try dsimp only at hSw); go_simp; (try with_reducible rfl); done)); (simp only [Act.put, List.setIfInBounds_toArray, List.set_cons_zero, List.set_cons_succ]); refine held_take (i := 11) (v := ?_) rfl (by kernel_rfl) (by kernel_rfl) (by kernel_rfl) (fun _ _ _ h => h) (by kernel_rfl) (by assumption) ?_ ?_; rotate_left; (focus (intro w hSw; (try unfold SC at hSw); (try unfold MC at hSw); (try unfold BC at hSw); (try unfold RC at hSw); (try dsimp only at hSw); go_simp; (try with_reducible rfl); done)); (simp only [Act.put, List.setIfInBounds_toArray, List.set_cons_zero, List.set_cons_succ]))
        have hownN := owns_below ((ownsRow_drew_ hown).alloc (Obj.cells #[.int .u8 cn] 5)) hbn
        have xN : wn.cell? ⟨g, k * 6 + 4, none⟩ = some (.string val) := by rw [hownN.cellAt (k * 6 + 4) (by omega), upd_at _ _ k hlt 4 (by omega), hval2.out]; rfl
        have zN := hownN.frozenAt (k * 6 + 4)
        (refine wpAnyH_ready (P := Tryd.prog) (md := .any) (rs := [12]) (by kernel_rfl) (by simp) ?_; refine held_cons rfl (by kernel_rfl) (fun K hK => ?_) AllReadyH.nil; (go_simp; refine hK.out _ _ ?_ (fun hHeld => ?_); ((try dsimp only); exact ⟨OG.set hHeld.1 _ _, OG.set hHeld.2 _ _⟩); clear hK K; (try clear hHeld0); (try rename_i hHeld0)))
        (refine wpAnyH_done (by kernel_rfl) ?_ _)
        have hOf := hHeld.1
        have hownF := (hownN.stored (k * 6 + 4) (.string ⟨(List.replicate val.size (UInt8.ofNat cn)).toArray⟩)).1
        rw [upd_next (valB (UInt8.ofNat cn)) ws k hlt 4 (by omega) _ (by rw [valB_cells, hval2.out])] at hownF
        replace hownF := Lib.hid hownF
        replace hOf := Lib.hid hOf
        clear hownN xN zN hHeld hHeld0
        go_wp2
        go_roundw
        case rel => exact ⟨k + 1, by omega, by go_num, Row.only q0 hOf.out (by omega), Row.only q5 hOf.out (by omega), hownF.out, hb1.trans (Only.below hOf.out (by omega) hb1.size)⟩
        case measure => simp [intOf]; omega
    · obtain rfl : k = ws.length := by omega
      rw [upd_all] at hown
      have hv : WrsIs wr (.slice ou ws.length cu) (ws.map (valB (UInt8.ofNat cn))) := ListIs.of_owns (by rw [List.length_map]; exact hown)
      clear hown
      have hW1 := Lib.hid (hWo.out wr hb1)
      (have c0 := q0.cell 0; have c1 := q0.cell 1; have c2 := q0.cell 2; simp only [List.set_cons_succ, List.set_cons_zero, List.getElem?_cons_zero, List.getElem?_cons_succ] at c0 c1 c2)
      go_wp2_with fail
      refine hW1.out.mono ?_
      rintro _ w8 ⟨rfl, hb2⟩
      replace q5 := q5.below hb2
      replace hb1 := bch hb1 hb2
      have hW2 := Lib.hid (hWd.out _ w8 hb1 (hv.below hb2))
      rw [hlen.out] at hW2
      have hlen2 := hlen.out
      generalize bodyOf f h (ws.map (valB (UInt8.ofNat cn))) = b2 at *
      generalize bodyOf f h ws = b1 at *
      clear c0 c1 c2 hv hWo hWd hb2 hlen
      (have c0 := q5.cell 0; have c1 := q5.cell 1; have c2 := q5.cell 2; simp only [List.set_cons_succ, List.set_cons_zero, List.getElem?_cons_zero, List.getElem?_cons_succ] at c0 c1 c2)
      replace hlen2 := Lib.hid hlen2
      by_cases hlong : 20000 < b1.length
      · rw [if_pos hlong] at hW2
        simp only [if_pos hlong, errV] at hW1 hW2 ⊢
        clear hlong
        go_wp2_with fail
        refine hW2.out.mono ?_
        rintro _ w9 ⟨rfl, hb9⟩
        go_wp2_with fail
        go_quiet (fail)
        go_wp2
        go_ret
        exact ⟨rfl, bdn (bch hb1 hb9) _⟩
      · rw [if_neg hlong] at hW2
        simp only [if_neg hlong] at hW1 ⊢
        have e1 : ((b1.length : Int) == (b2.length : Int)) = true := by rw [hlen2.out]; simp
        clear hlong
        go_wp2_with fail
        refine hW2.out.mono ?_
        rintro _ w9 ⟨rfl, hb9⟩
        go_wp2_with fail
        go_quiet (fail)
        go_wp2
        go_ret
        exact ⟨rfl, bdn (bch hb1 hb9) _⟩
  -- LOOP END
theorem BodyValues_walk (vf vh vw : Value) (a1 : Int) (w : World) (q : BatQ w (vf, vh, vw)) (w1 : (Lit.int .u8 a1).wf = true) (hL : Laid w) :
    Calls Tryd.prog 8 #[.agg #[vf, vh, vw], .int .u8 a1] w fun e w' => e = .returned (.bool true) ∧ Below w.heap.size w w' := by
  obtain ⟨⟨f, hf, -, hlf⟩, ⟨h, hh, -, hlh⟩, ⟨ws, hw, hq, hlw⟩⟩ := q
  obtain ⟨c, rfl, hc⟩ := nat_u8 w1
  exact body_values vf vh vw f h ws c w hL hf hh hw hlf hlh hlw hq hc
end Go.Proofs.YtlgaklbfjjpfkaaDoor
