/- The walks of recv's Text and Save. -/
import Derived.Test.YtdpdnkjpjoccmaaDoorWRecv
import Derived.Test.YtdpdnkjpjoccmaaDoorWCrc1
namespace Go.Proofs.YtdpdnkjpjoccmaaDoor
open Go.RowKit
set_option linter.unusedVariables false
set_option linter.unusedSimpArgs false
/-- 'string(b[o:o+n])' of a row of bytes. -/
theorem str_of_mid {P : Program} {w : World} {g : Nat} {e : TypeId} {D : List UInt8} (h : Row w g e (byteVals D)) (src dst : TypeId) (hs : P.underlying src = some (.slice e)) (he : P.underlying e = some (.int .u8)) (hd : P.underlying dst = some .string) (o n c : Nat) (hn : o + n ≤ D.length) :
    Sem.run P (convert src dst (.slice (some ⟨g, o, none⟩) n c)) w = .ok (.string ⟨((D.drop o).take n).toArray⟩) w := by
  have hl : ((D.drop o).take n).length = n := by rw [List.length_take, List.length_drop]; omega
  have := run_convert_bytes_arg w src e hs he g o n c (((D.drop o).take n).map fun b => (b.toNat : Int)) (by rw [List.length_map, hl]) (fun i hi => by
    rw [h.cell]
    have h1 : o + i < D.length := by omega
    have h2 : ((D.drop o).take n)[i]? = some D[o + i] := by
      rw [List.getElem?_take_of_lt hi, List.getElem?_drop, List.getElem?_eq_getElem h1]
    have h3 : (((D.drop o).take n).map fun b => (b.toNat : Int)).getD i 0 = (D[o + i].toNat : Int) := by simp only [List.getD, List.getElem?_map, h2]; rfl
    rw [h3]
    simp [byteVals, List.getElem?_eq_getElem h1]) dst hd
  rw [this]
  congr 2
  apply ba_ext
  rw [strOfNums_data, List.map_map]
  refine (List.map_congr_left (g := id) fun b _ => ?_).trans (List.map_id _)
  simp
def errN (n : Nat) : Value := .iface 58 (.int .i64 n)
/-- What a region reads: two cells, in whatever world has come of B. -/
def TwoC (B : World) (q1 : Addr) (u1 : Value) (q2 : Addr) (u2 : Value) (W : World) : Prop := W.cell? q1 = some u1 ∧ W.cell? q2 = some u2 ∧ Below B.heap.size B W
theorem TwoC.next {B : World} {q1 q2 : Addr} {u1 u2 : Value} {W W' : World} (h : TwoC B q1 u1 q2 u2 W) (hb : Below W.heap.size W W') : TwoC B q1 u1 q2 u2 W' := ⟨cell_below hb h.1, cell_below hb h.2.1, bch h.2.2 hb⟩
theorem recv_text_none (w : World) (p m : Nat) (O : Nat → Prop) (R : Recv.Rec) (hR : RecvIs w p O m R) (hc : R.came.length = 0) :
    Calls Tryd.prog 17 #[.pointer (some ⟨p, 0, none⟩)] w fun e w' => e = .returned (.tuple #[.string ⟨#[]⟩, errN 8]) ∧ Below w.heap.size w w' := by
  obtain ⟨d, gs, b, g3, g4, v3, v4, hR⟩ := hR
  have c2 : w.cell? ⟨p, 2, none⟩ = some (.int .i64 R.came.length) := hR.row.cell 2
  rw [hc] at c2
  clear hR
  go_enter Tryd.func17, Tryd.ntmps17
  go_wp2
  go_ret2
  exact ⟨rfl, by (repeat (first | exact Below.refl _ _ | assumption | refine bal ?_ _ | refine bdr ?_ | refine bdn ?_ _ | refine bst ?_ (by first | assumption | exact Nat.le_refl _ | omega) _ | refine bch ?_ (by assumption)))⟩
set_option maxHeartbeats 2000000 in
set_option maxRecDepth 20000 in
theorem recv_text_less (w : World) (p m : Nat) (O : Nat → Prop) (R : Recv.Rec) (hR : RecvIs w p O m R) (hl : R.came.length ≤ 4096) (hc : R.offer < R.came.length) :
    Calls Tryd.prog 17 #[.pointer (some ⟨p, 0, none⟩)] w fun e w' => e = .returned (.tuple #[.string ⟨#[]⟩, errN 7]) ∧ Below w.heap.size w w' := by
  have hof := Lib.hid (fun W (hW : Below w.heap.size w W) => recv_offer W p m O R (hR.below hW) hl)
  obtain ⟨d, gs, b, g3, g4, v3, v4, hR⟩ := hR
  have c2 : w.cell? ⟨p, 2, none⟩ = some (.int .i64 R.came.length) := hR.row.cell 2
  have hne : ((R.came.length : Int) == 0) = false := by rw [beq_eq_false_iff_ne]; omega
  have hd1 : decide ((R.offer : Int) < (R.came.length : Int)) = true := by simp; omega
  clear hR
  go_enter Tryd.func17, Tryd.ntmps17
  go_wp2_with fail
  have hS0 : TwoC w ⟨p, 2, none⟩ (.int .i64 R.came.length) ⟨p, 2, none⟩ (.int .i64 R.came.length) w.drew := ⟨c2, c2, (Below.refl _ _).drew⟩
  (refine wp_region_held_drew (S := TwoC w ⟨p, 2, none⟩ (.int .i64 R.came.length) ⟨p, 2, none⟩ (.int .i64 R.came.length)) (by kernel_rfl) ?_ (fun hHeld => ?_); ((try dsimp only); exact hS0))
  (refine held_take (i := 0) (v := ?_) rfl (by kernel_rfl) (by kernel_rfl) (by kernel_rfl) (fun _ _ _ h => h) (by kernel_rfl) (by assumption) ?_ ?_; rotate_left; (focus (intro w hSw; (obtain ⟨hSw1, hSw2, hSw3⟩ := hSw); (try dsimp only at hSw1 hSw2); go_simp; (try with_reducible rfl); done)); (simp only [Act.put, List.setIfInBounds_toArray, List.set_cons_zero, List.set_cons_succ]); refine held_take (i := 2) (v := ?_) rfl (by kernel_rfl) (by kernel_rfl) (by kernel_rfl) (fun _ _ _ h => h) (by kernel_rfl) (by assumption) ?_ ?_; rotate_left; (focus (intro w hSw; (obtain ⟨hSw1, hSw2, hSw3⟩ := hSw); (try dsimp only at hSw1 hSw2); go_simp; (try with_reducible rfl); done)); (simp only [Act.put, List.setIfInBounds_toArray, List.set_cons_zero, List.set_cons_succ]); refine held_take (i := 3) (v := ?_) rfl (by kernel_rfl) (by kernel_rfl) (by kernel_rfl) (fun _ _ _ h => h) (by kernel_rfl) (by assumption) ?_ ?_; rotate_left; (focus (intro w hSw; (obtain ⟨hSw1, hSw2, hSw3⟩ := hSw); (try dsimp only at hSw1 hSw2); go_simp; (try with_reducible rfl); done)); (simp only [Act.put, List.setIfInBounds_toArray, List.set_cons_zero, List.set_cons_succ]); refine held_take (i := 4) (v := ?_) rfl (by kernel_rfl) (by kernel_rfl) (by kernel_rfl) (fun _ _ _ h => h) (by kernel_rfl) (by assumption) ?_ ?_; rotate_left; (focus (intro w hSw; (obtain ⟨hSw1, hSw2, hSw3⟩ := hSw); (try dsimp only at hSw1 hSw2); go_simp; (try with_reducible rfl); done)); (simp only [Act.put, List.setIfInBounds_toArray, List.set_cons_zero, List.set_cons_succ]); refine held_take (i := 5) (v := ?_) rfl (by kernel_rfl) (by kernel_rfl) (by kernel_rfl) (fun _ _ _ h => h) (by kernel_rfl) (by assumption) ?_ ?_; rotate_left; (focus (intro w hSw; (obtain ⟨hSw1, hSw2, hSw3⟩ := hSw); (try dsimp only at hSw1 hSw2); go_simp; (try with_reducible rfl); done)); (simp only [Act.put, List.setIfInBounds_toArray, List.set_cons_zero, List.set_cons_succ]))
  (refine wpAnyH_ready (P := Tryd.prog) (md := .any) (rs := [1]) (by kernel_rfl) (by simp) ?_; refine held_cons rfl (by kernel_rfl) (fun K hK => ?_) AllReadyH.nil; ((go_simp; refine (hof.out _ hHeld.2.2).mono ?_; rintro _ wn ⟨rfl, hbn⟩); refine hK.out _ _ ?_ (fun hHeld => ?_); ((try dsimp only); exact hHeld.next hbn); clear hK K; (try clear hHeld0); (try rename_i hHeld0)))
  (refine held_take (i := 6) (v := ?_) rfl (by kernel_rfl) (by kernel_rfl) (by kernel_rfl) (fun _ _ _ h => h) (by kernel_rfl) (by assumption) ?_ ?_; rotate_left; (focus (intro w hSw; (obtain ⟨hSw1, hSw2, hSw3⟩ := hSw); (try dsimp only at hSw1 hSw2); go_simp; (try with_reducible rfl); done)); (simp only [Act.put, List.setIfInBounds_toArray, List.set_cons_zero, List.set_cons_succ]); refine held_take (i := 7) (v := ?_) rfl (by kernel_rfl) (by kernel_rfl) (by kernel_rfl) (fun _ _ _ h => h) (by kernel_rfl) (by assumption) ?_ ?_; rotate_left; (focus (intro w hSw; (obtain ⟨hSw1, hSw2, hSw3⟩ := hSw); (try dsimp only at hSw1 hSw2); go_simp; (try with_reducible rfl); done)); (simp only [Act.put, List.setIfInBounds_toArray, List.set_cons_zero, List.set_cons_succ]))
  (refine wpAnyH_done (by kernel_rfl) ?_ _)
  have hB : Below w.heap.size w wn := by first | exact hHeld.2.2 | exact hHeld0.2.2
  go_wp2
  go_ret2
  exact ⟨rfl, hB⟩
set_option maxHeartbeats 4000000 in
set_option maxRecDepth 20000 in
theorem recv_text_all (w : World) (p m : Nat) (O : Nat → Prop) (R : Recv.Rec) (hR : RecvIs w p O m R) (hl : R.came.length ≤ 4096) (h0 : R.came.length ≠ 0) (hc : R.offer = R.came.length) (hs : Crc.sum R.data = R.name) :
    Calls Tryd.prog 17 #[.pointer (some ⟨p, 0, none⟩)] w fun e w' => e = .returned (.tuple #[.string ⟨R.data.toArray⟩, .nilIface]) ∧ Below w.heap.size w w' := by
  have hof := Lib.hid (fun W (hW : Below w.heap.size w W) => recv_offer W p m O R (hR.below hW) hl)
  obtain ⟨d, gs, b, g3, g4, v3, v4, hR⟩ := hR
  have c1 : w.cell? ⟨p, 1, none⟩ = some (.int .u32 R.name) := hR.row.cell 1
  have c2 : w.cell? ⟨p, 2, none⟩ = some (.int .i64 R.came.length) := hR.row.cell 2
  have c3 : w.cell? ⟨p, 3, none⟩ = some v3 := hR.row.cell 3
  have hne : ((R.came.length : Int) == 0) = false := by rw [beq_eq_false_iff_ne]; omega
  have hd1 : decide ((R.offer : Int) < (R.came.length : Int)) = false := by simp; omega
  have hlen := hR.len
  have hbl : (byteVals R.data).length = R.came.length := by simp [byteVals, hlen]
  obtain ⟨a, c, rfl, hcell⟩ := hR.dat.slice R.came.length hbl
  obtain ⟨rfl, rfl, hrow⟩ := hcell 0 (by omega)
  have hsum := fun W => crc_sum ⟨R.data.toArray⟩ W (by show R.data.toArray.size ≤ _; unfold maxLen; simp; omega)
  rw [show (⟨R.data.toArray⟩ : ByteArray).data.toList = R.data from rfl, hs] at hsum
  replace hsum := Lib.hid hsum
  clear hR hcell hs
  replace hrow := Lib.hid hrow
  have hcv := Lib.hid (fun W (hW : Below w.heap.size w W) => str_of_row (P := Tryd.prog) (hrow.out.below hW) 86 9 Tryd.underlying86 Tryd.underlying5 Tryd.underlying9 R.came.length R.came.length hlen.symm)
  replace hlen := Lib.hid hlen
  go_enter Tryd.func17, Tryd.ntmps17
  go_wp2_with fail
  have hS0 : TwoC w ⟨p, 2, none⟩ (.int .i64 R.came.length) ⟨p, 2, none⟩ (.int .i64 R.came.length) w.drew := ⟨c2, c2, (Below.refl _ _).drew⟩
  (refine wp_region_held_drew (S := TwoC w ⟨p, 2, none⟩ (.int .i64 R.came.length) ⟨p, 2, none⟩ (.int .i64 R.came.length)) (by kernel_rfl) ?_ (fun hHeld => ?_); ((try dsimp only); exact hS0))
  (refine held_take (i := 0) (v := ?_) rfl (by kernel_rfl) (by kernel_rfl) (by kernel_rfl) (fun _ _ _ h => h) (by kernel_rfl) (by assumption) ?_ ?_; rotate_left; (focus (intro w hSw; (obtain ⟨hSw1, hSw2, hSw3⟩ := hSw); (try dsimp only at hSw1 hSw2); go_simp; (try with_reducible rfl); done)); (simp only [Act.put, List.setIfInBounds_toArray, List.set_cons_zero, List.set_cons_succ]); refine held_take (i := 2) (v := ?_) rfl (by kernel_rfl) (by kernel_rfl) (by kernel_rfl) (fun _ _ _ h => h) (by kernel_rfl) (by assumption) ?_ ?_; rotate_left; (focus (intro w hSw; (obtain ⟨hSw1, hSw2, hSw3⟩ := hSw); (try dsimp only at hSw1 hSw2); go_simp; (try with_reducible rfl); done)); (simp only [Act.put, List.setIfInBounds_toArray, List.set_cons_zero, List.set_cons_succ]); refine held_take (i := 3) (v := ?_) rfl (by kernel_rfl) (by kernel_rfl) (by kernel_rfl) (fun _ _ _ h => h) (by kernel_rfl) (by assumption) ?_ ?_; rotate_left; (focus (intro w hSw; (obtain ⟨hSw1, hSw2, hSw3⟩ := hSw); (try dsimp only at hSw1 hSw2); go_simp; (try with_reducible rfl); done)); (simp only [Act.put, List.setIfInBounds_toArray, List.set_cons_zero, List.set_cons_succ]); refine held_take (i := 4) (v := ?_) rfl (by kernel_rfl) (by kernel_rfl) (by kernel_rfl) (fun _ _ _ h => h) (by kernel_rfl) (by assumption) ?_ ?_; rotate_left; (focus (intro w hSw; (obtain ⟨hSw1, hSw2, hSw3⟩ := hSw); (try dsimp only at hSw1 hSw2); go_simp; (try with_reducible rfl); done)); (simp only [Act.put, List.setIfInBounds_toArray, List.set_cons_zero, List.set_cons_succ]); refine held_take (i := 5) (v := ?_) rfl (by kernel_rfl) (by kernel_rfl) (by kernel_rfl) (fun _ _ _ h => h) (by kernel_rfl) (by assumption) ?_ ?_; rotate_left; (focus (intro w hSw; (obtain ⟨hSw1, hSw2, hSw3⟩ := hSw); (try dsimp only at hSw1 hSw2); go_simp; (try with_reducible rfl); done)); (simp only [Act.put, List.setIfInBounds_toArray, List.set_cons_zero, List.set_cons_succ]))
  (refine wpAnyH_ready (P := Tryd.prog) (md := .any) (rs := [1]) (by kernel_rfl) (by simp) ?_; refine held_cons rfl (by kernel_rfl) (fun K hK => ?_) AllReadyH.nil; ((go_simp; refine (hof.out _ hHeld.2.2).mono ?_; rintro _ wn ⟨rfl, hbn⟩); refine hK.out _ _ ?_ (fun hHeld => ?_); ((try dsimp only); exact hHeld.next hbn); clear hK K; (try clear hHeld0); (try rename_i hHeld0)))
  (refine held_take (i := 6) (v := ?_) rfl (by kernel_rfl) (by kernel_rfl) (by kernel_rfl) (fun _ _ _ h => h) (by kernel_rfl) (by assumption) ?_ ?_; rotate_left; (focus (intro w hSw; (obtain ⟨hSw1, hSw2, hSw3⟩ := hSw); (try dsimp only at hSw1 hSw2); go_simp; (try with_reducible rfl); done)); (simp only [Act.put, List.setIfInBounds_toArray, List.set_cons_zero, List.set_cons_succ]); refine held_take (i := 7) (v := ?_) rfl (by kernel_rfl) (by kernel_rfl) (by kernel_rfl) (fun _ _ _ h => h) (by kernel_rfl) (by assumption) ?_ ?_; rotate_left; (focus (intro w hSw; (obtain ⟨hSw1, hSw2, hSw3⟩ := hSw); (try dsimp only at hSw1 hSw2); go_simp; (try with_reducible rfl); done)); (simp only [Act.put, List.setIfInBounds_toArray, List.set_cons_zero, List.set_cons_succ]))
  (refine wpAnyH_done (by kernel_rfl) ?_ _)
  have hB : Below w.heap.size w wn := by first | exact hHeld.2.2 | exact hHeld0.2.2
  (try clear hHeld)
  (try clear hHeld0)
  have e1 : wn.cell? ⟨p, 1, none⟩ = some (.int .u32 R.name) := cell_below hB c1
  have e3 : wn.cell? ⟨p, 3, none⟩ = some (.slice (some ⟨g3, 0, none⟩) R.came.length R.came.length) := cell_below hB c3
  have hcv1 := hcv.out wn.drew hB.drew
  have hn1 : ((R.name : Int) != (R.name : Int)) = false := by simp
  go_wp2_with fail
  have hS1 : TwoC wn ⟨p, 1, none⟩ (.int .u32 R.name) ⟨p, 3, none⟩ (.slice (some ⟨g3, 0, none⟩) R.came.length R.came.length) wn.drew := ⟨e1, e3, (Below.refl _ _).drew⟩
  (refine wp_region_held_drew (S := TwoC wn ⟨p, 1, none⟩ (.int .u32 R.name) ⟨p, 3, none⟩ (.slice (some ⟨g3, 0, none⟩) R.came.length R.came.length)) (by kernel_rfl) ?_ (fun hHeld => ?_); ((try dsimp only); exact hS1))
  (refine held_take (i := 0) (v := ?_) rfl (by kernel_rfl) (by kernel_rfl) (by kernel_rfl) (fun _ _ _ h => h) (by kernel_rfl) (by assumption) ?_ ?_; rotate_left; (focus (intro w hSw; (obtain ⟨hSw1, hSw2, hSw3⟩ := hSw); (try dsimp only at hSw1 hSw2); go_simp; (try with_reducible rfl); done)); (simp only [Act.put, List.setIfInBounds_toArray, List.set_cons_zero, List.set_cons_succ]); refine held_take (i := 1) (v := ?_) rfl (by kernel_rfl) (by kernel_rfl) (by kernel_rfl) (fun _ _ _ h => h) (by kernel_rfl) (by assumption) ?_ ?_; rotate_left; (focus (intro w hSw; (obtain ⟨hSw1, hSw2, hSw3⟩ := hSw); (try dsimp only at hSw1 hSw2); go_simp; (try with_reducible rfl); done)); (simp only [Act.put, List.setIfInBounds_toArray, List.set_cons_zero, List.set_cons_succ]); refine held_take (i := 2) (v := ?_) rfl (by kernel_rfl) (by kernel_rfl) (by kernel_rfl) (fun _ _ _ h => h) (by kernel_rfl) (by assumption) ?_ ?_; rotate_left; (focus (intro w hSw; (obtain ⟨hSw1, hSw2, hSw3⟩ := hSw); (try dsimp only at hSw1 hSw2); go_simp; (try with_reducible rfl); done)); (simp only [Act.put, List.setIfInBounds_toArray, List.set_cons_zero, List.set_cons_succ]); refine held_take (i := 3) (v := ?_) rfl (by kernel_rfl) (by kernel_rfl) (by kernel_rfl) (fun _ _ _ h => h) (by kernel_rfl) (by assumption) ?_ ?_; rotate_left; (focus (intro w hSw; (obtain ⟨hSw1, hSw2, hSw3⟩ := hSw); (try dsimp only at hSw1 hSw2); go_simp; (try with_reducible rfl); done)); (simp only [Act.put, List.setIfInBounds_toArray, List.set_cons_zero, List.set_cons_succ]); refine held_take (i := 6) (v := ?_) rfl (by kernel_rfl) (by kernel_rfl) (by kernel_rfl) (fun _ _ _ h => h) (by kernel_rfl) (by assumption) ?_ ?_; rotate_left; (focus (intro w hSw; (obtain ⟨hSw1, hSw2, hSw3⟩ := hSw); (try dsimp only at hSw1 hSw2); go_simp; (try with_reducible rfl); done)); (simp only [Act.put, List.setIfInBounds_toArray, List.set_cons_zero, List.set_cons_succ]); refine held_take (i := 7) (v := ?_) rfl (by kernel_rfl) (by kernel_rfl) (by kernel_rfl) (fun _ _ _ h => h) (by kernel_rfl) (by assumption) ?_ ?_; rotate_left; (focus (intro w hSw; (obtain ⟨hSw1, hSw2, hSw3⟩ := hSw); (try dsimp only at hSw1 hSw2); go_simp; (try with_reducible rfl); done)); (simp only [Act.put, List.setIfInBounds_toArray, List.set_cons_zero, List.set_cons_succ]); refine held_take (i := 8) (v := ?_) rfl (by kernel_rfl) (by kernel_rfl) (by kernel_rfl) (fun _ _ _ h => h) (by kernel_rfl) (by assumption) ?_ ?_; rotate_left; (focus (intro w hSw; (obtain ⟨hSw1, hSw2, hSw3⟩ := hSw); (try dsimp only at hSw1 hSw2); go_simp; (try with_reducible rfl); done)); (simp only [Act.put, List.setIfInBounds_toArray, List.set_cons_zero, List.set_cons_succ]); refine held_take (i := 9) (v := ?_) rfl (by kernel_rfl) (by kernel_rfl) (by kernel_rfl) (fun _ _ _ h => h) (by kernel_rfl) (by assumption) ?_ ?_; rotate_left; (focus (intro w hSw; (obtain ⟨hSw1, hSw2, hSw3⟩ := hSw); (try dsimp only at hSw1 hSw2); go_simp; (try with_reducible rfl); done)); (simp only [Act.put, List.setIfInBounds_toArray, List.set_cons_zero, List.set_cons_succ]))
  (refine wpAnyH_ready (P := Tryd.prog) (md := .any) (rs := [4]) (by kernel_rfl) (by simp) ?_; refine held_cons rfl (by kernel_rfl) (fun K hK => ?_) AllReadyH.nil; (go_simp; refine hK.out _ _ ?_ (fun hHeld => ?_); ((try dsimp only); exact hHeld); clear hK K; (try clear hHeld0); (try rename_i hHeld0)))
  (refine wpAnyH_ready (P := Tryd.prog) (md := .any) (rs := [5]) (by kernel_rfl) (by simp) ?_; refine held_cons rfl (by kernel_rfl) (fun K hK => ?_) AllReadyH.nil; ((go_simp; refine (hsum.out _).mono ?_; rintro _ wn ⟨rfl, rfl⟩); refine hK.out _ _ ?_ (fun hHeld => ?_); ((try dsimp only); exact hHeld); clear hK K; (try clear hHeld0); (try rename_i hHeld0)))
  (refine held_take (i := 10) (v := ?_) rfl (by kernel_rfl) (by kernel_rfl) (by kernel_rfl) (fun _ _ _ h => h) (by kernel_rfl) (by assumption) ?_ ?_; rotate_left; (focus (intro w hSw; (obtain ⟨hSw1, hSw2, hSw3⟩ := hSw); (try dsimp only at hSw1 hSw2); go_simp; (try with_reducible rfl); done)); (simp only [Act.put, List.setIfInBounds_toArray, List.set_cons_zero, List.set_cons_succ]); refine held_take (i := 11) (v := ?_) rfl (by kernel_rfl) (by kernel_rfl) (by kernel_rfl) (fun _ _ _ h => h) (by kernel_rfl) (by assumption) ?_ ?_; rotate_left; (focus (intro w hSw; (obtain ⟨hSw1, hSw2, hSw3⟩ := hSw); (try dsimp only at hSw1 hSw2); go_simp; (try with_reducible rfl); done)); (simp only [Act.put, List.setIfInBounds_toArray, List.set_cons_zero, List.set_cons_succ]))
  (refine wpAnyH_done (by kernel_rfl) ?_ _)
  go_wp2
  go_ret2
  exact ⟨rfl, by (repeat (first | exact Below.refl _ _ | assumption | refine bal ?_ _ | refine bdr ?_ | refine bdn ?_ _ | refine bst ?_ (by first | assumption | exact Nat.le_refl _ | omega) _ | refine bch ?_ (by assumption)))⟩
end Go.Proofs.YtdpdnkjpjoccmaaDoor
