/- The walk of keep.BatchTaken. -/
import Derived.Test.YtognjohloobliaaGreatDoorJ18
import Derived.Test.YtognjohloobliaaGreatDoorJ19
import Derived.Test.YtognjohloobliaaGreatDoorJ16
import Derived.Test.YtognjohloobliaaGreatDoorJ14
import Derived.Test.YtognjohloobliaaGreatDoorJ01
import Derived.Test.YtognjohloobliaaGreatDoorJ27
import Derived.Test.YtognjohloobliaaGreatDoorJ30
import Derived.Test.YtognjohloobliaaGreatDoorJ25
namespace Go.Proofs.YtognjohloobliaaGreatDoor
open Go.RowKit
set_option linter.unusedVariables false
set_option linter.unusedSimpArgs false
set_option maxHeartbeats 16000000 in
set_option maxRecDepth 20000 in
theorem batch_taken (vf vh vw : Value) (f h : List Vec.Entry) (ws : List WrB) (va : Value) (a : List Vec.Entry) (w : World) (hL : Laid w) (hf : VecIs w vf f) (hh : VecIs w vh h) (hw : WrsIs w vw ws) (ha : VecIs w va a) (hlf : f.length ≤ 140737488351232) (hlh : h.length ≤ 140737488351232) (hlw : ws.length ≤ 140737488351232) (hq : ∀ x ∈ ws, WrBOk x) (hla : a.length ≤ 140737488351232) :
  Calls Tryz.prog 3 #[.agg #[vf, vh, vw], va] w fun e w' => e = .returned (.bool true) ∧ Below w.heap.size w w' := by
 have hG := fun W (hW : Below w.heap.size w W) => gathered W (hL.below hW)
 have hLg := fun W (hW : Below w.heap.size w W) => keep_logged W (hL.below hW)
 have hK := from_known w hL
 have hO := fun W => ordered W
 have hH := fun W (hW : Below w.heap.size w W) => keep_held vf vh vw f h ws W (hL.below hW) (hf.below hW) (hh.below hW) (hw.below hW) hlf hlh hlw hq
 have hF : ∀ v, fewB [a] = v → ∀ (W : World) (T : TypeId), Below w.heap.size w W → Calls Tryz.prog 12 #[.slice (some ⟨W.heap.size, 0, none⟩) 1 1] (W.alloc (.cells #[va] T)) fun e w' => e = .returned (.bool v) ∧ Below W.heap.size W w' := fun v hv W T hW => few_one va a v w W T ha hla hv hW
 have hC2 := fun v hv => from_covers hh ha hlh hla v hv
 have hI1 := fun t r W (hW : Below w.heap.size w W) => ident_within t r (.slice none 0 0) va [] a W (ListIs.nil _ _ _) (ha.below hW)
 have hVf := fun W (hW : Below w.heap.size w W) => hf.below hW
 have hVh := fun W (hW : Below w.heap.size w W) => hh.below hW
 have hVa := fun W (hW : Below w.heap.size w W) => ha.below hW
 have hVw := fun W (hW : Below w.heap.size w W) => WrsIs.below hw hW
 obtain ⟨o1, n1, e1, -, -⟩ := hf.list.at entCells_len
 obtain ⟨o2, n2, e2, -, -⟩ := hh.list.at entCells_len
 obtain ⟨o3, n3, e3, -, hcell⟩ := ListIs.at hw wrBCells_len
 obtain ⟨o4, n4, e4, -, -⟩ := ha.list.at entCells_len
 clear hf hh hw ha
 subst e1 e2 e3 e4
 replace hcell := Lib.hid hcell
 replace hG := Lib.hid hG
 replace hLg := Lib.hid hLg
 replace hH := Lib.hid hH
 replace hO := Lib.hid hO
 replace hI1 := Lib.hid hI1
 replace hF := Lib.hid hF
 replace hC2 := Lib.hid hC2
 replace hq := Lib.hid hq
 replace hVf := Lib.hid hVf
 replace hVh := Lib.hid hVh
 replace hVa := Lib.hid hVa
 replace hVw := Lib.hid hVw
 go_enter Tryz.func3, Tryz.ntmps3
 go_wp2_with fail
 have q0 := row_at #[.slice o1 f.length n1, .slice o2 h.length n2, .slice o3 ws.length n3] 25 (rfl : w.heap.size = w.heap.size)
 have hb1 := bal (Below.refl w.heap.size w) (Obj.cells #[.slice o1 f.length n1, .slice o2 h.length n2, .slice o3 ws.length n3] 25)
 have hs1 : (w.alloc (Obj.cells #[.slice o1 f.length n1, .slice o2 h.length n2, .slice o3 ws.length n3] 25)).heap.size = w.heap.size + 1 := by simp
 generalize w.alloc (Obj.cells #[.slice o1 f.length n1, .slice o2 h.length n2, .slice o3 ws.length n3] 25) = w1 at *
 refine (hG.out _ hb1).mono ?_
 rintro _ w2 ⟨rfl, hb2⟩
 replace q0 := q0.below hb2
 replace hb1 := bch hb1 hb2
 replace hs1 : w.heap.size + 1 ≤ w2.heap.size := by have := hb2.size; omega
 clear hb2
 go_wp2_with fail
 refine (hLg.out _ hb1).mono ?_
 rintro _ w3 ⟨rfl, hb2⟩
 replace q0 := q0.below hb2
 replace hb1 := bch hb1 hb2
 replace hs1 : w.heap.size + 1 ≤ w3.heap.size := by have := hb2.size; omega
 clear hb2
 go_wp2_with fail
 refine (hK _ hb1).mono ?_
 rintro _ w3a ⟨rfl, hb2⟩
 replace q0 := q0.below hb2
 replace hb1 := bch hb1 hb2
 replace hs1 : w.heap.size + 1 ≤ w3a.heap.size := by have := hb2.size; omega
 clear hb2
 go_wp2_with fail
 refine (hO.out _).mono ?_
 rintro _ w3b ⟨rfl, hb2⟩
 replace q0 := q0.below hb2
 replace hb1 := bch hb1 hb2
 replace hs1 : w.heap.size + 1 ≤ w3b.heap.size := by have := hb2.size; omega
 clear hb2
 clear hG hLg hK hO
 obtain ⟨c0, c1, c2⟩ := q0.c3
 go_wp2_with fail
 refine (hH.out _ hb1).mono ?_
 rintro _ w4 ⟨⟨r, rfl, hr⟩, hb2⟩
 replace q0 := q0.below hb2
 replace hb1 := bch hb1 hb2
 replace hs1 : w.heap.size + 1 ≤ w4.heap.size := by have := hb2.size; omega
 clear hb2
 clear c0 c1 c2 hH
 obtain ⟨c0, c1, c2⟩ := q0.c3
 cases r with
 | false =>
  replace hr := Lib.hid hr
  go_wp2
  go_ret
  exact ⟨rfl, hb1⟩
 | true =>
 have hok := hr rfl
 replace hok := Lib.hid hok
 clear hr
 cases hf2 : fewB [a] with
 | false =>
  have hF2 := hF.out _ hf2
  replace hf2 := Lib.hid hf2
  go_wp2_with fail
  refine (hF2 _ _ hb1).mono ?_
  rintro _ w5 ⟨rfl, hb2⟩
  go_wp2
  go_ret
  exact ⟨rfl, by exact blw⟩
 | true =>
 have hF2 := hF.out _ hf2
 have hra : Vec.right a = .ok := by simpa [fewB] using hf2
 replace hra := Lib.hid hra
 clear hf2
 by_cases hf0 : 0 < f.length
 ·have hd0 : decide ((f.length : Int) > 0) = true := by simp; omega
  have hd1 : (0 : Int) < (f.length : Int) := by omega
  go_wp2_with fail
  refine (hF2 _ _ hb1).mono ?_
  rintro _ w5 ⟨rfl, hb2⟩
  replace q0 := q0.below hb2
  replace hb1 := bch hb1 hb2
  clear hb2 c0 c1 c2 hF2
  obtain ⟨c0, c1, c2⟩ := q0.c3
  go_wp2
  go_ret
  exact ⟨rfl, hb1⟩
 have hfe : f = [] := by
  cases f with
  | nil => rfl
  | cons x l => exact absurd (by simp) hf0
 subst hfe
 clear hf0
 cases hcw : coversB h a with
 | false =>
  have hC := hC2.out _ hcw
  replace hcw := Lib.hid hcw
  go_wp2_with fail
  refine (hF2 _ _ hb1).mono ?_
  rintro _ w5 ⟨rfl, hb2⟩
  replace q0 := q0.below hb2
  replace hb1 := bch hb1 hb2
  clear hb2 c0 c1 c2 hF2
  obtain ⟨c0, c1, c2⟩ := q0.c3
  go_wp2_with fail
  refine (hC _ hb1).mono ?_
  rintro _ w7 ⟨rfl, hb2⟩
  go_wp2
  go_ret
  exact ⟨rfl, by exact blw⟩
 | true =>
 have hC := hC2.out _ hcw
 have hok2 := (Bat.right_iff _ _ _).1 hok.out
 have hl60 : ws.length ≤ 60 := by have := hok2.len; rw [List.length_map] at this; exact this
 have hlh16 := ((Vec.right_iff _).1 hok2.have_).len
 have hla16 := ((Vec.right_iff _).1 hra.out).len
 have hpl := Lib.hid (Lg.taken_ hok.out hra.out ((Lg.covB hok2.have_ hra.out).1 hcw))
 clear hok2 hok hcw
 go_wp2_with fail
 refine (hF2 _ _ hb1).mono ?_
 rintro _ w5 ⟨rfl, hb2⟩
 replace q0 := q0.below hb2
 replace hb1 := bch hb1 hb2
 replace hs1 : w.heap.size + 1 ≤ w5.heap.size := by have := hb2.size; omega
 clear hb2 c0 c1 c2 hF2 hF hC2
 obtain ⟨c0, c1, c2⟩ := q0.c3
 go_wp2_with fail
 refine (hC _ hb1).mono ?_
 rintro _ w7 ⟨rfl, hb2⟩
 replace q0 := q0.below hb2
 replace hb1 := bch hb1 hb2
 replace hs1 : w.heap.size + 1 ≤ w7.heap.size := by have := hb2.size; omega
 clear hb2
 clear c0 c1 c2 hC
 obtain ⟨c0, c1, c2⟩ := q0.c3
 go_wp2_with fail
 have hlt : w.heap.size < w7.heap.size := by omega
 go_region
 have R1 : Row (((w7.alloc (Obj.cells #[.slice none 0 0, .slice o4 a.length n4, .slice none 0 0] 25)).alloc (Obj.cells #[.slice o4 a.length n4, .slice o2 h.length n2, .slice none 0 0] 25)).drew) w7.heap.size 25 [.slice none 0 0, .slice o4 a.length n4, .slice none 0 0] := ((row_alloc w7 #[.slice none 0 0, .slice o4 a.length n4, .slice none 0 0] 25).alloc _).drew
 have R2 : Row (((w7.alloc (Obj.cells #[.slice none 0 0, .slice o4 a.length n4, .slice none 0 0] 25)).alloc (Obj.cells #[.slice o4 a.length n4, .slice o2 h.length n2, .slice none 0 0] 25)).drew) (w7.heap.size + 1) 25 [.slice o4 a.length n4, .slice o2 h.length n2, .slice none 0 0] := (row_at #[.slice o4 a.length n4, .slice o2 h.length n2, .slice none 0 0] 25 (by simp)).drew
 have q8 : Row (((w7.alloc (Obj.cells #[.slice none 0 0, .slice o4 a.length n4, .slice none 0 0] 25)).alloc (Obj.cells #[.slice o4 a.length n4, .slice o2 h.length n2, .slice none 0 0] 25)).drew) w.heap.size 25 [.slice o1 ([] : List Vec.Entry).length n1, .slice o2 h.length n2, .slice o3 ws.length n3] := ((q0.alloc _).alloc _).drew
 have hb8 : Below w.heap.size w (((w7.alloc (Obj.cells #[.slice none 0 0, .slice o4 a.length n4, .slice none 0 0] 25)).alloc (Obj.cells #[.slice o4 a.length n4, .slice o2 h.length n2, .slice none 0 0] 25)).drew) := (bal (bal hb1 _) _).drew
 have hz8 : (((w7.alloc (Obj.cells #[.slice none 0 0, .slice o4 a.length n4, .slice none 0 0] 25)).alloc (Obj.cells #[.slice o4 a.length n4, .slice o2 h.length n2, .slice none 0 0] 25)).drew).heap.size = w7.heap.size + 2 := by simp
 generalize (((w7.alloc (Obj.cells #[.slice none 0 0, .slice o4 a.length n4, .slice none 0 0] 25)).alloc (Obj.cells #[.slice o4 a.length n4, .slice o2 h.length n2, .slice none 0 0] 25)).drew) = w8 at *
 generalize hp2 : w7.heap.size + 1 = p2 at *
 generalize hp1 : w7.heap.size = p1 at *
 have hpp : p1 ≠ p2 ∧ w.heap.size < p1 ∧ w.heap.size < p2 ∧ p1 < w8.heap.size ∧ p2 < w8.heap.size := by omega
 clear hz8 hp1 hp2 q0 hb1 c0 c1 c2 hs1 hlt
 rotate_left
 have R2 : Row (((w7.alloc (Obj.cells #[.slice o4 a.length n4, .slice o2 h.length n2, .slice none 0 0] 25)).alloc (Obj.cells #[.slice none 0 0, .slice o4 a.length n4, .slice none 0 0] 25)).drew) w7.heap.size 25 [.slice o4 a.length n4, .slice o2 h.length n2, .slice none 0 0] := ((row_alloc w7 #[.slice o4 a.length n4, .slice o2 h.length n2, .slice none 0 0] 25).alloc _).drew
 have R1 : Row (((w7.alloc (Obj.cells #[.slice o4 a.length n4, .slice o2 h.length n2, .slice none 0 0] 25)).alloc (Obj.cells #[.slice none 0 0, .slice o4 a.length n4, .slice none 0 0] 25)).drew) (w7.heap.size + 1) 25 [.slice none 0 0, .slice o4 a.length n4, .slice none 0 0] := (row_at #[.slice none 0 0, .slice o4 a.length n4, .slice none 0 0] 25 (by simp)).drew
 have q8 : Row (((w7.alloc (Obj.cells #[.slice o4 a.length n4, .slice o2 h.length n2, .slice none 0 0] 25)).alloc (Obj.cells #[.slice none 0 0, .slice o4 a.length n4, .slice none 0 0] 25)).drew) w.heap.size 25 [.slice o1 ([] : List Vec.Entry).length n1, .slice o2 h.length n2, .slice o3 ws.length n3] := ((q0.alloc _).alloc _).drew
 have hb8 : Below w.heap.size w (((w7.alloc (Obj.cells #[.slice o4 a.length n4, .slice o2 h.length n2, .slice none 0 0] 25)).alloc (Obj.cells #[.slice none 0 0, .slice o4 a.length n4, .slice none 0 0] 25)).drew) := (bal (bal hb1 _) _).drew
 have hz8 : (((w7.alloc (Obj.cells #[.slice o4 a.length n4, .slice o2 h.length n2, .slice none 0 0] 25)).alloc (Obj.cells #[.slice none 0 0, .slice o4 a.length n4, .slice none 0 0] 25)).drew).heap.size = w7.heap.size + 2 := by simp
 generalize (((w7.alloc (Obj.cells #[.slice o4 a.length n4, .slice o2 h.length n2, .slice none 0 0] 25)).alloc (Obj.cells #[.slice none 0 0, .slice o4 a.length n4, .slice none 0 0] 25)).drew) = w8 at *
 generalize hp1 : w7.heap.size + 1 = p1 at *
 generalize hp2 : w7.heap.size = p2 at *
 have hpp : p1 ≠ p2 ∧ w.heap.size < p1 ∧ w.heap.size < p2 ∧ p1 < w8.heap.size ∧ p2 < w8.heap.size := by omega
 clear hz8 hp1 hp2 q0 hb1 c0 c1 c2 hs1 hlt
 rotate_left
 all_goals
  generalize hbase : w8.heap.size = base at *
  have c0 : w8.cell? ⟨w.heap.size, 2, none⟩ = some (.slice o3 ws.length n3) := q8.cell 2
  replace R1 := Lib.hid R1
  replace R2 := Lib.hid R2
  go_wp2_with fail
  clear c0
  go_loopw [64] (fun i wr => ∃ (k : Nat) (u1 u2 : Value), k ≤ ws.length ∧ i = .int .i64 k ∧ Row wr p1 25 [.slice none 0 0, .slice o4 a.length n4, u1] ∧ Row wr p2 25 [.slice o4 a.length n4, .slice o2 h.length n2, u2] ∧ wr.ownsRow base 33 6 u1 ((ws.take k).filter (fun x => within x.t x.r [] a)).length (((ws.take k).filter (fun x => within x.t x.r [] a)).flatMap wrBCells) ∧ wr.ownsRow base 33 6 u2 ((ws.take k).filter (fun x => !within x.t x.r [] a)).length (((ws.take k).filter (fun x => !within x.t x.r [] a)).flatMap wrBCells) ∧ (u1.ownBlock = none ∨ u2.ownBlock = none ∨ u1.ownBlock ≠ u2.ownBlock) ∧ Only (fun j => j = p1 ∨ j = p2) w8 wr) (fun i _ => ws.length - (intOf i).toNat)
  case atStart => exact ⟨0, _, _, by omega, rfl, R1.out, R2.out, World.ownsRow_nil _ _ _ _, World.ownsRow_nil _ _ _ _, Or.inl rfl, Only.refl _ _⟩
  case round =>
   obtain ⟨k, u1, u2, hk, rfl, hr1, hr2, hn1, hn2, hdis, hon⟩ := hrel
   have hszr := hon.size
   have hbr : Below w.heap.size w wr := hb8.trans (hon.below (B := w.heap.size) (fun j hj => by rcases hj with hj | hj <;> omega) (by omega))
   by_cases hlt : k < ws.length
   ·obtain ⟨b1, f1, rfl, hbl1, hc1⟩ := hcell.out k hlt
    have hbl1 := hbl1 (by omega)
    have x0 : wr.cell? ⟨b1, f1 + k * 6, none⟩ = some (.int .i64 ws[k].t) := cell_below hbr (hc1 0 _ rfl)
    have x1 : wr.cell? ⟨b1, f1 + k * 6 + 1, none⟩ = some (.int .i64 ws[k].r) := cell_below hbr (hc1 1 _ rfl)
    have x2 : wr.cell? ⟨b1, f1 + k * 6 + 2, none⟩ = some (.int .i64 ws[k].k) := cell_below hbr (hc1 2 _ rfl)
    have x3 : wr.cell? ⟨b1, f1 + k * 6 + 3, none⟩ = some (.string ws[k].key) := cell_below hbr (hc1 3 _ rfl)
    have x4 : wr.cell? ⟨b1, f1 + k * 6 + 4, none⟩ = some (.string ws[k].val) := cell_below hbr (hc1 4 _ rfl)
    have x5 : wr.cell? ⟨b1, f1 + k * 6 + 5, none⟩ = some (.int .i64 ws[k].n) := cell_below hbr (hc1 5 _ rfl)
    clear hc1
    have ht1 : (ws.take (k + 1)).filter (fun x => within x.t x.r [] a) = (ws.take k).filter (fun x => within x.t x.r [] a) ++ (if within ws[k].t ws[k].r [] a then [ws[k]] else []) := by
     rw [List.take_succ_eq_append_getElem hlt, List.filter_append]
     cases hq : within ws[k].t ws[k].r [] a <;> simp [hq]
    have ht2 : (ws.take (k + 1)).filter (fun x => !within x.t x.r [] a) = (ws.take k).filter (fun x => !within x.t x.r [] a) ++ (if within ws[k].t ws[k].r [] a then [] else [ws[k]]) := by
     rw [List.take_succ_eq_append_getElem hlt, List.filter_append]
     cases hq : within ws[k].t ws[k].r [] a <;> simp [hq]
    have hll1 : ((ws.take k).filter (fun x => within x.t x.r [] a)).length ≤ 60 := by
     have := List.length_filter_le (fun x : WrB => within x.t x.r [] a) (ws.take k)
     rw [List.length_take] at this; omega
    have hll2 : ((ws.take k).filter (fun x => !within x.t x.r [] a)).length ≤ 60 := by
     have := List.length_filter_le (fun x : WrB => !within x.t x.r [] a) (ws.take k)
     rw [List.length_take] at this; omega
    generalize (ws.take k).filter (fun x => within x.t x.r [] a) = l1 at *
    generalize (ws.take k).filter (fun x => !within x.t x.r [] a) = l2 at *
    generalize hT1 : (ws.take (k + 1)).filter (fun x => within x.t x.r [] a) = m1 at *
    generalize hT2 : (ws.take (k + 1)).filter (fun x => !within x.t x.r [] a) = m2 at *
    replace hT1 := Lib.hid hT1
    replace hT2 := Lib.hid hT2
    generalize ws[k] = x at *
    have hi1 := fun W hW => hI1.out x.t x.r W hW
    have hal := row_alloc wr #[.int .i64 x.t, .int .i64 x.r, .int .i64 x.k, .string x.key, .string x.val, .int .i64 x.n] 33
    have hbA : Below wr.heap.size wr (wr.alloc (.cells #[.int .i64 x.t, .int .i64 x.r, .int .i64 x.k, .string x.key, .string x.val, .int .i64 x.n] 33)) := bal (Below.refl _ _) _
    have y0 : (wr.alloc (.cells #[.int .i64 x.t, .int .i64 x.r, .int .i64 x.k, .string x.key, .string x.val, .int .i64 x.n] 33)).cell? ⟨wr.heap.size, 0, none⟩ = some (.int .i64 x.t) := hal.cell 0
    have y1 : (wr.alloc (.cells #[.int .i64 x.t, .int .i64 x.r, .int .i64 x.k, .string x.key, .string x.val, .int .i64 x.n] 33)).cell? ⟨wr.heap.size, 1, none⟩ = some (.int .i64 x.r) := hal.cell 1
    have hwlt : w.heap.size < wr.heap.size := by omega
    have hvl1 : u1.ownBlock ≠ some p1 := fun e => by have := (hn1.lt _ e).1; omega
    have hvl1' : u1.ownBlock ≠ some p2 := fun e => by have := (hn1.lt _ e).1; omega
    have hvl2 : u2.ownBlock ≠ some p2 := fun e => by have := (hn2.lt _ e).1; omega
    have hvl2' : u2.ownBlock ≠ some p1 := fun e => by have := (hn2.lt _ e).1; omega
    have hnl1 : ∀ j, u1.ownBlock = some j → base ≤ j := fun j e => (hn1.lt _ e).1
    have hnl2 : ∀ j, u2.ownBlock = some j → base ≤ j := fun j e => (hn2.lt _ e).1
    have hdis1 : u2.ownBlock = none ∨ u2.ownBlock ≠ u1.ownBlock := by
     rcases hdis with e | e | e
     ·cases h' : u2.ownBlock with
      | none => exact Or.inl rfl
      | some j => exact Or.inr (by rw [e]; simp)
     ·exact Or.inl e
     ·exact Or.inr (fun e' => e e'.symm)
    have hdis2 : u1.ownBlock = none ∨ u1.ownBlock ≠ u2.ownBlock := by
     rcases hdis with e | e | e
     ·exact Or.inl e
     ·cases h' : u1.ownBlock with
      | none => exact Or.inl rfl
      | some j => exact Or.inr (by rw [e]; simp)
     ·exact Or.inr e
    have hvlb1 : u1.ownBlock ≠ some wr.heap.size := fun e => by have := (hn1.lt _ e).2; omega
    have hvlb2 : u2.ownBlock ≠ some wr.heap.size := fun e => by have := (hn2.lt _ e).2; omega
    replace hdis := Lib.hid hdis
    replace hal := Lib.hid hal
    replace hr1 := Lib.hid hr1
    replace hr2 := Lib.hid hr2
    replace hn1 := Lib.hid hn1
    replace hn2 := Lib.hid hn2
    replace ht1 := Lib.hid ht1
    replace ht2 := Lib.hid ht2
    replace hi1 := Lib.hid hi1
    cases hw1 : within x.t x.r [] a with
    | true =>
     have g1 := hi1.out
     rw [hw1] at g1
     have hm1 : Hid (m1 = l1 ++ [x]) := Lib.hid (by rw [ht1.out, hw1]; simp)
     have hm2 : Hid (m2 = l2) := Lib.hid (by rw [ht2.out, hw1]; simp)
     clear hw1 hi1 ht1 ht2
     replace g1 := Lib.hid g1
     go_wp2_with fail
     generalize wr.alloc (.cells #[.int .i64 x.t, .int .i64 x.r, .int .i64 x.k, .string x.key, .string x.val, .int .i64 x.n] 33) = wA at *
     refine (g1.out wA (bch hbr hbA)).mono ?_
     rintro _ wB ⟨rfl, hb9⟩
     have hbB := bch hbA hb9
     have hrA1 := Lib.hid (hr1.out.below hbB)
     have hrA2 := Lib.hid (hr2.out.below hbB)
     have honA := hon.chain hbB
     have hsB : base ≤ wB.heap.size := by have := honA.size; omega
     replace hal := Lib.hid (hal.out.below hb9)
     have z0 : wB.cell? ⟨wr.heap.size, 0, none⟩ = some (.int .i64 x.t) := hal.out.cell 0
     have z1 : wB.cell? ⟨wr.heap.size, 1, none⟩ = some (.int .i64 x.r) := hal.out.cell 1
     have z2 : wB.cell? ⟨wr.heap.size, 2, none⟩ = some (.int .i64 x.k) := hal.out.cell 2
     have z3 : wB.cell? ⟨wr.heap.size, 3, none⟩ = some (.string x.key) := hal.out.cell 3
     have z4 : wB.cell? ⟨wr.heap.size, 4, none⟩ = some (.string x.val) := hal.out.cell 4
     have z5 : wB.cell? ⟨wr.heap.size, 5, none⟩ = some (.int .i64 x.n) := hal.out.cell 5
     have hn1 := owns_below hn1.out hbB
     have hn2 := owns_below hn2.out hbB
     clear hr1 hr2 x0 x1 x2 x3 x4 x5 y0 y1
     have e1 : wB.cell? ⟨p1, 2, none⟩ = some u1 := hrA1.out.cell 2
     have f1' := hrA1.out.frozen 2 (by simp)
     go_wp2_with (at_builtin; (go_must (refine app_one rfl _ _ 23 33 rfl base (Value.agg #[.int .i64 0, .int .i64 0, .int .i64 0, .string ⟨#[]⟩, .string ⟨#[]⟩, .int .i64 0]) 6 64 Tryz.underlying23 (by kernel_rfl) (by kernel_rfl) _ _ _ rfl hn1 _ rfl rfl ?_ (by omega) (by omega) hsB ?_); (focus (intro u hu; simp only [List.mem_cons, List.not_mem_nil, or_false] at hu; rcases hu with rfl | rfl | rfl | rfl | rfl | rfl <;> rfl)); (
      intro v5 w5 hown5 hg5 hbk5 hne5 hb5
      obtain ⟨g5, cap5, rfl⟩ := owns_addr hown5 hne5
      have hr5 := hrA1.out.grown hg5 hvl1
      have e5 : w5.cell? ⟨p1, 2, none⟩ = some u1 := hr5.cell 2
      have f5 := hr5.frozen 2 (by simp))))
     have hs5 := hrA2.out.grown hg5 hvl1'
     have hon5 := honA.grown hg5 (fun j hj => Or.inr (by rw [hbase]; exact hnl1 j hj))
     have hm5 := hn2.kept hg5 hdis1
     have hg5b := (hown5.lt g5 rfl).1
     have hd5 : (Value.slice (some ⟨g5, 0, none⟩) (l1.length + 1) cap5).ownBlock ≠ u2.ownBlock := fun e => by
      have e6 : u2.ownBlock = some g5 := e.symm
      rcases hbk5 with h5 | h5
      ·rcases hdis1 with h6 | h6
       ·rw [h6] at e6; cases e6
       ·exact h6 (e6.trans h5)
      ·have h5 : some g5 = some _ := h5
       injection h5 with h5
       have := (hn2.lt _ e6).2
       omega
     have hr6 : Row (w5.setCell ⟨p1, 2, none⟩ (Value.slice (some ⟨g5, 0, none⟩) (l1.length + 1) cap5)) p1 25 [.slice none 0 0, .slice o4 a.length n4, (Value.slice (some ⟨g5, 0, none⟩) (l1.length + 1) cap5)] := hr5.set 2 _
     have hs6 := hs5.other (p := ⟨p1, 2, none⟩) (by show ¬ p1 = p2; omega) (Value.slice (some ⟨g5, 0, none⟩) (l1.length + 1) cap5)
     have hon6 := hon5.set (p := ⟨p1, 2, none⟩) (by first | exact Or.inl (Or.inl rfl) | exact Or.inl (Or.inr rfl)) (Value.slice (some ⟨g5, 0, none⟩) (l1.length + 1) cap5)
     have oset := (Only.refl (fun j => j = p1) w5).set (p := ⟨p1, 2, none⟩) (Or.inl rfl) (Value.slice (some ⟨g5, 0, none⟩) (l1.length + 1) cap5)
     have ow6 := owns_only hown5 oset (fun j hj e => by have h9 : some g5 = some j := hj; injection h9 with h9; have e2 : j = p1 := e; omega)
     have om6 := owns_only hm5 oset (fun j hj e => by have := hnl2 j hj; have e2 : j = p1 := e; omega)
     replace hr6 := Lib.hid hr6
     replace hs6 := Lib.hid hs6
     replace hon6 := Lib.hid hon6
     replace ow6 := Lib.hid ow6
     replace om6 := Lib.hid om6
     clear hr5 hs5 hon5 hm5 oset hown5 hg5 hb5 hbk5
     generalize w5.setCell ⟨p1, 2, none⟩ (Value.slice (some ⟨g5, 0, none⟩) (l1.length + 1) cap5) = w6 at *
     replace hn1 := Lib.hid hn1
     replace hn2 := Lib.hid hn2
     replace hd5 := Lib.hid hd5
     go_roundw
     case rel => exact ⟨k + 1, _, u2, by omega, by go_num, hr6.out, hs6.out, by rw [hT1.out, hm1.out, List.length_append, List.flatMap_append]; exact ow6.out, by rw [hT2.out, hm2.out]; exact om6.out, Or.inr (Or.inr hd5.out), hon6.out⟩
     case measure => simp [intOf]; omega
    | false =>
     have g1 := hi1.out
     rw [hw1] at g1
     have hm1 : Hid (m1 = l1) := Lib.hid (by rw [ht1.out, hw1]; simp)
     have hm2 : Hid (m2 = l2 ++ [x]) := Lib.hid (by rw [ht2.out, hw1]; simp)
     clear hw1 hi1 ht1 ht2
     replace g1 := Lib.hid g1
     go_wp2_with fail
     generalize wr.alloc (.cells #[.int .i64 x.t, .int .i64 x.r, .int .i64 x.k, .string x.key, .string x.val, .int .i64 x.n] 33) = wA at *
     refine (g1.out wA (bch hbr hbA)).mono ?_
     rintro _ wB ⟨rfl, hb9⟩
     have hbB := bch hbA hb9
     have hrA1 := Lib.hid (hr1.out.below hbB)
     have hrA2 := Lib.hid (hr2.out.below hbB)
     have honA := hon.chain hbB
     have hsB : base ≤ wB.heap.size := by have := honA.size; omega
     replace hal := Lib.hid (hal.out.below hb9)
     have z0 : wB.cell? ⟨wr.heap.size, 0, none⟩ = some (.int .i64 x.t) := hal.out.cell 0
     have z1 : wB.cell? ⟨wr.heap.size, 1, none⟩ = some (.int .i64 x.r) := hal.out.cell 1
     have z2 : wB.cell? ⟨wr.heap.size, 2, none⟩ = some (.int .i64 x.k) := hal.out.cell 2
     have z3 : wB.cell? ⟨wr.heap.size, 3, none⟩ = some (.string x.key) := hal.out.cell 3
     have z4 : wB.cell? ⟨wr.heap.size, 4, none⟩ = some (.string x.val) := hal.out.cell 4
     have z5 : wB.cell? ⟨wr.heap.size, 5, none⟩ = some (.int .i64 x.n) := hal.out.cell 5
     have hn1 := owns_below hn1.out hbB
     have hn2 := owns_below hn2.out hbB
     clear hr1 hr2 x0 x1 x2 x3 x4 x5 y0 y1
     have e1 : wB.cell? ⟨p2, 2, none⟩ = some u2 := hrA2.out.cell 2
     have f1' := hrA2.out.frozen 2 (by simp)
     go_wp2_with (at_builtin; (go_must (refine app_one rfl _ _ 23 33 rfl base (Value.agg #[.int .i64 0, .int .i64 0, .int .i64 0, .string ⟨#[]⟩, .string ⟨#[]⟩, .int .i64 0]) 6 64 Tryz.underlying23 (by kernel_rfl) (by kernel_rfl) _ _ _ rfl hn2 _ rfl rfl ?_ (by omega) (by omega) hsB ?_); (focus (intro u hu; simp only [List.mem_cons, List.not_mem_nil, or_false] at hu; rcases hu with rfl | rfl | rfl | rfl | rfl | rfl <;> rfl)); (
      intro v5 w5 hown5 hg5 hbk5 hne5 hb5
      obtain ⟨g5, cap5, rfl⟩ := owns_addr hown5 hne5
      have hr5 := hrA2.out.grown hg5 hvl2
      have e5 : w5.cell? ⟨p2, 2, none⟩ = some u2 := hr5.cell 2
      have f5 := hr5.frozen 2 (by simp))))
     have hs5 := hrA1.out.grown hg5 hvl2'
     have hon5 := honA.grown hg5 (fun j hj => Or.inr (by rw [hbase]; exact hnl2 j hj))
     have hm5 := hn1.kept hg5 hdis2
     have hg5b := (hown5.lt g5 rfl).1
     have hd5 : (Value.slice (some ⟨g5, 0, none⟩) (l2.length + 1) cap5).ownBlock ≠ u1.ownBlock := fun e => by
      have e6 : u1.ownBlock = some g5 := e.symm
      rcases hbk5 with h5 | h5
      ·rcases hdis2 with h6 | h6
       ·rw [h6] at e6; cases e6
       ·exact h6 (e6.trans h5)
      ·have h5 : some g5 = some _ := h5
       injection h5 with h5
       have := (hn1.lt _ e6).2
       omega
     have hr6 : Row (w5.setCell ⟨p2, 2, none⟩ (Value.slice (some ⟨g5, 0, none⟩) (l2.length + 1) cap5)) p2 25 [.slice o4 a.length n4, .slice o2 h.length n2, (Value.slice (some ⟨g5, 0, none⟩) (l2.length + 1) cap5)] := hr5.set 2 _
     have hs6 := hs5.other (p := ⟨p2, 2, none⟩) (by show ¬ p2 = p1; omega) (Value.slice (some ⟨g5, 0, none⟩) (l2.length + 1) cap5)
     have hon6 := hon5.set (p := ⟨p2, 2, none⟩) (by first | exact Or.inl (Or.inl rfl) | exact Or.inl (Or.inr rfl)) (Value.slice (some ⟨g5, 0, none⟩) (l2.length + 1) cap5)
     have oset := (Only.refl (fun j => j = p2) w5).set (p := ⟨p2, 2, none⟩) (Or.inl rfl) (Value.slice (some ⟨g5, 0, none⟩) (l2.length + 1) cap5)
     have ow6 := owns_only hown5 oset (fun j hj e => by have h9 : some g5 = some j := hj; injection h9 with h9; have e2 : j = p2 := e; omega)
     have om6 := owns_only hm5 oset (fun j hj e => by have := hnl1 j hj; have e2 : j = p2 := e; omega)
     replace hr6 := Lib.hid hr6
     replace hs6 := Lib.hid hs6
     replace hon6 := Lib.hid hon6
     replace ow6 := Lib.hid ow6
     replace om6 := Lib.hid om6
     clear hr5 hs5 hon5 hm5 oset hown5 hg5 hb5 hbk5
     generalize w5.setCell ⟨p2, 2, none⟩ (Value.slice (some ⟨g5, 0, none⟩) (l2.length + 1) cap5) = w6 at *
     replace hn1 := Lib.hid hn1
     replace hn2 := Lib.hid hn2
     replace hd5 := Lib.hid hd5
     go_roundw
     case rel => exact ⟨k + 1, u1, _, by omega, by go_num, hs6.out, hr6.out, by rw [hT1.out, hm1.out]; exact om6.out, by rw [hT2.out, hm2.out, List.length_append, List.flatMap_append]; exact ow6.out, Or.inr (Or.inr (fun e => hd5.out e.symm)), hon6.out⟩
     case measure => simp [intOf]; omega
   ·obtain rfl : k = ws.length := by omega
    rw [List.take_length] at hn1 hn2
    obtain ⟨⟨a1, ok1⟩, ⟨a2, ok2, asc2⟩, a3, hsum⟩ := hpl.out
    have hll1 := List.length_filter_le (fun x : WrB => within x.t x.r [] a) ws
    have hll2 := List.length_filter_le (fun x : WrB => !within x.t x.r [] a) ws
    generalize ws.filter (fun x => within x.t x.r [] a) = l1 at *
    generalize ws.filter (fun x => !within x.t x.r [] a) = l2 at *
    obtain ⟨ou1, cu1, rfl⟩ := owns_slice_ hn1
    obtain ⟨ou2, cu2, rfl⟩ := owns_slice_ hn2
    have hW1 : WrsIs wr _ l1 := ListIs.of_owns hn1
    have hW2 : WrsIs wr _ l2 := ListIs.of_owns hn2
    have q9 : Row wr w.heap.size 25 [.slice o1 ([] : List Vec.Entry).length n1, .slice o2 h.length n2, .slice o3 ws.length n3] := q8.only hon (fun e => by rcases e with e | e <;> (have e : w.heap.size = _ := e; omega))
    have hN := Lib.hid (fun W => log_new 0 W (by omega) (by omega))
    have hsumI : IntKind.i64.wrap ((l1.length : Int) + (l2.length : Int)) = (ws.length : Int) := by rw [IntWalk.i64_in _ (by omega)]; omega
    replace hsum := Lib.hid hsum
    replace hpl := Lib.hid hpl
    replace hbr := Lib.hid hbr
    replace hr1 := Lib.hid hr1
    replace hr2 := Lib.hid hr2
    replace hW1 := Lib.hid hW1
    replace hW2 := Lib.hid hW2
    replace a1 := Lib.hid a1
    replace ok1 := Lib.hid ok1
    replace a2 := Lib.hid a2
    replace ok2 := Lib.hid ok2
    replace asc2 := Lib.hid asc2
    replace a3 := Lib.hid a3
    replace q9 := Lib.hid q9
    obtain ⟨Bs, hBs⟩ : ∃ Bs, Bs = wr.heap.size := ⟨_, rfl⟩
    clear hpl hn1 hn2 hdis hon hI1 hcell hb8 R1 R2 q8 hszr
    go_wp2_with fail
    refine (hN.out _).mono ?_
    rintro _ wa ⟨px, rfl, hpx, hba⟩
    have hLa : Logs wa Bs (fun _ => False) [⟨px, ⟨0, [], []⟩, .slice none 0 0, .slice none 0 0⟩] := (Logs.nil wr Bs).snoc (a := ⟨px, ⟨0, [], []⟩, .slice none 0 0, .slice none 0 0⟩) hba (hpx.base_le (by omega)) (fun j hj => hpx.mine_lo hj)
    have hsa := hba.size
    replace hLa := Lib.hid hLa
    clear hpx
    go_wp2_with fail
    refine (hN.out _).mono ?_
    rintro _ wb ⟨py, rfl, hpy, hbb⟩
    have hLb : Logs wb Bs (fun _ => False) [⟨px, ⟨0, [], []⟩, .slice none 0 0, .slice none 0 0⟩, ⟨py, ⟨0, [], []⟩, .slice none 0 0, .slice none 0 0⟩] := hLa.out.snoc (a := ⟨py, ⟨0, [], []⟩, .slice none 0 0, .slice none 0 0⟩) hbb (hpy.base_le (by omega)) (fun j hj => hpy.mine_lo hj)
    have hsb := hbb.size
    have hb2 := bch hba hbb
    clear hpy hN hLa hba hbb
    have hwb := bch hbr.out hb2
    have hA1 := Lib.hid (logs_accept_ok (hL.below hwb) hLb (i := 0) (by simp) px rfl ⟨0, [], []⟩ ⟨0, h, ws⟩ rfl Lg.ok_zero List.Pairwise.nil (hVf.out _ hwb) (hVh.out _ hwb) (hVw.out _ hwb) hlf hlh hlw ws.length a1.out)
    have qb := q9.out.below hb2
    obtain ⟨y0, y1, y2⟩ := qb.c3
    have hgb := qb.lt
    replace hLb := Lib.hid hLb
    replace hb2 := Lib.hid hb2
    clear qb hwb
    go_wp2_with fail
    refine hA1.out.mono ?_
    rintro _ wc ⟨rfl, hT1⟩
    have hbc := hb2.out.trans (hBs ▸ Turned.below hLb.out (by omega) hT1)
    obtain ⟨hv1, wv1, hLc, -, -⟩ := hT1
    replace hLc : Logs wc Bs (fun _ => False) [⟨px, ⟨0, h, ws⟩, hv1, wv1⟩, ⟨py, ⟨0, [], []⟩, .slice none 0 0, .slice none 0 0⟩] := hLc
    have hsc := hbc.size
    clear hLb hb2 hA1 y0 y1 y2 hgb
    have hwc := bch hbr.out hbc
    have hA2 := Lib.hid (logs_accept_ok (hL.below hwc) hLc (i := 1) (by simp) py rfl ⟨0, [], []⟩ ⟨0, a, l1⟩ rfl Lg.ok_zero List.Pairwise.nil (vf := .slice none 0 0) (ListIs.nil _ _ _) (hVa.out _ hwc) (WrsIs.below hW1.out hbc) (by simp) hla (by omega) l1.length a2.out)
    have qc := hr1.out.below hbc
    obtain ⟨y0, y1, y2⟩ := qc.c3
    have hgb := qc.lt
    replace hLc := Lib.hid hLc
    replace hbc := Lib.hid hbc
    clear qc hwc
    go_wp2_with fail
    refine hA2.out.mono ?_
    rintro _ wd ⟨rfl, hT2⟩
    have hbd := hbc.out.trans (hBs ▸ Turned.below hLc.out (by omega) hT2)
    obtain ⟨hv2, wv2, hLd, -, -⟩ := hT2
    replace hLd : Logs wd Bs (fun _ => False) [⟨px, ⟨0, h, ws⟩, hv1, wv1⟩, ⟨py, ⟨0, a, l1⟩, hv2, wv2⟩] := hLd
    have hsd := hbd.size
    clear hLc hbc hA2 y0 y1 y2 hgb
    have hwd := bch hbr.out hbd
    have hA3 := Lib.hid (logs_accept_ok (hL.below hwd) hLd (i := 1) (by simp) py rfl ⟨0, a, l1⟩ ⟨0, h, ws⟩ rfl ok2.out asc2.out (hVa.out _ hwd) (hVh.out _ hwd) (WrsIs.below hW2.out hbd) hla hlh (by omega) l2.length a3.out)
    have qd := hr2.out.below hbd
    obtain ⟨y0, y1, y2⟩ := qd.c3
    have hgb := qd.lt
    replace hLd := Lib.hid hLd
    replace hbd := Lib.hid hbd
    clear qd hwd
    go_wp2_with fail
    refine hA3.out.mono ?_
    rintro _ we ⟨rfl, hT3⟩
    have hbe := hbd.out.trans (hBs ▸ Turned.below hLd.out (by omega) hT3)
    obtain ⟨hv3, wv3, hLe, -, -⟩ := hT3
    replace hLe : Logs we Bs (fun _ => False) [⟨px, ⟨0, h, ws⟩, hv1, wv1⟩, ⟨py, ⟨0, h, ws⟩, hv3, wv3⟩] := hLe
    clear hLd hbd hA3 y0 y1 y2 hgb
    have hX : LogIs we Bs px ⟨0, h, ws⟩ hv1 wv1 := hLe.each 0 (by simp)
    have hY : LogIs we Bs py ⟨0, h, ws⟩ hv3 wv3 := hLe.each 1 (by simp)
    have hwe := Lib.hid (bch hbr.out hbe)
    have hXW := Lib.hid (fun W (hW : Below we.heap.size we W) => log_writes Bs px ⟨0, h, ws⟩ hv1 wv1 W (hX.below hW) (by show ws.length ≤ 1000; omega))
    have hYW := Lib.hid (fun W (hW : Below we.heap.size we W) => log_writes Bs py ⟨0, h, ws⟩ hv3 wv3 W (hY.below hW) (by show ws.length ≤ 1000; omega))
    have hXH := Lib.hid (fun W (hW : Below we.heap.size we W) => log_have Bs px ⟨0, h, ws⟩ hv1 wv1 W (hX.below hW) (by show h.length ≤ 1000; omega))
    have hYH := Lib.hid (fun W (hW : Below we.heap.size we W) => log_have Bs py ⟨0, h, ws⟩ hv3 wv3 W (hY.below hW) (by show h.length ≤ 1000; omega))
    have qe := q9.out.below hbe
    have y2 : we.cell? ⟨w.heap.size, 2, none⟩ = some (.slice o3 ws.length n3) := qe.cell 2
    have hgb := qe.lt
    have hWe := Lib.hid (fun W (hW : Below we.heap.size we W) => hVw.out W (bch hwe.out hW))
    clear hX hY hLe hbe qe hVf hVh hVa hr1 hr2 hW1 hW2 q9
    go_wp2_with fail
    have hS0 : Below we.heap.size we we.drew ∧ we.drew.cell? ⟨w.heap.size, 2, none⟩ = some (.slice o3 ws.length n3) := ⟨bdr (Below.refl _ _), y2⟩
    (refine wp_region_held_drew (S := (fun W => Below we.heap.size we W ∧ W.cell? ⟨w.heap.size, 2, none⟩ = some (.slice o3 ws.length n3))) (by kernel_rfl) ?_ (fun hHeld => ?_); ((try dsimp only); exact hS0))
    clear hS0 y2
    (refine tkO 0 ?_; refine tkO 1 ?_; refine tkO 2 ?_; refine tkO 3 ?_; refine tkO 4 ?_; refine tkO 5 ?_; refine tkO 6 ?_; refine tkO 7 ?_; refine tkO 8 ?_; refine tkO 9 ?_; refine tkO 10 ?_; refine tkO 11 ?_; refine tkO 12 ?_; refine tkO 13 ?_; refine tkO 14 ?_; refine tkO 15 ?_; refine tkO 16 ?_; refine tkO 17 ?_; refine tkO 18 ?_; refine tkO 20 ?_)
    (refine tdoO 19 (fun K hK => ?_); ((go_simp; refine (hXW.out _ hHeld.1).mono ?_; rintro _ wf ⟨⟨uf, rfl, hOf⟩, hbf⟩); refine hK.out _ _ ?_ (fun hHeld => ?_); ((try dsimp only); exact ⟨bch hHeld.1 hbf, cell_below hbf hHeld.2⟩); clear hK K; (try clear hHeld0); (try rename_i hHeld0)))
    have zf : WrsIs wf uf ws := ListIs.of_owns hOf
    clear hOf hbf
    (refine tdoO 21 (fun K hK => ?_); ((go_simp; refine (hYW.out _ hHeld.1).mono ?_; rintro _ wg ⟨⟨ug, rfl, hOg⟩, hbg⟩); refine hK.out _ _ ?_ (fun hHeld => ?_); ((try dsimp only); exact ⟨bch hHeld.1 hbg, cell_below hbg hHeld.2⟩); clear hK K; (try clear hHeld0); (try rename_i hHeld0)))
    have hE := Lib.hid (eq_wrs_same uf ug ws wg (WrsIs.below zf hbg) (ListIs.of_owns hOg) (by omega))
    clear hOg hbg zf
    (refine tdoO 22 (fun K hK => ?_); ((go_simp; refine hE.out.mono ?_; rintro _ wh ⟨rfl, hbh⟩); refine hK.out _ _ ?_ (fun hHeld => ?_); ((try dsimp only); exact ⟨bch hHeld.1 hbh, cell_below hbh hHeld.2⟩); clear hK K; (try clear hHeld0); (try rename_i hHeld0)))
    clear hE hbh
    (refine tkO 23 ?_; refine tkO 24 ?_; refine tkO 25 ?_; refine tkO 27 ?_)
    (refine tdoO 26 (fun K hK => ?_); ((go_simp; refine (hXH.out _ hHeld.1).mono ?_; rintro _ wi ⟨⟨ui, rfl, hOi⟩, hbi⟩); refine hK.out _ _ ?_ (fun hHeld => ?_); ((try dsimp only); exact ⟨bch hHeld.1 hbi, cell_below hbi hHeld.2⟩); clear hK K; (try clear hHeld0); (try rename_i hHeld0)))
    have zi : VecIs wi ui h := ListIs.of_owns hOi
    clear hOi hbi
    (refine tdoO 28 (fun K hK => ?_); ((go_simp; refine (hYH.out _ hHeld.1).mono ?_; rintro _ wj ⟨⟨uj, rfl, hOj⟩, hbj⟩); refine hK.out _ _ ?_ (fun hHeld => ?_); ((try dsimp only); exact ⟨bch hHeld.1 hbj, cell_below hbj hHeld.2⟩); clear hK K; (try clear hHeld0); (try rename_i hHeld0)))
    have hE := Lib.hid (eq_ent_same ui uj h wj (zi.below hbj) (ListIs.of_owns hOj) (by omega))
    clear hOj hbj zi
    (refine tdoO 29 (fun K hK => ?_); ((go_simp; refine hE.out.mono ?_; rintro _ wk ⟨rfl, hbk⟩); refine hK.out _ _ ?_ (fun hHeld => ?_); ((try dsimp only); exact ⟨bch hHeld.1 hbk, cell_below hbk hHeld.2⟩); clear hK K; (try clear hHeld0); (try rename_i hHeld0)))
    clear hE hbk
    (refine tkO 30 ?_; refine tkO 31 ?_; refine tkO 32 ?_; refine tkO 34 ?_; refine tkO 35 ?_)
    (refine tdoO 33 (fun K hK => ?_); ((go_simp; refine (hXW.out _ hHeld.1).mono ?_; rintro _ wl ⟨⟨ul, rfl, hOl⟩, hbl⟩); refine hK.out _ _ ?_ (fun hHeld => ?_); ((try dsimp only); exact ⟨bch hHeld.1 hbl, cell_below hbl hHeld.2⟩); clear hK K; (try clear hHeld0); (try rename_i hHeld0)))
    have hE := Lib.hid (eq_wrs_same ul _ ws wl (ListIs.of_owns hOl) (hWe.out wl hHeld.1) (by omega))
    clear hOl hbl
    (refine tdoO 36 (fun K hK => ?_); ((go_simp; refine hE.out.mono ?_; rintro _ wm ⟨rfl, hbm⟩); refine hK.out _ _ ?_ (fun hHeld => ?_); ((try dsimp only); exact ⟨bch hHeld.1 hbm, cell_below hbm hHeld.2⟩); clear hK K; (try clear hHeld0); (try rename_i hHeld0)))
    clear hE hbm
    (refine tkO 37 ?_; refine tkO 38 ?_)
    (refine wpAnyH_done (by kernel_rfl) ?_ _)
    have hfin := Lib.hid (bch hwe.out hHeld.1)
    clear hHeld hHeld0
    go_wp2
    go_ret
    exact ⟨rfl, hfin.out⟩
theorem BatchTaken_walk (vf vh vw : Value) (v1 : Value) (l1 : List Vec.Entry) (w : World) (q : BatQ w (vf, vh, vw)) (L1 : ListIs entCells 2 w v1 l1) (q1 : ∀ x ∈ l1, (Lit.int .i64 x.r).wf = true ∧ (Lit.int .i64 x.t).wf = true) (z1 : l1.length ≤ 140737488351232) (hL : Laid w) :
  Calls Tryz.prog 3 #[.agg #[vf, vh, vw], v1] w fun e w' => e = .returned (.bool true) ∧ Below w.heap.size w w' := by
 obtain ⟨⟨f, hf, -, hlf⟩, ⟨h, hh, -, hlh⟩, ⟨ws, hw, hq, hlw⟩⟩ := q
 exact batch_taken vf vh vw f h ws v1 l1 w hL hf hh hw L1 hlf hlh hlw hq z1
end Go.Proofs.YtognjohloobliaaGreatDoor
