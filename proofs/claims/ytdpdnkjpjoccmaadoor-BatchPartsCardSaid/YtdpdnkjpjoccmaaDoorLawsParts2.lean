/- The walk of keep.BatchParts. -/
import Derived.Test.YtdpdnkjpjoccmaaDoorWHeld
import Derived.Test.YtdpdnkjpjoccmaaDoorWOrdered
import Derived.Test.YtdpdnkjpjoccmaaDoorOnly
namespace Go.Proofs.YtdpdnkjpjoccmaaDoor
open Go.RowKit
set_option linter.unusedVariables false
set_option linter.unusedSimpArgs false
theorem few_one (va : Value) (a : List Vec.Entry) (v : Bool) (w W : World) (T : TypeId) (ha : VecIs w va a) (hla : a.length ≤ 140737488351232) (hv : fewB [a] = v) (hW : Below w.heap.size w W) :
    Calls Tryd.prog 34 #[.slice (some ⟨W.heap.size, 0, none⟩) 1 1] (W.alloc (.cells #[va] T)) fun e w' => e = .returned (.bool v) ∧ Below W.heap.size W w' := by
  have hx : Below w.heap.size w (W.alloc (.cells #[va] T)) := bal hW _
  refine (keep_few [va] [a] W.heap.size _ rfl (by simp) (few_cells [va] W T) (fun k h1 h2 => ?_) (fun l hl => ?_)).mono fun e w' ⟨he, hb⟩ => ⟨hv ▸ he, bch (bal (Below.refl _ _) _) hb⟩
  · rcases k with _ | k
    · exact ha.below hx
    · exact absurd h1 (by simp)
  · simp only [List.mem_cons, List.not_mem_nil, or_false] at hl
    rw [hl]; assumption
set_option maxHeartbeats 8000000 in
set_option maxRecDepth 20000 in
theorem batch_parts (vf vh vw : Value) (f h : List Vec.Entry) (ws : List WrB) (va : Value) (a : List Vec.Entry) (w : World) (hL : Laid w) (hf : VecIs w vf f) (hh : VecIs w vh h) (hw : WrsIs w vw ws) (ha : VecIs w va a) (hlf : f.length ≤ 140737488351232) (hlh : h.length ≤ 140737488351232) (hlw : ws.length ≤ 140737488351232) (hq : ∀ x ∈ ws, WrBOk x) (hla : a.length ≤ 140737488351232) :
    Calls Tryd.prog 7 #[.agg #[vf, vh, vw], va] w fun e w' => e = .returned (.bool true) ∧ Below w.heap.size w w' := by
  have hG := fun W (hW : Below w.heap.size w W) => gathered W (hL.below hW)
  have hK := from_known w hL
  have hO := fun W => ordered W
  have hH := fun W (hW : Below w.heap.size w W) => keep_held vf vh vw f h ws W (hL.below hW) (hf.below hW) (hh.below hW) (hw.below hW) hlf hlh hlw hq
  have hF : ∀ v, fewB [a] = v → ∀ (W : World) (T : TypeId), Below w.heap.size w W → Calls Tryd.prog 34 #[.slice (some ⟨W.heap.size, 0, none⟩) 1 1] (W.alloc (.cells #[va] T)) fun e w' => e = .returned (.bool v) ∧ Below W.heap.size W w' := fun v hv W T hW => few_one va a v w W T ha hla hv hW
  have hC1 := fun v hv => from_covers ha hf hla hlf v hv
  have hC2 := fun v hv => from_covers hh ha hlh hla v hv
  have hI1 := fun t r W (hW : Below w.heap.size w W) => ident_within t r vf va f a W (hf.below hW) (ha.below hW)
  have hI2 := fun t r W (hW : Below w.heap.size w W) => ident_within t r va vh a h W (ha.below hW) (hh.below hW)
  have hR1 := fun W (hW : Below w.heap.size w W) v l hv hl => batch_right vf va v f a l W (hL.below hW) (hf.below hW) (ha.below hW) hv hlf hla hl
  have hR2 := fun W (hW : Below w.heap.size w W) v l hv hl => batch_right va vh v a h l W (hL.below hW) (ha.below hW) (hh.below hW) hv hla hlh hl
  obtain ⟨o1, n1, e1, -, -⟩ := hf.list.at entCells_len
  obtain ⟨o2, n2, e2, -, -⟩ := hh.list.at entCells_len
  obtain ⟨o3, n3, e3, -, hcell⟩ := ListIs.at hw wrBCells_len
  obtain ⟨o4, n4, e4, -, -⟩ := ha.list.at entCells_len
  clear hf hh hw ha
  subst e1 e2 e3 e4
  replace hcell := Lib.hid hcell
  replace hG := Lib.hid hG
  replace hH := Lib.hid hH
  replace hO := Lib.hid hO
  replace hR1 := Lib.hid hR1
  replace hR2 := Lib.hid hR2
  replace hI1 := Lib.hid hI1
  replace hI2 := Lib.hid hI2
  replace hF := Lib.hid hF
  replace hC1 := Lib.hid hC1
  replace hC2 := Lib.hid hC2
  replace hq := Lib.hid hq
  go_enter Tryd.func7, Tryd.ntmps7
  go_wp2_with fail
  have q0 := row_at #[.slice o1 f.length n1, .slice o2 h.length n2, .slice o3 ws.length n3] 64 (rfl : w.heap.size = w.heap.size)
  have hb1 := bal (Below.refl w.heap.size w) (Obj.cells #[.slice o1 f.length n1, .slice o2 h.length n2, .slice o3 ws.length n3] 64)
  have hs1 : (w.alloc (Obj.cells #[.slice o1 f.length n1, .slice o2 h.length n2, .slice o3 ws.length n3] 64)).heap.size = w.heap.size + 1 := by simp
  generalize w.alloc (Obj.cells #[.slice o1 f.length n1, .slice o2 h.length n2, .slice o3 ws.length n3] 64) = w1 at *
  refine (hG.out _ hb1).mono ?_
  rintro _ w2 ⟨rfl, hb2⟩
  replace q0 := q0.below hb2
  replace hb1 := bch hb1 hb2
  replace hs1 : w.heap.size + 1 ≤ w2.heap.size := by have := hb2.size; omega
  clear hb2
  go_wp2_with fail
  refine (hK _ hb1).mono ?_
  rintro _ w3 ⟨rfl, hb2⟩
  replace q0 := q0.below hb2
  replace hb1 := bch hb1 hb2
  replace hs1 : w.heap.size + 1 ≤ w3.heap.size := by have := hb2.size; omega
  clear hb2
  go_wp2_with fail
  refine (hO.out _).mono ?_
  rintro _ w3' ⟨rfl, hb2⟩
  replace q0 := q0.below hb2
  replace hb1 := bch hb1 hb2
  replace hs1 : w.heap.size + 1 ≤ w3'.heap.size := by have := hb2.size; omega
  clear hb2
  (have c0 := q0.cell 0; have c1 := q0.cell 1; have c2 := q0.cell 2; simp only [List.set_cons_succ, List.set_cons_zero, List.getElem?_cons_zero, List.getElem?_cons_succ] at c0 c1 c2)
  go_wp2_with fail
  refine (hH.out _ hb1).mono ?_
  rintro _ w4 ⟨⟨r, rfl, hr⟩, hb2⟩
  replace q0 := q0.below hb2
  replace hb1 := bch hb1 hb2
  replace hs1 : w.heap.size + 1 ≤ w4.heap.size := by have := hb2.size; omega
  clear hb2 c0 c1 c2
  (have c0 := q0.cell 0; have c1 := q0.cell 1; have c2 := q0.cell 2; simp only [List.set_cons_succ, List.set_cons_zero, List.getElem?_cons_zero, List.getElem?_cons_succ] at c0 c1 c2)
  cases r with
  | false =>
    replace hr := Lib.hid hr
    go_wp2
    go_ret
    exact ⟨rfl, hb1⟩
  | true =>
    have hok := hr rfl
    replace hr := Lib.hid hr
    cases hf2 : fewB [a] with
    | false =>
      have hF2 := hF.out _ hf2
      replace hok := Lib.hid hok
      replace hf2 := Lib.hid hf2
      go_wp2_with fail
      refine (hF2 _ _ hb1).mono ?_
      rintro _ w5 ⟨rfl, hb2⟩
      go_wp2
      go_ret
      exact ⟨rfl, by (repeat (first | exact Below.refl _ _ | assumption | refine bal ?_ _ | refine bdr ?_ | refine bdn ?_ _ | refine bst ?_ (by first | assumption | exact Nat.le_refl _ | omega) _ | refine bch ?_ (by assumption)))⟩
    | true =>
      have hF2 := hF.out _ hf2
      replace hf2 := Lib.hid hf2
      replace hok := Lib.hid hok
      go_wp2_with fail
      refine (hF2 _ _ hb1).mono ?_
      rintro _ w5 ⟨rfl, hb2⟩
      replace q0 := q0.below hb2
      replace hb1 := bch hb1 hb2
      replace hs1 : w.heap.size + 1 ≤ w5.heap.size := by have := hb2.size; omega
      clear hb2 c0 c1 c2 hF2
      (have c0 := q0.cell 0; have c1 := q0.cell 1; have c2 := q0.cell 2; simp only [List.set_cons_succ, List.set_cons_zero, List.getElem?_cons_zero, List.getElem?_cons_succ] at c0 c1 c2)
      cases hcv : coversB a f with
      | false =>
        have hC := hC1.out _ hcv
        replace hcv := Lib.hid hcv
        go_wp2_with fail
        refine (hC _ hb1).mono ?_
        rintro _ w6 ⟨rfl, hb2⟩
        go_wp2
        go_ret
        exact ⟨rfl, by (repeat (first | exact Below.refl _ _ | assumption | refine bal ?_ _ | refine bdr ?_ | refine bdn ?_ _ | refine bst ?_ (by first | assumption | exact Nat.le_refl _ | omega) _ | refine bch ?_ (by assumption)))⟩
      | true =>
        have hC := hC1.out _ hcv
        replace hcv := Lib.hid hcv
        go_wp2_with fail
        refine (hC _ hb1).mono ?_
        rintro _ w6 ⟨rfl, hb2⟩
        replace q0 := q0.below hb2
        replace hb1 := bch hb1 hb2
        replace hs1 : w.heap.size + 1 ≤ w6.heap.size := by have := hb2.size; omega
        clear hb2 c0 c1 c2 hC
        (have c0 := q0.cell 0; have c1 := q0.cell 1; have c2 := q0.cell 2; simp only [List.set_cons_succ, List.set_cons_zero, List.getElem?_cons_zero, List.getElem?_cons_succ] at c0 c1 c2)
        cases hcw : coversB h a with
        | false =>
          have hC := hC2.out _ hcw
          replace hcw := Lib.hid hcw
          go_wp2_with fail
          refine (hC _ hb1).mono ?_
          rintro _ w7 ⟨rfl, hb2⟩
          go_wp2
          go_ret
          exact ⟨rfl, by (repeat (first | exact Below.refl _ _ | assumption | refine bal ?_ _ | refine bdr ?_ | refine bdn ?_ _ | refine bst ?_ (by first | assumption | exact Nat.le_refl _ | omega) _ | refine bch ?_ (by assumption)))⟩
        | true =>
          have hC := hC2.out _ hcw
          have hparts := Bat.parts ((Bat.right_iff _ _ _).1 hok.out) (show Bat.covers a f = true from hcv.out) (show Bat.covers h a = true from hcw)
          replace hparts := Lib.hid hparts
          replace hcw := Lib.hid hcw
          go_wp2_with fail
          refine (hC _ hb1).mono ?_
          rintro _ w7 ⟨rfl, hb2⟩
          replace q0 := q0.below hb2
          replace hb1 := bch hb1 hb2
          replace hs1 : w.heap.size + 1 ≤ w7.heap.size := by have := hb2.size; omega
          clear hb2 c0 c1 c2 hC
          (have c0 := q0.cell 0; have c1 := q0.cell 1; have c2 := q0.cell 2; simp only [List.set_cons_succ, List.set_cons_zero, List.getElem?_cons_zero, List.getElem?_cons_succ] at c0 c1 c2)
          go_wp2_with fail
          have hlt : w.heap.size < w7.heap.size := by omega
          go_region
          · have R1 : Row (((w7.alloc (Obj.cells #[(.slice o1 f.length n1), (.slice o4 a.length n4), .slice none 0 0] 64)).alloc (Obj.cells #[(.slice o4 a.length n4), (.slice o2 h.length n2), .slice none 0 0] 64)).drew) w7.heap.size 64 [(.slice o1 f.length n1), (.slice o4 a.length n4), .slice none 0 0] := ((row_alloc w7 #[(.slice o1 f.length n1), (.slice o4 a.length n4), .slice none 0 0] 64).alloc _).drew
            have R2 : Row (((w7.alloc (Obj.cells #[(.slice o1 f.length n1), (.slice o4 a.length n4), .slice none 0 0] 64)).alloc (Obj.cells #[(.slice o4 a.length n4), (.slice o2 h.length n2), .slice none 0 0] 64)).drew) (w7.heap.size + 1) 64 [(.slice o4 a.length n4), (.slice o2 h.length n2), .slice none 0 0] := (row_at #[(.slice o4 a.length n4), (.slice o2 h.length n2), .slice none 0 0] 64 (by simp)).drew
            have q8 : Row (((w7.alloc (Obj.cells #[(.slice o1 f.length n1), (.slice o4 a.length n4), .slice none 0 0] 64)).alloc (Obj.cells #[(.slice o4 a.length n4), (.slice o2 h.length n2), .slice none 0 0] 64)).drew) w.heap.size 64 [(.slice o1 f.length n1), (.slice o2 h.length n2), (.slice o3 ws.length n3)] := ((q0.alloc _).alloc _).drew
            have hb8 : Below w.heap.size w (((w7.alloc (Obj.cells #[(.slice o1 f.length n1), (.slice o4 a.length n4), .slice none 0 0] 64)).alloc (Obj.cells #[(.slice o4 a.length n4), (.slice o2 h.length n2), .slice none 0 0] 64)).drew) := (bal (bal hb1 _) _).drew
            have hz8 : (((w7.alloc (Obj.cells #[(.slice o1 f.length n1), (.slice o4 a.length n4), .slice none 0 0] 64)).alloc (Obj.cells #[(.slice o4 a.length n4), (.slice o2 h.length n2), .slice none 0 0] 64)).drew).heap.size = w7.heap.size + 2 := by simp
            generalize (((w7.alloc (Obj.cells #[(.slice o1 f.length n1), (.slice o4 a.length n4), .slice none 0 0] 64)).alloc (Obj.cells #[(.slice o4 a.length n4), (.slice o2 h.length n2), .slice none 0 0] 64)).drew) = w8 at *
            generalize hp2 : w7.heap.size + 1 = p2 at *
            generalize hp1 : w7.heap.size = p1 at *
            have hpp : p1 ≠ p2 ∧ w.heap.size < p1 ∧ w.heap.size < p2 ∧ p1 < w8.heap.size ∧ p2 < w8.heap.size := by omega
            have hok2 := (Bat.right_iff _ _ _).1 hok.out
            have hl60 : ws.length ≤ 60 := by have := hok2.len; rw [List.length_map] at this; exact this
            clear hok2
            generalize hbase : w8.heap.size = base at *
            have c0 : w8.cell? ⟨w.heap.size, 2, none⟩ = some (.slice o3 ws.length n3) := q8.cell 2
            replace R1 := Lib.hid R1
            replace R2 := Lib.hid R2
            replace hok := Lib.hid hok
            go_wp2_with fail
            clear c0
            go_loopw [53] (fun i wr => ∃ (k : Nat) (u1 u2 : Value), k ≤ ws.length ∧ i = .int .i64 k ∧ Row wr p1 64 [(.slice o1 f.length n1), (.slice o4 a.length n4), u1] ∧ Row wr p2 64 [(.slice o4 a.length n4), (.slice o2 h.length n2), u2] ∧ wr.ownsRow base 71 6 u1 ((ws.take k).filter (fun x => Bat.within x.t x.r f a)).length (((ws.take k).filter (fun x => Bat.within x.t x.r f a)).flatMap wrBCells) ∧ wr.ownsRow base 71 6 u2 ((ws.take k).filter (fun x => Bat.within x.t x.r a h)).length (((ws.take k).filter (fun x => Bat.within x.t x.r a h)).flatMap wrBCells) ∧ (u1.ownBlock = none ∨ u2.ownBlock = none ∨ u1.ownBlock ≠ u2.ownBlock) ∧ Only (fun j => j = p1 ∨ j = p2) w8 wr) (fun i _ => ws.length - (intOf i).toNat)
            case atStart => exact ⟨0, _, _, by omega, rfl, R1.out, R2.out, World.ownsRow_nil _ _ _ _, World.ownsRow_nil _ _ _ _, Or.inl rfl, Only.refl _ _⟩
            case round =>
              obtain ⟨k, u1, u2, hk, rfl, hr1, hr2, hn1, hn2, hdis, hon⟩ := hrel
              have hszr := hon.size
              have hbr : Below w.heap.size w wr := hb8.trans (hon.below (B := w.heap.size) (fun j hj => by rcases hj with hj | hj <;> omega) (by omega))
              have d0 : wr.cell? ⟨w.heap.size, 0, none⟩ = some (.slice o1 f.length n1) := hon.cell (q8.cell 0) (fun e => by rcases e with e | e <;> (have e : w.heap.size = _ := e; omega))
              have d1 : wr.cell? ⟨w.heap.size, 1, none⟩ = some (.slice o2 h.length n2) := hon.cell (q8.cell 1) (fun e => by rcases e with e | e <;> (have e : w.heap.size = _ := e; omega))
              have d2 : wr.cell? ⟨w.heap.size, 2, none⟩ = some (.slice o3 ws.length n3) := hon.cell (q8.cell 2) (fun e => by rcases e with e | e <;> (have e : w.heap.size = _ := e; omega))
              by_cases hlt : k < ws.length
              · obtain ⟨b1, f1, rfl, hbl1, hc1⟩ := hcell.out k hlt
                have hbl1 := hbl1 (by omega)
                have x0 : wr.cell? ⟨b1, f1 + k * 6, none⟩ = some (.int .i64 ws[k].t) := cell_below hbr (hc1 0 _ rfl)
                have x1 : wr.cell? ⟨b1, f1 + k * 6 + 1, none⟩ = some (.int .i64 ws[k].r) := cell_below hbr (hc1 1 _ rfl)
                have x2 : wr.cell? ⟨b1, f1 + k * 6 + 2, none⟩ = some (.int .i64 ws[k].k) := cell_below hbr (hc1 2 _ rfl)
                have x3 : wr.cell? ⟨b1, f1 + k * 6 + 3, none⟩ = some (.string ws[k].key) := cell_below hbr (hc1 3 _ rfl)
                have x4 : wr.cell? ⟨b1, f1 + k * 6 + 4, none⟩ = some (.string ws[k].val) := cell_below hbr (hc1 4 _ rfl)
                have x5 : wr.cell? ⟨b1, f1 + k * 6 + 5, none⟩ = some (.int .i64 ws[k].n) := cell_below hbr (hc1 5 _ rfl)
                clear hc1
                have ht1 : (ws.take (k + 1)).filter (fun x => Bat.within x.t x.r f a) = (ws.take k).filter (fun x => Bat.within x.t x.r f a) ++ (if Bat.within ws[k].t ws[k].r f a then [ws[k]] else []) := by
                  rw [List.take_succ_eq_append_getElem hlt, List.filter_append]
                  cases hq : Bat.within ws[k].t ws[k].r f a <;> simp [hq]
                have ht2 : (ws.take (k + 1)).filter (fun x => Bat.within x.t x.r a h) = (ws.take k).filter (fun x => Bat.within x.t x.r a h) ++ (if Bat.within ws[k].t ws[k].r a h then [ws[k]] else []) := by
                  rw [List.take_succ_eq_append_getElem hlt, List.filter_append]
                  cases hq : Bat.within ws[k].t ws[k].r a h <;> simp [hq]
                have hll1 : ((ws.take k).filter (fun x => Bat.within x.t x.r f a)).length ≤ 60 := by
                  have := List.length_filter_le (fun x : WrB => Bat.within x.t x.r f a) (ws.take k)
                  rw [List.length_take] at this; omega
                have hll2 : ((ws.take k).filter (fun x => Bat.within x.t x.r a h)).length ≤ 60 := by
                  have := List.length_filter_le (fun x : WrB => Bat.within x.t x.r a h) (ws.take k)
                  rw [List.length_take] at this; omega
                have hboth : Bat.within ws[k].t ws[k].r f a = true → Bat.within ws[k].t ws[k].r a h = false := fun e => by
                  unfold Bat.within at *
                  simp only [Bool.and_eq_true, decide_eq_true_eq] at e
                  have : ¬ Vec.of a ws[k].r < ws[k].t := by omega
                  simp [this]
                generalize (ws.take k).filter (fun x => Bat.within x.t x.r f a) = l1 at *
                generalize (ws.take k).filter (fun x => Bat.within x.t x.r a h) = l2 at *
                generalize hT1 : (ws.take (k + 1)).filter (fun x => Bat.within x.t x.r f a) = m1 at *
                generalize hT2 : (ws.take (k + 1)).filter (fun x => Bat.within x.t x.r a h) = m2 at *
                replace hT1 := Lib.hid hT1
                replace hT2 := Lib.hid hT2
                generalize ws[k] = x at *
                have hi1 := fun W hW => hI1.out x.t x.r W hW
                have hi2 := fun W hW => hI2.out x.t x.r W hW
                have hal := row_alloc wr #[.int .i64 x.t, .int .i64 x.r, .int .i64 x.k, .string x.key, .string x.val, .int .i64 x.n] 71
                have hbA : Below wr.heap.size wr (wr.alloc (.cells #[.int .i64 x.t, .int .i64 x.r, .int .i64 x.k, .string x.key, .string x.val, .int .i64 x.n] 71)) := bal (Below.refl _ _) _
                have y0 : (wr.alloc (.cells #[.int .i64 x.t, .int .i64 x.r, .int .i64 x.k, .string x.key, .string x.val, .int .i64 x.n] 71)).cell? ⟨wr.heap.size, 0, none⟩ = some (.int .i64 x.t) := hal.cell 0
                have y1 : (wr.alloc (.cells #[.int .i64 x.t, .int .i64 x.r, .int .i64 x.k, .string x.key, .string x.val, .int .i64 x.n] 71)).cell? ⟨wr.heap.size, 1, none⟩ = some (.int .i64 x.r) := hal.cell 1
                have hwlt : w.heap.size < wr.heap.size := by omega
                have hvl1 : u1.ownBlock ≠ some p1 := fun e => by have := (hn1.lt _ e).1; omega
                have hvl1' : u1.ownBlock ≠ some p2 := fun e => by have := (hn1.lt _ e).1; omega
                have hvl2 : u2.ownBlock ≠ some p2 := fun e => by have := (hn2.lt _ e).1; omega
                have hvl2' : u2.ownBlock ≠ some p1 := fun e => by have := (hn2.lt _ e).1; omega
                have hnl1 : ∀ j, u1.ownBlock = some j → base ≤ j := fun j e => (hn1.lt _ e).1
                have hnl2 : ∀ j, u2.ownBlock = some j → base ≤ j := fun j e => (hn2.lt _ e).1
                have hdis1 : u2.ownBlock = none ∨ u2.ownBlock ≠ u1.ownBlock := by
                  rcases hdis with e | e | e
                  · cases h' : u2.ownBlock with
                    | none => exact Or.inl rfl
                    | some j => exact Or.inr (by rw [e]; simp)
                  · exact Or.inl e
                  · exact Or.inr (fun e' => e e'.symm)
                have hdis2 : u1.ownBlock = none ∨ u1.ownBlock ≠ u2.ownBlock := by
                  rcases hdis with e | e | e
                  · exact Or.inl e
                  · cases h' : u1.ownBlock with
                    | none => exact Or.inl rfl
                    | some j => exact Or.inr (by rw [e]; simp)
                  · exact Or.inr e
                have hvlb1 : u1.ownBlock ≠ some wr.heap.size := fun e => by have := (hn1.lt _ e).2; omega
                have hvlb2 : u2.ownBlock ≠ some wr.heap.size := fun e => by have := (hn2.lt _ e).2; omega
                replace hdis := Lib.hid hdis
                replace hal := Lib.hid hal
                replace hr1 := Lib.hid hr1
                replace hr2 := Lib.hid hr2
                replace hn1 := Lib.hid hn1
                replace hn2 := Lib.hid hn2
                replace ht1 := Lib.hid ht1
                replace ht2 := Lib.hid ht2
                replace hi1 := Lib.hid hi1
                replace hi2 := Lib.hid hi2
                replace hboth := Lib.hid hboth
                cases hw1 : Bat.within x.t x.r f a with
                | true =>
                  have hw2 := hboth.out hw1
                  have g1 := hi1.out
                  have g2 := hi2.out
                  rw [show within x.t x.r f a = true from hw1] at g1
                  rw [show within x.t x.r a h = false from hw2] at g2
                  have hm1 : Hid (m1 = l1 ++ [x]) := Lib.hid (by rw [ht1.out, hw1]; simp)
                  have hm2 : Hid (m2 = l2) := Lib.hid (by rw [ht2.out, hw2]; simp)
                  clear hw1 hw2 hi1 hi2 hboth ht1 ht2
                  replace g1 := Lib.hid g1
                  replace g2 := Lib.hid g2
                  go_wp2_with fail
                  generalize wr.alloc (.cells #[.int .i64 x.t, .int .i64 x.r, .int .i64 x.k, .string x.key, .string x.val, .int .i64 x.n] 71) = wA at *
                  refine (g1.out wA (bch hbr hbA)).mono ?_
                  rintro _ wB ⟨rfl, hb9⟩
                  have hbB := bch hbA hb9
                  have hrA1 := Lib.hid (hr1.out.below hbB)
                  have hrA2 := Lib.hid (hr2.out.below hbB)
                  have honA := hon.chain hbB
                  have hsB : base ≤ wB.heap.size := by have := honA.size; omega
                  replace hal := Lib.hid (hal.out.below hb9)
                  have z0 : wB.cell? ⟨wr.heap.size, 0, none⟩ = some (.int .i64 x.t) := hal.out.cell 0
                  have z1 : wB.cell? ⟨wr.heap.size, 1, none⟩ = some (.int .i64 x.r) := hal.out.cell 1
                  have z2 : wB.cell? ⟨wr.heap.size, 2, none⟩ = some (.int .i64 x.k) := hal.out.cell 2
                  have z3 : wB.cell? ⟨wr.heap.size, 3, none⟩ = some (.string x.key) := hal.out.cell 3
                  have z4 : wB.cell? ⟨wr.heap.size, 4, none⟩ = some (.string x.val) := hal.out.cell 4
                  have z5 : wB.cell? ⟨wr.heap.size, 5, none⟩ = some (.int .i64 x.n) := hal.out.cell 5
                  replace d0 := cell_below hbB d0
                  replace d1 := cell_below hbB d1
                  replace d2 := cell_below hbB d2
                  have hn1 := owns_below hn1.out hbB
                  have hn2 := owns_below hn2.out hbB
                  clear hr1 hr2 x0 x1 x2 x3 x4 x5 y0 y1
                  have e1 : wB.cell? ⟨p1, 2, none⟩ = some u1 := hrA1.out.cell 2
                  go_wp2_with (first
                    | (at_builtin; (go_must (refine app_one rfl _ _ 62 71 rfl base (Value.agg #[.int .i64 0, .int .i64 0, .int .i64 0, .string ⟨#[]⟩, .string ⟨#[]⟩, .int .i64 0]) 6 64 Tryd.underlying62 (by kernel_rfl) (by kernel_rfl) _ _ _ rfl hn1 _ rfl rfl ?_ (by omega) (by omega) hsB ?_); (focus (first | exact ⟨rfl, rfl⟩ | rfl | simp [Value.oneCell'])); (
                        intro v5 w5 hown5 hg5 hbk5 hne5 hb5
                        obtain ⟨g5, cap5, rfl⟩ := owns_addr hown5 hne5
                        have hr5 := hrA1.out.grown hg5 hvl1
                        have hs5 := hrA2.out.grown hg5 hvl1'
                        have al5 := hal.out.grown hg5 hvlb1
                        have hon5 := honA.grown hg5 (fun j hj => Or.inr (by rw [hbase]; exact hnl1 j hj))
                        have hm5 := hn2.kept hg5 hdis1
                        have e5 : w5.cell? ⟨p1, 2, none⟩ = some u1 := hr5.cell 2
                        have f5 := hr5.frozen 2 (by simp)
                        have hg5b := (hown5.lt g5 rfl).1
                        have hd5 : (Value.slice (some ⟨g5, 0, none⟩) (l1.length + 1) cap5).ownBlock ≠ u2.ownBlock := fun e => by
                            have e6 : u2.ownBlock = some g5 := e.symm
                            rcases hbk5 with h5 | h5
                            · rcases hdis1 with h6 | h6
                              · rw [h6] at e6; cases e6
                              · exact h6 (e6.trans h5)
                            · have h5 : some g5 = some _ := h5
                              injection h5 with h5
                              have := (hn2.lt _ e6).2
                              omega
                        have hr6 : Row (w5.setCell ⟨p1, 2, none⟩ (.slice (some ⟨g5, 0, none⟩) (l1.length + 1) cap5)) p1 64 [(.slice o1 f.length n1), (.slice o4 a.length n4), (.slice (some ⟨g5, 0, none⟩) (l1.length + 1) cap5)] := hr5.set 2 _
                        have hs6 := hs5.other (p := ⟨p1, 2, none⟩) (by show ¬ p1 = p2; omega) (.slice (some ⟨g5, 0, none⟩) (l1.length + 1) cap5)
                        have al6 := al5.other (p := ⟨p1, 2, none⟩) (by show ¬ p1 = wr.heap.size; omega) (.slice (some ⟨g5, 0, none⟩) (l1.length + 1) cap5)
                        have hon6 := hon5.set (p := ⟨p1, 2, none⟩) (by first | exact Or.inl (Or.inl rfl) | exact Or.inl (Or.inr rfl)) (.slice (some ⟨g5, 0, none⟩) (l1.length + 1) cap5)
                        have oset := (Only.refl (fun j => j = p1) w5).set (p := ⟨p1, 2, none⟩) (Or.inl rfl) (.slice (some ⟨g5, 0, none⟩) (l1.length + 1) cap5)
                        have ow6 := owns_only hown5 oset (fun j hj e => by have h9 : some g5 = some j := hj; injection h9 with h9; have e2 : j = p1 := e; omega)
                        have om6 := owns_only hm5 oset (fun j hj e => by have := hnl2 j hj; have e2 : j = p1 := e; omega)
                        have t0 : (w5.setCell ⟨p1, 2, none⟩ (.slice (some ⟨g5, 0, none⟩) (l1.length + 1) cap5)).cell? ⟨wr.heap.size, 0, none⟩ = some (.int .i64 x.t) := al6.cell 0
                        have t1 : (w5.setCell ⟨p1, 2, none⟩ (.slice (some ⟨g5, 0, none⟩) (l1.length + 1) cap5)).cell? ⟨wr.heap.size, 1, none⟩ = some (.int .i64 x.r) := al6.cell 1
                        have dd1 : (w5.setCell ⟨p1, 2, none⟩ (.slice (some ⟨g5, 0, none⟩) (l1.length + 1) cap5)).cell? ⟨w.heap.size, 1, none⟩ = some (.slice o2 h.length n2) := hon6.cell (q8.cell 1) (fun e => by rcases e with e | e <;> (have e : w.heap.size = _ := e; omega))
                        have dd0 : (w5.setCell ⟨p1, 2, none⟩ (.slice (some ⟨g5, 0, none⟩) (l1.length + 1) cap5)).cell? ⟨w.heap.size, 0, none⟩ = some (.slice o1 f.length n1) := hon6.cell (q8.cell 0) (fun e => by rcases e with e | e <;> (have e : w.heap.size = _ := e; omega))
                        replace hr6 := Lib.hid hr6
                        replace hs6 := Lib.hid hs6
                        replace al6 := Lib.hid al6
                        replace hon6 := Lib.hid hon6
                        replace ow6 := Lib.hid ow6
                        replace om6 := Lib.hid om6
                        clear hr5 hs5 al5 hon5 hm5 oset hown5 hg5 hb5 hbk5))))
                  generalize w5.setCell ⟨p1, 2, none⟩ (.slice (some ⟨g5, 0, none⟩) (l1.length + 1) cap5) = w6 at *
                  have hbw6 : Below w.heap.size w w6 := hb8.trans (hon6.out.below (B := w.heap.size) (fun j hj => by rcases hj with hj | hj <;> omega) (by omega))
                  refine (g2.out w6 hbw6).mono ?_
                  rintro _ w7x ⟨rfl, hb7x⟩
                  have k1 := Lib.hid (hr6.out.below hb7x)
                  have k2 := Lib.hid (hs6.out.below hb7x)
                  have k3 := Lib.hid (owns_below ow6.out hb7x)
                  have k4 := Lib.hid (owns_below om6.out hb7x)
                  have k5 := Lib.hid (hon6.out.chain hb7x)
                  replace hn1 := Lib.hid hn1
                  replace hn2 := Lib.hid hn2
                  replace hd5 := Lib.hid hd5
                  go_wp2
                  go_roundw
                  case rel => exact ⟨k + 1, _, u2, by omega, by go_num, k1.out, k2.out, by rw [hT1.out, hm1.out, List.length_append, List.flatMap_append]; exact k3.out, by rw [hT2.out, hm2.out]; exact k4.out, Or.inr (Or.inr hd5.out), k5.out⟩
                  case measure => simp [intOf]; omega
                | false =>
                  cases hw2 : Bat.within x.t x.r a h with
                  | true =>
                    have g1 := hi1.out
                    have g2 := hi2.out
                    rw [show within x.t x.r f a = false from hw1] at g1
                    rw [show within x.t x.r a h = true from hw2] at g2
                    have hm1 : Hid (m1 = l1) := Lib.hid (by rw [ht1.out, hw1]; simp)
                    have hm2 : Hid (m2 = l2 ++ [x]) := Lib.hid (by rw [ht2.out, hw2]; simp)
                    clear hw1 hw2 hi1 hi2 hboth ht1 ht2
                    replace g1 := Lib.hid g1
                    replace g2 := Lib.hid g2
                    go_wp2_with fail
                    generalize wr.alloc (.cells #[.int .i64 x.t, .int .i64 x.r, .int .i64 x.k, .string x.key, .string x.val, .int .i64 x.n] 71) = wA at *
                    refine (g1.out wA (bch hbr hbA)).mono ?_
                    rintro _ wB ⟨rfl, hb9⟩
                    have hbB := bch hbA hb9
                    have hrA1 := Lib.hid (hr1.out.below hbB)
                    have hrA2 := Lib.hid (hr2.out.below hbB)
                    have honA := hon.chain hbB
                    have hsB : base ≤ wB.heap.size := by have := honA.size; omega
                    replace hal := Lib.hid (hal.out.below hb9)
                    have z0 : wB.cell? ⟨wr.heap.size, 0, none⟩ = some (.int .i64 x.t) := hal.out.cell 0
                    have z1 : wB.cell? ⟨wr.heap.size, 1, none⟩ = some (.int .i64 x.r) := hal.out.cell 1
                    have z2 : wB.cell? ⟨wr.heap.size, 2, none⟩ = some (.int .i64 x.k) := hal.out.cell 2
                    have z3 : wB.cell? ⟨wr.heap.size, 3, none⟩ = some (.string x.key) := hal.out.cell 3
                    have z4 : wB.cell? ⟨wr.heap.size, 4, none⟩ = some (.string x.val) := hal.out.cell 4
                    have z5 : wB.cell? ⟨wr.heap.size, 5, none⟩ = some (.int .i64 x.n) := hal.out.cell 5
                    replace d0 := cell_below hbB d0
                    replace d1 := cell_below hbB d1
                    replace d2 := cell_below hbB d2
                    have hn1 := owns_below hn1.out hbB
                    have hn2 := owns_below hn2.out hbB
                    clear hr1 hr2 x0 x1 x2 x3 x4 x5 y0 y1
                    go_wp2_with fail
                    refine (g2.out wB (bch hbr hbB)).mono ?_
                    rintro _ wC ⟨rfl, hbC⟩
                    have hbB2 := bch hbB hbC
                    replace hrA1 := Lib.hid (hrA1.out.below hbC)
                    replace hrA2 := Lib.hid (hrA2.out.below hbC)
                    replace honA := honA.chain hbC
                    replace hsB : base ≤ wC.heap.size := by have := honA.size; omega
                    replace hal := Lib.hid (hal.out.below hbC)
                    replace z0 : wC.cell? ⟨wr.heap.size, 0, none⟩ = some (.int .i64 x.t) := hal.out.cell 0
                    replace z1 : wC.cell? ⟨wr.heap.size, 1, none⟩ = some (.int .i64 x.r) := hal.out.cell 1
                    replace z2 : wC.cell? ⟨wr.heap.size, 2, none⟩ = some (.int .i64 x.k) := hal.out.cell 2
                    replace z3 : wC.cell? ⟨wr.heap.size, 3, none⟩ = some (.string x.key) := hal.out.cell 3
                    replace z4 : wC.cell? ⟨wr.heap.size, 4, none⟩ = some (.string x.val) := hal.out.cell 4
                    replace z5 : wC.cell? ⟨wr.heap.size, 5, none⟩ = some (.int .i64 x.n) := hal.out.cell 5
                    have e1 : wC.cell? ⟨p2, 2, none⟩ = some u2 := hrA2.out.cell 2
                    replace hn1 := owns_below hn1 hbC
                    replace hn2 := owns_below hn2 hbC
                    go_wp2_with (first
                      | (at_builtin; (go_must (refine app_one rfl _ _ 62 71 rfl base (Value.agg #[.int .i64 0, .int .i64 0, .int .i64 0, .string ⟨#[]⟩, .string ⟨#[]⟩, .int .i64 0]) 6 64 Tryd.underlying62 (by kernel_rfl) (by kernel_rfl) _ _ _ rfl hn2 _ rfl rfl ?_ (by omega) (by omega) hsB ?_); (focus (first | exact ⟨rfl, rfl⟩ | rfl | simp [Value.oneCell'])); (
                          intro v5 w5 hown5 hg5 hbk5 hne5 hb5
                          obtain ⟨g5, cap5, rfl⟩ := owns_addr hown5 hne5
                          have hr5 := hrA2.out.grown hg5 hvl2
                          have hs5 := hrA1.out.grown hg5 hvl2'
                          have al5 := hal.out.grown hg5 hvlb2
                          have hon5 := honA.grown hg5 (fun j hj => Or.inr (by rw [hbase]; exact hnl2 j hj))
                          have hm5 := hn1.kept hg5 hdis2
                          have e5 : w5.cell? ⟨p2, 2, none⟩ = some u2 := hr5.cell 2
                          have f5 := hr5.frozen 2 (by simp)
                          have hg5b := (hown5.lt g5 rfl).1
                          have hd5 : (Value.slice (some ⟨g5, 0, none⟩) (l2.length + 1) cap5).ownBlock ≠ u1.ownBlock := fun e => by
                              have e6 : u1.ownBlock = some g5 := e.symm
                              rcases hbk5 with h5 | h5
                              · rcases hdis2 with h6 | h6
                                · rw [h6] at e6; cases e6
                                · exact h6 (e6.trans h5)
                              · have h5 : some g5 = some _ := h5
                                injection h5 with h5
                                have := (hn1.lt _ e6).2
                                omega
                          have hr6 : Row (w5.setCell ⟨p2, 2, none⟩ (.slice (some ⟨g5, 0, none⟩) (l2.length + 1) cap5)) p2 64 [(.slice o4 a.length n4), (.slice o2 h.length n2), (.slice (some ⟨g5, 0, none⟩) (l2.length + 1) cap5)] := hr5.set 2 _
                          have hs6 := hs5.other (p := ⟨p2, 2, none⟩) (by show ¬ p2 = p1; omega) (.slice (some ⟨g5, 0, none⟩) (l2.length + 1) cap5)
                          have al6 := al5.other (p := ⟨p2, 2, none⟩) (by show ¬ p2 = wr.heap.size; omega) (.slice (some ⟨g5, 0, none⟩) (l2.length + 1) cap5)
                          have hon6 := hon5.set (p := ⟨p2, 2, none⟩) (by first | exact Or.inl (Or.inl rfl) | exact Or.inl (Or.inr rfl)) (.slice (some ⟨g5, 0, none⟩) (l2.length + 1) cap5)
                          have oset := (Only.refl (fun j => j = p2) w5).set (p := ⟨p2, 2, none⟩) (Or.inl rfl) (.slice (some ⟨g5, 0, none⟩) (l2.length + 1) cap5)
                          have ow6 := owns_only hown5 oset (fun j hj e => by have h9 : some g5 = some j := hj; injection h9 with h9; have e2 : j = p2 := e; omega)
                          have om6 := owns_only hm5 oset (fun j hj e => by have := hnl1 j hj; have e2 : j = p2 := e; omega)
                          have t0 : (w5.setCell ⟨p2, 2, none⟩ (.slice (some ⟨g5, 0, none⟩) (l2.length + 1) cap5)).cell? ⟨wr.heap.size, 0, none⟩ = some (.int .i64 x.t) := al6.cell 0
                          have t1 : (w5.setCell ⟨p2, 2, none⟩ (.slice (some ⟨g5, 0, none⟩) (l2.length + 1) cap5)).cell? ⟨wr.heap.size, 1, none⟩ = some (.int .i64 x.r) := al6.cell 1
                          have dd1 : (w5.setCell ⟨p2, 2, none⟩ (.slice (some ⟨g5, 0, none⟩) (l2.length + 1) cap5)).cell? ⟨w.heap.size, 1, none⟩ = some (.slice o2 h.length n2) := hon6.cell (q8.cell 1) (fun e => by rcases e with e | e <;> (have e : w.heap.size = _ := e; omega))
                          have dd0 : (w5.setCell ⟨p2, 2, none⟩ (.slice (some ⟨g5, 0, none⟩) (l2.length + 1) cap5)).cell? ⟨w.heap.size, 0, none⟩ = some (.slice o1 f.length n1) := hon6.cell (q8.cell 0) (fun e => by rcases e with e | e <;> (have e : w.heap.size = _ := e; omega))
                          replace hr6 := Lib.hid hr6
                          replace hs6 := Lib.hid hs6
                          replace al6 := Lib.hid al6
                          replace hon6 := Lib.hid hon6
                          replace ow6 := Lib.hid ow6
                          replace om6 := Lib.hid om6
                          clear hr5 hs5 al5 hon5 hm5 oset hown5 hg5 hb5 hbk5))))
                    generalize w5.setCell ⟨p2, 2, none⟩ (.slice (some ⟨g5, 0, none⟩) (l2.length + 1) cap5) = w6 at *
                    replace hn1 := Lib.hid hn1
                    replace hn2 := Lib.hid hn2
                    replace hd5 := Lib.hid hd5
                    go_roundw
                    case rel => exact ⟨k + 1, u1, _, by omega, by go_num, hs6.out, hr6.out, by rw [hT1.out, hm1.out]; exact om6.out, by rw [hT2.out, hm2.out, List.length_append, List.flatMap_append]; exact ow6.out, Or.inr (Or.inr (fun e => hd5.out e.symm)), hon6.out⟩
                    case measure => simp [intOf]; omega
                  | false =>
                    have g1 := hi1.out
                    have g2 := hi2.out
                    rw [show within x.t x.r f a = false from hw1] at g1
                    rw [show within x.t x.r a h = false from hw2] at g2
                    have hm1 : Hid (m1 = l1) := Lib.hid (by rw [ht1.out, hw1]; simp)
                    have hm2 : Hid (m2 = l2) := Lib.hid (by rw [ht2.out, hw2]; simp)
                    clear hw1 hw2 hi1 hi2 hboth ht1 ht2
                    replace g1 := Lib.hid g1
                    replace g2 := Lib.hid g2
                    go_wp2_with fail
                    generalize wr.alloc (.cells #[.int .i64 x.t, .int .i64 x.r, .int .i64 x.k, .string x.key, .string x.val, .int .i64 x.n] 71) = wA at *
                    refine (g1.out wA (bch hbr hbA)).mono ?_
                    rintro _ wB ⟨rfl, hb9⟩
                    have hbB := bch hbA hb9
                    have hrA1 := Lib.hid (hr1.out.below hbB)
                    have hrA2 := Lib.hid (hr2.out.below hbB)
                    have honA := hon.chain hbB
                    have hsB : base ≤ wB.heap.size := by have := honA.size; omega
                    replace hal := Lib.hid (hal.out.below hb9)
                    have z0 : wB.cell? ⟨wr.heap.size, 0, none⟩ = some (.int .i64 x.t) := hal.out.cell 0
                    have z1 : wB.cell? ⟨wr.heap.size, 1, none⟩ = some (.int .i64 x.r) := hal.out.cell 1
                    have z2 : wB.cell? ⟨wr.heap.size, 2, none⟩ = some (.int .i64 x.k) := hal.out.cell 2
                    have z3 : wB.cell? ⟨wr.heap.size, 3, none⟩ = some (.string x.key) := hal.out.cell 3
                    have z4 : wB.cell? ⟨wr.heap.size, 4, none⟩ = some (.string x.val) := hal.out.cell 4
                    have z5 : wB.cell? ⟨wr.heap.size, 5, none⟩ = some (.int .i64 x.n) := hal.out.cell 5
                    replace d0 := cell_below hbB d0
                    replace d1 := cell_below hbB d1
                    replace d2 := cell_below hbB d2
                    have hn1 := owns_below hn1.out hbB
                    have hn2 := owns_below hn2.out hbB
                    clear hr1 hr2 x0 x1 x2 x3 x4 x5 y0 y1
                    go_wp2_with fail
                    refine (g2.out wB (bch hbr hbB)).mono ?_
                    rintro _ wC ⟨rfl, hbC⟩
                    have hf1 := Lib.hid (hrA1.out.below hbC)
                    have hf2 := Lib.hid (hrA2.out.below hbC)
                    have hf3 := Lib.hid (owns_below hn1 hbC)
                    have hf4 := Lib.hid (owns_below hn2 hbC)
                    have hf5 := Lib.hid (honA.chain hbC)
                    replace hn1 := Lib.hid hn1
                    replace hn2 := Lib.hid hn2
                    go_wp2
                    go_roundw
                    case rel => exact ⟨k + 1, u1, u2, by omega, by go_num, hf1.out, hf2.out, by rw [hT1.out, hm1.out]; exact hf3.out, by rw [hT2.out, hm2.out]; exact hf4.out, hdis.out, hf5.out⟩
                    case measure => simp [intOf]; omega
              · obtain rfl : k = ws.length := by omega
                have hpf := fun (a b : List Vec.Entry) => (show ((ws.filter (fun x => Bat.within x.t x.r a b)).map WrB.plain) = (ws.map WrB.plain).filter (fun x => Bat.within x.t x.r a b) from by rw [List.filter_map]; rfl)
                rw [List.take_length] at hn1 hn2
                obtain ⟨P1, P2, P3⟩ := hparts.out
                rw [← hpf] at P1 P2 P3
                rw [← hpf, List.length_map, List.length_map, List.length_map] at P3
                generalize ws.filter (fun x => Bat.within x.t x.r f a) = l1 at *
                generalize ws.filter (fun x => Bat.within x.t x.r a h) = l2 at *
                have G1 := fun W hW v hv => hR1.out W hW v l1 hv (by omega)
                have G2 := fun W hW v hv => hR2.out W hW v l2 hv (by omega)
                rw [(Bat.right_iff _ _ _).2 P1] at G1
                rw [(Bat.right_iff _ _ _).2 P2] at G2
                have hv1 : WrsIs wr u1 l1 := ListIs.of_owns hn1
                have hv2 : WrsIs wr u2 l2 := ListIs.of_owns hn2
                obtain ⟨s1, t1, rfl, -, -⟩ := ListIs.at hv1 wrBCells_len
                obtain ⟨s2, t2, rfl, -, -⟩ := ListIs.at hv2 wrBCells_len
                have j0 : wr.cell? ⟨p1, 0, none⟩ = some (.slice o1 f.length n1) := hr1.cell 0
                have j1 : wr.cell? ⟨p1, 1, none⟩ = some (.slice o4 a.length n4) := hr1.cell 1
                have j2 : wr.cell? ⟨p1, 2, none⟩ = some (.slice s1 l1.length t1) := hr1.cell 2
                have ksum : ((l1.length : Int) + (l2.length : Int)) = (ws.length : Int) := by omega
                have kw : IntKind.i64.wrap (ws.length : Int) = (ws.length : Int) := by rw [IntKind.wrap_i64]; omega
                have keq : ((ws.length : Int) == (ws.length : Int)) = true := by simp
                replace hv1 := Lib.hid hv1
                replace hv2 := Lib.hid hv2
                replace P1 := Lib.hid P1
                replace P2 := Lib.hid P2
                replace P3 := Lib.hid P3
                replace hn1 := Lib.hid hn1
                replace hn2 := Lib.hid hn2
                replace hr1 := Lib.hid hr1
                replace hr2 := Lib.hid hr2
                replace hdis := Lib.hid hdis
                replace G1 := Lib.hid G1
                replace G2 := Lib.hid G2
                clear hpf
                go_wp2_with fail
                refine (G1.out _ hbr _ hv1.out).mono ?_
                rintro _ wB ⟨v, rfl, hv, hb9⟩
                have hv : v = .nilIface := hv
                subst hv
                have hs9 := hr2.out.below hb9
                have j3 : wB.cell? ⟨p2, 0, none⟩ = some (.slice o4 a.length n4) := hs9.cell 0
                have j4 : wB.cell? ⟨p2, 1, none⟩ = some (.slice o2 h.length n2) := hs9.cell 1
                have j5 : wB.cell? ⟨p2, 2, none⟩ = some (.slice s2 l2.length t2) := hs9.cell 2
                have hv2' := Lib.hid (ListIs.below hv2.out (by omega) hb9)
                replace j2 := cell_below hb9 j2
                replace d2 := cell_below hb9 d2
                clear j0 j1 d0 d1
                replace hs9 := Lib.hid hs9
                go_wp2_with fail
                refine (G2.out _ (bch hbr hb9) _ hv2'.out).mono ?_
                rintro _ wC ⟨v, rfl, hv, hbC⟩
                have hv : v = .nilIface := hv
                subst hv
                replace j2 := cell_below hbC j2
                replace d2 := cell_below hbC d2
                replace j5 := cell_below hbC j5
                clear j3 j4
                go_wp2
                go_ret
                exact ⟨rfl, bch (bch hbr hb9) hbC⟩
          · have R1 : Row (((w7.alloc (Obj.cells #[(.slice o4 a.length n4), (.slice o2 h.length n2), .slice none 0 0] 64)).alloc (Obj.cells #[(.slice o1 f.length n1), (.slice o4 a.length n4), .slice none 0 0] 64)).drew) (w7.heap.size + 1) 64 [(.slice o1 f.length n1), (.slice o4 a.length n4), .slice none 0 0] := (row_at #[(.slice o1 f.length n1), (.slice o4 a.length n4), .slice none 0 0] 64 (by simp)).drew
            have R2 : Row (((w7.alloc (Obj.cells #[(.slice o4 a.length n4), (.slice o2 h.length n2), .slice none 0 0] 64)).alloc (Obj.cells #[(.slice o1 f.length n1), (.slice o4 a.length n4), .slice none 0 0] 64)).drew) w7.heap.size 64 [(.slice o4 a.length n4), (.slice o2 h.length n2), .slice none 0 0] := ((row_alloc w7 #[(.slice o4 a.length n4), (.slice o2 h.length n2), .slice none 0 0] 64).alloc _).drew
            have q8 : Row (((w7.alloc (Obj.cells #[(.slice o4 a.length n4), (.slice o2 h.length n2), .slice none 0 0] 64)).alloc (Obj.cells #[(.slice o1 f.length n1), (.slice o4 a.length n4), .slice none 0 0] 64)).drew) w.heap.size 64 [(.slice o1 f.length n1), (.slice o2 h.length n2), (.slice o3 ws.length n3)] := ((q0.alloc _).alloc _).drew
            have hb8 : Below w.heap.size w (((w7.alloc (Obj.cells #[(.slice o4 a.length n4), (.slice o2 h.length n2), .slice none 0 0] 64)).alloc (Obj.cells #[(.slice o1 f.length n1), (.slice o4 a.length n4), .slice none 0 0] 64)).drew) := (bal (bal hb1 _) _).drew
            have hz8 : (((w7.alloc (Obj.cells #[(.slice o4 a.length n4), (.slice o2 h.length n2), .slice none 0 0] 64)).alloc (Obj.cells #[(.slice o1 f.length n1), (.slice o4 a.length n4), .slice none 0 0] 64)).drew).heap.size = w7.heap.size + 2 := by simp
            generalize (((w7.alloc (Obj.cells #[(.slice o4 a.length n4), (.slice o2 h.length n2), .slice none 0 0] 64)).alloc (Obj.cells #[(.slice o1 f.length n1), (.slice o4 a.length n4), .slice none 0 0] 64)).drew) = w8 at *
            generalize hp1 : w7.heap.size + 1 = p1 at *
            generalize hp2 : w7.heap.size = p2 at *
            have hpp : p1 ≠ p2 ∧ w.heap.size < p1 ∧ w.heap.size < p2 ∧ p1 < w8.heap.size ∧ p2 < w8.heap.size := by omega
            have hok2 := (Bat.right_iff _ _ _).1 hok.out
            have hl60 : ws.length ≤ 60 := by have := hok2.len; rw [List.length_map] at this; exact this
            clear hok2
            generalize hbase : w8.heap.size = base at *
            have c0 : w8.cell? ⟨w.heap.size, 2, none⟩ = some (.slice o3 ws.length n3) := q8.cell 2
            replace R1 := Lib.hid R1
            replace R2 := Lib.hid R2
            replace hok := Lib.hid hok
            go_wp2_with fail
            clear c0
            go_loopw [53] (fun i wr => ∃ (k : Nat) (u1 u2 : Value), k ≤ ws.length ∧ i = .int .i64 k ∧ Row wr p1 64 [(.slice o1 f.length n1), (.slice o4 a.length n4), u1] ∧ Row wr p2 64 [(.slice o4 a.length n4), (.slice o2 h.length n2), u2] ∧ wr.ownsRow base 71 6 u1 ((ws.take k).filter (fun x => Bat.within x.t x.r f a)).length (((ws.take k).filter (fun x => Bat.within x.t x.r f a)).flatMap wrBCells) ∧ wr.ownsRow base 71 6 u2 ((ws.take k).filter (fun x => Bat.within x.t x.r a h)).length (((ws.take k).filter (fun x => Bat.within x.t x.r a h)).flatMap wrBCells) ∧ (u1.ownBlock = none ∨ u2.ownBlock = none ∨ u1.ownBlock ≠ u2.ownBlock) ∧ Only (fun j => j = p1 ∨ j = p2) w8 wr) (fun i _ => ws.length - (intOf i).toNat)
            case atStart => exact ⟨0, _, _, by omega, rfl, R1.out, R2.out, World.ownsRow_nil _ _ _ _, World.ownsRow_nil _ _ _ _, Or.inl rfl, Only.refl _ _⟩
            case round =>
              obtain ⟨k, u1, u2, hk, rfl, hr1, hr2, hn1, hn2, hdis, hon⟩ := hrel
              have hszr := hon.size
              have hbr : Below w.heap.size w wr := hb8.trans (hon.below (B := w.heap.size) (fun j hj => by rcases hj with hj | hj <;> omega) (by omega))
              have d0 : wr.cell? ⟨w.heap.size, 0, none⟩ = some (.slice o1 f.length n1) := hon.cell (q8.cell 0) (fun e => by rcases e with e | e <;> (have e : w.heap.size = _ := e; omega))
              have d1 : wr.cell? ⟨w.heap.size, 1, none⟩ = some (.slice o2 h.length n2) := hon.cell (q8.cell 1) (fun e => by rcases e with e | e <;> (have e : w.heap.size = _ := e; omega))
              have d2 : wr.cell? ⟨w.heap.size, 2, none⟩ = some (.slice o3 ws.length n3) := hon.cell (q8.cell 2) (fun e => by rcases e with e | e <;> (have e : w.heap.size = _ := e; omega))
              by_cases hlt : k < ws.length
              · obtain ⟨b1, f1, rfl, hbl1, hc1⟩ := hcell.out k hlt
                have hbl1 := hbl1 (by omega)
                have x0 : wr.cell? ⟨b1, f1 + k * 6, none⟩ = some (.int .i64 ws[k].t) := cell_below hbr (hc1 0 _ rfl)
                have x1 : wr.cell? ⟨b1, f1 + k * 6 + 1, none⟩ = some (.int .i64 ws[k].r) := cell_below hbr (hc1 1 _ rfl)
                have x2 : wr.cell? ⟨b1, f1 + k * 6 + 2, none⟩ = some (.int .i64 ws[k].k) := cell_below hbr (hc1 2 _ rfl)
                have x3 : wr.cell? ⟨b1, f1 + k * 6 + 3, none⟩ = some (.string ws[k].key) := cell_below hbr (hc1 3 _ rfl)
                have x4 : wr.cell? ⟨b1, f1 + k * 6 + 4, none⟩ = some (.string ws[k].val) := cell_below hbr (hc1 4 _ rfl)
                have x5 : wr.cell? ⟨b1, f1 + k * 6 + 5, none⟩ = some (.int .i64 ws[k].n) := cell_below hbr (hc1 5 _ rfl)
                clear hc1
                have ht1 : (ws.take (k + 1)).filter (fun x => Bat.within x.t x.r f a) = (ws.take k).filter (fun x => Bat.within x.t x.r f a) ++ (if Bat.within ws[k].t ws[k].r f a then [ws[k]] else []) := by
                  rw [List.take_succ_eq_append_getElem hlt, List.filter_append]
                  cases hq : Bat.within ws[k].t ws[k].r f a <;> simp [hq]
                have ht2 : (ws.take (k + 1)).filter (fun x => Bat.within x.t x.r a h) = (ws.take k).filter (fun x => Bat.within x.t x.r a h) ++ (if Bat.within ws[k].t ws[k].r a h then [ws[k]] else []) := by
                  rw [List.take_succ_eq_append_getElem hlt, List.filter_append]
                  cases hq : Bat.within ws[k].t ws[k].r a h <;> simp [hq]
                have hll1 : ((ws.take k).filter (fun x => Bat.within x.t x.r f a)).length ≤ 60 := by
                  have := List.length_filter_le (fun x : WrB => Bat.within x.t x.r f a) (ws.take k)
                  rw [List.length_take] at this; omega
                have hll2 : ((ws.take k).filter (fun x => Bat.within x.t x.r a h)).length ≤ 60 := by
                  have := List.length_filter_le (fun x : WrB => Bat.within x.t x.r a h) (ws.take k)
                  rw [List.length_take] at this; omega
                have hboth : Bat.within ws[k].t ws[k].r f a = true → Bat.within ws[k].t ws[k].r a h = false := fun e => by
                  unfold Bat.within at *
                  simp only [Bool.and_eq_true, decide_eq_true_eq] at e
                  have : ¬ Vec.of a ws[k].r < ws[k].t := by omega
                  simp [this]
                generalize (ws.take k).filter (fun x => Bat.within x.t x.r f a) = l1 at *
                generalize (ws.take k).filter (fun x => Bat.within x.t x.r a h) = l2 at *
                generalize hT1 : (ws.take (k + 1)).filter (fun x => Bat.within x.t x.r f a) = m1 at *
                generalize hT2 : (ws.take (k + 1)).filter (fun x => Bat.within x.t x.r a h) = m2 at *
                replace hT1 := Lib.hid hT1
                replace hT2 := Lib.hid hT2
                generalize ws[k] = x at *
                have hi1 := fun W hW => hI1.out x.t x.r W hW
                have hi2 := fun W hW => hI2.out x.t x.r W hW
                have hal := row_alloc wr #[.int .i64 x.t, .int .i64 x.r, .int .i64 x.k, .string x.key, .string x.val, .int .i64 x.n] 71
                have hbA : Below wr.heap.size wr (wr.alloc (.cells #[.int .i64 x.t, .int .i64 x.r, .int .i64 x.k, .string x.key, .string x.val, .int .i64 x.n] 71)) := bal (Below.refl _ _) _
                have y0 : (wr.alloc (.cells #[.int .i64 x.t, .int .i64 x.r, .int .i64 x.k, .string x.key, .string x.val, .int .i64 x.n] 71)).cell? ⟨wr.heap.size, 0, none⟩ = some (.int .i64 x.t) := hal.cell 0
                have y1 : (wr.alloc (.cells #[.int .i64 x.t, .int .i64 x.r, .int .i64 x.k, .string x.key, .string x.val, .int .i64 x.n] 71)).cell? ⟨wr.heap.size, 1, none⟩ = some (.int .i64 x.r) := hal.cell 1
                have hwlt : w.heap.size < wr.heap.size := by omega
                have hvl1 : u1.ownBlock ≠ some p1 := fun e => by have := (hn1.lt _ e).1; omega
                have hvl1' : u1.ownBlock ≠ some p2 := fun e => by have := (hn1.lt _ e).1; omega
                have hvl2 : u2.ownBlock ≠ some p2 := fun e => by have := (hn2.lt _ e).1; omega
                have hvl2' : u2.ownBlock ≠ some p1 := fun e => by have := (hn2.lt _ e).1; omega
                have hnl1 : ∀ j, u1.ownBlock = some j → base ≤ j := fun j e => (hn1.lt _ e).1
                have hnl2 : ∀ j, u2.ownBlock = some j → base ≤ j := fun j e => (hn2.lt _ e).1
                have hdis1 : u2.ownBlock = none ∨ u2.ownBlock ≠ u1.ownBlock := by
                  rcases hdis with e | e | e
                  · cases h' : u2.ownBlock with
                    | none => exact Or.inl rfl
                    | some j => exact Or.inr (by rw [e]; simp)
                  · exact Or.inl e
                  · exact Or.inr (fun e' => e e'.symm)
                have hdis2 : u1.ownBlock = none ∨ u1.ownBlock ≠ u2.ownBlock := by
                  rcases hdis with e | e | e
                  · exact Or.inl e
                  · cases h' : u1.ownBlock with
                    | none => exact Or.inl rfl
                    | some j => exact Or.inr (by rw [e]; simp)
                  · exact Or.inr e
                have hvlb1 : u1.ownBlock ≠ some wr.heap.size := fun e => by have := (hn1.lt _ e).2; omega
                have hvlb2 : u2.ownBlock ≠ some wr.heap.size := fun e => by have := (hn2.lt _ e).2; omega
                replace hdis := Lib.hid hdis
                replace hal := Lib.hid hal
                replace hr1 := Lib.hid hr1
                replace hr2 := Lib.hid hr2
                replace hn1 := Lib.hid hn1
                replace hn2 := Lib.hid hn2
                replace ht1 := Lib.hid ht1
                replace ht2 := Lib.hid ht2
                replace hi1 := Lib.hid hi1
                replace hi2 := Lib.hid hi2
                replace hboth := Lib.hid hboth
                cases hw1 : Bat.within x.t x.r f a with
                | true =>
                  have hw2 := hboth.out hw1
                  have g1 := hi1.out
                  have g2 := hi2.out
                  rw [show within x.t x.r f a = true from hw1] at g1
                  rw [show within x.t x.r a h = false from hw2] at g2
                  have hm1 : Hid (m1 = l1 ++ [x]) := Lib.hid (by rw [ht1.out, hw1]; simp)
                  have hm2 : Hid (m2 = l2) := Lib.hid (by rw [ht2.out, hw2]; simp)
                  clear hw1 hw2 hi1 hi2 hboth ht1 ht2
                  replace g1 := Lib.hid g1
                  replace g2 := Lib.hid g2
                  go_wp2_with fail
                  generalize wr.alloc (.cells #[.int .i64 x.t, .int .i64 x.r, .int .i64 x.k, .string x.key, .string x.val, .int .i64 x.n] 71) = wA at *
                  refine (g1.out wA (bch hbr hbA)).mono ?_
                  rintro _ wB ⟨rfl, hb9⟩
                  have hbB := bch hbA hb9
                  have hrA1 := Lib.hid (hr1.out.below hbB)
                  have hrA2 := Lib.hid (hr2.out.below hbB)
                  have honA := hon.chain hbB
                  have hsB : base ≤ wB.heap.size := by have := honA.size; omega
                  replace hal := Lib.hid (hal.out.below hb9)
                  have z0 : wB.cell? ⟨wr.heap.size, 0, none⟩ = some (.int .i64 x.t) := hal.out.cell 0
                  have z1 : wB.cell? ⟨wr.heap.size, 1, none⟩ = some (.int .i64 x.r) := hal.out.cell 1
                  have z2 : wB.cell? ⟨wr.heap.size, 2, none⟩ = some (.int .i64 x.k) := hal.out.cell 2
                  have z3 : wB.cell? ⟨wr.heap.size, 3, none⟩ = some (.string x.key) := hal.out.cell 3
                  have z4 : wB.cell? ⟨wr.heap.size, 4, none⟩ = some (.string x.val) := hal.out.cell 4
                  have z5 : wB.cell? ⟨wr.heap.size, 5, none⟩ = some (.int .i64 x.n) := hal.out.cell 5
                  replace d0 := cell_below hbB d0
                  replace d1 := cell_below hbB d1
                  replace d2 := cell_below hbB d2
                  have hn1 := owns_below hn1.out hbB
                  have hn2 := owns_below hn2.out hbB
                  clear hr1 hr2 x0 x1 x2 x3 x4 x5 y0 y1
                  have e1 : wB.cell? ⟨p1, 2, none⟩ = some u1 := hrA1.out.cell 2
                  go_wp2_with (first
                    | (at_builtin; (go_must (refine app_one rfl _ _ 62 71 rfl base (Value.agg #[.int .i64 0, .int .i64 0, .int .i64 0, .string ⟨#[]⟩, .string ⟨#[]⟩, .int .i64 0]) 6 64 Tryd.underlying62 (by kernel_rfl) (by kernel_rfl) _ _ _ rfl hn1 _ rfl rfl ?_ (by omega) (by omega) hsB ?_); (focus (first | exact ⟨rfl, rfl⟩ | rfl | simp [Value.oneCell'])); (
                        intro v5 w5 hown5 hg5 hbk5 hne5 hb5
                        obtain ⟨g5, cap5, rfl⟩ := owns_addr hown5 hne5
                        have hr5 := hrA1.out.grown hg5 hvl1
                        have hs5 := hrA2.out.grown hg5 hvl1'
                        have al5 := hal.out.grown hg5 hvlb1
                        have hon5 := honA.grown hg5 (fun j hj => Or.inr (by rw [hbase]; exact hnl1 j hj))
                        have hm5 := hn2.kept hg5 hdis1
                        have e5 : w5.cell? ⟨p1, 2, none⟩ = some u1 := hr5.cell 2
                        have f5 := hr5.frozen 2 (by simp)
                        have hg5b := (hown5.lt g5 rfl).1
                        have hd5 : (Value.slice (some ⟨g5, 0, none⟩) (l1.length + 1) cap5).ownBlock ≠ u2.ownBlock := fun e => by
                            have e6 : u2.ownBlock = some g5 := e.symm
                            rcases hbk5 with h5 | h5
                            · rcases hdis1 with h6 | h6
                              · rw [h6] at e6; cases e6
                              · exact h6 (e6.trans h5)
                            · have h5 : some g5 = some _ := h5
                              injection h5 with h5
                              have := (hn2.lt _ e6).2
                              omega
                        have hr6 : Row (w5.setCell ⟨p1, 2, none⟩ (.slice (some ⟨g5, 0, none⟩) (l1.length + 1) cap5)) p1 64 [(.slice o1 f.length n1), (.slice o4 a.length n4), (.slice (some ⟨g5, 0, none⟩) (l1.length + 1) cap5)] := hr5.set 2 _
                        have hs6 := hs5.other (p := ⟨p1, 2, none⟩) (by show ¬ p1 = p2; omega) (.slice (some ⟨g5, 0, none⟩) (l1.length + 1) cap5)
                        have al6 := al5.other (p := ⟨p1, 2, none⟩) (by show ¬ p1 = wr.heap.size; omega) (.slice (some ⟨g5, 0, none⟩) (l1.length + 1) cap5)
                        have hon6 := hon5.set (p := ⟨p1, 2, none⟩) (by first | exact Or.inl (Or.inl rfl) | exact Or.inl (Or.inr rfl)) (.slice (some ⟨g5, 0, none⟩) (l1.length + 1) cap5)
                        have oset := (Only.refl (fun j => j = p1) w5).set (p := ⟨p1, 2, none⟩) (Or.inl rfl) (.slice (some ⟨g5, 0, none⟩) (l1.length + 1) cap5)
                        have ow6 := owns_only hown5 oset (fun j hj e => by have h9 : some g5 = some j := hj; injection h9 with h9; have e2 : j = p1 := e; omega)
                        have om6 := owns_only hm5 oset (fun j hj e => by have := hnl2 j hj; have e2 : j = p1 := e; omega)
                        have t0 : (w5.setCell ⟨p1, 2, none⟩ (.slice (some ⟨g5, 0, none⟩) (l1.length + 1) cap5)).cell? ⟨wr.heap.size, 0, none⟩ = some (.int .i64 x.t) := al6.cell 0
                        have t1 : (w5.setCell ⟨p1, 2, none⟩ (.slice (some ⟨g5, 0, none⟩) (l1.length + 1) cap5)).cell? ⟨wr.heap.size, 1, none⟩ = some (.int .i64 x.r) := al6.cell 1
                        have dd1 : (w5.setCell ⟨p1, 2, none⟩ (.slice (some ⟨g5, 0, none⟩) (l1.length + 1) cap5)).cell? ⟨w.heap.size, 1, none⟩ = some (.slice o2 h.length n2) := hon6.cell (q8.cell 1) (fun e => by rcases e with e | e <;> (have e : w.heap.size = _ := e; omega))
                        have dd0 : (w5.setCell ⟨p1, 2, none⟩ (.slice (some ⟨g5, 0, none⟩) (l1.length + 1) cap5)).cell? ⟨w.heap.size, 0, none⟩ = some (.slice o1 f.length n1) := hon6.cell (q8.cell 0) (fun e => by rcases e with e | e <;> (have e : w.heap.size = _ := e; omega))
                        replace hr6 := Lib.hid hr6
                        replace hs6 := Lib.hid hs6
                        replace al6 := Lib.hid al6
                        replace hon6 := Lib.hid hon6
                        replace ow6 := Lib.hid ow6
                        replace om6 := Lib.hid om6
                        clear hr5 hs5 al5 hon5 hm5 oset hown5 hg5 hb5 hbk5))))
                  generalize w5.setCell ⟨p1, 2, none⟩ (.slice (some ⟨g5, 0, none⟩) (l1.length + 1) cap5) = w6 at *
                  have hbw6 : Below w.heap.size w w6 := hb8.trans (hon6.out.below (B := w.heap.size) (fun j hj => by rcases hj with hj | hj <;> omega) (by omega))
                  refine (g2.out w6 hbw6).mono ?_
                  rintro _ w7x ⟨rfl, hb7x⟩
                  have k1 := Lib.hid (hr6.out.below hb7x)
                  have k2 := Lib.hid (hs6.out.below hb7x)
                  have k3 := Lib.hid (owns_below ow6.out hb7x)
                  have k4 := Lib.hid (owns_below om6.out hb7x)
                  have k5 := Lib.hid (hon6.out.chain hb7x)
                  replace hn1 := Lib.hid hn1
                  replace hn2 := Lib.hid hn2
                  replace hd5 := Lib.hid hd5
                  go_wp2
                  go_roundw
                  case rel => exact ⟨k + 1, _, u2, by omega, by go_num, k1.out, k2.out, by rw [hT1.out, hm1.out, List.length_append, List.flatMap_append]; exact k3.out, by rw [hT2.out, hm2.out]; exact k4.out, Or.inr (Or.inr hd5.out), k5.out⟩
                  case measure => simp [intOf]; omega
                | false =>
                  cases hw2 : Bat.within x.t x.r a h with
                  | true =>
                    have g1 := hi1.out
                    have g2 := hi2.out
                    rw [show within x.t x.r f a = false from hw1] at g1
                    rw [show within x.t x.r a h = true from hw2] at g2
                    have hm1 : Hid (m1 = l1) := Lib.hid (by rw [ht1.out, hw1]; simp)
                    have hm2 : Hid (m2 = l2 ++ [x]) := Lib.hid (by rw [ht2.out, hw2]; simp)
                    clear hw1 hw2 hi1 hi2 hboth ht1 ht2
                    replace g1 := Lib.hid g1
                    replace g2 := Lib.hid g2
                    go_wp2_with fail
                    generalize wr.alloc (.cells #[.int .i64 x.t, .int .i64 x.r, .int .i64 x.k, .string x.key, .string x.val, .int .i64 x.n] 71) = wA at *
                    refine (g1.out wA (bch hbr hbA)).mono ?_
                    rintro _ wB ⟨rfl, hb9⟩
                    have hbB := bch hbA hb9
                    have hrA1 := Lib.hid (hr1.out.below hbB)
                    have hrA2 := Lib.hid (hr2.out.below hbB)
                    have honA := hon.chain hbB
                    have hsB : base ≤ wB.heap.size := by have := honA.size; omega
                    replace hal := Lib.hid (hal.out.below hb9)
                    have z0 : wB.cell? ⟨wr.heap.size, 0, none⟩ = some (.int .i64 x.t) := hal.out.cell 0
                    have z1 : wB.cell? ⟨wr.heap.size, 1, none⟩ = some (.int .i64 x.r) := hal.out.cell 1
                    have z2 : wB.cell? ⟨wr.heap.size, 2, none⟩ = some (.int .i64 x.k) := hal.out.cell 2
                    have z3 : wB.cell? ⟨wr.heap.size, 3, none⟩ = some (.string x.key) := hal.out.cell 3
                    have z4 : wB.cell? ⟨wr.heap.size, 4, none⟩ = some (.string x.val) := hal.out.cell 4
                    have z5 : wB.cell? ⟨wr.heap.size, 5, none⟩ = some (.int .i64 x.n) := hal.out.cell 5
                    replace d0 := cell_below hbB d0
                    replace d1 := cell_below hbB d1
                    replace d2 := cell_below hbB d2
                    have hn1 := owns_below hn1.out hbB
                    have hn2 := owns_below hn2.out hbB
                    clear hr1 hr2 x0 x1 x2 x3 x4 x5 y0 y1
                    go_wp2_with fail
                    refine (g2.out wB (bch hbr hbB)).mono ?_
                    rintro _ wC ⟨rfl, hbC⟩
                    have hbB2 := bch hbB hbC
                    replace hrA1 := Lib.hid (hrA1.out.below hbC)
                    replace hrA2 := Lib.hid (hrA2.out.below hbC)
                    replace honA := honA.chain hbC
                    replace hsB : base ≤ wC.heap.size := by have := honA.size; omega
                    replace hal := Lib.hid (hal.out.below hbC)
                    replace z0 : wC.cell? ⟨wr.heap.size, 0, none⟩ = some (.int .i64 x.t) := hal.out.cell 0
                    replace z1 : wC.cell? ⟨wr.heap.size, 1, none⟩ = some (.int .i64 x.r) := hal.out.cell 1
                    replace z2 : wC.cell? ⟨wr.heap.size, 2, none⟩ = some (.int .i64 x.k) := hal.out.cell 2
                    replace z3 : wC.cell? ⟨wr.heap.size, 3, none⟩ = some (.string x.key) := hal.out.cell 3
                    replace z4 : wC.cell? ⟨wr.heap.size, 4, none⟩ = some (.string x.val) := hal.out.cell 4
                    replace z5 : wC.cell? ⟨wr.heap.size, 5, none⟩ = some (.int .i64 x.n) := hal.out.cell 5
                    have e1 : wC.cell? ⟨p2, 2, none⟩ = some u2 := hrA2.out.cell 2
                    replace hn1 := owns_below hn1 hbC
                    replace hn2 := owns_below hn2 hbC
                    go_wp2_with (first
                      | (at_builtin; (go_must (refine app_one rfl _ _ 62 71 rfl base (Value.agg #[.int .i64 0, .int .i64 0, .int .i64 0, .string ⟨#[]⟩, .string ⟨#[]⟩, .int .i64 0]) 6 64 Tryd.underlying62 (by kernel_rfl) (by kernel_rfl) _ _ _ rfl hn2 _ rfl rfl ?_ (by omega) (by omega) hsB ?_); (focus (first | exact ⟨rfl, rfl⟩ | rfl | simp [Value.oneCell'])); (
                          intro v5 w5 hown5 hg5 hbk5 hne5 hb5
                          obtain ⟨g5, cap5, rfl⟩ := owns_addr hown5 hne5
                          have hr5 := hrA2.out.grown hg5 hvl2
                          have hs5 := hrA1.out.grown hg5 hvl2'
                          have al5 := hal.out.grown hg5 hvlb2
                          have hon5 := honA.grown hg5 (fun j hj => Or.inr (by rw [hbase]; exact hnl2 j hj))
                          have hm5 := hn1.kept hg5 hdis2
                          have e5 : w5.cell? ⟨p2, 2, none⟩ = some u2 := hr5.cell 2
                          have f5 := hr5.frozen 2 (by simp)
                          have hg5b := (hown5.lt g5 rfl).1
                          have hd5 : (Value.slice (some ⟨g5, 0, none⟩) (l2.length + 1) cap5).ownBlock ≠ u1.ownBlock := fun e => by
                              have e6 : u1.ownBlock = some g5 := e.symm
                              rcases hbk5 with h5 | h5
                              · rcases hdis2 with h6 | h6
                                · rw [h6] at e6; cases e6
                                · exact h6 (e6.trans h5)
                              · have h5 : some g5 = some _ := h5
                                injection h5 with h5
                                have := (hn1.lt _ e6).2
                                omega
                          have hr6 : Row (w5.setCell ⟨p2, 2, none⟩ (.slice (some ⟨g5, 0, none⟩) (l2.length + 1) cap5)) p2 64 [(.slice o4 a.length n4), (.slice o2 h.length n2), (.slice (some ⟨g5, 0, none⟩) (l2.length + 1) cap5)] := hr5.set 2 _
                          have hs6 := hs5.other (p := ⟨p2, 2, none⟩) (by show ¬ p2 = p1; omega) (.slice (some ⟨g5, 0, none⟩) (l2.length + 1) cap5)
                          have al6 := al5.other (p := ⟨p2, 2, none⟩) (by show ¬ p2 = wr.heap.size; omega) (.slice (some ⟨g5, 0, none⟩) (l2.length + 1) cap5)
                          have hon6 := hon5.set (p := ⟨p2, 2, none⟩) (by first | exact Or.inl (Or.inl rfl) | exact Or.inl (Or.inr rfl)) (.slice (some ⟨g5, 0, none⟩) (l2.length + 1) cap5)
                          have oset := (Only.refl (fun j => j = p2) w5).set (p := ⟨p2, 2, none⟩) (Or.inl rfl) (.slice (some ⟨g5, 0, none⟩) (l2.length + 1) cap5)
                          have ow6 := owns_only hown5 oset (fun j hj e => by have h9 : some g5 = some j := hj; injection h9 with h9; have e2 : j = p2 := e; omega)
                          have om6 := owns_only hm5 oset (fun j hj e => by have := hnl1 j hj; have e2 : j = p2 := e; omega)
                          have t0 : (w5.setCell ⟨p2, 2, none⟩ (.slice (some ⟨g5, 0, none⟩) (l2.length + 1) cap5)).cell? ⟨wr.heap.size, 0, none⟩ = some (.int .i64 x.t) := al6.cell 0
                          have t1 : (w5.setCell ⟨p2, 2, none⟩ (.slice (some ⟨g5, 0, none⟩) (l2.length + 1) cap5)).cell? ⟨wr.heap.size, 1, none⟩ = some (.int .i64 x.r) := al6.cell 1
                          have dd1 : (w5.setCell ⟨p2, 2, none⟩ (.slice (some ⟨g5, 0, none⟩) (l2.length + 1) cap5)).cell? ⟨w.heap.size, 1, none⟩ = some (.slice o2 h.length n2) := hon6.cell (q8.cell 1) (fun e => by rcases e with e | e <;> (have e : w.heap.size = _ := e; omega))
                          have dd0 : (w5.setCell ⟨p2, 2, none⟩ (.slice (some ⟨g5, 0, none⟩) (l2.length + 1) cap5)).cell? ⟨w.heap.size, 0, none⟩ = some (.slice o1 f.length n1) := hon6.cell (q8.cell 0) (fun e => by rcases e with e | e <;> (have e : w.heap.size = _ := e; omega))
                          replace hr6 := Lib.hid hr6
                          replace hs6 := Lib.hid hs6
                          replace al6 := Lib.hid al6
                          replace hon6 := Lib.hid hon6
                          replace ow6 := Lib.hid ow6
                          replace om6 := Lib.hid om6
                          clear hr5 hs5 al5 hon5 hm5 oset hown5 hg5 hb5 hbk5))))
                    generalize w5.setCell ⟨p2, 2, none⟩ (.slice (some ⟨g5, 0, none⟩) (l2.length + 1) cap5) = w6 at *
                    replace hn1 := Lib.hid hn1
                    replace hn2 := Lib.hid hn2
                    replace hd5 := Lib.hid hd5
                    go_roundw
                    case rel => exact ⟨k + 1, u1, _, by omega, by go_num, hs6.out, hr6.out, by rw [hT1.out, hm1.out]; exact om6.out, by rw [hT2.out, hm2.out, List.length_append, List.flatMap_append]; exact ow6.out, Or.inr (Or.inr (fun e => hd5.out e.symm)), hon6.out⟩
                    case measure => simp [intOf]; omega
                  | false =>
                    have g1 := hi1.out
                    have g2 := hi2.out
                    rw [show within x.t x.r f a = false from hw1] at g1
                    rw [show within x.t x.r a h = false from hw2] at g2
                    have hm1 : Hid (m1 = l1) := Lib.hid (by rw [ht1.out, hw1]; simp)
                    have hm2 : Hid (m2 = l2) := Lib.hid (by rw [ht2.out, hw2]; simp)
                    clear hw1 hw2 hi1 hi2 hboth ht1 ht2
                    replace g1 := Lib.hid g1
                    replace g2 := Lib.hid g2
                    go_wp2_with fail
                    generalize wr.alloc (.cells #[.int .i64 x.t, .int .i64 x.r, .int .i64 x.k, .string x.key, .string x.val, .int .i64 x.n] 71) = wA at *
                    refine (g1.out wA (bch hbr hbA)).mono ?_
                    rintro _ wB ⟨rfl, hb9⟩
                    have hbB := bch hbA hb9
                    have hrA1 := Lib.hid (hr1.out.below hbB)
                    have hrA2 := Lib.hid (hr2.out.below hbB)
                    have honA := hon.chain hbB
                    have hsB : base ≤ wB.heap.size := by have := honA.size; omega
                    replace hal := Lib.hid (hal.out.below hb9)
                    have z0 : wB.cell? ⟨wr.heap.size, 0, none⟩ = some (.int .i64 x.t) := hal.out.cell 0
                    have z1 : wB.cell? ⟨wr.heap.size, 1, none⟩ = some (.int .i64 x.r) := hal.out.cell 1
                    have z2 : wB.cell? ⟨wr.heap.size, 2, none⟩ = some (.int .i64 x.k) := hal.out.cell 2
                    have z3 : wB.cell? ⟨wr.heap.size, 3, none⟩ = some (.string x.key) := hal.out.cell 3
                    have z4 : wB.cell? ⟨wr.heap.size, 4, none⟩ = some (.string x.val) := hal.out.cell 4
                    have z5 : wB.cell? ⟨wr.heap.size, 5, none⟩ = some (.int .i64 x.n) := hal.out.cell 5
                    replace d0 := cell_below hbB d0
                    replace d1 := cell_below hbB d1
                    replace d2 := cell_below hbB d2
                    have hn1 := owns_below hn1.out hbB
                    have hn2 := owns_below hn2.out hbB
                    clear hr1 hr2 x0 x1 x2 x3 x4 x5 y0 y1
                    go_wp2_with fail
                    refine (g2.out wB (bch hbr hbB)).mono ?_
                    rintro _ wC ⟨rfl, hbC⟩
                    have hf1 := Lib.hid (hrA1.out.below hbC)
                    have hf2 := Lib.hid (hrA2.out.below hbC)
                    have hf3 := Lib.hid (owns_below hn1 hbC)
                    have hf4 := Lib.hid (owns_below hn2 hbC)
                    have hf5 := Lib.hid (honA.chain hbC)
                    replace hn1 := Lib.hid hn1
                    replace hn2 := Lib.hid hn2
                    go_wp2
                    go_roundw
                    case rel => exact ⟨k + 1, u1, u2, by omega, by go_num, hf1.out, hf2.out, by rw [hT1.out, hm1.out]; exact hf3.out, by rw [hT2.out, hm2.out]; exact hf4.out, hdis.out, hf5.out⟩
                    case measure => simp [intOf]; omega
              · obtain rfl : k = ws.length := by omega
                have hpf := fun (a b : List Vec.Entry) => (show ((ws.filter (fun x => Bat.within x.t x.r a b)).map WrB.plain) = (ws.map WrB.plain).filter (fun x => Bat.within x.t x.r a b) from by rw [List.filter_map]; rfl)
                rw [List.take_length] at hn1 hn2
                obtain ⟨P1, P2, P3⟩ := hparts.out
                rw [← hpf] at P1 P2 P3
                rw [← hpf, List.length_map, List.length_map, List.length_map] at P3
                generalize ws.filter (fun x => Bat.within x.t x.r f a) = l1 at *
                generalize ws.filter (fun x => Bat.within x.t x.r a h) = l2 at *
                have G1 := fun W hW v hv => hR1.out W hW v l1 hv (by omega)
                have G2 := fun W hW v hv => hR2.out W hW v l2 hv (by omega)
                rw [(Bat.right_iff _ _ _).2 P1] at G1
                rw [(Bat.right_iff _ _ _).2 P2] at G2
                have hv1 : WrsIs wr u1 l1 := ListIs.of_owns hn1
                have hv2 : WrsIs wr u2 l2 := ListIs.of_owns hn2
                obtain ⟨s1, t1, rfl, -, -⟩ := ListIs.at hv1 wrBCells_len
                obtain ⟨s2, t2, rfl, -, -⟩ := ListIs.at hv2 wrBCells_len
                have j0 : wr.cell? ⟨p1, 0, none⟩ = some (.slice o1 f.length n1) := hr1.cell 0
                have j1 : wr.cell? ⟨p1, 1, none⟩ = some (.slice o4 a.length n4) := hr1.cell 1
                have j2 : wr.cell? ⟨p1, 2, none⟩ = some (.slice s1 l1.length t1) := hr1.cell 2
                have ksum : ((l1.length : Int) + (l2.length : Int)) = (ws.length : Int) := by omega
                have kw : IntKind.i64.wrap (ws.length : Int) = (ws.length : Int) := by rw [IntKind.wrap_i64]; omega
                have keq : ((ws.length : Int) == (ws.length : Int)) = true := by simp
                replace hv1 := Lib.hid hv1
                replace hv2 := Lib.hid hv2
                replace P1 := Lib.hid P1
                replace P2 := Lib.hid P2
                replace P3 := Lib.hid P3
                replace hn1 := Lib.hid hn1
                replace hn2 := Lib.hid hn2
                replace hr1 := Lib.hid hr1
                replace hr2 := Lib.hid hr2
                replace hdis := Lib.hid hdis
                replace G1 := Lib.hid G1
                replace G2 := Lib.hid G2
                clear hpf
                go_wp2_with fail
                refine (G1.out _ hbr _ hv1.out).mono ?_
                rintro _ wB ⟨v, rfl, hv, hb9⟩
                have hv : v = .nilIface := hv
                subst hv
                have hs9 := hr2.out.below hb9
                have j3 : wB.cell? ⟨p2, 0, none⟩ = some (.slice o4 a.length n4) := hs9.cell 0
                have j4 : wB.cell? ⟨p2, 1, none⟩ = some (.slice o2 h.length n2) := hs9.cell 1
                have j5 : wB.cell? ⟨p2, 2, none⟩ = some (.slice s2 l2.length t2) := hs9.cell 2
                have hv2' := Lib.hid (ListIs.below hv2.out (by omega) hb9)
                replace j2 := cell_below hb9 j2
                replace d2 := cell_below hb9 d2
                clear j0 j1 d0 d1
                replace hs9 := Lib.hid hs9
                go_wp2_with fail
                refine (G2.out _ (bch hbr hb9) _ hv2'.out).mono ?_
                rintro _ wC ⟨v, rfl, hv, hbC⟩
                have hv : v = .nilIface := hv
                subst hv
                replace j2 := cell_below hbC j2
                replace d2 := cell_below hbC d2
                replace j5 := cell_below hbC j5
                clear j3 j4
                go_wp2
                go_ret
                exact ⟨rfl, bch (bch hbr hb9) hbC⟩
theorem BatchParts_walk (vf vh vw : Value) (v1 : Value) (l1 : List Vec.Entry) (w : World) (q : BatQ w (vf, vh, vw)) (L1 : ListIs entCells 2 w v1 l1) (q1 : ∀ x ∈ l1, (Lit.int .i64 x.r).wf = true ∧ (Lit.int .i64 x.t).wf = true) (z1 : l1.length ≤ 140737488351232) (hL : Laid w) :
    Calls Tryd.prog 7 #[.agg #[vf, vh, vw], v1] w fun e w' => e = .returned (.bool true) ∧ Below w.heap.size w w' := by
  obtain ⟨⟨f, hf, -, hlf⟩, ⟨h, hh, -, hlh⟩, ⟨ws, hw, hq, hlw⟩⟩ := q
  exact batch_parts vf vh vw f h ws v1 l1 w hL hf hh hw L1 hlf hlh hlw hq z1
end Go.Proofs.YtdpdnkjpjoccmaaDoor
