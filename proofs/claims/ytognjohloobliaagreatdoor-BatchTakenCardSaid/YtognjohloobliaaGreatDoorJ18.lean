/- The walk of batch.Right. -/
import Derived.Test.YtognjohloobliaaGreatDoorJ08
import Derived.Test.YtognjohloobliaaGreatDoorJ07
import Derived.Test.YtognjohloobliaaGreatDoorJ13
import Derived.Test.YtognjohloobliaaGreatDoorJ14
import Derived.Test.YtognjohloobliaaGreatDoorJ15
import Derived.Outline
import Derived.Test.YtognjohloobliaaGreatDoorJ01
namespace Go.Proofs.YtognjohloobliaaGreatDoor
open Go.RowKit
set_option linter.unusedVariables false
set_option linter.unusedSimpArgs false
def WrB.plain (x : WrB) : Wr := wr x.t x.r x.k x.key x.val x.n
def WrsIs (w : World) (v : Value) (l : List WrB) : Prop := ListIs wrBCells 6 w v l
theorem WrsIs.below {w w' : World} {v : Value} {l : List WrB} (h : WrsIs w v l) (hb : Below w.heap.size w w') : WrsIs w' v l := ListIs.below h (by omega) hb
theorem tell_errW (c : Nat) (w : World) (hL : Laid w) : Calls Tryz.prog 32 #[errW c] w fun e w' => e = .returned (.int .i64 c) ∧ Below w.heap.size w w' := by
 by_cases h : c = 0
 ·subst h
  refine (tell_nil w).mono ?_
  rintro e w' ⟨rfl, rfl⟩
  exact ⟨rfl, Below.refl _ _⟩
 ·rw [errW_no h]; exact tell_errno c w hL
theorem bwrongs_drop (f h : List Vec.Entry) (l : List Wr) (k : Nat) (prev : Option Wr) (hk : k < l.length) : Bat.wrongs f h (l.drop k) prev k = if Bat.wrong f h prev l[k] ≠ 0 then .at_ (Bat.wrong f h prev l[k]) k else Bat.wrongs f h (l.drop (k + 1)) (some l[k]) (k + 1) := by
 rw [List.drop_eq_getElem_cons hk]; rfl
theorem bwrongs_bad {f h : List Vec.Entry} {r : List Wr} {y : Wr} {prev : Option Wr} {k x : Nat} {E : Err} (hr : E = if Bat.wrong f h prev y ≠ 0 then .at_ (Bat.wrong f h prev y) k else Bat.wrongs f h r (some y) (k + 1)) (hw : Bat.wrong f h prev y = x) (hx : x ≠ 0) : E = .at_ x k := by
 rw [hr, hw, if_pos hx]
theorem bwrongs_good {f h : List Vec.Entry} {r : List Wr} {y : Wr} {prev : Option Wr} {k : Nat} {E : Err} (hr : E = if Bat.wrong f h prev y ≠ 0 then .at_ (Bat.wrong f h prev y) k else Bat.wrongs f h r (some y) (k + 1)) (hw : Bat.wrong f h prev y = 0) : Bat.wrongs f h r (some y) (k + 1) = E := by
 rw [hr, hw, if_neg (by simp)]
theorem cmp_later (p x : Wr) : orInt (cmp2 p.t x.t) (cmp2 p.r x.r) < 0 ↔ Bat.Later p x := by
 unfold Bat.Later orInt cmp2
 repeat' split
 all_goals omega
def Prev (l : List Wr) (k : Nat) (prev : Option Wr) : Prop := (k = 0 ∧ prev = none) ∨ ∃ h : k - 1 < l.length, 0 < k ∧ prev = some l[k - 1]
theorem byWBatch1 {p : Prop} (h : p := by
 go_enter Tryz.func29, Tryz.ntmps29
 go_wp2_with fail
 have q0 := row_at #[.slice of_ f.length cf, .slice oh h.length ch, .slice ow ws.length cw] 25 (rfl : w.heap.size = w.heap.size)
 have qb : Below w.heap.size w (w.alloc (Obj.cells #[.slice of_ f.length cf, .slice oh h.length ch, .slice ow ws.length cw] 25)) := by exact blw
 generalize w.alloc (Obj.cells #[.slice of_ f.length cf, .slice oh h.length ch, .slice ow ws.length cw] 25) = w1 at *
 replace q0 := Lib.hid q0
 refine wp_loop_rounds 3 ?_
 rw [rounds_succ]
 go_wp2_with fail
 refine (hA.out _ (hf'.out.below (by exact blw))).mono ?_
 rintro e w2 ⟨v1, rfl, hv1, hb1⟩
 rw [r1.out] at hv1
 have hv1 : v1 = .nilIface := hv1
 subst hv1
 replace q0 := Lib.hid (q0.out.below hb1)
 replace qb : Below w.heap.size w w2 := by exact blw
 clear hb1
 go_wp2_with fail
 rw [rounds_succ]
 go_wp2_with fail
 refine (hB.out _ (hh'.out.below (by exact blw))).mono ?_
 rintro e w3 ⟨v2, rfl, hv2, hb2⟩
 rw [r2.out] at hv2
 have hv2 : v2 = .nilIface := hv2
 subst hv2
 replace q0 := q0.out.below hb2
 replace qb : Below w.heap.size w w3 := by exact blw
 clear hb2
 obtain ⟨c0, c1, c2⟩ := q0.c3
 replace q0 := Lib.hid q0
 go_wp2_with fail
 rw [rounds_succ]
 go_wp2_with fail
 refine (hC _ (by exact blw)).mono ?_
 rintro e w4 ⟨rfl, hb3⟩
 replace q0 := q0.out.below hb3
 replace qb : Below w.heap.size w w4 := by exact blw
 clear hb3 c0 c1 c2
 obtain ⟨c0, c1, c2⟩ := q0.c3
 replace q0 := Lib.hid q0
 go_wp2
 go_ret
 rw [hv0.out]
 exact ⟨_, rfl, rfl, qb⟩) : p := h
theorem byWBatch2 {p : Prop} (h : p := by
 rw [hx] at hv9 hv0
 have hv9' : v9 = .iface 67 (.int .i64 n) := hv9
 subst hv9'
 have hT := tell_err (.iface 67 (.int .i64 n)) (.no n) w9 (hL.below (bch qb hb9)) hv9
 replace hT := Lib.hid hT
 replace hv0 := Lib.hid hv0
 replace hx := Lib.hid hx
 replace hv9 := Lib.hid hv9
 go_wp2_with fail
 refine hT.out.mono ?_
 rintro _ w10 ⟨rfl, hb10⟩
 go_wp2
 go_ret
 rw [hv0.out]
 exact ⟨_, rfl, rfl, bch (bch qb hb9) hb10⟩) : p := h
theorem byWBatch3 {p : Prop} (h : p := by
 rw [hx] at hv9 hv0
 obtain ⟨g9, rfl, hrow9⟩ := hv9
 have hT := tell_err (.iface 82 (.pointer (some ⟨g9, 0, none⟩))) (.at_ n i) w9 (hL.below (bch qb hb9)) ⟨g9, rfl, hrow9⟩
 replace hT := Lib.hid hT
 replace hv0 := Lib.hid hv0
 replace hx := Lib.hid hx
 replace hrow9 := Lib.hid hrow9
 go_wp2_with fail
 refine hT.out.mono ?_
 rintro _ w10 ⟨rfl, hb10⟩
 go_wp2
 go_ret
 rw [hv0.out]
 exact ⟨_, rfl, rfl, bch (bch qb hb9) hb10⟩) : p := h
set_option maxHeartbeats 8000000 in
set_option maxRecDepth 100000 in
theorem batch_right (vf vh vw : Value) (f h : List Vec.Entry) (ws : List WrB) (w : World) (hL : Laid w) (hf : VecIs w vf f) (hh : VecIs w vh h) (hw : WrsIs w vw ws) (hlf : f.length ≤ 140737488351232) (hlh : h.length ≤ 140737488351232) (hlw : ws.length ≤ 140737488351232) :
  Calls Tryz.prog 29 #[.agg #[vf, vh, vw]] w (RetErr (Bat.right f h (ws.map WrB.plain)) w) := by
 have hA := fun W hb => vector_right vf f W hb hlf
 have hB := fun W hb => vector_right vh h W hb hlh
 have hC := from_covers hh hf hlh hlf _ rfl
 have hI := fun (t r : Int) => from_within hf hh t r _ rfl
 have hf' := Lib.hid hf
 have hh' := Lib.hid hh
 have hw' := Lib.hid hw
 obtain ⟨of_, cf, ef, -, -⟩ := hf.list.at entCells_len
 obtain ⟨oh, ch, eh, -, -⟩ := hh.list.at entCells_len
 obtain ⟨ow, cw, ew, hcap, hcell⟩ := ListIs.at hw wrBCells_len
 replace hA := Lib.hid hA
 replace hB := Lib.hid hB
 replace hI := Lib.hid hI
 replace hcell := Lib.hid hcell
 replace hcap := Lib.hid hcap
 have i0 : ∀ (x y : Value) (w : World), (Instr.index 93 (.agg #[x, y]) (.int .i64 0)).run Tryz.prog w = .ok x w := fun _ _ _ => by kernel_rfl
 have i1 : ∀ (x y : Value) (w : World), (Instr.index 93 (.agg #[x, y]) (.int .i64 1)).run Tryz.prog w = .ok y w := fun _ _ _ => by kernel_rfl
 clear hf hh hw
 subst ef eh ew
 by_cases r1 : Vec.right f = .ok
 ·by_cases r2 : Vec.right h = .ok
  ·have hv0 : Bat.right f h (ws.map WrB.plain) = if Bat.covers h f = false then .no 13 else if 60 < (ws.map WrB.plain).length then .no 4 else Bat.wrongs f h (ws.map WrB.plain) none 0 := by
    unfold Bat.right
    rw [if_neg (by simp [r1]), if_neg (by simp [r2])]
   replace r1 := Lib.hid r1
   replace r2 := Lib.hid r2
   rw [show coversB h f = Bat.covers h f from rfl] at hC
   by_cases r3 : Bat.covers h f = false
   ·rw [if_pos r3] at hv0
    rw [r3] at hC
    replace hv0 := Lib.hid hv0
    replace r3 := Lib.hid r3
    exact byWBatch1
   ·rw [if_neg r3] at hv0
    have r3 : Bat.covers h f = true := by simpa using r3
    rw [r3] at hC
    replace r3 := Lib.hid r3
    by_cases r4 : 60 < ws.length
    ·rw [if_pos (by rw [List.length_map]; exact r4)] at hv0
     replace hv0 := Lib.hid hv0
     have d60 : decide ((60 : Int) < (ws.length : Int)) = true := by simp; omega
     exact byWBatch1
    ·rw [if_neg (by rw [List.length_map]; exact r4)] at hv0
     have hfin := Lib.hid hv0
     clear hv0
     have hmap : (ws.map WrB.plain).length = ws.length := List.length_map _
     have hget : ∀ k (hk : k < ws.length), (ws.map WrB.plain)[k]'(by rw [hmap]; exact hk) = ws[k].plain := fun k hk => by simp
     generalize hE : Bat.right f h (ws.map WrB.plain) = E at *
     replace hE := Lib.hid hE
     generalize ws.map WrB.plain = ls at *
     replace hmap := Lib.hid hmap
     replace hget := Lib.hid hget
     have d60 : decide ((60 : Int) < (ws.length : Int)) = false := by simp; omega
     go_enter Tryz.func29, Tryz.ntmps29
     go_wp2_with fail
     have q0 := row_at #[.slice of_ f.length cf, .slice oh h.length ch, .slice ow ws.length cw] 25 (rfl : w.heap.size = w.heap.size)
     have qb : Below w.heap.size w (w.alloc (Obj.cells #[.slice of_ f.length cf, .slice oh h.length ch, .slice ow ws.length cw] 25)) := by exact blw
     generalize w.alloc (Obj.cells #[.slice of_ f.length cf, .slice oh h.length ch, .slice ow ws.length cw] 25) = w1 at *
     replace q0 := Lib.hid q0
     refine wp_loop_rounds 3 ?_
     rw [rounds_succ]
     go_wp2_with fail
     refine (hA.out _ (hf'.out.below (by exact blw))).mono ?_
     rintro e w2 ⟨v1, rfl, hv1, hb1⟩
     rw [r1.out] at hv1
     have hv1 : v1 = .nilIface := hv1
     subst hv1
     replace q0 := Lib.hid (q0.out.below hb1)
     replace qb : Below w.heap.size w w2 := by exact blw
     clear hb1
     go_wp2_with fail
     rw [rounds_succ]
     go_wp2_with fail
     refine (hB.out _ (hh'.out.below (by exact blw))).mono ?_
     rintro e w3 ⟨v2, rfl, hv2, hb2⟩
     rw [r2.out] at hv2
     have hv2 : v2 = .nilIface := hv2
     subst hv2
     replace q0 := q0.out.below hb2
     replace qb : Below w.heap.size w w3 := by exact blw
     clear hb2
     obtain ⟨c0, c1, c2⟩ := q0.c3
     replace q0 := Lib.hid q0
     go_wp2_with fail
     rw [rounds_succ]
     go_wp2_with fail
     refine (hC _ (by exact blw)).mono ?_
     rintro e w4 ⟨rfl, hb3⟩
     replace q0 := q0.out.below hb3
     replace qb : Below w.heap.size w w4 := by exact blw
     clear hb3 c0 c1 c2
     obtain ⟨c0, c1, c2⟩ := q0.c3
     replace q0 := Lib.hid q0
     go_wp2_with fail
     go_loopw [42] (fun i wr => ∃ (k : Nat) (prev : Option Wr), k ≤ ws.length ∧ i = .int .i64 k ∧ Prev ls k prev ∧ Hid (Bat.wrongs f h (ls.drop k) prev k = E) ∧ Below w4.heap.size w4 wr) (fun i _ => ws.length - (intOf i).toNat)
     case atStart => exact ⟨0, none, by omega, rfl, .inl ⟨rfl, rfl⟩, Lib.hid (by rw [List.drop_zero]; exact hfin.out.symm), Below.refl _ _⟩
     case round =>
      obtain ⟨k, prev, hk, rfl, hprev, hfin, hbel⟩ := hrel
      by_cases hlt : k < ws.length
      ·have hkl : k < ls.length := by rw [hmap.out]; exact hlt
       rw [bwrongs_drop f h ls k prev hkl] at hfin
       replace hfin := Lib.hid hfin.out.symm
       have hlk := Lib.hid (hget.out k hlt)
       obtain ⟨b1, f1, how, hbb, hc1⟩ := hcell.out k hlt
       subst how
       have hbb := hbb (by omega)
       have hbel0 : Below w.heap.size w wr := bch qb hbel
       have c0 : wr.cell? ⟨b1, f1 + k * 6, none⟩ = some (.int .i64 ws[k].t) := (hbel0.cell (p := ⟨b1, f1 + k * 6, none⟩) hbb).trans (hc1 0 _ rfl)
       have c1 : wr.cell? ⟨b1, f1 + k * 6 + 1, none⟩ = some (.int .i64 ws[k].r) := (hbel0.cell (p := ⟨b1, f1 + k * 6 + 1, none⟩) hbb).trans (hc1 1 _ rfl)
       have c2 : wr.cell? ⟨b1, f1 + k * 6 + 2, none⟩ = some (.int .i64 ws[k].k) := (hbel0.cell (p := ⟨b1, f1 + k * 6 + 2, none⟩) hbb).trans (hc1 2 _ rfl)
       have c3 : wr.cell? ⟨b1, f1 + k * 6 + 3, none⟩ = some (.string ws[k].key) := (hbel0.cell (p := ⟨b1, f1 + k * 6 + 3, none⟩) hbb).trans (hc1 3 _ rfl)
       have c4 : wr.cell? ⟨b1, f1 + k * 6 + 4, none⟩ = some (.string ws[k].val) := (hbel0.cell (p := ⟨b1, f1 + k * 6 + 4, none⟩) hbb).trans (hc1 4 _ rfl)
       have c5 : wr.cell? ⟨b1, f1 + k * 6 + 5, none⟩ = some (.int .i64 ws[k].n) := (hbel0.cell (p := ⟨b1, f1 + k * 6 + 5, none⟩) hbb).trans (hc1 5 _ rfl)
       clear hc1
       have hcell2 : 0 < k → ∃ (y : WrB) (m : Nat) (hm : m < ls.length), k = m + 1 ∧ ls[m] = y.plain ∧ w.cell? ⟨b1, f1 + m * 6, none⟩ = some (.int .i64 y.t) ∧ w.cell? ⟨b1, f1 + m * 6 + 1, none⟩ = some (.int .i64 y.r) := fun h0 => by
        obtain ⟨b2, f2, he, -, hc2⟩ := hcell.out (k - 1) (by omega)
        injection he with he
        injection he with he1 he2
        subst he1
        subst he2
        exact ⟨ws[k - 1], k - 1, by omega, by omega, hget.out (k - 1) (by omega), by have := hc2 0 _ rfl; simpa using this, hc2 1 _ rfl⟩
       replace hcell2 := Lib.hid hcell2
       generalize ws[k] = x at *
       go_wp2_with fail
       have q7 := row_at #[.int .i64 x.t, .int .i64 x.r, .int .i64 x.k, .string x.key, .string x.val, .int .i64 x.n] 33 (rfl : wr.heap.size = wr.heap.size)
       have hbel1 := bal hbel (Obj.cells #[.int .i64 x.t, .int .i64 x.r, .int .i64 x.k, .string x.key, .string x.val, .int .i64 x.n] 33)
       generalize wr.alloc (Obj.cells #[.int .i64 x.t, .int .i64 x.r, .int .i64 x.k, .string x.key, .string x.val, .int .i64 x.n] 33) = W5 at *
       clear c0 c1 c2 c3 c4 c5
       refine (write_right x.t x.r x.k x.key x.val x.n W5).mono ?_
       rintro _ W6 ⟨rfl, hb6⟩
       replace q7 := q7.below hb6
       replace hbel1 := bch hbel1 hb6
       clear hb6
       have hcc : Wr.right (Go.Proofs.YtognjohloobliaaGreatDoor.wr x.t x.r x.k x.key x.val x.n) = Wr.right x.plain := rfl
       rw [hcc]
       clear hcc
       obtain ⟨c, hc0⟩ : ∃ c, Wr.right x.plain = c := ⟨_, rfl⟩
       rw [hc0]
       replace hc0 := Lib.hid hc0
       go_wp2_with fail
       refine (tell_errW c W6 (hL.below (bch qb hbel1))).mono ?_
       rintro _ W7 ⟨rfl, hb7⟩
       replace q7 := q7.below hb7
       have hbel2 := bch hbel1 hb7
       have hbw2 : Below w.heap.size w W7 := bch qb hbel2
       have hbw : Below w.heap.size w W7 := hbw2
       clear hbel1 hb7 hbel0
       have q8 := q0.out.below hbel2
       obtain ⟨d0, d1, d2, d3, d4, d5⟩ := q7.c6
       obtain ⟨p0, p1, p2⟩ := q8.c3
       clear q7 q8
       by_cases hcz : c = 0
       ·subst hcz
        have hI2 := hI.out x.t x.r
        by_cases hk0 : k = 0
        ·subst hk0
         have hpn : prev = none := by
          rcases hprev with ⟨-, h⟩ | ⟨_, h, -⟩
          ·exact h
          ·omega
         have hbeh := Lib.hid (show Bat.behind prev x.plain = true by rw [hpn]; rfl)
         replace hpn := Lib.hid hpn
         clear hprev
         go_wp2_with fail
         go_quiet (fail)
         replace hbw2 := bdn hbw2 nq
         replace hbw := hbw2
         replace hbel2 := bdn hbel2 nq
         go_wp2_with fail
         refine (hI2 _ hbw).mono ?_
         rintro _ W8 ⟨rfl, hb8⟩
         by_cases hwi : within x.t x.r f h = true
         ·have hgood := Lib.hid (bwrongs_good hfin.out (show Bat.wrong f h prev ls[0] = 0 by
           rw [hlk.out]
           unfold Bat.wrong
           rw [if_neg (by simp [hc0.out]), if_neg (by rw [hbeh.out]; simp), if_neg (by rw [show Bat.within x.plain.t x.plain.r f h = true from hwi]; simp)]))
          rw [hwi]
          replace hwi := Lib.hid hwi
          clear hfin
          go_wp2
          go_roundw
          case rel => exact ⟨0 + 1, some ls[0], by omega, by go_num, .inr ⟨by simp; exact hkl, by omega, by simp⟩, hgood, bch hbel2 hb8⟩
          case measure => simp [intOf]; omega
         ·have hwf : within x.t x.r f h = false := by simpa using hwi
          have hbad := Lib.hid (bwrongs_bad hfin.out (show Bat.wrong f h prev ls[0] = 6 by
           rw [hlk.out]
           unfold Bat.wrong
           rw [if_neg (by simp [hc0.out]), if_neg (by rw [hbeh.out]; simp), if_pos (show Bat.within x.plain.t x.plain.r f h = false from hwf)]) (by omega))
          rw [hwf]
          replace hwi := Lib.hid hwi
          replace hwf := Lib.hid hwf
          clear hfin
          go_wp2
          go_ret
          rw [hbad.out]
          exact retErrAt w W8 (bch hbw2 hb8) 6 0 _ rfl
        ·obtain ⟨y, m, hm, hkm, hym, s0, s1⟩ := hcell2.out (by omega)
         have hpn : prev = some y.plain := by
          rcases hprev with ⟨h, -⟩ | ⟨h1, h2, h3⟩
          ·exact absurd h hk0
          ·subst hkm
           rw [h3]
           simp only [Nat.add_sub_cancel]
           rw [hym]
         replace s0 := cell_below hbw2 s0
         replace s1 := cell_below hbw2 s1
         have hki : (k : Int) - 1 = (m : Int) := by omega
         have hkw : IntKind.i64.wrap ((k : Int) - 1) = (m : Int) := by rw [hki]; exact (IntWalk.i64_left _).trans (IntWalk.wrap64_in _ ⟨by omega, by omega⟩)
         have hmw : IntKind.i64.wrap (m : Int) = (m : Int) := (IntWalk.i64_left _).trans (IntWalk.wrap64_in _ ⟨by omega, by omega⟩)
         have hml : (m : Int) < (ws.length : Int) := by omega
         have hml2 : m < ws.length := by omega
         have hk1 : decide (0 < k) = true := by simp; omega
         have hcmp := fun W => ident_compare y.t y.r x.t x.r W
         have hlat := cmp_later y.plain x.plain
         have hyt : orInt (cmp2 y.plain.t x.plain.t) (cmp2 y.plain.r x.plain.r) = orInt (cmp2 y.t x.t) (cmp2 y.r x.r) := rfl
         rw [hyt] at hlat
         generalize orInt (cmp2 y.t x.t) (cmp2 y.r x.r) = cv at *
         have k0 := Old.cell p2
         have k1 := Old.cell d0
         have k2 := Old.cell d1
         have k3 := Old.cell s0
         have k4 := Old.cell s1
         replace hcmp := Lib.hid hcmp
         replace hkm := Lib.hid hkm
         clear hprev hyt
         by_cases hla : cv < 0
         ·have hbeh := Lib.hid (show Bat.behind prev x.plain = true by rw [hpn]; exact decide_eq_true (hlat.1 hla))
          have hcd : decide (0 ≤ cv) = false := by simp; omega
          replace hpn := Lib.hid hpn
          replace hlat := Lib.hid hlat
          go_wp2_with fail
          (have hN := Old.ne W7; refine wp_region_kept (Old W7.heap.size W7) (by kernel_rfl) (by kernel_rfl) (Old.start W7) ?_; (repeat (first | go_big_quiet_step ((first | (go_at_call 24; go_must (exact calls_kept (hcmp.out _) Old.below)))) | quiet_step ((first | (go_at_call 24; go_must (exact calls_kept (hcmp.out _) Old.below)))))); refine wpQuiet_nil ?_; rintro _ ⟨X, rfl⟩)
          have hbX := X.ok.2
          have hvX := X.ok.1
          generalize X.val = wX at *
          replace d0 := cell_below hbX d0
          replace d1 := cell_below hbX d1
          replace p0 := cell_below hbX p0
          replace p1 := cell_below hbX p1
          replace hbel2 := bch hbel2 hbX
          replace hbw2 := bch hbw2 hbX
          replace hbw := bch hbw hbX
          clear k0 k1 k2 k3 k4 hN hvX
          go_wp2_with fail
          refine (hI2 _ hbw).mono ?_
          rintro _ W8 ⟨rfl, hb8⟩
          by_cases hwi : within x.t x.r f h = true
          ·have hgood := Lib.hid (bwrongs_good hfin.out (show Bat.wrong f h prev ls[k] = 0 by
            rw [hlk.out]
            unfold Bat.wrong
            rw [if_neg (by simp [hc0.out]), if_neg (by rw [hbeh.out]; simp), if_neg (by rw [show Bat.within x.plain.t x.plain.r f h = true from hwi]; simp)]))
           rw [hwi]
           replace hwi := Lib.hid hwi
           clear hfin
           go_wp2
           go_roundw
           case rel => exact ⟨k + 1, some ls[k], by omega, by go_num, .inr ⟨by simp; exact hkl, by omega, by simp⟩, hgood, bch hbel2 hb8⟩
           case measure => simp [intOf]; omega
          ·have hwf : within x.t x.r f h = false := by simpa using hwi
           have hbad := Lib.hid (bwrongs_bad hfin.out (show Bat.wrong f h prev ls[k] = 6 by
            rw [hlk.out]
            unfold Bat.wrong
            rw [if_neg (by simp [hc0.out]), if_neg (by rw [hbeh.out]; simp), if_pos (show Bat.within x.plain.t x.plain.r f h = false from hwf)]) (by omega))
           rw [hwf]
           replace hwi := Lib.hid hwi
           replace hwf := Lib.hid hwf
           clear hfin
           go_wp2
           go_ret
           rw [hbad.out]
           exact retErrAt w W8 (bch hbw2 hb8) 6 k _ rfl
         ·have hbehf : Bat.behind prev x.plain = false := by rw [hpn]; exact decide_eq_false (fun h => hla (hlat.2 h))
          have hbad := Lib.hid (bwrongs_bad hfin.out (show Bat.wrong f h prev ls[k] = 10 by
           rw [hlk.out]
           unfold Bat.wrong
           rw [if_neg (by simp [hc0.out]), if_pos hbehf]) (by omega))
          have hcd : decide (0 ≤ cv) = true := by simp; omega
          replace hpn := Lib.hid hpn
          replace hlat := Lib.hid hlat
          replace hbehf := Lib.hid hbehf
          go_wp2_with fail
          (have hN := Old.ne W7; refine wp_region_kept (Old W7.heap.size W7) (by kernel_rfl) (by kernel_rfl) (Old.start W7) ?_; (repeat (first | go_big_quiet_step ((first | (go_at_call 24; go_must (exact calls_kept (hcmp.out _) Old.below)))) | quiet_step ((first | (go_at_call 24; go_must (exact calls_kept (hcmp.out _) Old.below)))))); refine wpQuiet_nil ?_; rintro _ ⟨X, rfl⟩)
          have hbX := bch hbw2 X.ok.2
          generalize X.val = wX at *
          go_wp2
          go_ret
          rw [hbad.out]
          exact retErrAt w wX hbX 10 k _ rfl
       ·have hbad := Lib.hid (bwrongs_bad hfin.out (show Bat.wrong f h prev ls[k] = c by
         rw [hlk.out]
         unfold Bat.wrong
         rw [if_pos (by rw [hc0.out]; exact hcz), hc0.out]) hcz)
        have hcb : ((c : Int) == 0) = false := by simp; omega
        go_wp2
        go_ret
        rw [hbad.out]
        exact retErrAt w W7 hbw2 c k _ rfl
      ·obtain rfl : k = ws.length := by omega
       have hEk : E = .ok := by
        have := hfin.out
        rw [List.drop_of_length_le (by rw [hmap.out]; exact Nat.le_refl _)] at this
        exact this.symm
       replace hfin := Lib.hid hfin
       go_wp2
       go_ret
       rw [hEk]
       exact ⟨_, rfl, rfl, bch qb hbel⟩
  ·have hv0 : Bat.right f h (ws.map WrB.plain) = .no (Vec.right h).code := by
    unfold Bat.right
    rw [if_neg (by simp [r1]), if_pos r2]
   replace r1 := Lib.hid r1
   go_enter Tryz.func29, Tryz.ntmps29
   go_wp2_with fail
   have q0 := row_at #[.slice of_ f.length cf, .slice oh h.length ch, .slice ow ws.length cw] 25 (rfl : w.heap.size = w.heap.size)
   have qb : Below w.heap.size w (w.alloc (Obj.cells #[.slice of_ f.length cf, .slice oh h.length ch, .slice ow ws.length cw] 25)) := by exact blw
   generalize w.alloc (Obj.cells #[.slice of_ f.length cf, .slice oh h.length ch, .slice ow ws.length cw] 25) = w1 at *
   replace q0 := Lib.hid q0
   refine wp_loop_rounds 3 ?_
   rw [rounds_succ]
   go_wp2_with fail
   refine (hA.out _ (hf'.out.below (by exact blw))).mono ?_
   rintro e w2 ⟨v1, rfl, hv1, hb1⟩
   rw [r1.out] at hv1
   have hv1 : v1 = .nilIface := hv1
   subst hv1
   replace q0 := Lib.hid (q0.out.below hb1)
   replace qb : Below w.heap.size w w2 := by exact blw
   clear hb1
   go_wp2_with fail
   rw [rounds_succ]
   go_wp2_with fail
   refine (hB.out _ (hh'.out.below (by exact blw))).mono ?_
   rintro e w9 ⟨v9, rfl, hv9, hb9⟩
   cases hx : Vec.right h with
   | ok => exact absurd hx r2
   | no n =>
    exact byWBatch2
   | at_ n i =>
    exact byWBatch3
 ·have hv0 : Bat.right f h (ws.map WrB.plain) = .no (Vec.right f).code := by
   unfold Bat.right
   rw [if_pos r1]
  go_enter Tryz.func29, Tryz.ntmps29
  go_wp2_with fail
  have q0 := row_at #[.slice of_ f.length cf, .slice oh h.length ch, .slice ow ws.length cw] 25 (rfl : w.heap.size = w.heap.size)
  have qb : Below w.heap.size w (w.alloc (Obj.cells #[.slice of_ f.length cf, .slice oh h.length ch, .slice ow ws.length cw] 25)) := by exact blw
  generalize w.alloc (Obj.cells #[.slice of_ f.length cf, .slice oh h.length ch, .slice ow ws.length cw] 25) = w1 at *
  replace q0 := Lib.hid q0
  refine wp_loop_rounds 3 ?_
  rw [rounds_succ]
  go_wp2_with fail
  refine (hA.out _ (hf'.out.below (by exact blw))).mono ?_
  rintro e w9 ⟨v9, rfl, hv9, hb9⟩
  cases hx : Vec.right f with
  | ok => exact absurd hx r1
  | no n =>
   exact byWBatch2
  | at_ n i =>
   exact byWBatch3
end Go.Proofs.YtognjohloobliaaGreatDoor
/- Walks of what the laws over batches share: one, batch.Same, gathered. -/
namespace Go.Proofs.YtognjohloobliaaGreatDoor
open Go.RowKit
set_option linter.unusedVariables false
set_option linter.unusedSimpArgs false
set_option maxHeartbeats 4000000 in
theorem eq_writes (va vb : Value) (a : List WrB) (w : World) (ha : WrsIs w va a) (hb : WrsIs w vb a) (hla : a.length ≤ 140737488351232) :
  Calls Tryz.prog 17 #[va, vb] w fun e w' => e = .returned (.bool true) ∧ Below w.heap.size w w' := by
 obtain ⟨oa, ca, rfl, -, hcella⟩ := ListIs.at ha wrBCells_len
 obtain ⟨ob, cb, rfl, -, hcellb⟩ := ListIs.at hb wrBCells_len
 clear ha hb
 replace hcella := Lib.hid hcella
 replace hcellb := Lib.hid hcellb
 have hle : ((a.length : Int) == (a.length : Int)) = true := by simp
 go_enter Tryz.func17, Tryz.ntmps17
 go_wp2
 go_loopw [13] (fun i wr => ∃ k : Nat, k ≤ a.length ∧ i = .int .i64 k ∧ Below w.heap.size w wr) (fun i _ => a.length - (intOf i).toNat)
 case atStart => exact ⟨0, by omega, rfl, by exact blw⟩
 case round =>
  obtain ⟨k, hk, rfl, hbel⟩ := hrel
  have hsz := hbel.size
  by_cases hlt : k < a.length
  ·obtain ⟨b1, f1, rfl, hb1, hc1⟩ := hcella.out k hlt
   obtain ⟨b2, f2, rfl, hb2, hc2⟩ := hcellb.out k hlt
   have hb1 := hb1 (by omega)
   have hb2 := hb2 (by omega)
   have c0 : wr.cell? ⟨b1, f1 + k * 6, none⟩ = some (.int .i64 a[k].t) := (hbel.cell (p := ⟨b1, f1 + k * 6, none⟩) hb1).trans (hc1 0 _ rfl)
   have c1 : wr.cell? ⟨b1, f1 + k * 6 + 1, none⟩ = some (.int .i64 a[k].r) := (hbel.cell (p := ⟨b1, f1 + k * 6 + 1, none⟩) hb1).trans (hc1 1 _ rfl)
   have c2 : wr.cell? ⟨b1, f1 + k * 6 + 2, none⟩ = some (.int .i64 a[k].k) := (hbel.cell (p := ⟨b1, f1 + k * 6 + 2, none⟩) hb1).trans (hc1 2 _ rfl)
   have c3 : wr.cell? ⟨b1, f1 + k * 6 + 3, none⟩ = some (.string a[k].key) := (hbel.cell (p := ⟨b1, f1 + k * 6 + 3, none⟩) hb1).trans (hc1 3 _ rfl)
   have c4 : wr.cell? ⟨b1, f1 + k * 6 + 4, none⟩ = some (.string a[k].val) := (hbel.cell (p := ⟨b1, f1 + k * 6 + 4, none⟩) hb1).trans (hc1 4 _ rfl)
   have c5 : wr.cell? ⟨b1, f1 + k * 6 + 5, none⟩ = some (.int .i64 a[k].n) := (hbel.cell (p := ⟨b1, f1 + k * 6 + 5, none⟩) hb1).trans (hc1 5 _ rfl)
   have d0 : wr.cell? ⟨b2, f2 + k * 6, none⟩ = some (.int .i64 a[k].t) := (hbel.cell (p := ⟨b2, f2 + k * 6, none⟩) hb2).trans (hc2 0 _ rfl)
   have d1 : wr.cell? ⟨b2, f2 + k * 6 + 1, none⟩ = some (.int .i64 a[k].r) := (hbel.cell (p := ⟨b2, f2 + k * 6 + 1, none⟩) hb2).trans (hc2 1 _ rfl)
   have d2 : wr.cell? ⟨b2, f2 + k * 6 + 2, none⟩ = some (.int .i64 a[k].k) := (hbel.cell (p := ⟨b2, f2 + k * 6 + 2, none⟩) hb2).trans (hc2 2 _ rfl)
   have d3 : wr.cell? ⟨b2, f2 + k * 6 + 3, none⟩ = some (.string a[k].key) := (hbel.cell (p := ⟨b2, f2 + k * 6 + 3, none⟩) hb2).trans (hc2 3 _ rfl)
   have d4 : wr.cell? ⟨b2, f2 + k * 6 + 4, none⟩ = some (.string a[k].val) := (hbel.cell (p := ⟨b2, f2 + k * 6 + 4, none⟩) hb2).trans (hc2 4 _ rfl)
   have d5 : wr.cell? ⟨b2, f2 + k * 6 + 5, none⟩ = some (.int .i64 a[k].n) := (hbel.cell (p := ⟨b2, f2 + k * 6 + 5, none⟩) hb2).trans (hc2 5 _ rfl)
   clear hc1 hc2
   generalize a[k] = y at *
   have e0 : (y.key.toList == y.key.toList) = true := by simp
   have e1 : (y.val.toList == y.val.toList) = true := by simp
   have e2 : (y.t == y.t) = true := by simp
   have e3 : (y.r == y.r) = true := by simp
   have e4 : (y.k == y.k) = true := by simp
   have e5 : (y.n == y.n) = true := by simp
   go_wp2
   go_quiet (fail)
   go_wp2
   go_roundw
   case rel => exact ⟨k + 1, by omega, by go_num, by exact blw⟩
   case measure => simp [intOf]; omega
  ·go_wp2
   go_ret
   exact ⟨rfl, by exact blw⟩
def oneW : WrB := ⟨7, 3, 1, ⟨#[107]⟩, ⟨#[118]⟩, 0⟩
def oneH : List Vec.Entry := [⟨3, 7⟩]
set_option maxHeartbeats 2000000 in
theorem keep_one (w : World) : Calls Tryz.prog 31 #[] w fun e w' => (∃ vh vw, e = .returned (.agg #[.slice none 0 0, vh, vw]) ∧ VecIs w' vh oneH ∧ WrsIs w' vw [oneW]) ∧ Below w.heap.size w w' := by
 go_enter Tryz.func31, Tryz.ntmps31
 go_wp2_with fail
 have r0 := ((row_at #[.slice none 0 0, .slice (some ⟨w.heap.size + 1, 0, none⟩) 1 1, .slice (some ⟨w.heap.size + 1 + 1, 0, none⟩) 1 1] 25 (rfl : w.heap.size = w.heap.size)).alloc (Obj.cells #[.int .i64 3, .int .i64 7] 45)).alloc (Obj.cells #[.int .i64 7, .int .i64 3, .int .i64 1, .string ⟨#[107]⟩, .string ⟨#[118]⟩, .int .i64 0] 33)
 have hb1 : Below w.heap.size w (w.alloc (Obj.cells #[.slice none 0 0, .slice (some ⟨w.heap.size + 1, 0, none⟩) 1 1, .slice (some ⟨w.heap.size + 1 + 1, 0, none⟩) 1 1] 25)) := bal (Below.refl _ _) _
 have hsz1 : (w.alloc (Obj.cells #[.slice none 0 0, .slice (some ⟨w.heap.size + 1, 0, none⟩) 1 1, .slice (some ⟨w.heap.size + 1 + 1, 0, none⟩) 1 1] 25)).heap.size = w.heap.size + 1 := by simp
 generalize w.alloc (Obj.cells #[.slice none 0 0, .slice (some ⟨w.heap.size + 1, 0, none⟩) 1 1, .slice (some ⟨w.heap.size + 1 + 1, 0, none⟩) 1 1] 25) = W1 at *
 have hv1 := ListIs.of_alloc (f := entCells) (sz := 2) W1 45 oneH #[.int .i64 3, .int .i64 7] rfl (fun _ => rfl) (by decide) 1 rfl
 rw [hsz1] at hv1
 have hb2 := bal hb1 (Obj.cells #[.int .i64 3, .int .i64 7] 45)
 have hsz2 : (W1.alloc (Obj.cells #[.int .i64 3, .int .i64 7] 45)).heap.size = w.heap.size + 1 + 1 := by simp [hsz1]
 generalize W1.alloc (Obj.cells #[.int .i64 3, .int .i64 7] 45) = W2 at *
 have hv2 := ListIs.of_alloc (f := wrBCells) (sz := 6) W2 33 [oneW] #[.int .i64 7, .int .i64 3, .int .i64 1, .string ⟨#[107]⟩, .string ⟨#[118]⟩, .int .i64 0] rfl (fun _ => rfl) (by decide) 1 rfl
 rw [hsz2] at hv2
 have hb3 := bal hb2 (Obj.cells #[.int .i64 7, .int .i64 3, .int .i64 1, .string ⟨#[107]⟩, .string ⟨#[118]⟩, .int .i64 0] 33)
 have hv1' := ListIs.below hv1 (by omega) (bal (Below.refl _ _) (Obj.cells #[.int .i64 7, .int .i64 3, .int .i64 1, .string ⟨#[107]⟩, .string ⟨#[118]⟩, .int .i64 0] 33))
 generalize W2.alloc (Obj.cells #[.int .i64 7, .int .i64 3, .int .i64 1, .string ⟨#[107]⟩, .string ⟨#[118]⟩, .int .i64 0] 33) = W3 at *
 obtain ⟨d0, d1, d2⟩ := r0.c3
 refine bodyPost_ret (v := .agg #[.slice none 0 0, .slice (some ⟨w.heap.size + 1, 0, none⟩) 1 1, .slice (some ⟨w.heap.size + 1 + 1, 0, none⟩) 1 1]) (by simp [results, Tryz.results31, go_sem, d0, d1, d2]) rfl ⟨⟨_, _, rfl, hv1', hv2⟩, hb3⟩
set_option maxHeartbeats 4000000 in
set_option maxRecDepth 20000 in
theorem same_yes (f1 h1 w1 f2 h2 w2 : Value) (A B : List Vec.Entry) (L : List WrB) (w : World) (ha : VecIs w f1 A) (hb : VecIs w h1 B) (hc : WrsIs w w1 L) (ha2 : VecIs w f2 A) (hb2 : VecIs w h2 B) (hc2 : WrsIs w w2 L) (hlA : A.length ≤ 140737488351232) (hlB : B.length ≤ 140737488351232) (hlL : L.length ≤ 140737488351232) :
  Calls Tryz.prog 28 #[.agg #[f1, h1, w1], .agg #[f2, h2, w2]] w fun e w' => e = .returned (.bool true) ∧ Below w.heap.size w w' := by
 obtain ⟨o1, c1, rfl, -, -⟩ := ha.list.at entCells_len
 obtain ⟨o2, c2, rfl, -, -⟩ := hb.list.at entCells_len
 obtain ⟨o3, c3, rfl, -, -⟩ := ListIs.at hc wrBCells_len
 obtain ⟨o4, c4, rfl, -, -⟩ := ha2.list.at entCells_len
 obtain ⟨o5, c5, rfl, -, -⟩ := hb2.list.at entCells_len
 obtain ⟨o6, c6, rfl, -, -⟩ := ListIs.at hc2 wrBCells_len
 have hE1 := fun W (hW : Below w.heap.size w W) => eq_ent (.slice o1 A.length c1) (.slice o4 A.length c4) A A W (ha.below hW) (ha2.below hW) hlA hlA
 have hE2 := fun W (hW : Below w.heap.size w W) => eq_ent (.slice o2 B.length c2) (.slice o5 B.length c5) B B W (hb.below hW) (hb2.below hW) hlB hlB
 have hE3 := fun W (hW : Below w.heap.size w W) => eq_writes (.slice o3 L.length c3) (.slice o6 L.length c6) L W (hc.below hW) (hc2.below hW) hlL
 rw [decide_eq_true rfl] at hE1 hE2
 replace hE1 := Lib.hid hE1
 replace hE2 := Lib.hid hE2
 replace hE3 := Lib.hid hE3
 clear ha hb hc ha2 hb2 hc2
 go_enter Tryz.func28, Tryz.ntmps28
 go_wp2_with fail
 have q1 := (row_at #[.slice o1 A.length c1, .slice o2 B.length c2, .slice o3 L.length c3] 25 (rfl : w.heap.size = w.heap.size)).alloc (Obj.cells #[.slice o4 A.length c4, .slice o5 B.length c5, .slice o6 L.length c6] 25)
 have hb1 := bal (Below.refl w.heap.size w) (Obj.cells #[.slice o1 A.length c1, .slice o2 B.length c2, .slice o3 L.length c3] 25)
 have hz : (w.alloc (Obj.cells #[.slice o1 A.length c1, .slice o2 B.length c2, .slice o3 L.length c3] 25)).heap.size = w.heap.size + 1 := by simp
 generalize w.alloc (Obj.cells #[.slice o1 A.length c1, .slice o2 B.length c2, .slice o3 L.length c3] 25) = W1 at *
 have q2 := row_at #[.slice o4 A.length c4, .slice o5 B.length c5, .slice o6 L.length c6] 25 hz.symm
 have hb2 := bal hb1 (Obj.cells #[.slice o4 A.length c4, .slice o5 B.length c5, .slice o6 L.length c6] 25)
 generalize W1.alloc (Obj.cells #[.slice o4 A.length c4, .slice o5 B.length c5, .slice o6 L.length c6] 25) = W2 at *
 clear hb1 hz
 refine (hE1.out _ hb2).mono ?_
 rintro _ W3 ⟨rfl, hb3⟩
 replace q1 := q1.below hb3
 replace q2 := q2.below hb3
 replace hb2 := bch hb2 hb3
 clear hb3
 obtain ⟨d0, d1, d2⟩ := q1.c3
 obtain ⟨e0, e1, e2⟩ := q2.c3
 go_wp2_with fail
 refine (hE2.out _ hb2).mono ?_
 rintro _ W4 ⟨rfl, hb3⟩
 replace q1 := q1.below hb3
 replace q2 := q2.below hb3
 replace hb2 := bch hb2 hb3
 clear hb3 d0 d1 d2 e0 e1 e2
 obtain ⟨d0, d1, d2⟩ := q1.c3
 obtain ⟨e0, e1, e2⟩ := q2.c3
 go_wp2_with fail
 refine (hE3.out _ hb2).mono ?_
 rintro _ W5 ⟨rfl, hb3⟩
 go_wp2
 go_ret
 exact ⟨rfl, bch hb2 hb3⟩
set_option maxHeartbeats 4000000 in
set_option maxRecDepth 20000 in
theorem same_no (f1 h1 w1 f2 h2 w2 : Value) (A A2 : List Vec.Entry) (w : World) (ha : VecIs w f1 A) (ha2 : VecIs w f2 A2) (hne : A ≠ A2) (hlA : A.length ≤ 140737488351232) (hlA2 : A2.length ≤ 140737488351232) (hs1 : ∃ o n c, h1 = .slice o n c) (hs2 : ∃ o n c, w1 = .slice o n c) (hs3 : ∃ o n c, h2 = .slice o n c) (hs4 : ∃ o n c, w2 = .slice o n c) :
  Calls Tryz.prog 28 #[.agg #[f1, h1, w1], .agg #[f2, h2, w2]] w fun e w' => e = .returned (.bool false) ∧ Below w.heap.size w w' := by
 obtain ⟨o1, c1, rfl, -, -⟩ := ha.list.at entCells_len
 obtain ⟨o4, c4, rfl, -, -⟩ := ha2.list.at entCells_len
 obtain ⟨o2, n2, c2, rfl⟩ := hs1
 obtain ⟨o3, n3, c3, rfl⟩ := hs2
 obtain ⟨o5, n5, c5, rfl⟩ := hs3
 obtain ⟨o6, n6, c6, rfl⟩ := hs4
 have hE1 := fun W (hW : Below w.heap.size w W) => eq_ent (.slice o1 A.length c1) (.slice o4 A2.length c4) A A2 W (ha.below hW) (ha2.below hW) hlA hlA2
 rw [decide_eq_false hne] at hE1
 replace hE1 := Lib.hid hE1
 clear ha ha2
 go_enter Tryz.func28, Tryz.ntmps28
 go_wp2_with fail
 refine (hE1.out _ (by exact blw)).mono ?_
 rintro _ W3 ⟨rfl, hb3⟩
 go_wp2
 go_ret
 exact ⟨rfl, by exact blw⟩
end Go.Proofs.YtognjohloobliaaGreatDoor
/- Walks of keep.big, keep.held. -/
namespace Go.Proofs.YtognjohloobliaaGreatDoor
open Go.RowKit
set_option linter.unusedVariables false
set_option linter.unusedSimpArgs false
set_option maxHeartbeats 4000000 in
set_option maxRecDepth 20000 in
theorem keep_big (vf vh vw : Value) (f h : List Vec.Entry) (ws : List WrB) (w : World) (hf : VecIs w vf f) (hh : VecIs w vh h) (hw : WrsIs w vw ws) (hlf : f.length ≤ 140737488351232) (hlh : h.length ≤ 140737488351232) (hlw : ws.length ≤ 140737488351232) (hq : ∀ x ∈ ws, WrBOk x) :
  Calls Tryz.prog 36 #[.agg #[vf, vh, vw]] w fun e w' => (∃ r, e = .returned (.bool r)) ∧ Below w.heap.size w w' := by
 obtain ⟨o1, c1, rfl, -, -⟩ := hf.list.at entCells_len
 obtain ⟨o2, c2, rfl, -, -⟩ := hh.list.at entCells_len
 obtain ⟨o3, c3, rfl, -, hcell⟩ := ListIs.at hw wrBCells_len
 replace hcell := Lib.hid hcell
 replace hq := Lib.hid hq
 clear hf hh hw
 go_enter Tryz.func36, Tryz.ntmps36
 go_wp2
 go_loopw [3, 20] (fun x i wr => ∃ (k : Nat) (y : Int), k ≤ ws.length ∧ i = .int .i64 k ∧ x = .int .i64 y ∧ Below w.heap.size w wr) (fun _ i _ => ws.length - (intOf i).toNat)
 case atStart => exact ⟨0, _, by omega, rfl, rfl, by exact blw⟩
 case round =>
  obtain ⟨k, y, hk, rfl, rfl, hbel⟩ := hrel
  by_cases hlt : k < ws.length
  ·obtain ⟨b1, f1, rfl, hb1, hc1⟩ := hcell.out k hlt
   have hb1 := hb1 (by omega)
   have c0 : wr.cell? ⟨b1, f1 + k * 6, none⟩ = some (.int .i64 ws[k].t) := (hbel.cell (p := ⟨b1, f1 + k * 6, none⟩) hb1).trans (hc1 0 _ rfl)
   have c1 : wr.cell? ⟨b1, f1 + k * 6 + 1, none⟩ = some (.int .i64 ws[k].r) := (hbel.cell (p := ⟨b1, f1 + k * 6 + 1, none⟩) hb1).trans (hc1 1 _ rfl)
   have c2 : wr.cell? ⟨b1, f1 + k * 6 + 2, none⟩ = some (.int .i64 ws[k].k) := (hbel.cell (p := ⟨b1, f1 + k * 6 + 2, none⟩) hb1).trans (hc1 2 _ rfl)
   have c3 : wr.cell? ⟨b1, f1 + k * 6 + 3, none⟩ = some (.string ws[k].key) := (hbel.cell (p := ⟨b1, f1 + k * 6 + 3, none⟩) hb1).trans (hc1 3 _ rfl)
   have c4 : wr.cell? ⟨b1, f1 + k * 6 + 4, none⟩ = some (.string ws[k].val) := (hbel.cell (p := ⟨b1, f1 + k * 6 + 4, none⟩) hb1).trans (hc1 4 _ rfl)
   have c5 : wr.cell? ⟨b1, f1 + k * 6 + 5, none⟩ = some (.int .i64 ws[k].n) := (hbel.cell (p := ⟨b1, f1 + k * 6 + 5, none⟩) hb1).trans (hc1 5 _ rfl)
   have hx := hq.out ws[k] (List.getElem_mem hlt)
   have hx1 := hx.2.2.1
   have hx2 := hx.2.2.2.1
   clear hc1 hx
   generalize ws[k] = x at *
   go_wp2
   go_roundw
   case rel => exact ⟨k + 1, _, by omega, by go_num, rfl, by exact blw⟩
   case measure => simp [intOf]; omega
  ·go_wp2
   go_ret
   exact ⟨⟨_, rfl⟩, hbel⟩
set_option maxHeartbeats 4000000 in
set_option maxRecDepth 20000 in
theorem keep_held (vf vh vw : Value) (f h : List Vec.Entry) (ws : List WrB) (w : World) (hL : Laid w) (hf : VecIs w vf f) (hh : VecIs w vh h) (hw : WrsIs w vw ws) (hlf : f.length ≤ 140737488351232) (hlh : h.length ≤ 140737488351232) (hlw : ws.length ≤ 140737488351232) (hq : ∀ x ∈ ws, WrBOk x) :
  Calls Tryz.prog 11 #[.agg #[vf, vh, vw]] w fun e w' => (∃ r, e = .returned (.bool r) ∧ (r = true → Bat.right f h (ws.map WrB.plain) = .ok)) ∧ Below w.heap.size w w' := by
 have hB := fun W (hW : Below w.heap.size w W) => keep_big vf vh vw f h ws W (hf.below hW) (hh.below hW) (hw.below hW) hlf hlh hlw hq
 have hR := fun W (hW : Below w.heap.size w W) => batch_right vf vh vw f h ws W (hL.below hW) (hf.below hW) (hh.below hW) (hw.below hW) hlf hlh hlw
 obtain ⟨o1, c1, e1, -, -⟩ := hf.list.at entCells_len
 obtain ⟨o2, c2, e2, -, -⟩ := hh.list.at entCells_len
 obtain ⟨o3, c3, e3, -, -⟩ := ListIs.at hw wrBCells_len
 clear hf hh hw
 subst e1 e2 e3
 replace hB := Lib.hid hB
 replace hR := Lib.hid hR
 replace hq := Lib.hid hq
 go_enter Tryz.func11, Tryz.ntmps11
 go_wp2_with fail
 have q0 := row_at #[.slice o1 f.length c1, .slice o2 h.length c2, .slice o3 ws.length c3] 25 (rfl : w.heap.size = w.heap.size)
 have hb1 := bal (Below.refl w.heap.size w) (Obj.cells #[.slice o1 f.length c1, .slice o2 h.length c2, .slice o3 ws.length c3] 25)
 generalize w.alloc (Obj.cells #[.slice o1 f.length c1, .slice o2 h.length c2, .slice o3 ws.length c3] 25) = w1 at *
 refine (hB.out _ hb1).mono ?_
 rintro _ w2 ⟨⟨r, rfl⟩, hb2⟩
 replace q0 := q0.below hb2
 replace hb1 := bch hb1 hb2
 obtain ⟨c0, c1, c2⟩ := q0.c3
 clear hb2 q0
 cases r with
 | true =>
  go_wp2
  go_ret
  exact ⟨⟨false, rfl, by simp⟩, hb1⟩
 | false =>
  go_wp2_with fail
  refine (hR.out _ hb1).mono ?_
  rintro _ w3 ⟨v, rfl, hv, hb3⟩
  cases hx : Bat.right f h (ws.map WrB.plain) with
  | ok =>
   rw [hx] at hv
   have hv : v = .nilIface := hv
   subst hv
   replace hx := Lib.hid hx
   go_wp2
   go_ret
   exact ⟨⟨true, rfl, fun _ => hx.out⟩, bch hb1 hb3⟩
  | no n =>
   rw [hx] at hv
   have hv : v = .iface 67 (.int .i64 n) := hv
   subst hv
   replace hx := Lib.hid hx
   go_wp2
   go_ret
   exact ⟨⟨false, rfl, by simp⟩, bch hb1 hb3⟩
  | at_ n i =>
   rw [hx] at hv
   obtain ⟨g, rfl, -⟩ := hv
   replace hx := Lib.hid hx
   go_wp2
   go_ret
   exact ⟨⟨false, rfl, by simp⟩, bch hb1 hb3⟩
/-- A batch as it comes in: three slices. -/
def BatQ (w : World) (p : Value × Value × Value) : Prop :=
 (∃ l : List Vec.Entry, ListIs entCells 2 w p.1 l ∧ (∀ x ∈ l, (Lit.int .i64 x.r).wf = true ∧ (Lit.int .i64 x.t).wf = true) ∧ l.length ≤ 140737488351232) ∧
 (∃ l : List Vec.Entry, ListIs entCells 2 w p.2.1 l ∧ (∀ x ∈ l, (Lit.int .i64 x.r).wf = true ∧ (Lit.int .i64 x.t).wf = true) ∧ l.length ≤ 140737488351232) ∧
 (∃ l : List WrB, ListIs wrBCells 6 w p.2.2 l ∧ (∀ x ∈ l, WrBOk x) ∧ l.length ≤ 140737488351232)
end Go.Proofs.YtognjohloobliaaGreatDoor
