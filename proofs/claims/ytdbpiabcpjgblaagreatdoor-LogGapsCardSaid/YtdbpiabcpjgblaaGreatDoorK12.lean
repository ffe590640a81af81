/- The walk of batch.Right. -/
import Derived.Test.YtdbpiabcpjgblaaGreatDoorK05
import Derived.Test.YtdbpiabcpjgblaaGreatDoorK06
import Derived.Test.YtdbpiabcpjgblaaGreatDoorK10
import Derived.Test.YtdbpiabcpjgblaaGreatDoorK11
import Derived.Outline
import Derived.Lib.SliceRun
namespace Go.Proofs.YtdbpiabcpjgblaaGreatDoor
open Go.RowKit
set_option linter.unusedVariables false
set_option linter.unusedSimpArgs false
def WrB.plain (x : WrB) : Wr := wr x.t x.r x.k x.key x.val x.n
def WrsIs (w : World) (v : Value) (l : List WrB) : Prop := ListIs wrBCells 6 w v l
theorem WrsIs.below {w w' : World} {v : Value} {l : List WrB} (h : WrsIs w v l) (hb : Below w.heap.size w w') : WrsIs w' v l := ListIs.below h (by omega) hb
theorem tell_errW (c : Nat) (w : World) (hL : Laid w) : Calls Tryz.prog 36 #[errW c] w fun e w' => e = .returned (.int .i64 c) ∧ Below w.heap.size w w' := by
  by_cases h : c = 0
  · subst h
    refine (tell_nil w).mono ?_
    rintro e w' ⟨rfl, rfl⟩
    exact ⟨rfl, Below.refl _ _⟩
  · rw [errW_no h]; exact tell_errno c w hL
theorem bwrongs_drop (f h : List Vec.Entry) (l : List Wr) (k : Nat) (prev : Option Wr) (hk : k < l.length) : Bat.wrongs f h (l.drop k) prev k = if Bat.wrong f h prev l[k] ≠ 0 then .at_ (Bat.wrong f h prev l[k]) k else Bat.wrongs f h (l.drop (k + 1)) (some l[k]) (k + 1) := by
  rw [List.drop_eq_getElem_cons hk]; rfl
theorem bwrongs_bad {f h : List Vec.Entry} {r : List Wr} {y : Wr} {prev : Option Wr} {k x : Nat} {E : Err} (hr : E = if Bat.wrong f h prev y ≠ 0 then .at_ (Bat.wrong f h prev y) k else Bat.wrongs f h r (some y) (k + 1)) (hw : Bat.wrong f h prev y = x) (hx : x ≠ 0) : E = .at_ x k := by
  rw [hr, hw, if_pos hx]
theorem bwrongs_good {f h : List Vec.Entry} {r : List Wr} {y : Wr} {prev : Option Wr} {k : Nat} {E : Err} (hr : E = if Bat.wrong f h prev y ≠ 0 then .at_ (Bat.wrong f h prev y) k else Bat.wrongs f h r (some y) (k + 1)) (hw : Bat.wrong f h prev y = 0) : Bat.wrongs f h r (some y) (k + 1) = E := by
  rw [hr, hw, if_neg (by simp)]
theorem cmp_later (p x : Wr) : orInt (cmp2 p.t x.t) (cmp2 p.r x.r) < 0 ↔ Bat.Later p x := by
  unfold Bat.Later orInt cmp2
  repeat' split
  all_goals omega
def Prev (l : List Wr) (k : Nat) (prev : Option Wr) : Prop := (k = 0 ∧ prev = none) ∨ ∃ h : k - 1 < l.length, 0 < k ∧ prev = some l[k - 1]
theorem byWBatch1 {p : Prop} (h : p := by
  go_enter Tryz.func34, Tryz.ntmps34
  go_wp2_with fail
  have q0 := row_at #[.slice of_ f.length cf, .slice oh h.length ch, .slice ow ws.length cw] 25 (rfl : w.heap.size = w.heap.size)
  have qb : Below w.heap.size w (w.alloc (Obj.cells #[.slice of_ f.length cf, .slice oh h.length ch, .slice ow ws.length cw] 25)) := by exact blw
  generalize w.alloc (Obj.cells #[.slice of_ f.length cf, .slice oh h.length ch, .slice ow ws.length cw] 25) = w1 at *
  replace q0 := Lib.hid q0
  refine wp_loop_rounds 3 ?_
  rw [rounds_succ]
  go_wp2_with fail
  refine (hA.out _ (hf'.out.below (by exact blw))).mono ?_
  rintro e w2 ⟨v1, rfl, hv1, hb1⟩
  rw [r1.out] at hv1
  have hv1 : v1 = .nilIface := hv1
  subst hv1
  replace q0 := Lib.hid (q0.out.below hb1)
  replace qb : Below w.heap.size w w2 := by exact blw
  clear hb1
  go_wp2_with fail
  rw [rounds_succ]
  go_wp2_with fail
  refine (hB.out _ (hh'.out.below (by exact blw))).mono ?_
  rintro e w3 ⟨v2, rfl, hv2, hb2⟩
  rw [r2.out] at hv2
  have hv2 : v2 = .nilIface := hv2
  subst hv2
  replace q0 := q0.out.below hb2
  replace qb : Below w.heap.size w w3 := by exact blw
  clear hb2
  obtain ⟨c0, c1, c2⟩ := q0.c3
  replace q0 := Lib.hid q0
  go_wp2_with fail
  rw [rounds_succ]
  go_wp2_with fail
  refine (hC _ (by exact blw)).mono ?_
  rintro e w4 ⟨rfl, hb3⟩
  replace q0 := q0.out.below hb3
  replace qb : Below w.heap.size w w4 := by exact blw
  clear hb3 c0 c1 c2
  obtain ⟨c0, c1, c2⟩ := q0.c3
  replace q0 := Lib.hid q0
  go_wp2
  go_ret
  rw [hv0.out]
  exact ⟨_, rfl, rfl, qb⟩) : p := h
theorem byWBatch2 {p : Prop} (h : p := by
  rw [hx] at hv9 hv0
  have hv9' : v9 = .iface 66 (.int .i64 n) := hv9
  subst hv9'
  have hT := tell_err (.iface 66 (.int .i64 n)) (.no n) w9 (hL.below (bch qb hb9)) hv9
  replace hT := Lib.hid hT
  replace hv0 := Lib.hid hv0
  replace hx := Lib.hid hx
  replace hv9 := Lib.hid hv9
  go_wp2_with fail
  refine hT.out.mono ?_
  rintro _ w10 ⟨rfl, hb10⟩
  go_wp2
  go_ret
  rw [hv0.out]
  exact ⟨_, rfl, rfl, bch (bch qb hb9) hb10⟩) : p := h
theorem byWBatch3 {p : Prop} (h : p := by
  rw [hx] at hv9 hv0
  obtain ⟨g9, rfl, hrow9⟩ := hv9
  have hT := tell_err (.iface 88 (.pointer (some ⟨g9, 0, none⟩))) (.at_ n i) w9 (hL.below (bch qb hb9)) ⟨g9, rfl, hrow9⟩
  replace hT := Lib.hid hT
  replace hv0 := Lib.hid hv0
  replace hx := Lib.hid hx
  replace hrow9 := Lib.hid hrow9
  go_wp2_with fail
  refine hT.out.mono ?_
  rintro _ w10 ⟨rfl, hb10⟩
  go_wp2
  go_ret
  rw [hv0.out]
  exact ⟨_, rfl, rfl, bch (bch qb hb9) hb10⟩) : p := h
set_option maxHeartbeats 8000000 in
set_option maxRecDepth 100000 in
theorem batch_right (vf vh vw : Value) (f h : List Vec.Entry) (ws : List WrB) (w : World) (hL : Laid w) (hf : VecIs w vf f) (hh : VecIs w vh h) (hw : WrsIs w vw ws) (hlf : f.length ≤ 140737488351232) (hlh : h.length ≤ 140737488351232) (hlw : ws.length ≤ 140737488351232) :
    Calls Tryz.prog 34 #[.agg #[vf, vh, vw]] w (RetErr (Bat.right f h (ws.map WrB.plain)) w) := by
  have hA := fun W hb => vector_right vf f W hb hlf
  have hB := fun W hb => vector_right vh h W hb hlh
  have hC := from_covers hh hf hlh hlf _ rfl
  have hI := fun (t r : Int) => from_within hf hh t r _ rfl
  have hf' := Lib.hid hf
  have hh' := Lib.hid hh
  have hw' := Lib.hid hw
  obtain ⟨of_, cf, ef, -, -⟩ := hf.list.at entCells_len
  obtain ⟨oh, ch, eh, -, -⟩ := hh.list.at entCells_len
  obtain ⟨ow, cw, ew, hcap, hcell⟩ := ListIs.at hw wrBCells_len
  replace hA := Lib.hid hA
  replace hB := Lib.hid hB
  replace hI := Lib.hid hI
  replace hcell := Lib.hid hcell
  replace hcap := Lib.hid hcap
  have i0 : ∀ (x y : Value) (w : World), (Instr.index 99 (.agg #[x, y]) (.int .i64 0)).run Tryz.prog w = .ok x w := fun _ _ _ => by kernel_rfl
  have i1 : ∀ (x y : Value) (w : World), (Instr.index 99 (.agg #[x, y]) (.int .i64 1)).run Tryz.prog w = .ok y w := fun _ _ _ => by kernel_rfl
  clear hf hh hw
  subst ef eh ew
  by_cases r1 : Vec.right f = .ok
  · by_cases r2 : Vec.right h = .ok
    · have hv0 : Bat.right f h (ws.map WrB.plain) = if Bat.covers h f = false then .no 13 else if 60 < (ws.map WrB.plain).length then .no 4 else Bat.wrongs f h (ws.map WrB.plain) none 0 := by
        unfold Bat.right
        rw [if_neg (by simp [r1]), if_neg (by simp [r2])]
      replace r1 := Lib.hid r1
      replace r2 := Lib.hid r2
      rw [show coversB h f = Bat.covers h f from rfl] at hC
      by_cases r3 : Bat.covers h f = false
      · rw [if_pos r3] at hv0
        rw [r3] at hC
        replace hv0 := Lib.hid hv0
        replace r3 := Lib.hid r3
        exact byWBatch1
      · rw [if_neg r3] at hv0
        have r3 : Bat.covers h f = true := by simpa using r3
        rw [r3] at hC
        replace r3 := Lib.hid r3
        by_cases r4 : 60 < ws.length
        · rw [if_pos (by rw [List.length_map]; exact r4)] at hv0
          replace hv0 := Lib.hid hv0
          have d60 : decide ((60 : Int) < (ws.length : Int)) = true := by simp; omega
          exact byWBatch1
        · rw [if_neg (by rw [List.length_map]; exact r4)] at hv0
          have hfin := Lib.hid hv0
          clear hv0
          have hmap : (ws.map WrB.plain).length = ws.length := List.length_map _
          have hget : ∀ k (hk : k < ws.length), (ws.map WrB.plain)[k]'(by rw [hmap]; exact hk) = ws[k].plain := fun k hk => by simp
          generalize hE : Bat.right f h (ws.map WrB.plain) = E at *
          replace hE := Lib.hid hE
          generalize ws.map WrB.plain = ls at *
          replace hmap := Lib.hid hmap
          replace hget := Lib.hid hget
          have d60 : decide ((60 : Int) < (ws.length : Int)) = false := by simp; omega
          go_enter Tryz.func34, Tryz.ntmps34
          go_wp2_with fail
          have q0 := row_at #[.slice of_ f.length cf, .slice oh h.length ch, .slice ow ws.length cw] 25 (rfl : w.heap.size = w.heap.size)
          have qb : Below w.heap.size w (w.alloc (Obj.cells #[.slice of_ f.length cf, .slice oh h.length ch, .slice ow ws.length cw] 25)) := by exact blw
          generalize w.alloc (Obj.cells #[.slice of_ f.length cf, .slice oh h.length ch, .slice ow ws.length cw] 25) = w1 at *
          replace q0 := Lib.hid q0
          refine wp_loop_rounds 3 ?_
          rw [rounds_succ]
          go_wp2_with fail
          refine (hA.out _ (hf'.out.below (by exact blw))).mono ?_
          rintro e w2 ⟨v1, rfl, hv1, hb1⟩
          rw [r1.out] at hv1
          have hv1 : v1 = .nilIface := hv1
          subst hv1
          replace q0 := Lib.hid (q0.out.below hb1)
          replace qb : Below w.heap.size w w2 := by exact blw
          clear hb1
          go_wp2_with fail
          rw [rounds_succ]
          go_wp2_with fail
          refine (hB.out _ (hh'.out.below (by exact blw))).mono ?_
          rintro e w3 ⟨v2, rfl, hv2, hb2⟩
          rw [r2.out] at hv2
          have hv2 : v2 = .nilIface := hv2
          subst hv2
          replace q0 := q0.out.below hb2
          replace qb : Below w.heap.size w w3 := by exact blw
          clear hb2
          obtain ⟨c0, c1, c2⟩ := q0.c3
          replace q0 := Lib.hid q0
          go_wp2_with fail
          rw [rounds_succ]
          go_wp2_with fail
          refine (hC _ (by exact blw)).mono ?_
          rintro e w4 ⟨rfl, hb3⟩
          replace q0 := q0.out.below hb3
          replace qb : Below w.heap.size w w4 := by exact blw
          clear hb3 c0 c1 c2
          obtain ⟨c0, c1, c2⟩ := q0.c3
          replace q0 := Lib.hid q0
          go_wp2_with fail
          go_loopw [42] (fun i wr => ∃ (k : Nat) (prev : Option Wr), k ≤ ws.length ∧ i = .int .i64 k ∧ Prev ls k prev ∧ Hid (Bat.wrongs f h (ls.drop k) prev k = E) ∧ Below w4.heap.size w4 wr) (fun i _ => ws.length - (intOf i).toNat)
          case atStart => exact ⟨0, none, by omega, rfl, .inl ⟨rfl, rfl⟩, Lib.hid (by rw [List.drop_zero]; exact hfin.out.symm), Below.refl _ _⟩
          case round =>
            obtain ⟨k, prev, hk, rfl, hprev, hfin, hbel⟩ := hrel
            by_cases hlt : k < ws.length
            · have hkl : k < ls.length := by rw [hmap.out]; exact hlt
              rw [bwrongs_drop f h ls k prev hkl] at hfin
              replace hfin := Lib.hid hfin.out.symm
              have hlk := Lib.hid (hget.out k hlt)
              obtain ⟨b1, f1, how, hbb, hc1⟩ := hcell.out k hlt
              subst how
              have hbb := hbb (by omega)
              have hbel0 : Below w.heap.size w wr := bch qb hbel
              have c0 : wr.cell? ⟨b1, f1 + k * 6, none⟩ = some (.int .i64 ws[k].t) := (hbel0.cell (p := ⟨b1, f1 + k * 6, none⟩) hbb).trans (hc1 0 _ rfl)
              have c1 : wr.cell? ⟨b1, f1 + k * 6 + 1, none⟩ = some (.int .i64 ws[k].r) := (hbel0.cell (p := ⟨b1, f1 + k * 6 + 1, none⟩) hbb).trans (hc1 1 _ rfl)
              have c2 : wr.cell? ⟨b1, f1 + k * 6 + 2, none⟩ = some (.int .i64 ws[k].k) := (hbel0.cell (p := ⟨b1, f1 + k * 6 + 2, none⟩) hbb).trans (hc1 2 _ rfl)
              have c3 : wr.cell? ⟨b1, f1 + k * 6 + 3, none⟩ = some (.string ws[k].key) := (hbel0.cell (p := ⟨b1, f1 + k * 6 + 3, none⟩) hbb).trans (hc1 3 _ rfl)
              have c4 : wr.cell? ⟨b1, f1 + k * 6 + 4, none⟩ = some (.string ws[k].val) := (hbel0.cell (p := ⟨b1, f1 + k * 6 + 4, none⟩) hbb).trans (hc1 4 _ rfl)
              have c5 : wr.cell? ⟨b1, f1 + k * 6 + 5, none⟩ = some (.int .i64 ws[k].n) := (hbel0.cell (p := ⟨b1, f1 + k * 6 + 5, none⟩) hbb).trans (hc1 5 _ rfl)
              clear hc1
              have hcell2 : 0 < k → ∃ (y : WrB) (m : Nat) (hm : m < ls.length), k = m + 1 ∧ ls[m] = y.plain ∧ w.cell? ⟨b1, f1 + m * 6, none⟩ = some (.int .i64 y.t) ∧ w.cell? ⟨b1, f1 + m * 6 + 1, none⟩ = some (.int .i64 y.r) := fun h0 => by
                obtain ⟨b2, f2, he, -, hc2⟩ := hcell.out (k - 1) (by omega)
                injection he with he
                injection he with he1 he2
                subst he1
                subst he2
                exact ⟨ws[k - 1], k - 1, by omega, by omega, hget.out (k - 1) (by omega), by have := hc2 0 _ rfl; simpa using this, hc2 1 _ rfl⟩
              replace hcell2 := Lib.hid hcell2
              generalize ws[k] = x at *
              go_wp2_with fail
              have q7 := row_at #[.int .i64 x.t, .int .i64 x.r, .int .i64 x.k, .string x.key, .string x.val, .int .i64 x.n] 33 (rfl : wr.heap.size = wr.heap.size)
              have hbel1 := bal hbel (Obj.cells #[.int .i64 x.t, .int .i64 x.r, .int .i64 x.k, .string x.key, .string x.val, .int .i64 x.n] 33)
              generalize wr.alloc (Obj.cells #[.int .i64 x.t, .int .i64 x.r, .int .i64 x.k, .string x.key, .string x.val, .int .i64 x.n] 33) = W5 at *
              clear c0 c1 c2 c3 c4 c5
              refine (write_right x.t x.r x.k x.key x.val x.n W5).mono ?_
              rintro _ W6 ⟨rfl, hb6⟩
              replace q7 := q7.below hb6
              replace hbel1 := bch hbel1 hb6
              clear hb6
              have hcc : Wr.right (Go.Proofs.YtdbpiabcpjgblaaGreatDoor.wr x.t x.r x.k x.key x.val x.n) = Wr.right x.plain := rfl
              rw [hcc]
              clear hcc
              obtain ⟨c, hc0⟩ : ∃ c, Wr.right x.plain = c := ⟨_, rfl⟩
              rw [hc0]
              replace hc0 := Lib.hid hc0
              go_wp2_with fail
              refine (tell_errW c W6 (hL.below (bch qb hbel1))).mono ?_
              rintro _ W7 ⟨rfl, hb7⟩
              replace q7 := q7.below hb7
              have hbel2 := bch hbel1 hb7
              have hbw2 : Below w.heap.size w W7 := bch qb hbel2
              have hbw : Below w.heap.size w W7 := hbw2
              clear hbel1 hb7 hbel0
              have q8 := q0.out.below hbel2
              obtain ⟨d0, d1, d2, d3, d4, d5⟩ := q7.c6
              obtain ⟨p0, p1, p2⟩ := q8.c3
              clear q7 q8
              by_cases hcz : c = 0
              · subst hcz
                have hI2 := hI.out x.t x.r
                by_cases hk0 : k = 0
                · subst hk0
                  have hpn : prev = none := by
                    rcases hprev with ⟨-, h⟩ | ⟨_, h, -⟩
                    · exact h
                    · omega
                  have hbeh := Lib.hid (show Bat.behind prev x.plain = true by rw [hpn]; rfl)
                  replace hpn := Lib.hid hpn
                  clear hprev
                  go_wp2_with fail
                  go_quiet (fail)
                  replace hbw2 := bdn hbw2 nq
                  replace hbw := hbw2
                  replace hbel2 := bdn hbel2 nq
                  go_wp2_with fail
                  refine (hI2 _ hbw).mono ?_
                  rintro _ W8 ⟨rfl, hb8⟩
                  by_cases hwi : within x.t x.r f h = true
                  · have hgood := Lib.hid (bwrongs_good hfin.out (show Bat.wrong f h prev ls[0] = 0 by
                      rw [hlk.out]
                      unfold Bat.wrong
                      rw [if_neg (by simp [hc0.out]), if_neg (by rw [hbeh.out]; simp), if_neg (by rw [show Bat.within x.plain.t x.plain.r f h = true from hwi]; simp)]))
                    rw [hwi]
                    replace hwi := Lib.hid hwi
                    clear hfin
                    go_wp2
                    go_roundw
                    case rel => exact ⟨0 + 1, some ls[0], by omega, by go_num, .inr ⟨by simp; exact hkl, by omega, by simp⟩, hgood, bch hbel2 hb8⟩
                    case measure => simp [intOf]; omega
                  · have hwf : within x.t x.r f h = false := by simpa using hwi
                    have hbad := Lib.hid (bwrongs_bad hfin.out (show Bat.wrong f h prev ls[0] = 6 by
                      rw [hlk.out]
                      unfold Bat.wrong
                      rw [if_neg (by simp [hc0.out]), if_neg (by rw [hbeh.out]; simp), if_pos (show Bat.within x.plain.t x.plain.r f h = false from hwf)]) (by omega))
                    rw [hwf]
                    replace hwi := Lib.hid hwi
                    replace hwf := Lib.hid hwf
                    clear hfin
                    go_wp2
                    go_ret
                    rw [hbad.out]
                    exact retErrAt w W8 (bch hbw2 hb8) 6 0 _ rfl
                · obtain ⟨y, m, hm, hkm, hym, s0, s1⟩ := hcell2.out (by omega)
                  have hpn : prev = some y.plain := by
                    rcases hprev with ⟨h, -⟩ | ⟨h1, h2, h3⟩
                    · exact absurd h hk0
                    · subst hkm
                      rw [h3]
                      simp only [Nat.add_sub_cancel]
                      rw [hym]
                  replace s0 := cell_below hbw2 s0
                  replace s1 := cell_below hbw2 s1
                  have hki : (k : Int) - 1 = (m : Int) := by omega
                  have hkw : IntKind.i64.wrap ((k : Int) - 1) = (m : Int) := by rw [hki]; exact (IntWalk.i64_left _).trans (IntWalk.wrap64_in _ ⟨by omega, by omega⟩)
                  have hmw : IntKind.i64.wrap (m : Int) = (m : Int) := (IntWalk.i64_left _).trans (IntWalk.wrap64_in _ ⟨by omega, by omega⟩)
                  have hml : (m : Int) < (ws.length : Int) := by omega
                  have hml2 : m < ws.length := by omega
                  have hk1 : decide (0 < k) = true := by simp; omega
                  have hcmp := fun W => ident_compare y.t y.r x.t x.r W
                  have hlat := cmp_later y.plain x.plain
                  have hyt : orInt (cmp2 y.plain.t x.plain.t) (cmp2 y.plain.r x.plain.r) = orInt (cmp2 y.t x.t) (cmp2 y.r x.r) := rfl
                  rw [hyt] at hlat
                  generalize orInt (cmp2 y.t x.t) (cmp2 y.r x.r) = cv at *
                  have k0 := Old.cell p2
                  have k1 := Old.cell d0
                  have k2 := Old.cell d1
                  have k3 := Old.cell s0
                  have k4 := Old.cell s1
                  replace hcmp := Lib.hid hcmp
                  replace hkm := Lib.hid hkm
                  clear hprev hyt
                  by_cases hla : cv < 0
                  · have hbeh := Lib.hid (show Bat.behind prev x.plain = true by rw [hpn]; exact decide_eq_true (hlat.1 hla))
                    have hcd : decide (0 ≤ cv) = false := by simp; omega
                    replace hpn := Lib.hid hpn
                    replace hlat := Lib.hid hlat
                    go_wp2_with fail
                    (have hN := Old.ne W7; refine wp_region_kept (Old W7.heap.size W7) (by kernel_rfl) (by kernel_rfl) (Old.start W7) ?_; (repeat (first | go_big_quiet_step ((first | (go_at_call 29; go_must (exact calls_kept (hcmp.out _) Old.below)))) | quiet_step ((first | (go_at_call 29; go_must (exact calls_kept (hcmp.out _) Old.below)))))); refine wpQuiet_nil ?_; rintro _ ⟨X, rfl⟩)
                    have hbX := X.ok.2
                    have hvX := X.ok.1
                    generalize X.val = wX at *
                    replace d0 := cell_below hbX d0
                    replace d1 := cell_below hbX d1
                    replace p0 := cell_below hbX p0
                    replace p1 := cell_below hbX p1
                    replace hbel2 := bch hbel2 hbX
                    replace hbw2 := bch hbw2 hbX
                    replace hbw := bch hbw hbX
                    clear k0 k1 k2 k3 k4 hN hvX
                    go_wp2_with fail
                    refine (hI2 _ hbw).mono ?_
                    rintro _ W8 ⟨rfl, hb8⟩
                    by_cases hwi : within x.t x.r f h = true
                    · have hgood := Lib.hid (bwrongs_good hfin.out (show Bat.wrong f h prev ls[k] = 0 by
                        rw [hlk.out]
                        unfold Bat.wrong
                        rw [if_neg (by simp [hc0.out]), if_neg (by rw [hbeh.out]; simp), if_neg (by rw [show Bat.within x.plain.t x.plain.r f h = true from hwi]; simp)]))
                      rw [hwi]
                      replace hwi := Lib.hid hwi
                      clear hfin
                      go_wp2
                      go_roundw
                      case rel => exact ⟨k + 1, some ls[k], by omega, by go_num, .inr ⟨by simp; exact hkl, by omega, by simp⟩, hgood, bch hbel2 hb8⟩
                      case measure => simp [intOf]; omega
                    · have hwf : within x.t x.r f h = false := by simpa using hwi
                      have hbad := Lib.hid (bwrongs_bad hfin.out (show Bat.wrong f h prev ls[k] = 6 by
                        rw [hlk.out]
                        unfold Bat.wrong
                        rw [if_neg (by simp [hc0.out]), if_neg (by rw [hbeh.out]; simp), if_pos (show Bat.within x.plain.t x.plain.r f h = false from hwf)]) (by omega))
                      rw [hwf]
                      replace hwi := Lib.hid hwi
                      replace hwf := Lib.hid hwf
                      clear hfin
                      go_wp2
                      go_ret
                      rw [hbad.out]
                      exact retErrAt w W8 (bch hbw2 hb8) 6 k _ rfl
                  · have hbehf : Bat.behind prev x.plain = false := by rw [hpn]; exact decide_eq_false (fun h => hla (hlat.2 h))
                    have hbad := Lib.hid (bwrongs_bad hfin.out (show Bat.wrong f h prev ls[k] = 10 by
                      rw [hlk.out]
                      unfold Bat.wrong
                      rw [if_neg (by simp [hc0.out]), if_pos hbehf]) (by omega))
                    have hcd : decide (0 ≤ cv) = true := by simp; omega
                    replace hpn := Lib.hid hpn
                    replace hlat := Lib.hid hlat
                    replace hbehf := Lib.hid hbehf
                    go_wp2_with fail
                    (have hN := Old.ne W7; refine wp_region_kept (Old W7.heap.size W7) (by kernel_rfl) (by kernel_rfl) (Old.start W7) ?_; (repeat (first | go_big_quiet_step ((first | (go_at_call 29; go_must (exact calls_kept (hcmp.out _) Old.below)))) | quiet_step ((first | (go_at_call 29; go_must (exact calls_kept (hcmp.out _) Old.below)))))); refine wpQuiet_nil ?_; rintro _ ⟨X, rfl⟩)
                    have hbX := bch hbw2 X.ok.2
                    generalize X.val = wX at *
                    go_wp2
                    go_ret
                    rw [hbad.out]
                    exact retErrAt w wX hbX 10 k _ rfl
              · have hbad := Lib.hid (bwrongs_bad hfin.out (show Bat.wrong f h prev ls[k] = c by
                  rw [hlk.out]
                  unfold Bat.wrong
                  rw [if_pos (by rw [hc0.out]; exact hcz), hc0.out]) hcz)
                have hcb : ((c : Int) == 0) = false := by simp; omega
                go_wp2
                go_ret
                rw [hbad.out]
                exact retErrAt w W7 hbw2 c k _ rfl
            · obtain rfl : k = ws.length := by omega
              have hEk : E = .ok := by
                have := hfin.out
                rw [List.drop_of_length_le (by rw [hmap.out]; exact Nat.le_refl _)] at this
                exact this.symm
              replace hfin := Lib.hid hfin
              go_wp2
              go_ret
              rw [hEk]
              exact ⟨_, rfl, rfl, bch qb hbel⟩
    · have hv0 : Bat.right f h (ws.map WrB.plain) = .no (Vec.right h).code := by
        unfold Bat.right
        rw [if_neg (by simp [r1]), if_pos r2]
      replace r1 := Lib.hid r1
      go_enter Tryz.func34, Tryz.ntmps34
      go_wp2_with fail
      have q0 := row_at #[.slice of_ f.length cf, .slice oh h.length ch, .slice ow ws.length cw] 25 (rfl : w.heap.size = w.heap.size)
      have qb : Below w.heap.size w (w.alloc (Obj.cells #[.slice of_ f.length cf, .slice oh h.length ch, .slice ow ws.length cw] 25)) := by exact blw
      generalize w.alloc (Obj.cells #[.slice of_ f.length cf, .slice oh h.length ch, .slice ow ws.length cw] 25) = w1 at *
      replace q0 := Lib.hid q0
      refine wp_loop_rounds 3 ?_
      rw [rounds_succ]
      go_wp2_with fail
      refine (hA.out _ (hf'.out.below (by exact blw))).mono ?_
      rintro e w2 ⟨v1, rfl, hv1, hb1⟩
      rw [r1.out] at hv1
      have hv1 : v1 = .nilIface := hv1
      subst hv1
      replace q0 := Lib.hid (q0.out.below hb1)
      replace qb : Below w.heap.size w w2 := by exact blw
      clear hb1
      go_wp2_with fail
      rw [rounds_succ]
      go_wp2_with fail
      refine (hB.out _ (hh'.out.below (by exact blw))).mono ?_
      rintro e w9 ⟨v9, rfl, hv9, hb9⟩
      cases hx : Vec.right h with
      | ok => exact absurd hx r2
      | no n =>
        exact byWBatch2
      | at_ n i =>
        exact byWBatch3
  · have hv0 : Bat.right f h (ws.map WrB.plain) = .no (Vec.right f).code := by
      unfold Bat.right
      rw [if_pos r1]
    go_enter Tryz.func34, Tryz.ntmps34
    go_wp2_with fail
    have q0 := row_at #[.slice of_ f.length cf, .slice oh h.length ch, .slice ow ws.length cw] 25 (rfl : w.heap.size = w.heap.size)
    have qb : Below w.heap.size w (w.alloc (Obj.cells #[.slice of_ f.length cf, .slice oh h.length ch, .slice ow ws.length cw] 25)) := by exact blw
    generalize w.alloc (Obj.cells #[.slice of_ f.length cf, .slice oh h.length ch, .slice ow ws.length cw] 25) = w1 at *
    replace q0 := Lib.hid q0
    refine wp_loop_rounds 3 ?_
    rw [rounds_succ]
    go_wp2_with fail
    refine (hA.out _ (hf'.out.below (by exact blw))).mono ?_
    rintro e w9 ⟨v9, rfl, hv9, hb9⟩
    cases hx : Vec.right f with
    | ok => exact absurd hx r1
    | no n =>
      exact byWBatch2
    | at_ n i =>
      exact byWBatch3
end Go.Proofs.YtdbpiabcpjgblaaGreatDoor
/- The walks of store.New and store.Of. -/
namespace Go.Proofs.YtdbpiabcpjgblaaGreatDoor
open Go.RowKit
set_option linter.unusedVariables false
set_option linter.unusedSimpArgs false
def NewStore (w : World) (e : Ending) (w' : World) : Prop := ∃ p b, e = .returned (.pointer (some ⟨p, 0, none⟩)) ∧ StoreIs w' w.heap.size p b 0 (fun _ => none) ∧ w.heap.size ≤ p ∧ Below w.heap.size w w'
set_option maxHeartbeats 1000000 in
theorem store_new (w : World) : Calls Tryz.prog 58 #[] w (NewStore w) := by
  have hmm := @run_makeMap Tryz.prog
  go_enter Tryz.func58, Tryz.ntmps58
  go_wp2
  go_ret
  have hM : MapV Tryz.prog 9 (w.alloc (.map #[] 0)) w.heap.size 0 (ptrs fun _ => none) := MapV.made _ _ _
  refine ⟨w.heap.size + 1, w.heap.size, rfl, { row := ?_, map := hM.alloc _, key := (fun s x h => by cases h), cell := (fun s x h => by cases h), list := (fun s x h => by cases h), fits := (fun s x h => by cases h), lo := Nat.le_refl _, los := (fun s x h => by cases h), apart := (fun s x s' x' h => by cases h), apart2 := (fun s x s' x' i h => by cases h) }, by omega, by exact blw⟩
  exact row_at (w := w.alloc (.map #[] 0)) _ _ (by simp)
def CelsRet (w : World) (F : ByteArray → St.Val) (e : Ending) (w' : World) : Prop :=
  ∃ (v : Value) (L : List CelB), e = .returned (.tuple #[v, .nilIface]) ∧ w'.ownsRow w.heap.size 105 5 v L.length (L.flatMap celCells) ∧ (∀ x ∈ L, w'.ownsRow w.heap.size 9 1 (.slice x.la x.ln x.lc) x.cel.val.list.length (x.cel.val.list.flatMap strCells)) ∧ St.IsCells (L.map CelB.cel) F ∧ Below w.heap.size w w'
def Run (w : World) (l : List WrB) (p b k : Nat) (wr : World) : Prop := ∃ f, StoreIs wr w.heap.size p b k f ∧ (∀ s, vals f s = St.at_ ((l.take k).map WrB.sw) s) ∧ Below w.heap.size w wr
abbrev Right_ (x : WrB) : Prop := Wr.right (wr x.t x.r x.k x.key x.val x.n) = 0
theorem run_step {w : World} {l : List WrB} {p b k : Nat} {wr w' : World} {f : ByteArray → Option Slot} (hk : k < l.length) (hS : StoreIs wr w.heap.size p b k f) (hv : ∀ s, vals f s = St.at_ ((l.take k).map WrB.sw) s) (hb : Below w.heap.size w wr) (hd : Did l[k] wr w.heap.size p b k f w') : Run w l p b (k + 1) w' := by
  obtain ⟨f', h1, h2, h3, h4⟩ := hd
  refine ⟨f', h1, fun s => ?_, hb.trans (h3.below (fun j hj => hS.mine_lo hj) hb.size)⟩
  rw [h2, List.take_succ_eq_append_getElem hk, List.map_append, List.map_singleton, St.at_snoc, hv]
  rfl
set_option maxHeartbeats 4000000 in
set_option maxRecDepth 20000 in
theorem store_of (v : Value) (l : List WrB) (w : World) (hv : WrsIs w v l) (hr : ∀ x ∈ l, Right_ x) (hl : l.length ≤ 1000) : Calls Tryz.prog 38 #[v] w (CelsRet w (St.at_ (l.map WrB.sw))) := by
  obtain ⟨o, c, rfl, -, hcell⟩ := ListIs.at hv wrBCells_len
  clear hv
  replace hcell := Lib.hid hcell
  replace hr := Lib.hid hr
  have hN := Lib.hid store_new
  go_enter Tryz.func38, Tryz.ntmps38
  go_wp2_with (go_at_call 58; refine (hN.out _).mono ?_; rintro _ w1 ⟨p, b, rfl, hS0, hp, hb1⟩)
  replace hS0 := Lib.hid hS0
  clear hN
  go_loopw [11] (fun i wr => ∃ k : Nat, k ≤ l.length ∧ i = .int .i64 k ∧ Run w l p b k wr) (fun i _ => l.length - (intOf i).toNat)
  case atStart => exact ⟨0, by omega, rfl, _, hS0.out, fun s => rfl, hb1⟩
  case round =>
    obtain ⟨k, hk, rfl, f, hS, hvs, hb⟩ := hrel
    replace hvs := Lib.hid hvs
    by_cases hlt : k < l.length
    · obtain ⟨b1, f1, rfl, hb1', hc1⟩ := hcell.out k hlt
      have hb1' := hb1' (by omega)
      have hcc : ∀ (j : Nat) (u : Value), (wrBCells l[k])[j]? = some u → wr.cell? ⟨b1, f1 + k * 6 + j, none⟩ = some u := fun j u hu => (hb.cell (p := ⟨b1, f1 + k * 6 + j, none⟩) hb1').trans (hc1 j u hu)
      have c0 : wr.cell? ⟨b1, f1 + k * 6, none⟩ = _ := hcc 0 _ rfl
      have c1 := hcc 1 _ rfl
      have c2 := hcc 2 _ rfl
      have c3 := hcc 3 _ rfl
      have c4 := hcc 4 _ rfl
      have c5 := hcc 5 _ rfl
      have hx := hr.out _ (List.getElem_mem hlt)
      obtain ⟨x, hxe⟩ : ∃ x, x = l[k] := ⟨_, rfl⟩
      rw [← hxe] at c0 c1 c2 c3 c4 c5 hx
      have hDo := Lib.hid (fun W (hW : StoreIs W w.heap.size p b k f) => store_do x W w.heap.size p b k f hW hx (by omega))
      clear hcc hc1
      replace hS := Lib.hid hS
      replace hxe := Lib.hid hxe
      replace hx := Lib.hid hx
      go_wp2_with (go_at_call 59; refine (hDo.out _ (hS.out.below (by exact blw))).mono ?_; rintro _ w3 ⟨rfl, hd⟩)
      go_roundw
      case rel =>
        refine ⟨k + 1, by omega, by go_num, ?_⟩
        rw [hxe.out] at hd
        exact run_step (wr := _) hlt (hS.out.below (by exact blw)) hvs.out (by exact blw) hd
      case measure => simp [intOf]; omega
    · obtain rfl : k = l.length := by omega
      rw [List.take_length] at hvs
      have hC := Lib.hid (store_cells wr w.heap.size p b l.length f hS hl)
      clear hS
      go_wp2_with (go_at_call 60; refine hC.out.mono ?_; rintro _ w3 ⟨v3, L, rfl, hO, hS, hI, hb3⟩)
      go_ret2
      refine ⟨v3, L, rfl, owns_base hO hb.size, fun x hx => owns_base (hS x hx) hb.size, hI.congr hvs.out, bch hb hb3⟩
end Go.Proofs.YtdbpiabcpjgblaaGreatDoor
/- The walk of slices.Clone over lists of packtrain/api.Entry; printed by gen_clone.py. -/
namespace Go.Proofs.YtdbpiabcpjgblaaGreatDoor
open Go.RowKit
set_option linter.unusedVariables false
set_option linter.unusedSimpArgs false
/-- A list in memory as a source of an append. -/
theorem srcc_ents {w : World} {v : Value} {l : List Vec.Entry} (h : ListIs entCells 2 w v l) : Src Tryz.prog 2 22 v l.length (l.flatMap entCells) w := by
  have hfl := flat_len (f := entCells) (sz := 2) (fun _ => rfl) l
  obtain ⟨a, cap, rfl, -, hc⟩ := h.at (fun _ => rfl)
  have hone : ∀ u ∈ l.flatMap entCells, u.oneCell' = true := fun u hu => by
    obtain ⟨x, -, hx⟩ := List.mem_flatMap.1 hu
    simp only [entCells, List.mem_cons, List.not_mem_nil, or_false] at hx
    rcases hx with rfl | rfl <;> rfl
  rcases Nat.eq_zero_or_pos l.length with h0 | hp
  · rw [h0]
    have hl : l = [] := List.eq_nil_of_length_eq_zero h0
    subst hl
    cases a with
    | none => exact Src.ofNil w Tryz.underlying22 _
    | some a => exact Src.ofSlice w Tryz.underlying22 a 0 cap [] rfl (fun j u hu => by cases hu) (fun u hu => by cases hu)
  · obtain ⟨b, off, rfl, -, -⟩ := hc 0 hp
    refine Src.ofSlice w Tryz.underlying22 _ _ _ _ hfl (fun j u hu => ?_) hone
    have hj := (List.getElem?_eq_some_iff.1 hu).1
    rw [hfl] at hj
    have hk : j / 2 < l.length := Nat.div_lt_of_lt_mul (by rw [Nat.mul_comm]; exact hj)
    have hm : j % 2 < 2 := Nat.mod_lt _ (by omega)
    have he : j / 2 * 2 + j % 2 = j := by omega
    have hg := flat_get (f := entCells) (sz := 2) (fun _ => rfl) l (j / 2) (j % 2) hk hm
    rw [he, hu] at hg
    obtain ⟨b', off', e, -, hcc⟩ := hc (j / 2) hk
    injection e with e
    injection e with e1 e2
    subst e1; subst e2
    have h2 := hcc (j % 2) u hg.symm
    rw [Nat.add_assoc, he] at h2
    have ea : (⟨b, off, none⟩ : Addr).add j = ⟨b, off + j, none⟩ := by unfold Addr.add; split <;> simp_all
    rw [ea]; exact h2
set_option maxHeartbeats 2000000 in
set_option maxRecDepth 20000 in
theorem clone_ents (v : Value) (l : List Vec.Entry) (w : World) (hv : ListIs entCells 2 w v l) (hl : l.length ≤ 1000000) :
    Calls Tryz.prog 50 #[v] w fun e w' => (∃ u, e = .returned u ∧ w'.ownsRow w.heap.size 45 2 u l.length (l.flatMap entCells)) ∧ Below w.heap.size w w' := by
  obtain ⟨o, c, rfl, hcap, hcell⟩ := hv.at (fun _ => rfl)
  clear hcap
  cases o with
  | none =>
    have h0 : l.length = 0 := by
      rcases Nat.eq_zero_or_pos l.length with h | h
      · exact h
      · obtain ⟨b, off, e, -, -⟩ := hcell 0 h
        cases e
    have hl0 : l = [] := List.eq_nil_of_length_eq_zero h0
    subst hl0
    clear hv hcell
    have hnl := fun W : World => Lib.run_eql_slice_nil (P := Tryz.prog) W 22 45 none 0 c 0 0 Tryz.underlying22
    go_enter Tryz.func50, Tryz.ntmps50
    go_wp2
    go_ret
    exact ⟨⟨_, rfl, World.ownsRow_nil _ _ _ _⟩, by exact blw⟩
  | some a =>
    clear hcell
    have hb1 : Below w.heap.size w (w.alloc (.cells #[] 45)) := bal (Below.refl _ _) _
    have hsrc := Lib.hid (srcc_ents (hv.below (by omega) hb1))
    have hO := Lib.hid (World.ownsRow_lit (base := w.heap.size) (e := 45) (size := 2) w #[] 0 (Nat.le_refl _) (by decide) rfl)
    clear hv
    have hnl := fun W : World => Lib.run_eql_slice_nil (P := Tryz.prog) W 22 45 (some a) l.length c 0 0 Tryz.underlying22
    go_enter Tryz.func50, Tryz.ntmps50
    go_wp2_with (at_builtin; go_must (refine app_any rfl _ _ 22 22 45 rfl w.heap.size (Value.agg #[.int .i64 0, .int .i64 0]) 2 16 Tryz.underlying22 (by kernel_rfl) rfl _ 0 [] rfl hO.out l.length (l.flatMap entCells) hsrc.out (by omega) (by omega) hb1.size ?_))
    intro v1 w2 hown2 hg2 hblk2 hnil hb2
    go_wp2
    go_ret
    exact ⟨⟨_, rfl, by simpa using hown2⟩, hb1.trans hb2⟩
end Go.Proofs.YtdbpiabcpjgblaaGreatDoor
