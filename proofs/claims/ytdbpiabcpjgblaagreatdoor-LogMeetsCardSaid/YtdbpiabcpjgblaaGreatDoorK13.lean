/- The walk of slices.Clone over lists of packtrain/api.Write; printed by gen_clone.py. -/
import Derived.Lib.SliceRun
import Derived.Test.YtdbpiabcpjgblaaGreatDoorK12
import Derived.Test.YtdbpiabcpjgblaaGreatDoorK11
import Derived.Deep.RegionHeld3
namespace Go.Proofs.YtdbpiabcpjgblaaGreatDoor
open Go.RowKit
set_option linter.unusedVariables false
set_option linter.unusedSimpArgs false
/-- A list in memory as a source of an append. -/
theorem srcc_wrs {w : World} {v : Value} {l : List WrB} (h : ListIs wrBCells 6 w v l) : Src Tryz.prog 6 23 v l.length (l.flatMap wrBCells) w := by
  have hfl := flat_len (f := wrBCells) (sz := 6) (fun _ => rfl) l
  obtain ⟨a, cap, rfl, -, hc⟩ := h.at (fun _ => rfl)
  have hone : ∀ u ∈ l.flatMap wrBCells, u.oneCell' = true := fun u hu => by
    obtain ⟨x, -, hx⟩ := List.mem_flatMap.1 hu
    simp only [wrBCells, List.mem_cons, List.not_mem_nil, or_false] at hx
    rcases hx with rfl | rfl | rfl | rfl | rfl | rfl <;> rfl
  rcases Nat.eq_zero_or_pos l.length with h0 | hp
  · rw [h0]
    have hl : l = [] := List.eq_nil_of_length_eq_zero h0
    subst hl
    cases a with
    | none => exact Src.ofNil w Tryz.underlying23 _
    | some a => exact Src.ofSlice w Tryz.underlying23 a 0 cap [] rfl (fun j u hu => by cases hu) (fun u hu => by cases hu)
  · obtain ⟨b, off, rfl, -, -⟩ := hc 0 hp
    refine Src.ofSlice w Tryz.underlying23 _ _ _ _ hfl (fun j u hu => ?_) hone
    have hj := (List.getElem?_eq_some_iff.1 hu).1
    rw [hfl] at hj
    have hk : j / 6 < l.length := Nat.div_lt_of_lt_mul (by rw [Nat.mul_comm]; exact hj)
    have hm : j % 6 < 6 := Nat.mod_lt _ (by omega)
    have he : j / 6 * 6 + j % 6 = j := by omega
    have hg := flat_get (f := wrBCells) (sz := 6) (fun _ => rfl) l (j / 6) (j % 6) hk hm
    rw [he, hu] at hg
    obtain ⟨b', off', e, -, hcc⟩ := hc (j / 6) hk
    injection e with e
    injection e with e1 e2
    subst e1; subst e2
    have h2 := hcc (j % 6) u hg.symm
    rw [Nat.add_assoc, he] at h2
    have ea : (⟨b, off, none⟩ : Addr).add j = ⟨b, off + j, none⟩ := by unfold Addr.add; split <;> simp_all
    rw [ea]; exact h2
set_option maxHeartbeats 2000000 in
set_option maxRecDepth 20000 in
theorem clone_wrs (v : Value) (l : List WrB) (w : World) (hv : ListIs wrBCells 6 w v l) (hl : l.length ≤ 1000000) :
    Calls Tryz.prog 46 #[v] w fun e w' => (∃ u, e = .returned u ∧ w'.ownsRow w.heap.size 33 6 u l.length (l.flatMap wrBCells)) ∧ Below w.heap.size w w' := by
  obtain ⟨o, c, rfl, hcap, hcell⟩ := hv.at (fun _ => rfl)
  clear hcap
  cases o with
  | none =>
    have h0 : l.length = 0 := by
      rcases Nat.eq_zero_or_pos l.length with h | h
      · exact h
      · obtain ⟨b, off, e, -, -⟩ := hcell 0 h
        cases e
    have hl0 : l = [] := List.eq_nil_of_length_eq_zero h0
    subst hl0
    clear hv hcell
    have hnl := fun W : World => Lib.run_eql_slice_nil (P := Tryz.prog) W 23 33 none 0 c 0 0 Tryz.underlying23
    go_enter Tryz.func46, Tryz.ntmps46
    go_wp2
    go_ret
    exact ⟨⟨_, rfl, World.ownsRow_nil _ _ _ _⟩, by exact blw⟩
  | some a =>
    clear hcell
    have hb1 : Below w.heap.size w (w.alloc (.cells #[] 33)) := bal (Below.refl _ _) _
    have hsrc := Lib.hid (srcc_wrs (hv.below (by omega) hb1))
    have hO := Lib.hid (World.ownsRow_lit (base := w.heap.size) (e := 33) (size := 6) w #[] 0 (Nat.le_refl _) (by decide) rfl)
    clear hv
    have hnl := fun W : World => Lib.run_eql_slice_nil (P := Tryz.prog) W 23 33 (some a) l.length c 0 0 Tryz.underlying23
    go_enter Tryz.func46, Tryz.ntmps46
    go_wp2_with (at_builtin; go_must (refine app_any rfl _ _ 23 23 33 rfl w.heap.size (Value.agg #[.int .i64 0, .int .i64 0, .int .i64 0, .string ⟨#[]⟩, .string ⟨#[]⟩, .int .i64 0]) 6 64 Tryz.underlying23 (by kernel_rfl) rfl _ 0 [] rfl hO.out l.length (l.flatMap wrBCells) hsrc.out (by omega) (by omega) hb1.size ?_))
    intro v1 w2 hown2 hg2 hblk2 hnil hb2
    go_wp2
    go_ret
    exact ⟨⟨_, rfl, by simpa using hown2⟩, hb1.trans hb2⟩
end Go.Proofs.YtdbpiabcpjgblaaGreatDoor
/- Logs in memory; the walks of log.New, Have, Writes, Cells. -/
namespace Go.Proofs.YtdbpiabcpjgblaaGreatDoor
open Go.RowKit
set_option linter.unusedVariables false
set_option linter.unusedSimpArgs false
/-- What a log holds. -/
structure Lg where
  rep : Int
  H : List Vec.Entry
  W : List WrB
/-- A log at p: its row, and two lists of its own. -/
structure LogIs (w : World) (base p : Nat) (m : Lg) (hv wv : Value) : Prop where
  row : Row w p 83 [.int .i64 m.rep, hv, wv]
  hav : w.ownsRow base 45 2 hv m.H.length (m.H.flatMap entCells)
  wri : w.ownsRow base 33 6 wv m.W.length (m.W.flatMap wrBCells)
  lo : base ≤ p
/-- The blocks that a log has. -/
def LMine (p : Nat) (hv wv : Value) (j : Nat) : Prop := j = p ∨ hv.ownBlock = some j ∨ wv.ownBlock = some j
theorem LogIs.only {S : Nat → Prop} {w w' : World} {base p : Nat} {m : Lg} {hv wv : Value} (h : LogIs w base p m hv wv) (ho : Only S w w') (hn : ∀ j, LMine p hv wv j → ¬ S j) : LogIs w' base p m hv wv :=
  ⟨h.row.only ho (hn p (.inl rfl)), owns_only h.hav ho fun j hj => hn j (.inr (.inl hj)), owns_only h.wri ho fun j hj => hn j (.inr (.inr hj)), h.lo⟩
theorem LogIs.below {w w' : World} {base p : Nat} {m : Lg} {hv wv : Value} (h : LogIs w base p m hv wv) (hb : Below w.heap.size w w') : LogIs w' base p m hv wv :=
  ⟨h.row.below hb, owns_below h.hav hb, owns_below h.wri hb, h.lo⟩
theorem LogIs.mine_lo {w : World} {base p : Nat} {m : Lg} {hv wv : Value} (h : LogIs w base p m hv wv) {j : Nat} (hj : LMine p hv wv j) : base ≤ j := by
  rcases hj with rfl | hj | hj
  · exact h.lo
  · exact (h.hav.lt j hj).1
  · exact (h.wri.lt j hj).1
theorem LogIs.mine_lt {w : World} {base p : Nat} {m : Lg} {hv wv : Value} (h : LogIs w base p m hv wv) {j : Nat} (hj : LMine p hv wv j) : j < w.heap.size := by
  rcases hj with rfl | hj | hj
  · exact h.row.lt
  · exact (h.hav.lt j hj).2
  · exact (h.wri.lt j hj).2
theorem LogIs.base_le {w : World} {base base' p : Nat} {m : Lg} {hv wv : Value} (h : LogIs w base p m hv wv) (hb : base' ≤ base) : LogIs w base' p m hv wv :=
  ⟨h.row, owns_base h.hav hb, owns_base h.wri hb, Nat.le_trans hb h.lo⟩
def NewLog (w : World) (r : Int) (e : Ending) (w' : World) : Prop := ∃ p, e = .returned (.tuple #[.pointer (some ⟨p, 0, none⟩), .nilIface]) ∧ LogIs w' w.heap.size p ⟨r, [], []⟩ (.slice none 0 0) (.slice none 0 0) ∧ Below w.heap.size w w'
set_option maxHeartbeats 1000000 in
theorem log_new (r : Int) (w : World) (h0 : 0 ≤ r) (h1 : r ≤ 200) : Calls Tryz.prog 20 #[.int .i64 r] w (NewLog w r) := by
  have d0 : decide (r < 0) = false := by simp; omega
  have d1 : decide (200 < r) = false := by simp; omega
  replace h0 := Lib.hid h0
  replace h1 := Lib.hid h1
  go_enter Tryz.func20, Tryz.ntmps20
  go_wp2
  go_ret2
  exact ⟨w.heap.size, rfl, ⟨row_at _ _ rfl, World.ownsRow_nil _ _ _ _, World.ownsRow_nil _ _ _ _, Nat.le_refl _⟩, by exact blw⟩
set_option maxHeartbeats 1000000 in
theorem log_have (base p : Nat) (m : Lg) (hv wv : Value) (w : World) (h : LogIs w base p m hv wv) (hl : m.H.length ≤ 1000) :
    Calls Tryz.prog 25 #[.pointer (some ⟨p, 0, none⟩)] w fun e w' => (∃ u, e = .returned u ∧ w'.ownsRow w.heap.size 45 2 u m.H.length (m.H.flatMap entCells)) ∧ Below w.heap.size w w' := by
  have hC := Lib.hid (clone_ents hv m.H w (ListIs.of_owns h.hav) (by omega))
  have q := h.row
  clear h
  obtain ⟨c0, c1, c2⟩ := q.c3
  go_enter Tryz.func25, Tryz.ntmps25
  go_wp2_with (go_at_call 50; refine hC.out.mono ?_; rintro _ w2 ⟨⟨u, rfl, hu⟩, hb⟩)
  go_ret
  exact ⟨⟨_, rfl, hu⟩, hb⟩
set_option maxHeartbeats 1000000 in
theorem log_writes (base p : Nat) (m : Lg) (hv wv : Value) (w : World) (h : LogIs w base p m hv wv) (hl : m.W.length ≤ 1000) :
    Calls Tryz.prog 23 #[.pointer (some ⟨p, 0, none⟩)] w fun e w' => (∃ u, e = .returned u ∧ w'.ownsRow w.heap.size 33 6 u m.W.length (m.W.flatMap wrBCells)) ∧ Below w.heap.size w w' := by
  have hC := Lib.hid (clone_wrs wv m.W w (ListIs.of_owns h.wri) (by omega))
  have q := h.row
  clear h
  obtain ⟨c0, c1, c2⟩ := q.c3
  go_enter Tryz.func23, Tryz.ntmps23
  go_wp2_with (go_at_call 46; refine hC.out.mono ?_; rintro _ w2 ⟨⟨u, rfl, hu⟩, hb⟩)
  go_ret
  exact ⟨⟨_, rfl, hu⟩, hb⟩
def CelsRet1 (w : World) (F : ByteArray → St.Val) (e : Ending) (w' : World) : Prop :=
  ∃ (v : Value) (L : List CelB), e = .returned v ∧ w'.ownsRow w.heap.size 105 5 v L.length (L.flatMap celCells) ∧ (∀ x ∈ L, w'.ownsRow w.heap.size 9 1 (.slice x.la x.ln x.lc) x.cel.val.list.length (x.cel.val.list.flatMap strCells)) ∧ St.IsCells (L.map CelB.cel) F ∧ Below w.heap.size w w'
set_option maxHeartbeats 1000000 in
theorem log_cells (base p : Nat) (m : Lg) (hv wv : Value) (w : World) (h : LogIs w base p m hv wv) (hr : ∀ x ∈ m.W, Right_ x) (hl : m.W.length ≤ 1000) :
    Calls Tryz.prog 40 #[.pointer (some ⟨p, 0, none⟩)] w (CelsRet1 w (St.at_ (m.W.map WrB.sw))) := by
  have hC := Lib.hid (store_of wv m.W w (ListIs.of_owns h.wri) hr hl)
  have q := h.row
  clear h
  obtain ⟨c0, c1, c2⟩ := q.c3
  go_enter Tryz.func40, Tryz.ntmps40
  go_wp2_with (go_at_call 38; refine hC.out.mono ?_; rintro _ w2 ⟨v2, L2, rfl, hO, hS, hI, hb⟩)
  go_ret
  exact ⟨v2, L2, rfl, hO, hS, hI, hb⟩
end Go.Proofs.YtdbpiabcpjgblaaGreatDoor
/- The walk of vector.Join, whose answer is of the call's own memory (XWJoinV's, told anew). -/
namespace Go.Proofs.YtdbpiabcpjgblaaGreatDoor
open Go.RowKit
set_option linter.unusedVariables false
def JoinO (x : Err ⊕ List Vec.Entry) (w : World) (e : Ending) (w' : World) : Prop :=
  (match x with
  | .inl r => e = .returned (.tuple #[.slice none 0 0, errV r.code])
  | .inr l => ∃ v, e = .returned (.tuple #[v, .nilIface]) ∧ w'.ownsRow w.heap.size 45 2 v l.length (l.flatMap entCells)) ∧ Below w.heap.size w w'
set_option maxHeartbeats 4000000 in
set_option maxRecDepth 100000 in
theorem vector_join_own (va vb : Value) (a b : List Vec.Entry) (w : World) (hL : Laid w) (ha : VecIs w va a) (hb : VecIs w vb b) (hla : a.length ≤ 140737488351232) (hlb : b.length ≤ 140737488351232) (h1 : Vec.right a = .ok) (h2 : Vec.right b = .ok) :
    Calls Tryz.prog 43 #[va, vb] w (JoinO (joined a b) w) := by
  have hA := fun W h => vector_right va a W h hla
  have hB := fun W h => vector_right vb b W h hlb
  rw [h1] at hA
  rw [h2] at hB
  have hJ : Hid (joined a b = if 16 < (Vec.merge a b).length then .inl (.no 4) else .inr (Vec.merge a b)) := Lib.hid (by unfold joined; rw [if_neg (by simp [h1]), if_neg (by simp [h2])])
  have hm : a.length + b.length ≤ 32 := by
    have := ((Vec.right_iff a).1 h1).len
    have := ((Vec.right_iff b).1 h2).len
    omega
  replace hA := Lib.hid hA
  replace hB := Lib.hid hB
  have ha' := Lib.hid ha
  have hb' := Lib.hid hb
  clear h1 h2
  obtain ⟨oa, ca, rfl, -, -⟩ := ha.list.at entCells_len
  obtain ⟨ob, cb, rfl, -, -⟩ := hb.list.at entCells_len
  clear ha hb
  have i0 : ∀ (x y : Value) (w : World), (Instr.index 99 (.agg #[x, y]) (.int .i64 0)).run Tryz.prog w = .ok x w := fun _ _ _ => by kernel_rfl
  have i1 : ∀ (x y : Value) (w : World), (Instr.index 99 (.agg #[x, y]) (.int .i64 1)).run Tryz.prog w = .ok y w := fun _ _ _ => by kernel_rfl
  go_enter Tryz.func43, Tryz.ntmps43
  go_wp2
  refine wp_loop_rounds 3 ?_
  rw [rounds_succ]
  go_wp2_with fail
  refine (hA.out _ ha'.out).mono ?_
  rintro e w1 ⟨v1, rfl, hv1, hb1⟩
  have hv1 : v1 = .nilIface := hv1
  subst hv1
  go_wp2_with fail
  rw [rounds_succ]
  go_wp2_with fail
  refine (hB.out _ (hb'.out.below hb1)).mono ?_
  rintro e w2 ⟨v2, rfl, hv2, hb2⟩
  have hv2 : v2 = .nilIface := hv2
  subst hv2
  go_wp2_with fail
  rw [rounds_succ]
  go_wp2_with fail
  have hbel2 : Below w.heap.size w w2 := by exact blw
  go_loopw [0, 1, 9] (fun sa sb so wr => ∃ (oa ob : Option Addr) (ca cb : Nat) (a' b' out : List Vec.Entry), sa = .slice oa a'.length ca ∧ sb = .slice ob b'.length cb ∧ VecIs w (.slice oa a'.length ca) a' ∧ VecIs w (.slice ob b'.length cb) b' ∧ out ++ Vec.merge a' b' = Vec.merge a b ∧ out.length + (a'.length + b'.length) ≤ 32 ∧ wr.ownsRow w.heap.size 45 2 so out.length (out.flatMap entCells) ∧ Below w.heap.size w wr) (fun sa sb _ _ => sliceLen sa + sliceLen sb)
  case atStart => exact ⟨oa, ob, ca, cb, a, b, [], rfl, rfl, ha'.out, hb'.out, rfl, by simpa using hm, World.ownsRow_nil _ _ _ _, hbel2⟩
  case round =>
    clear hbel2 hb1 hb2 hA hB
    obtain ⟨oa', ob', ca', cb', a', b', out, rfl, rfl, hva, hvb, hmg, hln, hown, hbel⟩ := hrel
    have hsz := hbel.size
    cases a' with
    | nil =>
      cases b' with
      | nil =>
        rw [Vec.merge_nil, List.append_nil] at hmg
        obtain ⟨oo, co, rfl⟩ := owns_slice hown
        have hlast := Lib.hid hown
        have hmgH := Lib.hid hmg
        replace hva := Lib.hid hva
        replace hvb := Lib.hid hvb
        clear hmg
        by_cases h16 : 16 < out.length
        · have hfin : Hid (joined a b = .inl (.no 4)) := Lib.hid (by rw [hJ.out, ← hmgH.out, if_pos h16])
          go_wp2
          go_ret2
          rw [hfin.out]
          exact ⟨rfl, hbel⟩
        · have hfin : Hid (joined a b = .inr out) := Lib.hid (by rw [hJ.out, ← hmgH.out, if_neg h16])
          go_wp2
          go_ret2
          rw [hfin.out]
          exact ⟨⟨_, rfl, hlast.out⟩, hbel⟩
      | cons y b' =>
        have htb := vec_tail hvb
        obtain ⟨bb, fb, rfl, -, hcb1, hcm0, hcbm, hbbl, hyr, hyt, hvb2, hcb0⟩ := vec_cons hvb
        have hcm0 : b'.length + 1 ≤ cb' := hcm0
        have qyr := fun W (h : Below w.heap.size w W) => cell_below h hyr
        have qyt := fun W (h : Below w.heap.size w W) => cell_below h hyt
        have cyr := qyr _ hbel
        have cyt := qyt _ hbel
        rw [Vec.merge_nil] at hmg
        have hmg2 : Hid ((out ++ [y]) ++ Vec.merge [] b' = Vec.merge a b) := Lib.hid (by rw [Vec.merge_nil, List.append_assoc]; exact hmg)
        replace hva := Lib.hid hva
        replace hvb := Lib.hid hvb
        have b1 : (1 : Int) ≤ (b'.length : Int) + 1 := by omega
        replace hvb2 := Lib.hid hvb2
        replace hcb0 := Lib.hid hcb0
        clear hmg
        have bz : (((b'.length : Int) + 1) == 0) = false := by simp; omega
        obtain ⟨A, hAr, hAv⟩ := htb
        replace hAv := Lib.hid hAv
        simp only [List.length_cons]
        go_wp2
        go_quiet (fail)
        have hownq : (wr.drewN nq).ownsRow w.heap.size 45 2 u9 out.length (out.flatMap entCells) := hown
        have hbelq : Below w.heap.size w (wr.drewN nq) := bdn hbel nq
        generalize wr.drewN nq = wq at *
        have cyr2 := qyr _ hbelq
        have cyt2 := qyt _ hbelq
        go_wp2
        go_quiet (fail)
        go_wp2
        have hown3 : (wq.drewN nq).drew.ownsRow w.heap.size 45 2 u9 out.length (out.flatMap entCells) := hownq
        have hbel3 : Below w.heap.size w (wq.drewN nq).drew := bdr (bdn hbelq nq)
        generalize wq.drewN nq = w3 at *
        have hsz3 := hbel3.size
        go_region_held3 (fun W => Below w.heap.size w W) ((first | exact hbel3 | exact bal (by assumption) _ | exact Below.trans hbel3 (by assumption))) ((refine step_app_one (by rfl) _ _ 22 45 (by rfl) w.heap.size (.agg #[.int .i64 0, .int .i64 0]) 2 16 Tryz.underlying22 (by kernel_rfl) rfl _ _ _ (by rfl) hown3 #[.int .i64 y.r, .int .i64 y.t] w3.heap.size (by simp) (by rfl) (by rfl) (by simp [Value.oneCell']) (by omega) (by omega) hsz3 ?_; intro v9 w9 r1 r2 r3 r4 r5))
        have r1' := own_snoc r1
        have r5' := Below.trans hbel3 r5
        go_wp2
        go_roundw
        case rel => exact ⟨oa', some A, ca', cb' - 1, [], b', out ++ [y], rfl, rfl, hva.out, hAv.out, hmg2.out, by rw [List.length_append]; simp at hln ⊢ <;> omega, r1', r5'⟩
        case measure => simp [sliceLen]
    | cons x a' =>
      have hta := vec_tail hva
      obtain ⟨ba, fa, rfl, -, hca1, hcn0, hcam, hbal, hxr, hxt, hva2, hca0⟩ := vec_cons hva
      have hcn0 : a'.length + 1 ≤ ca' := hcn0
      have qxr := fun W (h : Below w.heap.size w W) => cell_below h hxr
      have qxt := fun W (h : Below w.heap.size w W) => cell_below h hxt
      have cxr := qxr _ hbel
      have cxt := qxt _ hbel
      cases b' with
      | nil =>
        rw [Vec.merge_nil'] at hmg
        have hmg2 : Hid ((out ++ [x]) ++ Vec.merge a' [] = Vec.merge a b) := Lib.hid (by rw [Vec.merge_nil', List.append_assoc]; exact hmg)
        replace hva := Lib.hid hva
        replace hvb := Lib.hid hvb
        have b1 : (1 : Int) ≤ (a'.length : Int) + 1 := by omega
        replace hva2 := Lib.hid hva2
        replace hca0 := Lib.hid hca0
        clear hmg
        obtain ⟨A, hAr, hAv⟩ := hta
        replace hAv := Lib.hid hAv
        simp only [List.length_cons]
        go_wp2
        go_quiet (fail)
        go_wp2
        have hown3 : (wr.drewN nq).drew.ownsRow w.heap.size 45 2 u9 out.length (out.flatMap entCells) := hown
        have hbel3 : Below w.heap.size w (wr.drewN nq).drew := bdr (bdn hbel nq)
        generalize wr.drewN nq = w3 at *
        have hsz3 := hbel3.size
        go_region_held3 (fun W => Below w.heap.size w W) ((first | exact hbel3 | exact bal (by assumption) _ | exact Below.trans hbel3 (by assumption))) ((refine step_app_one (by rfl) _ _ 22 45 (by rfl) w.heap.size (.agg #[.int .i64 0, .int .i64 0]) 2 16 Tryz.underlying22 (by kernel_rfl) rfl _ _ _ (by rfl) hown3 #[.int .i64 x.r, .int .i64 x.t] w3.heap.size (by simp) (by rfl) (by rfl) (by simp [Value.oneCell']) (by omega) (by omega) hsz3 ?_; intro v9 w9 r1 r2 r3 r4 r5))
        have r1' := own_snoc r1
        have r5' := Below.trans hbel3 r5
        go_wp2
        go_roundw
        case rel => exact ⟨some A, ob', ca' - 1, cb', a', [], out ++ [x], rfl, rfl, hAv.out, hvb.out, hmg2.out, by rw [List.length_append]; simp at hln ⊢ <;> omega, r1', r5'⟩
        case measure => simp [sliceLen]
      | cons y b' =>
        have htb := vec_tail hvb
        obtain ⟨bb, fb, rfl, -, hcb1, hcm0, hcbm, hbbl, hyr, hyt, hvb2, hcb0⟩ := vec_cons hvb
        have hcm0 : b'.length + 1 ≤ cb' := hcm0
        have qyr := fun W (h : Below w.heap.size w W) => cell_below h hyr
        have qyt := fun W (h : Below w.heap.size w W) => cell_below h hyt
        have cyr := qyr _ hbel
        have cyt := qyt _ hbel
        replace hva := Lib.hid hva
        replace hvb := Lib.hid hvb
        have b1 : (1 : Int) ≤ (a'.length : Int) + 1 := by omega
        have b2 : (1 : Int) ≤ (b'.length : Int) + 1 := by omega
        have b3 : (0 : Int) < (a'.length : Int) + 1 := by omega
        have b4 : (0 : Int) < (b'.length : Int) + 1 := by omega
        have bz : (((b'.length : Int) + 1) == 0) = false := by simp; omega
        have az : (((a'.length : Int) + 1) == 0) = false := by simp; omega
        have ap : decide ((0 : Int) < (a'.length : Int) + 1) = true := decide_eq_true (by omega)
        replace hva2 := Lib.hid hva2
        replace hca0 := Lib.hid hca0
        replace hvb2 := Lib.hid hvb2
        replace hcb0 := Lib.hid hcb0
        obtain ⟨A, hAr, hAv⟩ := hta
        replace hAv := Lib.hid hAv
        obtain ⟨B, hBr, hBv⟩ := htb
        replace hBv := Lib.hid hBv
        replace hmg := Lib.hid hmg
        rcases Int.lt_trichotomy x.r y.r with hlt | heq | hgt
        · have hmg2 : Hid ((out ++ [x]) ++ Vec.merge a' (y :: b') = Vec.merge a b) := Lib.hid (by rw [← hmg.out, Vec.merge_lt hlt, List.append_assoc]; rfl)
          have d1 : decide (x.r < y.r) = true := by simp [hlt]
          simp only [List.length_cons]
          go_wp2
          go_quiet (fail)
          go_wp2
          have hown3 : (wr.drewN nq).drew.ownsRow w.heap.size 45 2 u9 out.length (out.flatMap entCells) := hown
          have hbel3 : Below w.heap.size w (wr.drewN nq).drew := bdr (bdn hbel nq)
          generalize wr.drewN nq = w3 at *
          have hsz3 := hbel3.size
          go_region_held3 (fun W => Below w.heap.size w W) ((first | exact hbel3 | exact bal (by assumption) _ | exact Below.trans hbel3 (by assumption))) ((refine step_app_one (by rfl) _ _ 22 45 (by rfl) w.heap.size (.agg #[.int .i64 0, .int .i64 0]) 2 16 Tryz.underlying22 (by kernel_rfl) rfl _ _ _ (by rfl) hown3 #[.int .i64 x.r, .int .i64 x.t] w3.heap.size (by simp) (by rfl) (by rfl) (by simp [Value.oneCell']) (by omega) (by omega) hsz3 ?_; intro v9 w9 r1 r2 r3 r4 r5))
          have r1' := own_snoc (x := x) r1
          have r5' := Below.trans hbel3 r5
          go_wp2
          go_roundw
          case rel => exact ⟨some A, some ⟨bb, fb, none⟩, ca' - 1, cb', a', y :: b', out ++ [x], rfl, rfl, hAv.out, hvb.out, hmg2.out, by rw [List.length_append]; simp at hln ⊢ <;> omega, r1', r5'⟩
          case measure => simp [sliceLen]
        · have hxy : ¬ x.r < y.r := by omega
          have d1 : decide (x.r < y.r) = false := by simp; omega
          have d2 : decide (y.r < x.r) = false := by simp; omega
          obtain ⟨mt, hmt⟩ : ∃ mt, mt = max x.t y.t := ⟨_, rfl⟩
          have hmg2 : Hid ((out ++ [⟨x.r, mt⟩]) ++ Vec.merge a' b' = Vec.merge a b) := Lib.hid (by rw [← hmg.out, Vec.merge_eq heq, List.append_assoc, hmt]; rfl)
          have hmx : (if x.t < y.t then y.t else x.t) = mt := by rw [hmt]; split <;> omega
          have hmx2 : (if y.t < x.t then x.t else y.t) = mt := by rw [hmt]; split <;> omega
          replace hmt := Lib.hid hmt
          replace heq := Lib.hid heq
          simp only [List.length_cons]
          go_wp2
          go_quiet (fail)
          have hownq : (wr.drewN nq).ownsRow w.heap.size 45 2 u9 out.length (out.flatMap entCells) := hown
          have hbelq : Below w.heap.size w (wr.drewN nq) := bdn hbel nq
          generalize wr.drewN nq = wq at *
          have cxr2 := qxr _ hbelq
          have cxt2 := qxt _ hbelq
          have cyr2 := qyr _ hbelq
          have cyt2 := qyt _ hbelq
          go_wp2
          go_quiet (fail)
          go_wp2
          have hown3 : (wq.drewN nq).drew.ownsRow w.heap.size 45 2 u9 out.length (out.flatMap entCells) := hownq
          have hbel3 : Below w.heap.size w (wq.drewN nq).drew := bdr (bdn hbelq nq)
          generalize wq.drewN nq = w3 at *
          have hsz3 := hbel3.size
          go_region_held3 (fun W => Below w.heap.size w W) ((first | exact hbel3 | exact bal (by assumption) _ | exact Below.trans hbel3 (by assumption))) ((refine step_app_one (by rfl) _ _ 22 45 (by rfl) w.heap.size (.agg #[.int .i64 0, .int .i64 0]) 2 16 Tryz.underlying22 (by kernel_rfl) rfl _ _ _ (by rfl) hown3 #[.int .i64 x.r, .int .i64 mt] w3.heap.size (by simp) (by rfl) (by rfl) (by simp [Value.oneCell']) (by omega) (by omega) hsz3 ?_; intro v9 w9 r1 r2 r3 r4 r5))
          have r1' := own_snoc (x := ⟨x.r, mt⟩) r1
          have r5' := Below.trans hbel3 r5
          go_wp2
          go_quiet (fail)
          go_wp2
          go_roundw
          case rel => exact ⟨some A, some B, ca' - 1, cb' - 1, a', b', out ++ [⟨x.r, mt⟩], rfl, rfl, hAv.out, hBv.out, hmg2.out, by rw [List.length_append]; simp at hln ⊢ <;> omega, by exact r1', bdn r5' _⟩
          case measure => simp [sliceLen]; omega
        · have hmg2 : Hid ((out ++ [y]) ++ Vec.merge (x :: a') b' = Vec.merge a b) := Lib.hid (by rw [← hmg.out, Vec.merge_gt hgt, List.append_assoc]; rfl)
          have d1 : decide (x.r < y.r) = false := by simp; omega
          have d2 : decide (y.r < x.r) = true := by simp [hgt]
          simp only [List.length_cons]
          go_wp2
          go_quiet (fail)
          have hownq : (wr.drewN nq).ownsRow w.heap.size 45 2 u9 out.length (out.flatMap entCells) := hown
          have hbelq : Below w.heap.size w (wr.drewN nq) := bdn hbel nq
          generalize wr.drewN nq = wq at *
          have cxr2 := qxr _ hbelq
          have cxt2 := qxt _ hbelq
          have cyr2 := qyr _ hbelq
          have cyt2 := qyt _ hbelq
          go_wp2
          go_quiet (fail)
          go_wp2
          have hown3 : (wq.drewN nq).drew.ownsRow w.heap.size 45 2 u9 out.length (out.flatMap entCells) := hownq
          have hbel3 : Below w.heap.size w (wq.drewN nq).drew := bdr (bdn hbelq nq)
          generalize wq.drewN nq = w3 at *
          have hsz3 := hbel3.size
          go_region_held3 (fun W => Below w.heap.size w W) ((first | exact hbel3 | exact bal (by assumption) _ | exact Below.trans hbel3 (by assumption))) ((refine step_app_one (by rfl) _ _ 22 45 (by rfl) w.heap.size (.agg #[.int .i64 0, .int .i64 0]) 2 16 Tryz.underlying22 (by kernel_rfl) rfl _ _ _ (by rfl) hown3 #[.int .i64 y.r, .int .i64 y.t] w3.heap.size (by simp) (by rfl) (by rfl) (by simp [Value.oneCell']) (by omega) (by omega) hsz3 ?_; intro v9 w9 r1 r2 r3 r4 r5))
          have r1' := own_snoc (x := y) r1
          have r5' := Below.trans hbel3 r5
          go_wp2
          go_roundw
          case rel => exact ⟨some ⟨ba, fa, none⟩, some B, ca', cb' - 1, x :: a', b', out ++ [y], rfl, rfl, hva.out, hBv.out, hmg2.out, by rw [List.length_append]; simp at hln ⊢ <;> omega, r1', r5'⟩
          case measure => simp [sliceLen]
end Go.Proofs.YtdbpiabcpjgblaaGreatDoor
