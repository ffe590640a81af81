/- The walk of vector.Of, and of ident.Within. -/
import Derived.Test.YtdbpiabcpjgblaaGreatDoorK01
import Derived.Test.YtdbpiabcpjgblaaGreatDoorRows
import Derived.Test.YtdbpiabcpjgblaaGreatDoorK04
import Derived.Deep.RegionHeld3
import Derived.Deep.RegionWith
namespace Go.Proofs.YtdbpiabcpjgblaaGreatDoor
open Go.RowKit
set_option linter.unusedVariables false
def entryCells (l : List Vec.Entry) : List Value := l.flatMap fun x => [.int .i64 x.r, .int .i64 x.t]
theorem entryCells_len (l : List Vec.Entry) : (entryCells l).length = l.length * 2 := by
  induction l with
  | nil => rfl
  | cons x l ih => simp [entryCells] at *; omega
theorem entryCells_r (l : List Vec.Entry) (k : Nat) (h : k < l.length) : (entryCells l)[k * 2]? = some (.int .i64 l[k].r) := by
  induction l generalizing k with
  | nil => simp at h
  | cons x l ih =>
    cases k with
    | zero => rfl
    | succ k =>
      have e : (k + 1) * 2 = k * 2 + 1 + 1 := by omega
      rw [e]
      simpa [entryCells] using ih k (by simpa using h)
theorem entryCells_t (l : List Vec.Entry) (k : Nat) (h : k < l.length) : (entryCells l)[k * 2 + 1]? = some (.int .i64 l[k].t) := by
  induction l generalizing k with
  | nil => simp at h
  | cons x l ih =>
    cases k with
    | zero => rfl
    | succ k =>
      have e : (k + 1) * 2 + 1 = k * 2 + 1 + 1 + 1 := by omega
      rw [e]
      simpa [entryCells] using ih k (by simpa using h)
/-- A slice that reads as a vector. -/
def VecIs (w : World) (v : Value) (l : List Vec.Entry) : Prop := SliceIs w v l.length 2 (entryCells l)
theorem VecIs.below {w w' : World} {v : Value} {l : List Vec.Entry} (h : VecIs w v l) (hb : Below w.heap.size w w') : VecIs w' v l := SliceIs.below h (by omega) hb
set_option maxHeartbeats 1000000 in
theorem vector_of (v : Value) (l : List Vec.Entry) (r : Int) (w : World) (hv : VecIs w v l) :
    Calls Tryz.prog 30 #[v, .int .i64 r] w fun e w' => e = .returned (.int .i64 (Vec.of l r)) ∧ Below w.heap.size w w' := by
  rcases hv.2 with ⟨h0, a, cap, rfl⟩ | ⟨h0, b, off, cap, rfl, hc, hm, hcell⟩
  · have hl : l = [] := List.length_eq_zero_iff.1 h0
    subst hl
    clear hv h0
    go_enter Tryz.func30, Tryz.ntmps30
    go_wp2
    refine wp_loop_rounds 1 ?_
    rw [rounds_succ]
    go_wp2
    go_ret
    exact ⟨rfl, by exact blw⟩
  · unfold maxLen at hm
    have hbl : b < w.heap.size := World.block_lt_of_cell? w _ (hcell 0 (by rw [entryCells_len]; omega))
    have hcr : ∀ k (h : k < l.length), w.cell? ⟨b, off + k * 2, none⟩ = some (.int .i64 l[k].r) := fun k h => by
      rw [hcell (k * 2) (by rw [entryCells_len]; omega), ← List.getElem?_eq_getElem, entryCells_r l k h]
    have hct : ∀ k (h : k < l.length), w.cell? ⟨b, off + k * 2 + 1, none⟩ = some (.int .i64 l[k].t) := fun k h => by
      rw [Nat.add_assoc, hcell (k * 2 + 1) (by rw [entryCells_len]; omega), ← List.getElem?_eq_getElem, entryCells_t l k h]
    replace hcr := Lib.hid hcr
    replace hct := Lib.hid hct
    clear hcell hv
    go_enter Tryz.func30, Tryz.ntmps30
    go_wp2

    go_loopw [9] (fun i wr => ∃ k : Nat, k ≤ l.length ∧ i = .int .i64 k ∧ Vec.of (l.drop k) r = Vec.of l r ∧ Below w.heap.size w wr) (fun i _ => l.length - (intOf i).toNat)
    case atStart => exact ⟨0, by omega, rfl, rfl, by exact blw⟩
    case round =>
      obtain ⟨k, hk, rfl, hof, hbel⟩ := hrel
      by_cases hlt : k < l.length
      · have hof2 := Lib.hid (hof.symm.trans (Vec.of_drop l k r hlt))
        have c0 : wr.cell? ⟨b, off + k * 2, none⟩ = some (.int .i64 l[k].r) := (hbel.cell (p := ⟨b, off + k * 2, none⟩) hbl).trans (hcr.out k hlt)
        have c1 : wr.cell? ⟨b, off + k * 2 + 1, none⟩ = some (.int .i64 l[k].t) := (hbel.cell (p := ⟨b, off + k * 2 + 1, none⟩) hbl).trans (hct.out k hlt)
        clear hof
        have hsz := hbel.size
        by_cases hr : l[k].r = r
        · have hrb : (l[k].r == r) = true := by simp [hr]
          replace hr := Lib.hid hr
          go_wp2
          go_ret
          exact ⟨ret_int (by rw [hof2.out, if_pos hr.out]), by exact blw⟩
        · have hrb : (l[k].r == r) = false := by simp [hr]
          replace hr := Lib.hid hr
          go_wp2
          go_roundw
          case rel => exact ⟨k + 1, by omega, by go_num, by rw [hof2.out, if_neg hr.out], by exact blw⟩
          case measure => simp [intOf]; omega
      · have hfin : Hid (Vec.of l r = 0) := Lib.hid (by rw [← hof, List.drop_of_length_le (by omega)]; rfl)
        clear hof
        go_wp2
        go_ret
        exact ⟨ret_int hfin.out.symm, by exact blw⟩
end Go.Proofs.YtdbpiabcpjgblaaGreatDoor
/- The walk of ident.Within. -/
namespace Go.Proofs.YtdbpiabcpjgblaaGreatDoor
open Go.RowKit
set_option linter.unusedVariables false
def within (t r : Int) (a b : List Vec.Entry) : Bool := decide (Vec.of a r < t) && decide (t ≤ Vec.of b r)
set_option maxHeartbeats 1000000 in
theorem ident_within (t r : Int) (va vb : Value) (a b : List Vec.Entry) (w : World) (ha : VecIs w va a) (hb : VecIs w vb b) :
    Calls Tryz.prog 19 #[.agg #[.int .i64 t, .int .i64 r], va, vb] w fun e w' => e = .returned (.bool (within t r a b)) ∧ Below w.heap.size w w' := by
  have hW : Hid (within t r a b = (decide (Vec.of a r < t) && decide (t ≤ Vec.of b r))) := Lib.hid rfl
  have s3 : ∀ W, Below w.heap.size w W → VecIs W va a := fun W h => ha.below h
  have s4 : ∀ W, Below w.heap.size w W → VecIs W vb b := fun W h => hb.below h
  replace s3 := Lib.hid s3
  replace s4 := Lib.hid s4
  by_cases h : Vec.of a r < t
  all_goals
    first | (have hd : decide (Vec.of a r < t) = true := by simpa using h) | (have hd : decide (Vec.of a r < t) = false := by simpa using h)
    go_enter Tryz.func19, Tryz.ntmps19
    go_wp2_with fail
    have q0 : (w.alloc (Obj.cells #[.int .i64 t, .int .i64 r] 31)).cell? ⟨w.heap.size, 0, none⟩ = some (.int .i64 t) := by simp
    have q1 : (w.alloc (Obj.cells #[.int .i64 t, .int .i64 r] 31)).cell? ⟨w.heap.size, 1, none⟩ = some (.int .i64 r) := by simp
    have q3 : Below w.heap.size w (w.alloc (Obj.cells #[.int .i64 t, .int .i64 r] 31)) := by exact blw
    generalize w.alloc (Obj.cells #[.int .i64 t, .int .i64 r] 31) = w1 at *
    have c0 := Old.cell q0
    have c1 := Old.cell q1
    have cb : ∀ x : Kept (Old w1.heap.size w1), Below w.heap.size w x.val := fun x => q3.trans (x.ok.2.mono q3.size)
    replace cb := Lib.hid cb
    (have hN := Old.ne w1; refine wp_region_kept (Old w1.heap.size w1) (by kernel_rfl) (by kernel_rfl) (Old.start w1) ?_; (repeat (first | go_big_quiet_step ((first | (go_at_call 30; go_must (exact calls_kept (vector_of _ _ _ _ (by first | exact s3.out _ (cb.out _) | exact s4.out _ (cb.out _))) Old.below)))) | quiet_step ((first | (go_at_call 30; go_must (exact calls_kept (vector_of _ _ _ _ (by first | exact s3.out _ (cb.out _) | exact s4.out _ (cb.out _))) Old.below)))))); refine wpQuiet_nil ?_; rintro _ ⟨X, rfl⟩)
    go_wp2
    go_ret
    exact ⟨ret_bool (by rw [hW.out, hd]; simp), cb.out _⟩
end Go.Proofs.YtdbpiabcpjgblaaGreatDoor
/- Walks of vector: Right, Covers. -/
namespace Go.Proofs.YtdbpiabcpjgblaaGreatDoor
open Go.RowKit
set_option linter.unusedVariables false
def entCells (x : Vec.Entry) : List Value := [.int .i64 x.r, .int .i64 x.t]
theorem entCells_len (x : Vec.Entry) : (entCells x).length = 2 := rfl
theorem VecIs.list {w : World} {v : Value} {l : List Vec.Entry} (h : VecIs w v l) : ListIs entCells 2 w v l := h
theorem wrongs_drop (l : List Vec.Entry) (k : Nat) (prev : Option Vec.Entry) (h : k < l.length) : Vec.wrongs (l.drop k) prev k = if Vec.wrong prev l[k] ≠ 0 then .at_ (Vec.wrong prev l[k]) k else Vec.wrongs (l.drop (k + 1)) (some l[k]) (k + 1) := by
  rw [List.drop_eq_getElem_cons h]; rfl
theorem wrongs_bad {l r : List Vec.Entry} {y : Vec.Entry} {prev : Option Vec.Entry} {k x : Nat} (h : Vec.right l = if Vec.wrong prev y ≠ 0 then .at_ (Vec.wrong prev y) k else Vec.wrongs r (some y) (k + 1)) (hw : Vec.wrong prev y = x) (hx : x ≠ 0) : Vec.right l = .at_ x k := by
  rw [h, hw, if_pos hx]
theorem wrongs_good {l r : List Vec.Entry} {y : Vec.Entry} {prev : Option Vec.Entry} {k : Nat} (h : Vec.right l = if Vec.wrong prev y ≠ 0 then .at_ (Vec.wrong prev y) k else Vec.wrongs r (some y) (k + 1)) (hw : Vec.wrong prev y = 0) : Vec.wrongs r (some y) (k + 1) = Vec.right l := by
  rw [h, if_neg (by omega)]
set_option maxHeartbeats 2000000 in
set_option maxRecDepth 100000 in
theorem vector_right (v : Value) (l : List Vec.Entry) (w : World) (hv : VecIs w v l) (hll : l.length ≤ 140737488351232) :
    Calls Tryz.prog 31 #[v] w (RetErr (Vec.right l) w) := by
  obtain ⟨a, cap, rfl, hcap, hcell⟩ := hv.list.at entCells_len
  clear hv
  replace hcell := Lib.hid hcell
  replace hcap := Lib.hid hcap
  by_cases h16 : 16 < l.length
  · have hr : Hid (Vec.right l = .no 4) := Lib.hid (by unfold Vec.right; rw [if_pos h16])
    go_enter Tryz.func31, Tryz.ntmps31
    go_wp2
    go_ret
    rw [hr.out]
    exact ⟨_, rfl, rfl, by exact blw⟩
  · have hr0 : Vec.right l = Vec.wrongs l none 0 := by unfold Vec.right; rw [if_neg h16]
    replace hr0 := Lib.hid hr0
    have d16 : decide ((16 : Int) < (l.length : Int)) = false := by simp; omega
    go_enter Tryz.func31, Tryz.ntmps31
    go_wp2
    go_loopw [12] (fun i wr => ∃ (k : Nat) (prev : Option Vec.Entry), k ≤ l.length ∧ i = .int .i64 k ∧ Vec.wrongs (l.drop k) prev k = Vec.right l ∧ ((k = 0 ∧ prev = none) ∨ ∃ h : k - 1 < l.length, 0 < k ∧ prev = some l[k - 1]) ∧ Below w.heap.size w wr) (fun i _ => l.length - (intOf i).toNat)
    case atStart => exact ⟨0, none, by omega, rfl, hr0.out.symm, .inl ⟨rfl, rfl⟩, by exact blw⟩
    case round =>
      obtain ⟨k, prev, hk, rfl, hr, hpr, hbel⟩ := hrel
      have hsz := hbel.size
      replace hpr := Lib.hid hpr
      by_cases hlt : k < l.length
      · obtain ⟨b, off, rfl, hbw, hc⟩ := hcell.out k hlt
        have hbw := hbw (by omega)
        have c0 : wr.cell? ⟨b, off + k * 2, none⟩ = some (.int .i64 l[k].r) := (hbel.cell (p := ⟨b, off + k * 2, none⟩) hbw).trans (hc 0 _ rfl)
        have c1 : wr.cell? ⟨b, off + k * 2 + 1, none⟩ = some (.int .i64 l[k].t) := (hbel.cell (p := ⟨b, off + k * 2 + 1, none⟩) hbw).trans (hc 1 _ rfl)
        have hrd := wrongs_drop l k prev hlt
        rw [hr] at hrd
        clear hc hr
        replace hrd := Lib.hid hrd
        by_cases hrg : l[k].r < 0 ∨ 200 < l[k].r ∨ l[k].t < 1 ∨ 1099511627776 < l[k].t
        · have hw : Hid (Vec.wrong prev l[k] = 2) := Lib.hid (by unfold Vec.wrong; rw [if_pos hrg])
          generalize l[k] = y at *
          have hrg' := Lib.hid hrg
          clear hrg hpr
          rcases hrg'.out with h | h | h | h
          all_goals
            go_wp2
            all_goals
              go_ret
              rw [wrongs_bad hrd.out hw.out (by omega)]
              exact retErrAt w _ (by exact blw) 2 k _ (by simp)
        · have g1 : 0 ≤ l[k].r := by omega
          have g2 : l[k].r ≤ 200 := by omega
          have g3 : 1 ≤ l[k].t := by omega
          have g4 : l[k].t ≤ 1099511627776 := by omega
          have hwr : Hid (∀ p, prev = some p → Vec.wrong prev l[k] = if l[k].r ≤ p.r then 10 else 0) := Lib.hid (fun p hp => by
            unfold Vec.wrong; rw [if_neg hrg, hp])
          have hwn : Hid (prev = none → Vec.wrong prev l[k] = 0) := Lib.hid (fun hp => by unfold Vec.wrong; rw [if_neg hrg, hp])
          clear hrg
          rcases hpr.out with ⟨hk0, hp⟩ | ⟨hkl, hkp, hp⟩
          · subst hk0
            have hw : Hid (Vec.wrong prev l[0] = 0) := Lib.hid (hwn.out hp)
            replace hp := Lib.hid hp
            simp only [Nat.zero_mul, Nat.add_zero] at c0 c1
            obtain ⟨y, hy⟩ : ∃ y, l[0] = y := ⟨_, rfl⟩
            rw [hy] at c0 c1 g1 g2 g3 g4 hw hrd
            replace hy := Lib.hid hy
            clear hwr hwn
            go_wp2
            go_quiet (fail)
            go_wp2
            go_roundw
            case rel => exact ⟨0 + 1, some y, by omega, by go_num, wrongs_good hrd.out hw.out, .inr ⟨by omega, by omega, by rw [← hy.out]⟩, by exact blw⟩
            case measure => simp [intOf]; omega
          · obtain ⟨b', off', he, hbw', hc'⟩ := hcell.out (k - 1) hkl
            simp only [Option.some.injEq, Addr.mk.injEq, and_true] at he
            obtain ⟨rfl, rfl⟩ := he
            have z0 : decide ((0 : Int) < (k : Int)) = true := by simp; omega
            have c2 : (wr.alloc (Obj.cells #[Value.int IntKind.i64 l[k].r, Value.int IntKind.i64 l[k].t] 45)).cell? ⟨b, off + (k - 1) * 2, none⟩ = some (.int .i64 (l[k - 1]'hkl).r) := cell_alloc ((hbel.cell (p := ⟨b, off + (k - 1) * 2, none⟩) hbw).trans (hc' 0 _ rfl)) _
            have hsub : IntKind.i64.wrap ((k : Int) - 1) = ((k - 1 : Nat) : Int) := by rw [IntWalk.i64_in _ (by omega)]; omega
            have hwp := hwr.out _ hp
            have hkl' : ((k - 1 : Nat) : Int) < (l.length : Int) := by omega
            clear hc' hbw'
            by_cases hge : l[k].r ≤ (l[k - 1]'hkl).r
            · have dge : decide (l[k].r ≤ (l[k - 1]'hkl).r) = true := by simp [hge]
              have hw : Hid (Vec.wrong prev l[k] = 10) := Lib.hid (by rw [hwp, if_pos hge])
              clear hwp hge
              replace hp := Lib.hid hp
              generalize l[k] = y at *
              generalize l[k - 1] = z at *
              go_wp2
              go_quiet (fail)
              go_wp2
              go_ret
              rw [wrongs_bad hrd.out hw.out (by omega)]
              exact retErrAt w _ (by exact blw) 10 k _ (by simp)
            · have dge : decide (l[k].r ≤ (l[k - 1]'hkl).r) = false := by simp; omega
              have hw : Hid (Vec.wrong prev l[k] = 0) := Lib.hid (by rw [hwp, if_neg hge])
              have hy : Hid (l[k] = l[k + 1 - 1]'(by omega)) := Lib.hid (by simp)
              clear hwp hge
              replace hp := Lib.hid hp
              go_wp2
              go_quiet (fail)
              go_wp2
              go_roundw
              case rel => exact ⟨k + 1, some l[k], by omega, by go_num, wrongs_good hrd.out hw.out, .inr ⟨by omega, by omega, by rw [hy.out]⟩, by exact blw⟩
              case measure => simp [intOf]; omega
      · obtain rfl : k = l.length := by omega
        have hfin : Hid (Vec.right l = .ok) := Lib.hid (by rw [← hr, List.drop_length]; rfl)
        clear hr
        go_wp2
        go_ret
        rw [hfin.out]
        exact ⟨_, rfl, rfl, by exact blw⟩
end Go.Proofs.YtdbpiabcpjgblaaGreatDoor
/- Walks of vector: Covers, Join. -/
namespace Go.Proofs.YtdbpiabcpjgblaaGreatDoor
open Go.RowKit
set_option linter.unusedVariables false
def coversB (a b : List Vec.Entry) : Bool := decide (Vec.right a = .ok) && (decide (Vec.right b = .ok) && b.all fun x => decide (x.t ≤ Vec.of a x.r))
theorem errNe {w : World} {v : Value} {e : Err} (h : ErrRep w v e) (hne : e ≠ .ok) : ∃ t x, v = .iface t x := by
  cases e with
  | ok => exact absurd rfl hne
  | no n => exact ⟨_, _, h⟩
  | at_ n i => obtain ⟨g, hv, _⟩ := h; exact ⟨_, _, hv⟩
set_option maxHeartbeats 2000000 in
theorem vector_covers (va vb : Value) (a b : List Vec.Entry) (w : World) (ha : VecIs w va a) (hb : VecIs w vb b) (hla : a.length ≤ 140737488351232) (hlb : b.length ≤ 140737488351232) :
    Calls Tryz.prog 18 #[va, vb] w fun e w' => e = .returned (.bool (coversB a b)) ∧ Below w.heap.size w w' := by
  have hA := fun W h => vector_right va a W h hla
  have hB := fun W h => vector_right vb b W h hlb
  replace hA := Lib.hid hA
  replace hB := Lib.hid hB
  have ha' := Lib.hid ha
  have hb' := Lib.hid hb
  by_cases h1 : Vec.right a = .ok
  · by_cases h2 : Vec.right b = .ok
    · have hW : Hid (coversB a b = b.all fun x => decide (x.t ≤ Vec.of a x.r)) := Lib.hid (by unfold coversB; rw [decide_eq_true h1, decide_eq_true h2]; rfl)
      obtain ⟨ob, cap, rfl, hcap, hcell⟩ := hb.list.at entCells_len
      replace hcell := Lib.hid hcell
      replace hcap := Lib.hid hcap
      replace h1 := Lib.hid h1
      replace h2 := Lib.hid h2
      clear ha hb
      go_enter Tryz.func18, Tryz.ntmps18
      go_wp2_with fail
      refine (hA.out _ ha'.out).mono ?_
      rintro e w1 ⟨v1, rfl, hv1, hb1⟩
      rw [h1.out] at hv1
      have hv1 : v1 = .nilIface := hv1
      subst hv1
      go_wp2_with fail
      refine (hB.out _ (hb'.out.below hb1)).mono ?_
      rintro e w2 ⟨v2, rfl, hv2, hb2⟩
      rw [h2.out] at hv2
      have hv2 : v2 = .nilIface := hv2
      subst hv2
      go_wp2
      have hbel2 : Below w.heap.size w w2 := by exact blw
      go_loopw [17] (fun i wr => ∃ k : Nat, k ≤ b.length ∧ i = .int .i64 k ∧ (b.drop k).all (fun x => decide (x.t ≤ Vec.of a x.r)) = b.all (fun x => decide (x.t ≤ Vec.of a x.r)) ∧ Below w.heap.size w wr) (fun i _ => b.length - (intOf i).toNat)
      case atStart => exact ⟨0, by omega, rfl, rfl, hbel2⟩
      case round =>
        clear hbel2 hb1 hb2
        obtain ⟨k, hk, rfl, hall, hbel⟩ := hrel
        have hsz := hbel.size
        by_cases hlt : k < b.length
        · obtain ⟨b0, off, rfl, hbw, hc⟩ := hcell.out k hlt
          have hbw := hbw (by omega)
          have c0 : wr.cell? ⟨b0, off + k * 2, none⟩ = some (.int .i64 b[k].r) := (hbel.cell (p := ⟨b0, off + k * 2, none⟩) hbw).trans (hc 0 _ rfl)
          have c1 : wr.cell? ⟨b0, off + k * 2 + 1, none⟩ = some (.int .i64 b[k].t) := (hbel.cell (p := ⟨b0, off + k * 2 + 1, none⟩) hbw).trans (hc 1 _ rfl)
          rw [List.drop_eq_getElem_cons hlt, List.all_cons] at hall
          clear hc
          generalize b[k] = y at *
          by_cases hy : y.t ≤ Vec.of a y.r
          · have d1 : decide (Vec.of a y.r < y.t) = false := by simp; omega
            rw [decide_eq_true hy, Bool.true_and] at hall
            replace hall := Lib.hid hall
            go_wp2
            have q0 := row_at #[.int .i64 y.r, .int .i64 y.t] 45 (rfl : wr.heap.size = wr.heap.size)
            have qb : Below w.heap.size w (wr.alloc (Obj.cells #[.int .i64 y.r, .int .i64 y.t] 45)) := by exact blw
            generalize wr.alloc (Obj.cells #[.int .i64 y.r, .int .i64 y.t] 45) = w3 at *
            have q1 := Old.cell (q0.cell 0)
            have q2 := Old.cell (q0.cell 1)
            have qa : ∀ x : Kept (Old w3.heap.size w3), VecIs x.val va a := fun x => ha'.out.below (qb.trans (x.ok.2.mono qb.size))
            replace qa := Lib.hid qa
            (have hN := Old.ne w3; refine wp_region_kept (Old w3.heap.size w3) (by kernel_rfl) (by kernel_rfl) (Old.start w3) ?_; (repeat (first | go_big_quiet_step ((first | (go_at_call 30; go_must (exact calls_kept (vector_of _ _ _ _ (qa.out _)) Old.below)))) | quiet_step ((first | (go_at_call 30; go_must (exact calls_kept (vector_of _ _ _ _ (qa.out _)) Old.below)))))); refine wpQuiet_nil ?_; rintro _ ⟨X, rfl⟩)
            have qx := qb.trans (X.ok.2.mono qb.size)
            generalize X.val = w4 at *
            go_wp2
            go_roundw
            case rel => exact ⟨k + 1, by omega, by go_num, hall.out, qx⟩
            case measure => simp [intOf]; omega
          · have d1 : decide (Vec.of a y.r < y.t) = true := by simp; omega
            rw [decide_eq_false hy, Bool.false_and] at hall
            replace hall := Lib.hid hall
            go_wp2
            have q0 := row_at #[.int .i64 y.r, .int .i64 y.t] 45 (rfl : wr.heap.size = wr.heap.size)
            have qb : Below w.heap.size w (wr.alloc (Obj.cells #[.int .i64 y.r, .int .i64 y.t] 45)) := by exact blw
            generalize wr.alloc (Obj.cells #[.int .i64 y.r, .int .i64 y.t] 45) = w3 at *
            have q1 := Old.cell (q0.cell 0)
            have q2 := Old.cell (q0.cell 1)
            have qa : ∀ x : Kept (Old w3.heap.size w3), VecIs x.val va a := fun x => ha'.out.below (qb.trans (x.ok.2.mono qb.size))
            replace qa := Lib.hid qa
            (have hN := Old.ne w3; refine wp_region_kept (Old w3.heap.size w3) (by kernel_rfl) (by kernel_rfl) (Old.start w3) ?_; (repeat (first | go_big_quiet_step ((first | (go_at_call 30; go_must (exact calls_kept (vector_of _ _ _ _ (qa.out _)) Old.below)))) | quiet_step ((first | (go_at_call 30; go_must (exact calls_kept (vector_of _ _ _ _ (qa.out _)) Old.below)))))); refine wpQuiet_nil ?_; rintro _ ⟨X, rfl⟩)
            have qx := qb.trans (X.ok.2.mono qb.size)
            generalize X.val = w4 at *
            go_wp2
            go_ret
            exact ⟨ret_bool (by rw [hW.out, ← hall.out]), qx⟩
        · have hfin : Hid (b.all (fun x => decide (x.t ≤ Vec.of a x.r)) = true) := Lib.hid (by rw [← hall, List.drop_of_length_le (by omega)]; rfl)
          clear hall
          go_wp2
          go_ret
          exact ⟨ret_bool (by rw [hW.out, hfin.out]), hbel⟩
    · have hW : Hid (coversB a b = false) := Lib.hid (by unfold coversB; rw [decide_eq_false h2]; simp)
      replace h1 := Lib.hid h1
      replace h2 := Lib.hid h2
      clear ha hb
      go_enter Tryz.func18, Tryz.ntmps18
      go_wp2_with fail
      refine (hA.out _ ha'.out).mono ?_
      rintro e w1 ⟨v1, rfl, hv1, hb1⟩
      rw [h1.out] at hv1
      have hv1 : v1 = .nilIface := hv1
      subst hv1
      go_wp2_with fail
      refine (hB.out _ (hb'.out.below hb1)).mono ?_
      rintro e w2 ⟨v2, rfl, hv2, hb2⟩
      obtain ⟨t2, x2, rfl⟩ := errNe hv2 h2.out
      go_wp2
      go_ret
      exact ⟨ret_bool hW.out.symm, by exact blw⟩
  · have hW : Hid (coversB a b = false) := Lib.hid (by unfold coversB; rw [decide_eq_false h1]; simp)
    replace h1 := Lib.hid h1
    clear ha hb
    go_enter Tryz.func18, Tryz.ntmps18
    go_wp2_with fail
    refine (hA.out _ ha'.out).mono ?_
    rintro e w1 ⟨v1, rfl, hv1, hb1⟩
    obtain ⟨t2, x2, rfl⟩ := errNe hv1 h1.out
    go_wp2
    go_ret
    exact ⟨ret_bool hW.out.symm, by exact blw⟩
end Go.Proofs.YtdbpiabcpjgblaaGreatDoor
/- What is wrong is told by a value that isn't nil. -/
namespace Go.Proofs.YtdbpiabcpjgblaaGreatDoor
set_option linter.unusedVariables false
set_option linter.unusedSimpArgs false
open Go.RowKit
theorem err_some {w : World} {v : Value} {x : Err} (h : ErrRep w v x) (hx : x ≠ .ok) : ∃ t u, v = .iface t u := by
  cases x with
  | ok => exact absurd rfl hx
  | no n => exact ⟨_, _, h⟩
  | at_ n i => obtain ⟨g, h, -⟩ := h; exact ⟨_, _, h⟩
end Go.Proofs.YtdbpiabcpjgblaaGreatDoor
/- What the walks of vector.Join, and others, share. -/
namespace Go.Proofs.YtdbpiabcpjgblaaGreatDoor
open Go.RowKit
set_option linter.unusedVariables false
/-- What Join comes to. -/
def joined (a b : List Vec.Entry) : Err ⊕ List Vec.Entry :=
  if Vec.right a ≠ .ok then .inl (Vec.right a) else if Vec.right b ≠ .ok then .inl (Vec.right b)
  else if 16 < (Vec.merge a b).length then .inl (.no 4) else .inr (Vec.merge a b)
/-- A slice that reads as a list, by its parts: the first element's cells, and what is left. -/
theorem vec_cons {w : World} {a : Option Addr} {n cap : Nat} {x : Vec.Entry} {l : List Vec.Entry} (h : VecIs w (.slice a n cap) (x :: l)) : ∃ b off, a = some ⟨b, off, none⟩ ∧ n = l.length + 1 ∧ 1 ≤ cap ∧ n ≤ cap ∧ cap ≤ maxLen ∧ b < w.heap.size ∧ w.cell? ⟨b, off, none⟩ = some (.int .i64 x.r) ∧ w.cell? ⟨b, off + 1, none⟩ = some (.int .i64 x.t) ∧
    VecIs w (.slice (some ⟨b, off + 2, none⟩) l.length (cap - 1)) l ∧ (cap = 1 → l = []) := by
  obtain ⟨a', cap', he, hcap, hcell⟩ := h.list.at entCells_len
  simp only [Value.slice.injEq] at he
  obtain ⟨rfl, rfl, rfl⟩ := he
  obtain ⟨b, off, rfl, hb, hc⟩ := hcell 0 (by simp)
  obtain ⟨hc1, hc2⟩ := hcap (by simp)
  have hl : (x :: l).length = l.length + 1 := rfl
  have h0 := hc 0 (.int .i64 x.r) rfl
  have h1 := hc 1 (.int .i64 x.t) rfl
  simp only [Nat.zero_mul, Nat.add_zero] at h0 h1
  refine ⟨b, off, rfl, rfl, by omega, hc1, hc2, hb (by omega), h0, h1, ?_, fun h => ?_⟩
  · have := ListIs.drop h.list entCells_len 1 (by simp) l.length (cap - 1) (by simp) (by omega) (by omega)
    exact this
  · exact List.eq_nil_of_length_eq_zero (by omega)
theorem vec_nil (w : World) (a : Option Addr) (cap : Nat) : VecIs w (.slice a 0 cap) [] := ⟨rfl, .inl ⟨rfl, a, cap, rfl⟩⟩
theorem run_tail (w : World) (b off n cap : Nat) (h : n + 1 ≤ cap) (hm : cap ≤ maxLen) : (Instr.slice 22 (.slice (some ⟨b, off, none⟩) (n + 1) cap) (some (.int .i64 1)) none none).run Tryz.prog w = .ok (.slice (some (if cap = 1 then ⟨b, off, none⟩ else ⟨b, off + 2, none⟩)) n (cap - 1)) w := by
  unfold maxLen at hm
  by_cases h1 : cap = 1
  · subst h1
    obtain rfl : n = 0 := by omega
    go_simp
  · have e1 : 1 ≤ cap := by omega
    go_simp
    intro h; omega
theorem vec_tail {w : World} {a : Option Addr} {n cap : Nat} {x : Vec.Entry} {l : List Vec.Entry} (h : VecIs w (.slice a n cap) (x :: l)) : ∃ A : Addr, (∀ W, (Instr.slice 22 (.slice a (l.length + 1) cap) (some (.int .i64 1)) none none).run Tryz.prog W = .ok (.slice (some A) l.length (cap - 1)) W) ∧ VecIs w (.slice (some A) l.length (cap - 1)) l := by
  obtain ⟨b, off, rfl, hn, h1, h2, h3, h4, -, -, h5, h6⟩ := vec_cons h
  refine ⟨_, fun W => run_tail W b off l.length cap (by omega) h3, ?_⟩
  by_cases hc : cap = 1
  · rw [if_pos hc]
    have := h6 hc
    subst this
    exact vec_nil w _ _
  · rw [if_neg hc]; exact h5
theorem owns_slice {w : World} {base : Nat} {e : TypeId} {sz n : Nat} {v : Value} {xs : List Value} (h : w.ownsRow base e sz v n xs) : ∃ o c, v = .slice o n c := by
  rcases h.2 with ⟨rfl, rfl⟩ | ⟨g, cap, cur, rfl, _⟩
  · exact ⟨none, 0, rfl⟩
  · exact ⟨_, cap, rfl⟩
def sliceLen : Value → Nat
  | .slice _ n _ => n
  | _ => 0
theorem ent_snoc (out : List Vec.Entry) (x : Vec.Entry) : out.flatMap entCells ++ [.int .i64 x.r, .int .i64 x.t] = (out ++ [x]).flatMap entCells := by simp [entCells]
theorem own_snoc {w : World} {base : Nat} {v : Value} {out : List Vec.Entry} {x : Vec.Entry} (h : w.ownsRow base 45 2 v (out.length + 1) (out.flatMap entCells ++ (#[Value.int .i64 x.r, Value.int .i64 x.t] : Array Value).toList)) : w.ownsRow base 45 2 v (out ++ [x]).length ((out ++ [x]).flatMap entCells) := by
  rw [List.length_append, ← ent_snoc]; exact h
end Go.Proofs.YtdbpiabcpjgblaaGreatDoor
/- Words for a law's walk: what a call answers in each later world; keep.few of two and of three; vector's functions so. -/
namespace Go.Proofs.YtdbpiabcpjgblaaGreatDoor
open Go.RowKit
set_option linter.unusedVariables false
/-- From w on the call answers v. -/
def From (f : FuncId) (args : Array Value) (w : World) (v : Value) : Prop := ∀ W, Below w.heap.size w W → Calls Tryz.prog f args W fun e w' => e = .returned v ∧ Below W.heap.size W w'
theorem From.later {f : FuncId} {args : Array Value} {w w' : World} {v : Value} (h : From f args w v) (hb : Below w.heap.size w w') : From f args w' v := fun W hW => h W (bch hb hW)
theorem From.kept {f : FuncId} {args : Array Value} {w : World} {v : Value} (h : From f args w v) (x : Kept (Old w.heap.size w)) : Calls Tryz.prog f args x.val fun e w'' => e = .returned v ∧ ∃ y : Kept (Old w.heap.size w), w'' = y.val := calls_kept (h x.val x.ok.2) Old.below
theorem from_covers {w : World} {va vb : Value} {a b : List Vec.Entry} (ha : VecIs w va a) (hb : VecIs w vb b) (hla : a.length ≤ 140737488351232) (hlb : b.length ≤ 140737488351232) (v : Bool) (h : coversB a b = v) : From 18 #[va, vb] w (.bool v) := fun W hW => h ▸ vector_covers va vb a b W (ha.below hW) (hb.below hW) hla hlb
end Go.Proofs.YtdbpiabcpjgblaaGreatDoor
/- ident.Within in each later world. -/
namespace Go.Proofs.YtdbpiabcpjgblaaGreatDoor
open Go.RowKit
set_option linter.unusedVariables false
theorem from_within {w : World} {va vb : Value} {a b : List Vec.Entry} (ha : VecIs w va a) (hb : VecIs w vb b) (t r : Int) (v : Bool) (h : within t r a b = v) : From 19 #[.agg #[.int .i64 t, .int .i64 r], va, vb] w (.bool v) := fun W hW => h ▸ ident_within t r va vb a b W (ha.below hW) (hb.below hW)
end Go.Proofs.YtdbpiabcpjgblaaGreatDoor
