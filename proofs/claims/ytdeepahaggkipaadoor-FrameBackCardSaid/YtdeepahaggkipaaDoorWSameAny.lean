/- slices.Equal over writes, batch.Same: whatever they are. -/
import Derived.Test.YtdeepahaggkipaaDoorWSame
namespace Go.Proofs.YtdeepahaggkipaaDoor
open Go.RowKit
set_option linter.unusedVariables false
set_option linter.unusedSimpArgs false
instance : DecidableEq WrB := fun a b => decidable_of_iff (a.t = b.t ∧ a.r = b.r ∧ a.k = b.k ∧ a.key = b.key ∧ a.val = b.val ∧ a.n = b.n) (by cases a; cases b; simp)
theorem wrb_ext {x y : WrB} (h : x.t = y.t ∧ x.r = y.r ∧ x.k = y.k ∧ x.key = y.key ∧ x.val = y.val ∧ x.n = y.n) : x = y := by
  cases x; cases y; simp only [WrB.mk.injEq] at *; exact h
theorem ba_ne {x y : ByteArray} (h : ¬ x = y) : (x.toList == y.toList) = false := by
  rw [beq_eq_false_iff_ne]
  intro e
  rw [ByteArray.toList_eq, ByteArray.toList_eq] at e
  exact h (ba_ext e)
theorem eqw_drop {a b : List WrB} {k : Nat} (ha : k < a.length) (hb : k < b.length) (he : a[k] = b[k]) : (a.drop k = b.drop k) ↔ (a.drop (k + 1) = b.drop (k + 1)) := by
  rw [List.drop_eq_getElem_cons ha, List.drop_eq_getElem_cons hb, he]; exact List.cons_inj_right _
theorem new_drop {a b : List WrB} {k : Nat} (ha : k < a.length) (hb : k < b.length) (he : a[k] ≠ b[k]) : a.drop k ≠ b.drop k := by
  rw [List.drop_eq_getElem_cons ha, List.drop_eq_getElem_cons hb]; intro h; injection h with h _; exact he h
set_option maxHeartbeats 8000000 in
theorem eq_wrs (va vb : Value) (a b : List WrB) (w : World) (ha : WrsIs w va a) (hb : WrsIs w vb b) (hla : a.length ≤ 140737488351232) (hlb : b.length ≤ 140737488351232) :
    Calls Tryd.prog 44 #[va, vb] w fun e w' => e = .returned (.bool (decide (a = b))) ∧ Below w.heap.size w w' := by
  obtain ⟨oa, ca, rfl, -, hcella⟩ := ListIs.at ha wrBCells_len
  obtain ⟨ob, cb, rfl, -, hcellb⟩ := ListIs.at hb wrBCells_len
  clear ha hb
  replace hcella := Lib.hid hcella
  replace hcellb := Lib.hid hcellb
  by_cases hl : a.length = b.length
  · have hl1 : a.length ≤ b.length := by omega
    have hl2 : b.length ≤ a.length := by omega
    have hle : ((a.length : Int) == (b.length : Int)) = true := by simp; omega
    have hle2 : ((a.length : Int) != (b.length : Int)) = false := by simp; omega
    replace hl := Lib.hid hl
    go_enter Tryd.func44, Tryd.ntmps44
    go_wp2
    go_loopw [13] (fun i wr => ∃ k : Nat, k ≤ a.length ∧ i = .int .i64 k ∧ (a.drop k = b.drop k ↔ a = b) ∧ Below w.heap.size w wr) (fun i _ => a.length - (intOf i).toNat)
    case atStart => exact ⟨0, by omega, rfl, by simp, by (repeat (first | exact Below.refl _ _ | assumption | refine bal ?_ _ | refine bdr ?_ | refine bdn ?_ _ | refine bst ?_ (by first | assumption | exact Nat.le_refl _ | omega) _ | refine bch ?_ (by assumption)))⟩
    case round =>
      obtain ⟨k, hk, rfl, heq, hbel⟩ := hrel
      have hsz := hbel.size
      by_cases hlt : k < a.length
      · have hlt2 : k < b.length := by omega
        obtain ⟨b1, f1, rfl, hb1, hc1⟩ := hcella.out k hlt
        obtain ⟨b2, f2, rfl, hb2, hc2⟩ := hcellb.out k hlt2
        have hb1 := hb1 (by omega)
        have hb2 := hb2 (by omega)
        have c0 : wr.cell? ⟨b1, f1 + k * 6, none⟩ = some (.int .i64 a[k].t) := (hbel.cell (p := ⟨b1, f1 + k * 6, none⟩) hb1).trans (hc1 0 _ rfl)
        have c1 : wr.cell? ⟨b1, f1 + k * 6 + 1, none⟩ = some (.int .i64 a[k].r) := (hbel.cell (p := ⟨b1, f1 + k * 6 + 1, none⟩) hb1).trans (hc1 1 _ rfl)
        have c2 : wr.cell? ⟨b1, f1 + k * 6 + 2, none⟩ = some (.int .i64 a[k].k) := (hbel.cell (p := ⟨b1, f1 + k * 6 + 2, none⟩) hb1).trans (hc1 2 _ rfl)
        have c3 : wr.cell? ⟨b1, f1 + k * 6 + 3, none⟩ = some (.string a[k].key) := (hbel.cell (p := ⟨b1, f1 + k * 6 + 3, none⟩) hb1).trans (hc1 3 _ rfl)
        have c4 : wr.cell? ⟨b1, f1 + k * 6 + 4, none⟩ = some (.string a[k].val) := (hbel.cell (p := ⟨b1, f1 + k * 6 + 4, none⟩) hb1).trans (hc1 4 _ rfl)
        have c5 : wr.cell? ⟨b1, f1 + k * 6 + 5, none⟩ = some (.int .i64 a[k].n) := (hbel.cell (p := ⟨b1, f1 + k * 6 + 5, none⟩) hb1).trans (hc1 5 _ rfl)
        have d0 : wr.cell? ⟨b2, f2 + k * 6, none⟩ = some (.int .i64 b[k].t) := (hbel.cell (p := ⟨b2, f2 + k * 6, none⟩) hb2).trans (hc2 0 _ rfl)
        have d1 : wr.cell? ⟨b2, f2 + k * 6 + 1, none⟩ = some (.int .i64 b[k].r) := (hbel.cell (p := ⟨b2, f2 + k * 6 + 1, none⟩) hb2).trans (hc2 1 _ rfl)
        have d2 : wr.cell? ⟨b2, f2 + k * 6 + 2, none⟩ = some (.int .i64 b[k].k) := (hbel.cell (p := ⟨b2, f2 + k * 6 + 2, none⟩) hb2).trans (hc2 2 _ rfl)
        have d3 : wr.cell? ⟨b2, f2 + k * 6 + 3, none⟩ = some (.string b[k].key) := (hbel.cell (p := ⟨b2, f2 + k * 6 + 3, none⟩) hb2).trans (hc2 3 _ rfl)
        have d4 : wr.cell? ⟨b2, f2 + k * 6 + 4, none⟩ = some (.string b[k].val) := (hbel.cell (p := ⟨b2, f2 + k * 6 + 4, none⟩) hb2).trans (hc2 4 _ rfl)
        have d5 : wr.cell? ⟨b2, f2 + k * 6 + 5, none⟩ = some (.int .i64 b[k].n) := (hbel.cell (p := ⟨b2, f2 + k * 6 + 5, none⟩) hb2).trans (hc2 5 _ rfl)
        clear hc1 hc2
        by_cases hxy : a[k] = b[k]
        · have hnx : Hid (a.drop (k + 1) = b.drop (k + 1) ↔ a = b) := Lib.hid ((eqw_drop hlt hlt2 hxy).symm.trans heq)
          rw [hxy] at c0 c1 c2 c3 c4 c5
          replace hxy := Lib.hid hxy
          clear heq
          generalize b[k] = y at *
          have e0 : (y.t == y.t) = true := by simp
          have e1 : (y.r == y.r) = true := by simp
          have e2 : (y.k == y.k) = true := by simp
          have e3 : (y.key.toList == y.key.toList) = true := by simp
          have e4 : (y.val.toList == y.val.toList) = true := by simp
          have e5 : (y.n == y.n) = true := by simp
          go_wp2
          go_quiet (fail)
          go_wp2
          go_roundw
          case rel => exact ⟨k + 1, by omega, by go_num, hnx.out, by (repeat (first | exact Below.refl _ _ | assumption | refine bal ?_ _ | refine bdr ?_ | refine bdn ?_ _ | refine bst ?_ (by first | assumption | exact Nat.le_refl _ | omega) _ | refine bch ?_ (by assumption)))⟩
          case measure => simp [intOf]; omega
        · have hfin : Hid (decide (a = b) = false) := Lib.hid (decide_eq_false (fun h => new_drop hlt hlt2 hxy (heq.2 h)))
          have hrt : ¬ (a[k].t = b[k].t ∧ a[k].r = b[k].r ∧ a[k].k = b[k].k ∧ a[k].key = b[k].key ∧ a[k].val = b[k].val ∧ a[k].n = b[k].n) := fun h => hxy (wrb_ext h)
          clear heq hxy
          generalize a[k] = x at *
          generalize b[k] = y at *
          by_cases g0 : x.t = y.t
          · skip
            by_cases g1 : x.r = y.r
            · skip
              by_cases g2 : x.k = y.k
              · skip
                by_cases g3 : x.key = y.key
                · skip
                  by_cases g4 : x.val = y.val
                  · skip
                    by_cases g5 : x.n = y.n
                    · skip
                      exact absurd ⟨g0, g1, g2, g3, g4, g5⟩ hrt
                    · skip
                      rw [g0] at c0
                      rw [g1] at c1
                      rw [g2] at c2
                      rw [g3] at c3
                      rw [g4] at c4
                      have e0 : (y.t == y.t) = true := by simp
                      have e1 : (y.r == y.r) = true := by simp
                      have e2 : (y.k == y.k) = true := by simp
                      have e3 : (y.key.toList == y.key.toList) = true := by simp
                      have e4 : (y.val.toList == y.val.toList) = true := by simp
                      have hne : (x.n == y.n) = false := by simp; exact g5
                      clear hrt
                      replace g0 := Lib.hid g0
                      replace g1 := Lib.hid g1
                      replace g2 := Lib.hid g2
                      replace g3 := Lib.hid g3
                      replace g4 := Lib.hid g4
                      replace g5 := Lib.hid g5
                      go_wp2
                      go_quiet (fail)
                      go_wp2
                      go_ret
                      exact ⟨ret_bool hfin.out.symm, by (repeat (first | exact Below.refl _ _ | assumption | refine bal ?_ _ | refine bdr ?_ | refine bdn ?_ _ | refine bst ?_ (by first | assumption | exact Nat.le_refl _ | omega) _ | refine bch ?_ (by assumption)))⟩
                  · skip
                    rw [g0] at c0
                    rw [g1] at c1
                    rw [g2] at c2
                    rw [g3] at c3
                    have e0 : (y.t == y.t) = true := by simp
                    have e1 : (y.r == y.r) = true := by simp
                    have e2 : (y.k == y.k) = true := by simp
                    have e3 : (y.key.toList == y.key.toList) = true := by simp
                    have hne := ba_ne g4
                    clear hrt
                    replace g0 := Lib.hid g0
                    replace g1 := Lib.hid g1
                    replace g2 := Lib.hid g2
                    replace g3 := Lib.hid g3
                    replace g4 := Lib.hid g4
                    go_wp2
                    go_quiet (fail)
                    go_wp2
                    go_ret
                    exact ⟨ret_bool hfin.out.symm, by (repeat (first | exact Below.refl _ _ | assumption | refine bal ?_ _ | refine bdr ?_ | refine bdn ?_ _ | refine bst ?_ (by first | assumption | exact Nat.le_refl _ | omega) _ | refine bch ?_ (by assumption)))⟩
                · skip
                  rw [g0] at c0
                  rw [g1] at c1
                  rw [g2] at c2
                  have e0 : (y.t == y.t) = true := by simp
                  have e1 : (y.r == y.r) = true := by simp
                  have e2 : (y.k == y.k) = true := by simp
                  have hne := ba_ne g3
                  clear hrt
                  replace g0 := Lib.hid g0
                  replace g1 := Lib.hid g1
                  replace g2 := Lib.hid g2
                  replace g3 := Lib.hid g3
                  go_wp2
                  go_quiet (fail)
                  go_wp2
                  go_ret
                  exact ⟨ret_bool hfin.out.symm, by (repeat (first | exact Below.refl _ _ | assumption | refine bal ?_ _ | refine bdr ?_ | refine bdn ?_ _ | refine bst ?_ (by first | assumption | exact Nat.le_refl _ | omega) _ | refine bch ?_ (by assumption)))⟩
              · skip
                rw [g0] at c0
                rw [g1] at c1
                have e0 : (y.t == y.t) = true := by simp
                have e1 : (y.r == y.r) = true := by simp
                have hne : (x.k == y.k) = false := by simp; exact g2
                clear hrt
                replace g0 := Lib.hid g0
                replace g1 := Lib.hid g1
                replace g2 := Lib.hid g2
                go_wp2
                go_quiet (fail)
                go_wp2
                go_ret
                exact ⟨ret_bool hfin.out.symm, by (repeat (first | exact Below.refl _ _ | assumption | refine bal ?_ _ | refine bdr ?_ | refine bdn ?_ _ | refine bst ?_ (by first | assumption | exact Nat.le_refl _ | omega) _ | refine bch ?_ (by assumption)))⟩
            · skip
              rw [g0] at c0
              have e0 : (y.t == y.t) = true := by simp
              have hne : (x.r == y.r) = false := by simp; exact g1
              clear hrt
              replace g0 := Lib.hid g0
              replace g1 := Lib.hid g1
              go_wp2
              go_quiet (fail)
              go_wp2
              go_ret
              exact ⟨ret_bool hfin.out.symm, by (repeat (first | exact Below.refl _ _ | assumption | refine bal ?_ _ | refine bdr ?_ | refine bdn ?_ _ | refine bst ?_ (by first | assumption | exact Nat.le_refl _ | omega) _ | refine bch ?_ (by assumption)))⟩
          · skip
            have hne : (x.t == y.t) = false := by simp; exact g0
            clear hrt
            replace g0 := Lib.hid g0
            go_wp2
            go_quiet (fail)
            go_wp2
            go_ret
            exact ⟨ret_bool hfin.out.symm, by (repeat (first | exact Below.refl _ _ | assumption | refine bal ?_ _ | refine bdr ?_ | refine bdn ?_ _ | refine bst ?_ (by first | assumption | exact Nat.le_refl _ | omega) _ | refine bch ?_ (by assumption)))⟩
      · have hfin : Hid (decide (a = b) = true) := Lib.hid (decide_eq_true (heq.1 (by rw [List.drop_of_length_le (by omega), List.drop_of_length_le (by omega)])))
        clear heq
        go_wp2
        go_ret
        exact ⟨ret_bool hfin.out.symm, by (repeat (first | exact Below.refl _ _ | assumption | refine bal ?_ _ | refine bdr ?_ | refine bdn ?_ _ | refine bst ?_ (by first | assumption | exact Nat.le_refl _ | omega) _ | refine bch ?_ (by assumption)))⟩
  · have hne : Hid (decide (a = b) = false) := Lib.hid (decide_eq_false (fun h => hl (by rw [h])))
    have hle : ((a.length : Int) == (b.length : Int)) = false := by simp; omega
    have hle2 : ((a.length : Int) != (b.length : Int)) = true := by simp; omega
    go_enter Tryd.func44, Tryd.ntmps44
    go_wp2
    go_ret
    exact ⟨ret_bool hne.out.symm, by (repeat (first | exact Below.refl _ _ | assumption | refine bal ?_ _ | refine bdr ?_ | refine bdn ?_ _ | refine bst ?_ (by first | assumption | exact Nat.le_refl _ | omega) _ | refine bch ?_ (by assumption)))⟩
def sameB (A B : List Vec.Entry) (L : List WrB) (A2 B2 : List Vec.Entry) (L2 : List WrB) : Bool := decide (A = A2) && (decide (B = B2) && decide (L = L2))
theorem sameB_self (A B : List Vec.Entry) (L : List WrB) : sameB A B L A B L = true := by simp [sameB]
theorem sameB_comm (A B : List Vec.Entry) (L : List WrB) (A2 B2 : List Vec.Entry) (L2 : List WrB) : sameB A2 B2 L2 A B L = sameB A B L A2 B2 L2 := by
  unfold sameB
  rw [decide_eq_decide.2 (show A2 = A ↔ A = A2 from eq_comm), decide_eq_decide.2 (show B2 = B ↔ B = B2 from eq_comm), decide_eq_decide.2 (show L2 = L ↔ L = L2 from eq_comm)]
theorem sameB_true {A B : List Vec.Entry} {L : List WrB} {A2 B2 : List Vec.Entry} {L2 : List WrB} (h : sameB A B L A2 B2 L2 = true) : A = A2 ∧ B = B2 ∧ L = L2 := by
  simpa [sameB] using h
set_option maxHeartbeats 4000000 in
set_option maxRecDepth 20000 in
theorem same_any (f1 h1 w1 f2 h2 w2 : Value) (A B : List Vec.Entry) (L : List WrB) (A2 B2 : List Vec.Entry) (L2 : List WrB) (w : World) (ha : VecIs w f1 A) (hb : VecIs w h1 B) (hc : WrsIs w w1 L) (ha2 : VecIs w f2 A2) (hb2 : VecIs w h2 B2) (hc2 : WrsIs w w2 L2) (hlA : A.length ≤ 140737488351232) (hlB : B.length ≤ 140737488351232) (hlL : L.length ≤ 140737488351232) (hlA2 : A2.length ≤ 140737488351232) (hlB2 : B2.length ≤ 140737488351232) (hlL2 : L2.length ≤ 140737488351232) :
    Calls Tryd.prog 16 #[.agg #[f1, h1, w1], .agg #[f2, h2, w2]] w fun e w' => e = .returned (.bool (sameB A B L A2 B2 L2)) ∧ Below w.heap.size w w' := by
  obtain ⟨o1, c1, rfl, -, -⟩ := ha.list.at entCells_len
  obtain ⟨o2, c2, rfl, -, -⟩ := hb.list.at entCells_len
  obtain ⟨o3, c3, rfl, -, -⟩ := ListIs.at hc wrBCells_len
  obtain ⟨o4, c4, rfl, -, -⟩ := ha2.list.at entCells_len
  obtain ⟨o5, c5, rfl, -, -⟩ := hb2.list.at entCells_len
  obtain ⟨o6, c6, rfl, -, -⟩ := ListIs.at hc2 wrBCells_len
  have hE1 := fun W (hW : Below w.heap.size w W) => eq_ent (.slice o1 A.length c1) (.slice o4 A2.length c4) A A2 W (ha.below hW) (ha2.below hW) hlA hlA2
  have hE2 := fun W (hW : Below w.heap.size w W) => eq_ent (.slice o2 B.length c2) (.slice o5 B2.length c5) B B2 W (hb.below hW) (hb2.below hW) hlB hlB2
  have hE3 := fun W (hW : Below w.heap.size w W) => eq_wrs (.slice o3 L.length c3) (.slice o6 L2.length c6) L L2 W (hc.below hW) (hc2.below hW) hlL hlL2
  replace hE1 := Lib.hid hE1
  replace hE2 := Lib.hid hE2
  replace hE3 := Lib.hid hE3
  clear ha hb hc ha2 hb2 hc2
  obtain ⟨S, hS⟩ : ∃ S, S = sameB A B L A2 B2 L2 := ⟨_, rfl⟩
  rw [← hS]
  unfold sameB at hS
  cases h1 : decide (A = A2) with
  | false =>
    rw [h1, Bool.false_and] at hS
    rw [h1] at hE1
    subst hS
    replace h1 := Lib.hid h1
    go_enter Tryd.func16, Tryd.ntmps16
    go_wp2_with fail
    refine (hE1.out _ (by (repeat (first | exact Below.refl _ _ | assumption | refine bal ?_ _ | refine bdr ?_ | refine bdn ?_ _ | refine bst ?_ (by first | assumption | exact Nat.le_refl _ | omega) _ | refine bch ?_ (by assumption))))).mono ?_
    rintro _ W3 ⟨rfl, hb3⟩
    go_wp2
    go_ret
    exact ⟨rfl, by (repeat (first | exact Below.refl _ _ | assumption | refine bal ?_ _ | refine bdr ?_ | refine bdn ?_ _ | refine bst ?_ (by first | assumption | exact Nat.le_refl _ | omega) _ | refine bch ?_ (by assumption)))⟩
  | true =>
    rw [h1, Bool.true_and] at hS
    rw [h1] at hE1
    replace h1 := Lib.hid h1
    cases h2 : decide (B = B2) with
    | false =>
      rw [h2, Bool.false_and] at hS
      rw [h2] at hE2
      subst hS
      replace h2 := Lib.hid h2
      go_enter Tryd.func16, Tryd.ntmps16
      go_wp2_with fail
      have q1 := (row_at #[.slice o1 A.length c1, .slice o2 B.length c2, .slice o3 L.length c3] 25 (rfl : w.heap.size = w.heap.size)).alloc (Obj.cells #[.slice o4 A2.length c4, .slice o5 B2.length c5, .slice o6 L2.length c6] 25)
      have hb1 := bal (Below.refl w.heap.size w) (Obj.cells #[.slice o1 A.length c1, .slice o2 B.length c2, .slice o3 L.length c3] 25)
      have hz : (w.alloc (Obj.cells #[.slice o1 A.length c1, .slice o2 B.length c2, .slice o3 L.length c3] 25)).heap.size = w.heap.size + 1 := by simp
      generalize w.alloc (Obj.cells #[.slice o1 A.length c1, .slice o2 B.length c2, .slice o3 L.length c3] 25) = W1 at *
      have q2 := row_at #[.slice o4 A2.length c4, .slice o5 B2.length c5, .slice o6 L2.length c6] 25 hz.symm
      have hb2 := bal hb1 (Obj.cells #[.slice o4 A2.length c4, .slice o5 B2.length c5, .slice o6 L2.length c6] 25)
      generalize W1.alloc (Obj.cells #[.slice o4 A2.length c4, .slice o5 B2.length c5, .slice o6 L2.length c6] 25) = W2 at *
      clear hb1 hz
      refine (hE1.out _ hb2).mono ?_
      rintro _ W3 ⟨rfl, hb3⟩
      replace q1 := q1.below hb3
      replace q2 := q2.below hb3
      replace hb2 := bch hb2 hb3
      clear hb3
      (have d0 := q1.cell 0; have d1 := q1.cell 1; have d2 := q1.cell 2; simp only [List.set_cons_succ, List.set_cons_zero, List.getElem?_cons_zero, List.getElem?_cons_succ] at d0 d1 d2)
      (have e0 := q2.cell 0; have e1 := q2.cell 1; have e2 := q2.cell 2; simp only [List.set_cons_succ, List.set_cons_zero, List.getElem?_cons_zero, List.getElem?_cons_succ] at e0 e1 e2)
      go_wp2_with fail
      refine (hE2.out _ hb2).mono ?_
      rintro _ W4 ⟨rfl, hb3⟩
      replace q1 := q1.below hb3
      replace q2 := q2.below hb3
      replace hb2 := bch hb2 hb3
      clear hb3
      go_wp2
      go_ret
      exact ⟨rfl, hb2⟩
    | true =>
      rw [h2, Bool.true_and] at hS
      rw [h2] at hE2
      rw [← hS] at hE3
      replace h2 := Lib.hid h2
      replace hS := Lib.hid hS
      go_enter Tryd.func16, Tryd.ntmps16
      go_wp2_with fail
      have q1 := (row_at #[.slice o1 A.length c1, .slice o2 B.length c2, .slice o3 L.length c3] 25 (rfl : w.heap.size = w.heap.size)).alloc (Obj.cells #[.slice o4 A2.length c4, .slice o5 B2.length c5, .slice o6 L2.length c6] 25)
      have hb1 := bal (Below.refl w.heap.size w) (Obj.cells #[.slice o1 A.length c1, .slice o2 B.length c2, .slice o3 L.length c3] 25)
      have hz : (w.alloc (Obj.cells #[.slice o1 A.length c1, .slice o2 B.length c2, .slice o3 L.length c3] 25)).heap.size = w.heap.size + 1 := by simp
      generalize w.alloc (Obj.cells #[.slice o1 A.length c1, .slice o2 B.length c2, .slice o3 L.length c3] 25) = W1 at *
      have q2 := row_at #[.slice o4 A2.length c4, .slice o5 B2.length c5, .slice o6 L2.length c6] 25 hz.symm
      have hb2 := bal hb1 (Obj.cells #[.slice o4 A2.length c4, .slice o5 B2.length c5, .slice o6 L2.length c6] 25)
      generalize W1.alloc (Obj.cells #[.slice o4 A2.length c4, .slice o5 B2.length c5, .slice o6 L2.length c6] 25) = W2 at *
      clear hb1 hz
      refine (hE1.out _ hb2).mono ?_
      rintro _ W3 ⟨rfl, hb3⟩
      replace q1 := q1.below hb3
      replace q2 := q2.below hb3
      replace hb2 := bch hb2 hb3
      clear hb3
      (have d0 := q1.cell 0; have d1 := q1.cell 1; have d2 := q1.cell 2; simp only [List.set_cons_succ, List.set_cons_zero, List.getElem?_cons_zero, List.getElem?_cons_succ] at d0 d1 d2)
      (have e0 := q2.cell 0; have e1 := q2.cell 1; have e2 := q2.cell 2; simp only [List.set_cons_succ, List.set_cons_zero, List.getElem?_cons_zero, List.getElem?_cons_succ] at e0 e1 e2)
      go_wp2_with fail
      refine (hE2.out _ hb2).mono ?_
      rintro _ W4 ⟨rfl, hb3⟩
      replace q1 := q1.below hb3
      replace q2 := q2.below hb3
      replace hb2 := bch hb2 hb3
      clear hb3
      clear d0 d1 d2 e0 e1 e2
      (have d0 := q1.cell 0; have d1 := q1.cell 1; have d2 := q1.cell 2; simp only [List.set_cons_succ, List.set_cons_zero, List.getElem?_cons_zero, List.getElem?_cons_succ] at d0 d1 d2)
      (have e0 := q2.cell 0; have e1 := q2.cell 1; have e2 := q2.cell 2; simp only [List.set_cons_succ, List.set_cons_zero, List.getElem?_cons_zero, List.getElem?_cons_succ] at e0 e1 e2)
      go_wp2_with fail
      refine (hE3.out _ hb2).mono ?_
      rintro _ W5 ⟨rfl, hb3⟩
      replace q1 := q1.below hb3
      replace q2 := q2.below hb3
      replace hb2 := bch hb2 hb3
      clear hb3
      go_wp2
      go_ret
      exact ⟨rfl, hb2⟩
end Go.Proofs.YtdeepahaggkipaaDoor
