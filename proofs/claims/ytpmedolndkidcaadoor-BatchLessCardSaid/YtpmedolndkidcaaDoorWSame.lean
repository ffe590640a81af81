/- Walks of what the laws over batches share: one, batch.Same, gathered. -/
import Derived.Test.YtpmedolndkidcaaDoorWBatch
import Derived.Test.YtpmedolndkidcaaDoorWEqEnt
import Derived.Test.YtpmedolndkidcaaDoorLib4
namespace Go.Proofs.YtpmedolndkidcaaDoor
open Go.RowKit
set_option linter.unusedVariables false
set_option linter.unusedSimpArgs false
set_option maxHeartbeats 4000000 in
theorem eq_writes (va vb : Value) (a : List WrB) (w : World) (ha : WrsIs w va a) (hb : WrsIs w vb a) (hla : a.length ≤ 140737488351232) :
    Calls Tryd.prog 47 #[va, vb] w fun e w' => e = .returned (.bool true) ∧ Below w.heap.size w w' := by
  obtain ⟨oa, ca, rfl, -, hcella⟩ := ListIs.at ha wrBCells_len
  obtain ⟨ob, cb, rfl, -, hcellb⟩ := ListIs.at hb wrBCells_len
  clear ha hb
  replace hcella := Lib.hid hcella
  replace hcellb := Lib.hid hcellb
  have hle : ((a.length : Int) == (a.length : Int)) = true := by simp
  go_enter Tryd.func47, Tryd.ntmps47
  go_wp2
  go_loopw [13] (fun i wr => ∃ k : Nat, k ≤ a.length ∧ i = .int .i64 k ∧ Below w.heap.size w wr) (fun i _ => a.length - (intOf i).toNat)
  case atStart => exact ⟨0, by omega, rfl, by (repeat (first | exact Below.refl _ _ | assumption | refine bal ?_ _ | refine bdr ?_ | refine bdn ?_ _ | refine bst ?_ (by first | assumption | exact Nat.le_refl _ | omega) _ | refine bch ?_ (by assumption)))⟩
  case round =>
    obtain ⟨k, hk, rfl, hbel⟩ := hrel
    have hsz := hbel.size
    by_cases hlt : k < a.length
    · obtain ⟨b1, f1, rfl, hb1, hc1⟩ := hcella.out k hlt
      obtain ⟨b2, f2, rfl, hb2, hc2⟩ := hcellb.out k hlt
      have hb1 := hb1 (by omega)
      have hb2 := hb2 (by omega)
      have c0 : wr.cell? ⟨b1, f1 + k * 6, none⟩ = some (.int .i64 a[k].t) := (hbel.cell (p := ⟨b1, f1 + k * 6, none⟩) hb1).trans (hc1 0 _ rfl)
      have c1 : wr.cell? ⟨b1, f1 + k * 6 + 1, none⟩ = some (.int .i64 a[k].r) := (hbel.cell (p := ⟨b1, f1 + k * 6 + 1, none⟩) hb1).trans (hc1 1 _ rfl)
      have c2 : wr.cell? ⟨b1, f1 + k * 6 + 2, none⟩ = some (.int .i64 a[k].k) := (hbel.cell (p := ⟨b1, f1 + k * 6 + 2, none⟩) hb1).trans (hc1 2 _ rfl)
      have c3 : wr.cell? ⟨b1, f1 + k * 6 + 3, none⟩ = some (.string a[k].key) := (hbel.cell (p := ⟨b1, f1 + k * 6 + 3, none⟩) hb1).trans (hc1 3 _ rfl)
      have c4 : wr.cell? ⟨b1, f1 + k * 6 + 4, none⟩ = some (.string a[k].val) := (hbel.cell (p := ⟨b1, f1 + k * 6 + 4, none⟩) hb1).trans (hc1 4 _ rfl)
      have c5 : wr.cell? ⟨b1, f1 + k * 6 + 5, none⟩ = some (.int .i64 a[k].n) := (hbel.cell (p := ⟨b1, f1 + k * 6 + 5, none⟩) hb1).trans (hc1 5 _ rfl)
      have d0 : wr.cell? ⟨b2, f2 + k * 6, none⟩ = some (.int .i64 a[k].t) := (hbel.cell (p := ⟨b2, f2 + k * 6, none⟩) hb2).trans (hc2 0 _ rfl)
      have d1 : wr.cell? ⟨b2, f2 + k * 6 + 1, none⟩ = some (.int .i64 a[k].r) := (hbel.cell (p := ⟨b2, f2 + k * 6 + 1, none⟩) hb2).trans (hc2 1 _ rfl)
      have d2 : wr.cell? ⟨b2, f2 + k * 6 + 2, none⟩ = some (.int .i64 a[k].k) := (hbel.cell (p := ⟨b2, f2 + k * 6 + 2, none⟩) hb2).trans (hc2 2 _ rfl)
      have d3 : wr.cell? ⟨b2, f2 + k * 6 + 3, none⟩ = some (.string a[k].key) := (hbel.cell (p := ⟨b2, f2 + k * 6 + 3, none⟩) hb2).trans (hc2 3 _ rfl)
      have d4 : wr.cell? ⟨b2, f2 + k * 6 + 4, none⟩ = some (.string a[k].val) := (hbel.cell (p := ⟨b2, f2 + k * 6 + 4, none⟩) hb2).trans (hc2 4 _ rfl)
      have d5 : wr.cell? ⟨b2, f2 + k * 6 + 5, none⟩ = some (.int .i64 a[k].n) := (hbel.cell (p := ⟨b2, f2 + k * 6 + 5, none⟩) hb2).trans (hc2 5 _ rfl)
      clear hc1 hc2
      generalize a[k] = y at *
      have e0 : (y.key.toList == y.key.toList) = true := by simp
      have e1 : (y.val.toList == y.val.toList) = true := by simp
      have e2 : (y.t == y.t) = true := by simp
      have e3 : (y.r == y.r) = true := by simp
      have e4 : (y.k == y.k) = true := by simp
      have e5 : (y.n == y.n) = true := by simp
      go_wp2
      go_quiet (fail)
      go_wp2
      go_roundw
      case rel => exact ⟨k + 1, by omega, by go_num, by (repeat (first | exact Below.refl _ _ | assumption | refine bal ?_ _ | refine bdr ?_ | refine bdn ?_ _ | refine bst ?_ (by first | assumption | exact Nat.le_refl _ | omega) _ | refine bch ?_ (by assumption)))⟩
      case measure => simp [intOf]; omega
    · go_wp2
      go_ret
      exact ⟨rfl, by (repeat (first | exact Below.refl _ _ | assumption | refine bal ?_ _ | refine bdr ?_ | refine bdn ?_ _ | refine bst ?_ (by first | assumption | exact Nat.le_refl _ | omega) _ | refine bch ?_ (by assumption)))⟩
def oneW : WrB := ⟨7, 3, 1, ⟨#[107]⟩, ⟨#[118]⟩, 0⟩
def oneH : List Vec.Entry := [⟨3, 7⟩]
set_option maxHeartbeats 2000000 in
theorem keep_one (w : World) : Calls Tryd.prog 71 #[] w fun e w' => (∃ vh vw, e = .returned (.agg #[.slice none 0 0, vh, vw]) ∧ VecIs w' vh oneH ∧ WrsIs w' vw [oneW]) ∧ Below w.heap.size w w' := by
  go_enter Tryd.func71, Tryd.ntmps71
  go_wp2_with fail
  have r0 := ((row_at #[.slice none 0 0, .slice (some ⟨w.heap.size + 1, 0, none⟩) 1 1, .slice (some ⟨w.heap.size + 1 + 1, 0, none⟩) 1 1] 67 (rfl : w.heap.size = w.heap.size)).alloc (Obj.cells #[.int .i64 3, .int .i64 7] 78)).alloc (Obj.cells #[.int .i64 7, .int .i64 3, .int .i64 1, .string ⟨#[107]⟩, .string ⟨#[118]⟩, .int .i64 0] 36)
  have hb1 : Below w.heap.size w (w.alloc (Obj.cells #[.slice none 0 0, .slice (some ⟨w.heap.size + 1, 0, none⟩) 1 1, .slice (some ⟨w.heap.size + 1 + 1, 0, none⟩) 1 1] 67)) := bal (Below.refl _ _) _
  have hsz1 : (w.alloc (Obj.cells #[.slice none 0 0, .slice (some ⟨w.heap.size + 1, 0, none⟩) 1 1, .slice (some ⟨w.heap.size + 1 + 1, 0, none⟩) 1 1] 67)).heap.size = w.heap.size + 1 := by simp
  generalize w.alloc (Obj.cells #[.slice none 0 0, .slice (some ⟨w.heap.size + 1, 0, none⟩) 1 1, .slice (some ⟨w.heap.size + 1 + 1, 0, none⟩) 1 1] 67) = W1 at *
  have hv1 := ListIs.of_alloc (f := entCells) (sz := 2) W1 78 oneH #[.int .i64 3, .int .i64 7] rfl (fun _ => rfl) (by decide) 1 rfl
  rw [hsz1] at hv1
  have hb2 := bal hb1 (Obj.cells #[.int .i64 3, .int .i64 7] 78)
  have hsz2 : (W1.alloc (Obj.cells #[.int .i64 3, .int .i64 7] 78)).heap.size = w.heap.size + 1 + 1 := by simp [hsz1]
  generalize W1.alloc (Obj.cells #[.int .i64 3, .int .i64 7] 78) = W2 at *
  have hv2 := ListIs.of_alloc (f := wrBCells) (sz := 6) W2 36 [oneW] #[.int .i64 7, .int .i64 3, .int .i64 1, .string ⟨#[107]⟩, .string ⟨#[118]⟩, .int .i64 0] rfl (fun _ => rfl) (by decide) 1 rfl
  rw [hsz2] at hv2
  have hb3 := bal hb2 (Obj.cells #[.int .i64 7, .int .i64 3, .int .i64 1, .string ⟨#[107]⟩, .string ⟨#[118]⟩, .int .i64 0] 36)
  have hv1' := ListIs.below hv1 (by omega) (bal (Below.refl _ _) (Obj.cells #[.int .i64 7, .int .i64 3, .int .i64 1, .string ⟨#[107]⟩, .string ⟨#[118]⟩, .int .i64 0] 36))
  generalize W2.alloc (Obj.cells #[.int .i64 7, .int .i64 3, .int .i64 1, .string ⟨#[107]⟩, .string ⟨#[118]⟩, .int .i64 0] 36) = W3 at *
  (have d0 := r0.cell 0; have d1 := r0.cell 1; have d2 := r0.cell 2; simp only [List.set_cons_succ, List.set_cons_zero, List.getElem?_cons_zero, List.getElem?_cons_succ] at d0 d1 d2)
  refine bodyPost_ret (v := .agg #[.slice none 0 0, .slice (some ⟨w.heap.size + 1, 0, none⟩) 1 1, .slice (some ⟨w.heap.size + 1 + 1, 0, none⟩) 1 1]) (by simp [results, Tryd.results71, go_sem, d0, d1, d2]) rfl ⟨⟨_, _, rfl, hv1', hv2⟩, hb3⟩
set_option maxHeartbeats 4000000 in
set_option maxRecDepth 20000 in
theorem same_yes (f1 h1 w1 f2 h2 w2 : Value) (A B : List Vec.Entry) (L : List WrB) (w : World) (ha : VecIs w f1 A) (hb : VecIs w h1 B) (hc : WrsIs w w1 L) (ha2 : VecIs w f2 A) (hb2 : VecIs w h2 B) (hc2 : WrsIs w w2 L) (hlA : A.length ≤ 140737488351232) (hlB : B.length ≤ 140737488351232) (hlL : L.length ≤ 140737488351232) :
    Calls Tryd.prog 72 #[.agg #[f1, h1, w1], .agg #[f2, h2, w2]] w fun e w' => e = .returned (.bool true) ∧ Below w.heap.size w w' := by
  obtain ⟨o1, c1, rfl, -, -⟩ := ha.list.at entCells_len
  obtain ⟨o2, c2, rfl, -, -⟩ := hb.list.at entCells_len
  obtain ⟨o3, c3, rfl, -, -⟩ := ListIs.at hc wrBCells_len
  obtain ⟨o4, c4, rfl, -, -⟩ := ha2.list.at entCells_len
  obtain ⟨o5, c5, rfl, -, -⟩ := hb2.list.at entCells_len
  obtain ⟨o6, c6, rfl, -, -⟩ := ListIs.at hc2 wrBCells_len
  have hE1 := fun W (hW : Below w.heap.size w W) => eq_ent (.slice o1 A.length c1) (.slice o4 A.length c4) A A W (ha.below hW) (ha2.below hW) hlA hlA
  have hE2 := fun W (hW : Below w.heap.size w W) => eq_ent (.slice o2 B.length c2) (.slice o5 B.length c5) B B W (hb.below hW) (hb2.below hW) hlB hlB
  have hE3 := fun W (hW : Below w.heap.size w W) => eq_writes (.slice o3 L.length c3) (.slice o6 L.length c6) L W (hc.below hW) (hc2.below hW) hlL
  rw [decide_eq_true rfl] at hE1 hE2
  replace hE1 := Lib.hid hE1
  replace hE2 := Lib.hid hE2
  replace hE3 := Lib.hid hE3
  clear ha hb hc ha2 hb2 hc2
  go_enter Tryd.func72, Tryd.ntmps72
  go_wp2_with fail
  have q1 := (row_at #[.slice o1 A.length c1, .slice o2 B.length c2, .slice o3 L.length c3] 67 (rfl : w.heap.size = w.heap.size)).alloc (Obj.cells #[.slice o4 A.length c4, .slice o5 B.length c5, .slice o6 L.length c6] 67)
  have hb1 := bal (Below.refl w.heap.size w) (Obj.cells #[.slice o1 A.length c1, .slice o2 B.length c2, .slice o3 L.length c3] 67)
  have hz : (w.alloc (Obj.cells #[.slice o1 A.length c1, .slice o2 B.length c2, .slice o3 L.length c3] 67)).heap.size = w.heap.size + 1 := by simp
  generalize w.alloc (Obj.cells #[.slice o1 A.length c1, .slice o2 B.length c2, .slice o3 L.length c3] 67) = W1 at *
  have q2 := row_at #[.slice o4 A.length c4, .slice o5 B.length c5, .slice o6 L.length c6] 67 hz.symm
  have hb2 := bal hb1 (Obj.cells #[.slice o4 A.length c4, .slice o5 B.length c5, .slice o6 L.length c6] 67)
  generalize W1.alloc (Obj.cells #[.slice o4 A.length c4, .slice o5 B.length c5, .slice o6 L.length c6] 67) = W2 at *
  clear hb1 hz
  refine (hE1.out _ hb2).mono ?_
  rintro _ W3 ⟨rfl, hb3⟩
  replace q1 := q1.below hb3
  replace q2 := q2.below hb3
  replace hb2 := bch hb2 hb3
  clear hb3
  (have d0 := q1.cell 0; have d1 := q1.cell 1; have d2 := q1.cell 2; simp only [List.set_cons_succ, List.set_cons_zero, List.getElem?_cons_zero, List.getElem?_cons_succ] at d0 d1 d2)
  (have e0 := q2.cell 0; have e1 := q2.cell 1; have e2 := q2.cell 2; simp only [List.set_cons_succ, List.set_cons_zero, List.getElem?_cons_zero, List.getElem?_cons_succ] at e0 e1 e2)
  go_wp2_with fail
  refine (hE2.out _ hb2).mono ?_
  rintro _ W4 ⟨rfl, hb3⟩
  replace q1 := q1.below hb3
  replace q2 := q2.below hb3
  replace hb2 := bch hb2 hb3
  clear hb3 d0 d1 d2 e0 e1 e2
  (have d0 := q1.cell 0; have d1 := q1.cell 1; have d2 := q1.cell 2; simp only [List.set_cons_succ, List.set_cons_zero, List.getElem?_cons_zero, List.getElem?_cons_succ] at d0 d1 d2)
  (have e0 := q2.cell 0; have e1 := q2.cell 1; have e2 := q2.cell 2; simp only [List.set_cons_succ, List.set_cons_zero, List.getElem?_cons_zero, List.getElem?_cons_succ] at e0 e1 e2)
  go_wp2_with fail
  refine (hE3.out _ hb2).mono ?_
  rintro _ W5 ⟨rfl, hb3⟩
  go_wp2
  go_ret
  exact ⟨rfl, bch hb2 hb3⟩
set_option maxHeartbeats 4000000 in
set_option maxRecDepth 20000 in
theorem same_no (f1 h1 w1 f2 h2 w2 : Value) (A A2 : List Vec.Entry) (w : World) (ha : VecIs w f1 A) (ha2 : VecIs w f2 A2) (hne : A ≠ A2) (hlA : A.length ≤ 140737488351232) (hlA2 : A2.length ≤ 140737488351232) (hs1 : ∃ o n c, h1 = .slice o n c) (hs2 : ∃ o n c, w1 = .slice o n c) (hs3 : ∃ o n c, h2 = .slice o n c) (hs4 : ∃ o n c, w2 = .slice o n c) :
    Calls Tryd.prog 72 #[.agg #[f1, h1, w1], .agg #[f2, h2, w2]] w fun e w' => e = .returned (.bool false) ∧ Below w.heap.size w w' := by
  obtain ⟨o1, c1, rfl, -, -⟩ := ha.list.at entCells_len
  obtain ⟨o4, c4, rfl, -, -⟩ := ha2.list.at entCells_len
  obtain ⟨o2, n2, c2, rfl⟩ := hs1
  obtain ⟨o3, n3, c3, rfl⟩ := hs2
  obtain ⟨o5, n5, c5, rfl⟩ := hs3
  obtain ⟨o6, n6, c6, rfl⟩ := hs4
  have hE1 := fun W (hW : Below w.heap.size w W) => eq_ent (.slice o1 A.length c1) (.slice o4 A2.length c4) A A2 W (ha.below hW) (ha2.below hW) hlA hlA2
  rw [decide_eq_false hne] at hE1
  replace hE1 := Lib.hid hE1
  clear ha ha2
  go_enter Tryd.func72, Tryd.ntmps72
  go_wp2_with fail
  refine (hE1.out _ (by (repeat (first | exact Below.refl _ _ | assumption | refine bal ?_ _ | refine bdr ?_ | refine bdn ?_ _ | refine bst ?_ (by first | assumption | exact Nat.le_refl _ | omega) _ | refine bch ?_ (by assumption))))).mono ?_
  rintro _ W3 ⟨rfl, hb3⟩
  go_wp2
  go_ret
  exact ⟨rfl, by (repeat (first | exact Below.refl _ _ | assumption | refine bal ?_ _ | refine bdr ?_ | refine bdn ?_ _ | refine bst ?_ (by first | assumption | exact Nat.le_refl _ | omega) _ | refine bch ?_ (by assumption)))⟩
end Go.Proofs.YtpmedolndkidcaaDoor
