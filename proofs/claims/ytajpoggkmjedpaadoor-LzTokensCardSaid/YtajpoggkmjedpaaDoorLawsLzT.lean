/- Walk of the law LzTokens. -/
import Derived.Test.YtajpoggkmjedpaaDoorWLzBad
namespace Go.Proofs.YtajpoggkmjedpaaDoor
open Go.RowKit
set_option linter.unusedVariables false
set_option linter.unusedSimpArgs false
set_option maxHeartbeats 4000000 in
theorem eq_toks (va vb : Value) (a : List Match.Tok) (w : World) (ha : TokIs w va a) (hb : TokIs w vb a) (hla : a.length ≤ 140737488351232) :
    Calls Tryd.prog 22 #[va, vb] w fun e w' => e = .returned (.bool true) ∧ Below w.heap.size w w' := by
  obtain ⟨oa, ca, rfl, -, hcella⟩ := ha.at tokCells_len
  obtain ⟨ob, cb, rfl, -, hcellb⟩ := hb.at tokCells_len
  clear ha hb
  replace hcella := Lib.hid hcella
  replace hcellb := Lib.hid hcellb
  have hle : ((a.length : Int) == (a.length : Int)) = true := by simp
  go_enter Tryd.func22, Tryd.ntmps22
  go_wp2
  go_loopw [13] (fun i wr => ∃ k : Nat, k ≤ a.length ∧ i = .int .i64 k ∧ Below w.heap.size w wr) (fun i _ => a.length - (intOf i).toNat)
  case atStart => exact ⟨0, by omega, rfl, by (repeat (first | exact Below.refl _ _ | assumption | refine bal ?_ _ | refine bdr ?_ | refine bdn ?_ _ | refine bst ?_ (by first | assumption | exact Nat.le_refl _ | omega) _ | refine bch ?_ (by assumption)))⟩
  case round =>
    obtain ⟨k, hk, rfl, hbel⟩ := hrel
    have hsz := hbel.size
    by_cases hlt : k < a.length
    · obtain ⟨b1, f1, rfl, hb1, hc1⟩ := hcella.out k hlt
      obtain ⟨b2, f2, rfl, hb2, hc2⟩ := hcellb.out k hlt
      have hb1 := hb1 (by omega)
      have hb2 := hb2 (by omega)
      have c0 : wr.cell? ⟨b1, f1 + k * 3, none⟩ = some (.string a[k].own) := (hbel.cell (p := ⟨b1, f1 + k * 3, none⟩) hb1).trans (hc1 0 _ rfl)
      have c1 : wr.cell? ⟨b1, f1 + k * 3 + 1, none⟩ = some (.int .i64 a[k].back) := (hbel.cell (p := ⟨b1, f1 + k * 3 + 1, none⟩) hb1).trans (hc1 1 _ rfl)
      have c2 : wr.cell? ⟨b1, f1 + k * 3 + 2, none⟩ = some (.int .i64 a[k].size) := (hbel.cell (p := ⟨b1, f1 + k * 3 + 2, none⟩) hb1).trans (hc1 2 _ rfl)
      have d0 : wr.cell? ⟨b2, f2 + k * 3, none⟩ = some (.string a[k].own) := (hbel.cell (p := ⟨b2, f2 + k * 3, none⟩) hb2).trans (hc2 0 _ rfl)
      have d1 : wr.cell? ⟨b2, f2 + k * 3 + 1, none⟩ = some (.int .i64 a[k].back) := (hbel.cell (p := ⟨b2, f2 + k * 3 + 1, none⟩) hb2).trans (hc2 1 _ rfl)
      have d2 : wr.cell? ⟨b2, f2 + k * 3 + 2, none⟩ = some (.int .i64 a[k].size) := (hbel.cell (p := ⟨b2, f2 + k * 3 + 2, none⟩) hb2).trans (hc2 2 _ rfl)
      clear hc1 hc2
      generalize a[k] = y at *
      have e0 : (y.own.toList == y.own.toList) = true := by simp
      have e1 : (y.back == y.back) = true := by simp
      have e2 : (y.size == y.size) = true := by simp
      go_wp2
      go_quiet (fail)
      go_wp2
      go_roundw
      case rel => exact ⟨k + 1, by omega, by go_num, by (repeat (first | exact Below.refl _ _ | assumption | refine bal ?_ _ | refine bdr ?_ | refine bdn ?_ _ | refine bst ?_ (by first | assumption | exact Nat.le_refl _ | omega) _ | refine bch ?_ (by assumption)))⟩
      case measure => simp [intOf]; omega
    · go_wp2
      go_ret
      exact ⟨rfl, by (repeat (first | exact Below.refl _ _ | assumption | refine bal ?_ _ | refine bdr ?_ | refine bdn ?_ _ | refine bst ?_ (by first | assumption | exact Nat.le_refl _ | omega) _ | refine bch ?_ (by assumption)))⟩
theorem write_longer (l : List Match.Tok) : l.length ≤ (Lz.write l).length := by
  induction l with
  | nil => simp [Lz.write]
  | cons t l ih =>
    have := List.length_pos_iff.2 (Lz.put_ne t)
    unfold Lz.write at *
    rw [List.flatMap_cons, List.length_append, List.length_cons]; omega
def owns (l : List Match.Tok) : Nat := (l.map fun t => t.own.size).sum
theorem owns_take (l : List Match.Tok) (k : Nat) (h : k < l.length) : owns (l.take (k + 1)) = owns (l.take k) + l[k].own.size := by
  unfold owns; rw [List.take_succ_eq_append_getElem h, List.map_append, List.sum_append, List.map_singleton, List.sum_singleton]
theorem owns_le (l : List Match.Tok) (k b : Nat) (h : ∀ t ∈ l, t.own.size ≤ b) : owns (l.take k) ≤ k * b := by
  induction k generalizing l with
  | zero => simp [owns]
  | succ k ih =>
    cases l with
    | nil => simp [owns]
    | cons x l =>
      have h1 := ih l fun s hs => h s (List.mem_cons_of_mem _ hs)
      have h2 := h x (List.mem_cons_self ..)
      unfold owns at *
      rw [List.take_succ_cons, List.map_cons, List.sum_cons, Nat.succ_mul]; omega
set_option maxHeartbeats 8000000 in
set_option maxRecDepth 20000 in
theorem LzTokens_walk (v0 : Value) (l : List Match.Tok) (s : ByteArray) (w : World) (L0 : TokIs w v0 l) (q0 : ∀ x ∈ l, x.own.size ≤ 140737488351232 ∧ (Lit.int .i64 x.back).wf = true ∧ (Lit.int .i64 x.size).wf = true) (z0 : l.length ≤ 140737488351232) (w1 : s.size ≤ 140737488351232) (hL : Laid w) :
    Calls Tryd.prog 6 #[v0, .string s] w fun e w' => e = .returned (.bool true) ∧ Below w.heap.size w w' := by
  have hQ := squeezed w
  replace hQ := Lib.hid hQ
  have hsz0 : ∀ x ∈ l, x.own.size ≤ 140737488351232 := fun x hx => (q0 x hx).1
  have hL0 := Lib.hid L0
  obtain ⟨o, c, rfl, -, hcell⟩ := L0.at tokCells_len
  replace hcell := Lib.hid hcell
  clear q0 L0
  by_cases h60 : 60 < l.length
  · replace hsz0 := Lib.hid hsz0
    go_enter Tryd.func6, Tryd.ntmps6
    go_wp2_with fail
    refine hQ.out.mono ?_
    rintro _ w2 ⟨rfl, hb2⟩
    go_wp2
    go_ret
    exact ⟨rfl, hb2⟩
  · by_cases h600 : 600 < s.size
    · replace hsz0 := Lib.hid hsz0
      go_enter Tryd.func6, Tryd.ntmps6
      go_wp2_with fail
      refine hQ.out.mono ?_
      rintro _ w2 ⟨rfl, hb2⟩
      go_wp2
      go_ret
      exact ⟨rfl, hb2⟩
    · have hq := fun k (hk : k ≤ l.length) => Nat.le_trans (owns_le l k _ hsz0) (Nat.mul_le_mul (show k ≤ 60 by omega) (Nat.le_refl 140737488351232))
      have hst := fun k (h : k < l.length) => owns_take l k h
      have hRt := fun W hW => match_right (.slice o l.length c) l W hW hsz0 (by omega)
      replace hq := Lib.hid hq
      replace hst := Lib.hid hst
      replace hRt := Lib.hid hRt
      replace hsz0 := Lib.hid hsz0
      go_enter Tryd.func6, Tryd.ntmps6
      go_wp2_with fail
      refine hQ.out.mono ?_
      rintro _ w2 ⟨rfl, hb2⟩
      go_wp2
      go_loopw [5, 26] (fun x i wr => ∃ k : Nat, k ≤ l.length ∧ i = .int .i64 k ∧ x = .int .i64 (owns (l.take k) : Nat) ∧ Below w.heap.size w wr) (fun _ i _ => l.length - (intOf i).toNat)
      case atStart => exact ⟨0, by omega, rfl, by simp [owns], by (repeat (first | exact Below.refl _ _ | assumption | refine bal ?_ _ | refine bdr ?_ | refine bdn ?_ _ | refine bst ?_ (by first | assumption | exact Nat.le_refl _ | omega) _ | refine bch ?_ (by assumption)))⟩
      case round =>
        obtain ⟨k, hk, rfl, rfl, hbel⟩ := hrel
        by_cases hlt : k < l.length
        · obtain ⟨b1, f1, rfl, hb1, hc1⟩ := hcell.out k hlt
          have hb1 := hb1 (by omega)
          have c0 : wr.cell? ⟨b1, f1 + k * 3, none⟩ = some (.string l[k].own) := (hbel.cell (p := ⟨b1, f1 + k * 3, none⟩) hb1).trans (hc1 0 _ rfl)
          have c1 : wr.cell? ⟨b1, f1 + k * 3 + 1, none⟩ = some (.int .i64 l[k].back) := (hbel.cell (p := ⟨b1, f1 + k * 3 + 1, none⟩) hb1).trans (hc1 1 _ rfl)
          have c2 : wr.cell? ⟨b1, f1 + k * 3 + 2, none⟩ = some (.int .i64 l[k].size) := (hbel.cell (p := ⟨b1, f1 + k * 3 + 2, none⟩) hb1).trans (hc1 2 _ rfl)
          clear hc1
          have h1 := hst.out k hlt
          have h2 := hq.out (k + 1) (by omega)
          generalize hx : owns (l.take k) = x at *
          generalize hy : owns (l.take (k + 1)) = x2 at *
          generalize l[k] = y at *
          replace hx := Lib.hid hx
          replace hy := Lib.hid hy
          go_wp2
          go_roundw
          case rel => exact ⟨k + 1, by omega, by go_num, by rw [hy.out]; go_num, by (repeat (first | exact Below.refl _ _ | assumption | refine bal ?_ _ | refine bdr ?_ | refine bdn ?_ _ | refine bst ?_ (by first | assumption | exact Nat.le_refl _ | omega) _ | refine bch ?_ (by assumption)))⟩
          case measure => simp [intOf]; omega
        · obtain rfl : k = l.length := by omega
          rw [List.take_length] at *
          by_cases h15 : 1500 < owns l
          · generalize owns l = x at *
            go_wp2
            go_ret
            exact ⟨rfl, hbel⟩
          · generalize owns l = x at *
            cases hr : Match.right l 0 0 with
            | some y =>
              obtain ⟨y, j⟩ := y
              have hW := lz_write_bad (.slice o l.length c) l wr (hL0.out.below (by omega) hbel) hsz0.out (by omega) y j hr
              rw [hr] at hRt
              replace hW := Lib.hid hW
              clear hr
              go_wp2_with fail
              refine hW.out.mono ?_
              rintro _ w3 ⟨⟨g, rfl⟩, hb3⟩
              go_wp2_with fail
              refine (hRt.out _ (hL0.out.below (by omega) (bch hbel hb3))).mono ?_
              rintro _ w4 ⟨v4, rfl, hv4, hb4⟩
              obtain ⟨g4, rfl, -⟩ := hv4
              go_wp2
              go_ret
              exact ⟨rfl, by (repeat (first | exact Below.refl _ _ | assumption | refine bal ?_ _ | refine bdr ?_ | refine bdn ?_ _ | refine bst ?_ (by first | assumption | exact Nat.le_refl _ | omega) _ | refine bch ?_ (by assumption)))⟩
            | none =>
              have hW := lz_write (.slice o l.length c) l wr (hL0.out.below (by omega) hbel) (by omega) hr
              have hgood := Lz.right_good l 0 0 hr (by omega)
              have hwl := lzw_len l hgood
              have hos := right_sum l 0 0 hr (by omega)
              have hbig : (Lz.write l).length ≤ 700000 := by omega
              have hRd := fun W => lz_read ⟨(Lz.write l).toArray⟩ l W (by rw [ba_size]; exact hbig) (Lz.all_write' l hgood) hr
              rw [hr] at hRt
              generalize Lz.write l = B at *
              replace hW := Lib.hid hW
              replace hRd := Lib.hid hRd
              clear hgood hwl hos hr
              go_wp2_with fail
              refine hW.out.mono ?_
              rintro _ w3 ⟨rfl, hb3⟩
              go_wp2_with fail
              refine (hRt.out _ (hL0.out.below (by omega) (bch hbel hb3))).mono ?_
              rintro _ w4 ⟨v4, rfl, hv4, hb4⟩
              have hv4 : v4 = .nilIface := hv4
              subst hv4
              go_wp2_with fail
              refine (hRd.out _).mono ?_
              rintro _ w5 ⟨⟨v5, rfl, hv5⟩, hb5⟩
              have hb6 := bch (bch (bch hbel hb3) hb4) hb5
              have hE := eq_toks (.slice o l.length c) v5 l w5 (hL0.out.below (by omega) hb6) hv5 z0
              replace hE := Lib.hid hE
              clear hv5 hb3 hb4 hb5 hbel
              go_wp2_with fail
              refine hE.out.mono ?_
              rintro _ w6 ⟨rfl, hb7⟩
              have hb8 := bch hb6 hb7
              clear hb6 hb7
              cases hs : Lz.read s.data.toList with
              | none =>
                have hBd := fun W hW => lz_read_bad s W (by omega) hs hW
                replace hBd := Lib.hid hBd
                clear hs
                go_wp2_with fail
                refine (hBd.out _ (hL.below hb8)).mono ?_
                rintro _ w7 ⟨⟨g, rfl⟩, hb9⟩
                go_wp2
                go_ret
                exact ⟨rfl, by (repeat (first | exact Below.refl _ _ | assumption | refine bal ?_ _ | refine bdr ?_ | refine bdn ?_ _ | refine bst ?_ (by first | assumption | exact Nat.le_refl _ | omega) _ | refine bch ?_ (by assumption)))⟩
              | some ts =>
                obtain ⟨hr2, hw2⟩ := Lz.read_ok _ _ hs
                have hal : Lz.all s.data.toList = some ts := by
                  unfold Lz.read at hs
                  cases ha : Lz.all s.data.toList with
                  | none => rw [ha] at hs; cases hs
                  | some us =>
                    rw [ha] at hs
                    simp only at hs
                    split at hs
                    · exact hs
                    · cases hs
                have hR2 := fun W => lz_read s ts W (by omega) hal hr2
                have hlen := write_longer ts
                rw [hw2] at hlen
                have hsl : s.data.toList.length = s.size := Array.length_toList
                have hW2 := fun v W hv => lz_write v ts W hv (by omega) hr2
                rw [hw2] at hW2
                have e2 : (⟨s.data.toList.toArray⟩ : ByteArray) = s := Lz.list_mk s
                rw [e2] at hW2
                have hss : (s.toList == s.toList) = true := by simp
                replace hR2 := Lib.hid hR2
                replace hW2 := Lib.hid hW2
                clear hs hr2 hw2 hal hlen hsl e2
                go_wp2_with fail
                refine (hR2.out _).mono ?_
                rintro _ w7 ⟨⟨v7, rfl, hv7⟩, hb9⟩
                replace hv7 := Lib.hid hv7
                go_wp2_with fail
                refine (hW2.out _ _ hv7.out).mono ?_
                rintro _ w8 ⟨rfl, hb10⟩
                go_wp2
                go_ret
                exact ⟨rfl, by (repeat (first | exact Below.refl _ _ | assumption | refine bal ?_ _ | refine bdr ?_ | refine bdn ?_ _ | refine bst ?_ (by first | assumption | exact Nat.le_refl _ | omega) _ | refine bch ?_ (by assumption)))⟩
end Go.Proofs.YtajpoggkmjedpaaDoor
