/- The walks of slices.IndexFunc and DeleteFunc over steps that sync, of slices.Index over ints. -/
import Derived.Test.YtdpdnkjpjoccmaaWDel
import Derived.Test.YtdpdnkjpjoccmaaWSpun
import Derived.Test.YtdpdnkjpjoccmaaWEqInt
namespace Go.Proofs.Ytdpdnkjpjoccmaa
open Go.RowKit
set_option linter.unusedVariables false
set_option linter.unusedSimpArgs false
theorem is_sync (d : Dab) (w : World) :
    Calls Try.prog 8 #[.agg #[.int .i64 d.at_, .string d.s, .bool d.y]] w fun e w' => e = .returned (.bool d.y) ∧ Below w.heap.size w w' := by
  go_enter Try.func8, Try.ntmps8
  go_wp2
  go_ret
  exact ⟨rfl, by (repeat (first | exact Below.refl _ _ | assumption | refine bal ?_ _ | refine bdr ?_ | refine bdn ?_ _ | refine bst ?_ (by first | assumption | exact Nat.le_refl _ | omega) _ | refine bch ?_ (by assumption)))⟩
set_option maxHeartbeats 4000000 in
set_option maxRecDepth 20000 in
theorem index_sync (v : Value) (l : List Dab) (w : World) (hv : DabsIs w v l) (hl : l.length ≤ 1000000) :
    Calls Try.prog 22 #[v, .func (.func 8) #[] #[]] w fun e w' => ((e = .returned (.int .i64 (-1)) ∧ ∀ x ∈ l, x.y = false) ∨ ∃ k : Nat, e = .returned (.int .i64 k) ∧ ∃ h : k < l.length, l[k].y = true ∧ ∀ x ∈ l.take k, x.y = false) ∧ Below w.heap.size w w' := by
  have eg : ∀ args w, (callFunc 8 args).run Try.prog w = .ok (.enter 8 args) w := enters_of Try.func8 (by kernel_rfl) rfl
  obtain ⟨o, c, rfl, hcap, hcell⟩ := hv.at dabCells_len
  clear hcap hv
  replace hcell := Lib.hid hcell
  go_enter Try.func22, Try.ntmps22
  go_wp2
  go_loopw [5, 8] (fun _ i wr => ∃ k : Nat, k ≤ l.length ∧ i = .int .i64 k ∧ (∀ x ∈ l.take k, x.y = false) ∧ Below w.heap.size w wr) (fun _ i _ => l.length - (intOf i).toNat)
  case atStart => exact ⟨0, by omega, rfl, by simp, by (repeat (first | exact Below.refl _ _ | assumption | refine bal ?_ _ | refine bdr ?_ | refine bdn ?_ _ | refine bst ?_ (by first | assumption | exact Nat.le_refl _ | omega) _ | refine bch ?_ (by assumption)))⟩
  case round =>
    obtain ⟨k, hk, rfl, hany, hbel⟩ := hrel
    by_cases hlt : k < l.length
    · obtain ⟨b1, f1, rfl, hb1, hc1⟩ := hcell.out k hlt
      have hb1 := hb1 (by omega)
      have c0 : wr.cell? ⟨b1, f1 + k * 3, none⟩ = some (.int .i64 l[k].at_) := (hbel.cell (p := ⟨b1, f1 + k * 3, none⟩) hb1).trans (hc1 0 _ rfl)
      have c1 : wr.cell? ⟨b1, f1 + k * 3 + 1, none⟩ = some (.string l[k].s) := (hbel.cell (p := ⟨b1, f1 + k * 3 + 1, none⟩) hb1).trans (hc1 1 _ rfl)
      have c2 : wr.cell? ⟨b1, f1 + k * 3 + 2, none⟩ = some (.bool l[k].y) := (hbel.cell (p := ⟨b1, f1 + k * 3 + 2, none⟩) hb1).trans (hc1 2 _ rfl)
      clear hc1
      have hstep : l[k].y = false → ∀ x ∈ l.take (k + 1), x.y = false := fun h x hx => by
        rw [List.take_succ_eq_append_getElem hlt] at hx
        rcases List.mem_append.1 hx with hx | hx
        · exact hany x hx
        · simp only [List.mem_cons, List.not_mem_nil, or_false] at hx
          rw [hx]; exact h
      have hfound : l[k].y = true → ∃ h : k < l.length, l[k].y = true ∧ ∀ x ∈ l.take k, x.y = false := fun h => ⟨hlt, h, hany⟩
      have hbd := Lib.hid (fun W => is_sync l[k] W)
      replace hany := Lib.hid hany
      replace hstep := Lib.hid hstep
      replace hfound := Lib.hid hfound
      cases hy : l[k].y with
      | true =>
        rw [hy] at c2 hbd
        have hy2 := Lib.hid (hfound.out hy)
        clear hy hfound hstep
        go_wp2_with fail
        refine (hbd.out _).mono ?_
        rintro e w2 ⟨rfl, hb2⟩
        go_wp2
        go_ret
        exact ⟨.inr ⟨k, rfl, hy2.out⟩, bch hbel hb2⟩
      | false =>
        rw [hy] at c2 hbd
        have hy2 := Lib.hid (hstep.out hy)
        clear hy hfound hstep
        go_wp2_with fail
        refine (hbd.out _).mono ?_
        rintro e w2 ⟨rfl, hb2⟩
        go_wp2
        go_roundw
        case rel => exact ⟨k + 1, by omega, by go_num, hy2.out, bch hbel hb2⟩
        case measure => simp [intOf]; omega
    · obtain rfl : k = l.length := by omega
      rw [List.take_length] at hany
      replace hany := Lib.hid hany
      go_wp2
      go_ret
      exact ⟨.inl ⟨rfl, hany.out⟩, hbel⟩
/-- An index is the first place, or -1. -/
theorem idx_int (v : Value) (l : List Int) (x : Int) (w : World) (hv : IntsIs w v l) (hl : l.length ≤ 1000000) :
    Calls Try.prog 14 #[v, .int .i64 x] w fun e w' => e = .returned (.int .i64 (if x ∈ l then ((l.idxOf x : Nat) : Int) else -1)) ∧ Below w.heap.size w w' := by
  obtain ⟨o, c, rfl, hcap, hcell⟩ := hv.at intCells_len
  clear hcap hv
  replace hcell := Lib.hid hcell
  obtain ⟨r, hr⟩ : ∃ r : Int, r = if x ∈ l then ((l.idxOf x : Nat) : Int) else -1 := ⟨_, rfl⟩
  rw [← hr]
  replace hr := Lib.hid hr
  go_enter Try.func14, Try.ntmps14
  go_wp2
  go_loopw [8] (fun i wr => ∃ k : Nat, k ≤ l.length ∧ i = .int .i64 k ∧ x ∉ l.take k ∧ Below w.heap.size w wr) (fun i _ => l.length - (intOf i).toNat)
  case atStart => exact ⟨0, by omega, rfl, by simp, by (repeat (first | exact Below.refl _ _ | assumption | refine bal ?_ _ | refine bdr ?_ | refine bdn ?_ _ | refine bst ?_ (by first | assumption | exact Nat.le_refl _ | omega) _ | refine bch ?_ (by assumption)))⟩
  case round =>
    obtain ⟨k, hk, rfl, hnot, hbel⟩ := hrel
    by_cases hlt : k < l.length
    · obtain ⟨b1, f1, rfl, hb1, hc1⟩ := hcell.out k hlt
      have hb1 := hb1 (by omega)
      have c0 : wr.cell? ⟨b1, f1 + k, none⟩ = some (.int .i64 l[k]) := (hbel.cell (p := ⟨b1, f1 + k, none⟩) hb1).trans (by have := hc1 0 _ rfl; simpa using this)
      clear hc1
      have htk := List.take_succ_eq_append_getElem hlt
      by_cases hx : x = l[k]
      · have hm : x ∈ l := by rw [hx]; exact List.getElem_mem hlt
        have hi : l.idxOf x = k := by
          have h1 := List.take_append_drop k l
          rw [← h1, List.idxOf_append, if_neg hnot, List.drop_eq_getElem_cons hlt, ← hx, List.idxOf_cons_self, List.length_take]
          omega
        have e1 : (x == l[k]) = true := by simp [hx]
        have hr2 : Hid (r = (k : Int)) := Lib.hid (by rw [hr.out, if_pos hm, hi])
        generalize l[k] = y at *
        replace hx := Lib.hid hx
        replace hi := Lib.hid hi
        replace hnot := Lib.hid hnot
        clear htk hm
        go_wp2
        go_ret
        exact ⟨by rw [hr2.out]; rfl, hbel⟩
      · have e1 : (x == l[k]) = false := by simp [hx]
        have hn2 : x ∉ l.take (k + 1) := by
          rw [htk]
          simp only [List.mem_append, List.mem_cons, List.not_mem_nil, or_false, not_or]
          exact ⟨hnot, hx⟩
        generalize l[k] = y at *
        replace hx := Lib.hid hx
        replace hn2 := Lib.hid hn2
        replace hnot := Lib.hid hnot
        clear htk
        go_wp2
        go_roundw
        case rel => exact ⟨k + 1, by omega, by go_num, hn2.out, hbel⟩
        case measure => simp [intOf]; omega
    · obtain rfl : k = l.length := by omega
      rw [List.take_length] at hnot
      have hr2 : Hid (r = -1) := Lib.hid (by rw [hr.out, if_neg hnot])
      replace hnot := Lib.hid hnot
      go_wp2
      go_ret
      exact ⟨by rw [hr2.out]; rfl, hbel⟩
theorem owns_slice {w : World} {base : Nat} {e : TypeId} {sz n : Nat} {v : Value} {xs : List Value} (h : w.ownsRow base e sz v n xs) : ∃ o c, v = .slice o n c := by
  rcases h.2 with ⟨rfl, rfl⟩ | ⟨g, cap, cur, rfl, _⟩
  · exact ⟨_, _, rfl⟩
  · exact ⟨_, _, rfl⟩
theorem flat_take (l : List Dab) (k : Nat) (h : k ≤ l.length) : (l.flatMap dabCells).take (k * 3) = (l.take k).flatMap dabCells := by
  have e : l.flatMap dabCells = (l.take k).flatMap dabCells ++ (l.drop k).flatMap dabCells := by rw [← List.flatMap_append, List.take_append_drop]
  rw [e, List.take_left']
  rw [flat_len dabCells_len, List.length_take]; omega
theorem flat_drop (l : List Dab) (k : Nat) (h : k ≤ l.length) : (l.flatMap dabCells).drop (k * 3) = (l.drop k).flatMap dabCells := by
  have e : l.flatMap dabCells = (l.take k).flatMap dabCells ++ (l.drop k).flatMap dabCells := by rw [← List.flatMap_append, List.take_append_drop]
  rw [e, List.drop_left']
  rw [flat_len dabCells_len, List.length_take]; omega
theorem run_from (w : World) (g n cap i : Nat) (h1 : i < n) (h2 : n ≤ cap) (hm : cap ≤ maxLen) : (Instr.slice 22 (.slice (some ⟨g, 0, none⟩) n cap) (some (.int .i64 i)) none none).run Try.prog w = .ok (.slice (some ⟨g, i * 3, none⟩) (n - i) (cap - i)) w := by
  unfold maxLen at hm
  have e1 : i ≤ n := by omega
  have e2 : i ≤ cap := by omega
  have e3 : ¬ cap = i := by omega
  have e4 : ¬ cap - i = 0 := by omega
  go_simp
set_option maxHeartbeats 4000000 in
set_option maxRecDepth 20000 in
theorem del_sync (v : Value) (l : List Dab) (w : World) (base : Nat) (hO : w.ownsRow base 28 3 v l.length (l.flatMap dabCells)) (hl : l.length ≤ 1000000) (hB : base ≤ w.heap.size) :
    Calls Try.prog 6 #[v, .func (.func 8) #[] #[]] w fun e w' => (∃ u, e = .returned u ∧ w'.ownsRow base 28 3 u (l.filter (fun d => !d.y)).length ((l.filter (fun d => !d.y)).flatMap dabCells)) ∧ Below base w w' := by
  have eg : ∀ args w, (callFunc 8 args).run Try.prog w = .ok (.enter 8 args) w := enters_of Try.func8 (by kernel_rfl) rfl
  have hI := Lib.hid (index_sync v l w (ListIs.of_owns hO) hl)
  obtain ⟨o, c, rfl⟩ := owns_slice hO
  replace hO := Lib.hid hO
  go_enter Try.func6, Try.ntmps6
  go_wp2_with fail
  refine hI.out.mono ?_
  rintro e w2 ⟨⟨rfl, hno⟩ | ⟨k0, rfl, hk0, hy, hpre⟩, hb2⟩
  · have hfl : l.filter (fun d => !d.y) = l := List.filter_eq_self.2 (fun x hx => by rw [hno x hx]; rfl)
    have hO2 := Lib.hid (owns_below hO.out hb2)
    replace hno := Lib.hid hno
    replace hfl := Lib.hid hfl
    go_wp2
    go_ret
    exact ⟨⟨_, rfl, by rw [hfl.out]; exact hO2.out⟩, hb2.mono hB⟩
  · obtain ⟨g, cap, hv⟩ := owns_addr hO.out (by intro e; injection e with e1 e2 e3; omega)
    injection hv with e1 e2 e3
    subst e1; subst e3
    have hO2 := owns_below hO.out hb2
    have hbB := hb2.mono hB
    have hgB : base ≤ g := (hO.out.lt g rfl).1
    have hcap : l.length ≤ c ∧ c ≤ maxLen := by
      rcases hO2.2 with ⟨h, _⟩ | ⟨_, _, _, h, _, _, h1, h2, _⟩
      · cases h
      · injection h with _ _ h; subst h; exact ⟨h1, h2⟩
    have hf0 : (l.take (k0 + 1)).filter (fun d => !d.y) = l.take k0 := by
      rw [List.take_succ_eq_append_getElem hk0, List.filter_append, List.filter_eq_self.2 (fun x hx => by rw [hpre x hx]; rfl)]
      simp [hy]
    have st1 := Lib.hid (flat_take l k0 (by omega))
    have st2 := Lib.hid (flat_drop l (k0 + 1) (by omega))
    have hlen0 : ((l.take (k0 + 1)).filter (fun d => !d.y)).length = k0 := by rw [hf0, List.length_take]; omega
    rw [← hf0] at st1
    replace hlen0 := Lib.hid hlen0
    replace hO2 := Lib.hid hO2
    replace hpre := Lib.hid hpre
    have dk : ((k0 : Int) == -1) = false := by simp only [beq_eq_false_iff_ne]; omega
    clear hy hf0
    go_wp2_with fail
    go_loopw [5, 6] (fun i j wr => ∃ (i0 j0 : Nat) (X : List Value), i = .int .i64 i0 ∧ j = .int .i64 j0 ∧ i0 < j0 ∧ j0 ≤ l.length ∧ wr.ownsRow base 28 3 (.slice (some ⟨g, 0, none⟩) l.length c) l.length X ∧ X.take (i0 * 3) = ((l.take j0).filter (fun d => !d.y)).flatMap dabCells ∧ ((l.take j0).filter (fun d => !d.y)).length = i0 ∧ X.drop (j0 * 3) = (l.drop j0).flatMap dabCells ∧ Below base w wr) (fun _ j _ => l.length - (intOf j).toNat)
    case atStart => exact ⟨k0, k0 + 1, _, rfl, by go_num, by omega, by omega, hO2.out, st1.out, hlen0.out, st2.out, by first | exact hbB | (repeat (first | exact Below.refl _ _ | assumption | refine bal ?_ _ | refine bdr ?_ | refine bdn ?_ _ | refine bst ?_ (by first | assumption | exact Nat.le_refl _ | omega) _ | refine bch ?_ (by assumption)))⟩
    case round =>
      obtain ⟨i0, j0, X, rfl, rfl, hij, hj, hO3, hX1, hX2, hX3, hbel⟩ := hrel
      clear hO2 hO st1 st2 hlen0 hI hpre hbB
      have hsz := hbel.size
      by_cases hlt : j0 < l.length
      · have hXl := hO3.1
        have hcl := fun q (hq : q < 3) => hO3.cellAt (j0 * 3 + q) (by omega)
        have hxq : ∀ q, X[j0 * 3 + q]? = ((l.drop j0).flatMap dabCells)[q]? := fun q => by rw [← hX3, List.getElem?_drop]
        rw [List.drop_eq_getElem_cons hlt, List.flatMap_cons] at hxq
        have c0 : wr.cell? ⟨g, j0 * 3, none⟩ = some (.int .i64 l[j0].at_) := (hcl 0 (by omega)).trans (hxq 0)
        have c1 : wr.cell? ⟨g, j0 * 3 + 1, none⟩ = some (.string l[j0].s) := (hcl 1 (by omega)).trans (hxq 1)
        have c2 : wr.cell? ⟨g, j0 * 3 + 2, none⟩ = some (.bool l[j0].y) := (hcl 2 (by omega)).trans (hxq 2)
        have hft : (l.take (j0 + 1)).filter (fun d => !d.y) = (l.take j0).filter (fun d => !d.y) ++ (if l[j0].y then [] else [l[j0]]) := by
          rw [List.take_succ_eq_append_getElem hlt, List.filter_append]
          cases hq : l[j0].y <;> simp [hq]
        have hX4 : X.drop ((j0 + 1) * 3) = (l.drop (j0 + 1)).flatMap dabCells := by
          rw [show (j0 + 1) * 3 = j0 * 3 + 3 by omega, ← List.drop_drop, hX3, List.drop_eq_getElem_cons hlt, List.flatMap_cons]
          rfl
        have hfz := fun (W : World) (Y : List Value) (hW : W.ownsRow base 28 3 (.slice (some ⟨g, 0, none⟩) l.length c) l.length Y) q (hq : i0 * 3 ≤ q ∧ q < i0 * 3 + 3) => hW.frozenAt q
        have hce := fun (W : World) (Y : List Value) (hW : W.ownsRow base 28 3 (.slice (some ⟨g, 0, none⟩) l.length c) l.length Y) q (hq : i0 * 3 ≤ q ∧ q < i0 * 3 + 3) => (show ∃ u, W.cell? ⟨g, q, none⟩ = some u from by rw [hW.cellAt q (by omega), List.getElem?_eq_getElem (by rw [hW.1]; omega)]; exact ⟨_, rfl⟩)
        have hbd := Lib.hid (fun W => is_sync l[j0] W)
        have hal := row_alloc wr #[.int .i64 l[j0].at_, .string l[j0].s, .bool l[j0].y] 28
        have hb3 : Below wr.heap.size wr (wr.alloc (.cells #[.int .i64 l[j0].at_, .string l[j0].s, .bool l[j0].y] 28)) := bal (Below.refl _ _) _
        have a0 : (wr.alloc (.cells #[.int .i64 l[j0].at_, .string l[j0].s, .bool l[j0].y] 28)).cell? ⟨wr.heap.size, 0, none⟩ = some (.int .i64 l[j0].at_) := hal.cell 0
        have a1 : (wr.alloc (.cells #[.int .i64 l[j0].at_, .string l[j0].s, .bool l[j0].y] 28)).cell? ⟨wr.heap.size, 1, none⟩ = some (.string l[j0].s) := hal.cell 1
        have a2 : (wr.alloc (.cells #[.int .i64 l[j0].at_, .string l[j0].s, .bool l[j0].y] 28)).cell? ⟨wr.heap.size, 2, none⟩ = some (.bool l[j0].y) := hal.cell 2
        clear hcl hxq hX3 hal
        generalize hd : l[j0] = d at *
        obtain ⟨da, ds, dy⟩ := d
        dsimp only at c0 c1 c2 a0 a1 a2 hb3 hft hbd
        have hO4 := owns_below hO3 hb3
        have hbel4 := hbel.trans (hb3.mono (by omega))
        replace hO3 := Lib.hid hO3
        replace hX1 := Lib.hid hX1
        replace hX2 := Lib.hid hX2
        replace hX4 := Lib.hid hX4
        replace hft := Lib.hid hft
        replace hO4 := Lib.hid hO4
        replace hfz := Lib.hid hfz
        replace hce := Lib.hid hce
        cases dy with
        | true =>
          go_wp2_with fail
          generalize wr.alloc (.cells #[.int .i64 da, .string ds, .bool true] 28) = w3 at *
          refine (hbd.out _).mono ?_
          rintro e w4 ⟨rfl, hb4⟩
          have hO5 := Lib.hid (owns_below hO4.out hb4)
          go_wp2
          go_roundw
          case rel => exact ⟨i0, j0 + 1, X, rfl, by go_num, by omega, by omega, hO5.out, by rw [hft.out, hX1.out]; simp, by rw [hft.out]; simpa using hX2.out, hX4.out, hbel4.trans (hb4.mono (by have := hbel4.size; omega))⟩
          case measure => simp [intOf]; omega
        | false =>
          go_wp2_with fail
          generalize wr.alloc (.cells #[.int .i64 da, .string ds, .bool false] 28) = w3 at *
          refine (hbd.out _).mono ?_
          rintro e w4 ⟨rfl, hb4⟩
          have hO5 := owns_below hO4.out hb4
          replace a0 := cell_below hb4 a0
          replace a1 := cell_below hb4 a1
          replace a2 := cell_below hb4 a2
          have hOa := (hO5.stored (i0 * 3) (.int .i64 da)).1
          have hOb := (hOa.stored (i0 * 3 + 1) (.string ds)).1
          have hOc := (hOb.stored (i0 * 3 + 2) (.bool false)).1
          obtain ⟨u0, v0⟩ := hce.out _ _ hO5 (i0 * 3) (by omega)
          obtain ⟨u1, v1⟩ := hce.out _ _ hOa (i0 * 3 + 1) (by omega)
          obtain ⟨u2, v2⟩ := hce.out _ _ hOb (i0 * 3 + 2) (by omega)
          have f0 := hfz.out _ _ hO5 (i0 * 3) (by omega)
          have f1 := hfz.out _ _ hOa (i0 * 3 + 1) (by omega)
          have f2 := hfz.out _ _ hOb (i0 * 3 + 2) (by omega)
          have hXl2 := hO4.out.1
          rw [set_three _ _ _ _ _ (by omega)] at hOc
          have hbb : Below base w (((w4.setCell ⟨g, i0 * 3, none⟩ (.int .i64 da)).setCell ⟨g, i0 * 3 + 1, none⟩ (.string ds)).setCell ⟨g, i0 * 3 + 2, none⟩ (.bool false)) := (((hbel4.trans (hb4.mono (by have := hbel4.size; omega))).setCell (p := ⟨g, i0 * 3, none⟩) hgB _).setCell (p := ⟨g, i0 * 3 + 1, none⟩) hgB _).setCell (p := ⟨g, i0 * 3 + 2, none⟩) hgB _
          replace hOc := Lib.hid hOc
          replace hbb := Lib.hid hbb
          clear hOa hOb
          have q1 : i0 < l.length := by omega
          replace hO5 := Lib.hid hO5
          go_wp2
          go_roundw
          case rel => exact ⟨i0 + 1, j0 + 1, _, by go_num, by go_num, by omega, by omega, hOc.out, by rw [put_take _ _ _ _ _ (by omega), hX1.out, hft.out, List.flatMap_append]; rfl, by rw [hft.out, List.length_append, hX2.out]; rfl, by rw [put_drop _ _ _ _ _ _ (by omega) (by omega)]; exact hX4.out, hbb.out⟩
          case measure => simp [intOf]; omega
      · obtain rfl : j0 = l.length := by omega
        rw [List.take_length] at hX1 hX2
        have hsl := fun W => run_from W g l.length c i0 hij hcap.1 hcap.2
        obtain ⟨w5, hcl, hO5, hb5⟩ := run_clear_own hO3 22 Try.underlying22 (Value.agg #[.int .i64 0, .string ⟨#[]⟩, .bool false]) (fun w => by kernel_rfl) rfl (by decide) i0 hij
        rw [hX1] at hO5
        replace hO5 := Lib.hid hO5
        replace hO3 := Lib.hid hO3
        replace hX1 := Lib.hid hX1
        replace hX2 := Lib.hid hX2
        replace hX3 := Lib.hid hX3
        have q1 : i0 ≤ c := by omega
        have q2 : i0 ≤ l.length := by omega
        go_wp2
        go_ret
        exact ⟨⟨_, rfl, by rw [hX2.out]; exact hO5.out⟩, hbel.trans hb5⟩
end Go.Proofs.Ytdpdnkjpjoccmaa
