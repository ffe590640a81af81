/- slices.IndexFunc, ContainsFunc, DeleteFunc over writes, by whichever closure over one captured block. -/
import Derived.Test.YtpmedolndkidcaaDoorWBatch
import Derived.Test.YtpmedolndkidcaaDoorWDel
import Derived.Test.YtpmedolndkidcaaDoorWCopyK
namespace Go.Proofs.YtpmedolndkidcaaDoor
open Go.RowKit
set_option linter.unusedVariables false
set_option linter.unusedSimpArgs false
/-- A closure over the block g answers pr of each write, in every world that is w below a block. -/
def PredW (F g : Nat) (pr : WrB → Bool) (base : Nat) (w : World) : Prop :=
  (∀ args w, (callFunc F args).run Tryd.prog w = .ok (.enter F args) w) ∧
  ∀ (y : WrB) (W : World), Below base w W → Calls Tryd.prog F #[.agg #[.int .i64 y.t, .int .i64 y.r, .int .i64 y.k, .string y.key, .string y.val, .int .i64 y.n], .pointer (some ⟨g, 0, none⟩)] W fun e w' => e = .returned (.bool (pr y)) ∧ Below W.heap.size W w'
set_option maxHeartbeats 4000000 in
set_option maxRecDepth 20000 in
theorem index_wr (F g : Nat) (pr : WrB → Bool) (v : Value) (l : List WrB) (w : World) (hF : PredW F g pr w.heap.size w) (hv : WrsIs w v l) (hl : l.length ≤ 1000000) :
    Calls Tryd.prog 54 #[v, .func (.func F) #[] #[.pointer (some ⟨g, 0, none⟩)]] w fun e w' => ((e = .returned (.int .i64 (-1)) ∧ ∀ x ∈ l, pr x = false) ∨ ∃ k : Nat, e = .returned (.int .i64 k) ∧ ∃ h : k < l.length, pr l[k] = true ∧ ∀ x ∈ l.take k, pr x = false) ∧ Below w.heap.size w w' := by
  obtain ⟨eg, hF⟩ := hF
  obtain ⟨o, c, rfl, hcap, hcell⟩ := ListIs.at hv wrBCells_len
  clear hcap hv
  replace hcell := Lib.hid hcell
  replace hF := Lib.hid hF
  go_enter Tryd.func54, Tryd.ntmps54
  go_wp2
  go_loopw [5, 8] (fun _ i wr => ∃ k : Nat, k ≤ l.length ∧ i = .int .i64 k ∧ (∀ x ∈ l.take k, pr x = false) ∧ Below w.heap.size w wr) (fun _ i _ => l.length - (intOf i).toNat)
  case atStart => exact ⟨0, by omega, rfl, by simp, by (repeat (first | exact Below.refl _ _ | assumption | refine bal ?_ _ | refine bdr ?_ | refine bdn ?_ _ | refine bst ?_ (by first | assumption | exact Nat.le_refl _ | omega) _ | refine bch ?_ (by assumption)))⟩
  case round =>
    obtain ⟨k, hk, rfl, hany, hbel⟩ := hrel
    by_cases hlt : k < l.length
    · obtain ⟨b1, f1, rfl, hb1, hc1⟩ := hcell.out k hlt
      have hb1 := hb1 (by omega)
      have hstep : pr l[k] = false → ∀ x ∈ l.take (k + 1), pr x = false := fun h x hx => by
        rw [List.take_succ_eq_append_getElem hlt] at hx
        rcases List.mem_append.1 hx with hx | hx
        · exact hany x hx
        · simp only [List.mem_cons, List.not_mem_nil, or_false] at hx
          rw [hx]; exact h
      have hfound : pr l[k] = true → ∃ h : k < l.length, pr l[k] = true ∧ ∀ x ∈ l.take k, pr x = false := fun h => ⟨hlt, h, hany⟩
      have hcc : ∀ (j : Nat) (u : Value), (wrBCells l[k])[j]? = some u → wr.cell? ⟨b1, f1 + k * 6 + j, none⟩ = some u := fun j u hu => (hbel.cell (p := ⟨b1, f1 + k * 6 + j, none⟩) hb1).trans (hc1 j u hu)
      have c0 : wr.cell? ⟨b1, f1 + k * 6, none⟩ = _ := hcc 0 _ rfl
      have c1 := hcc 1 _ rfl
      have c2 := hcc 2 _ rfl
      have c3 := hcc 3 _ rfl
      have c4 := hcc 4 _ rfl
      have c5 := hcc 5 _ rfl
      clear hc1 hcc
      have hbd := Lib.hid (hF.out l[k] wr hbel)
      replace hany := Lib.hid hany
      replace hstep := Lib.hid hstep
      replace hfound := Lib.hid hfound
      generalize hx : l[k] = x at *
      replace hx := Lib.hid hx
      cases hy : pr x with
      | true =>
        rw [hy] at hbd
        have hy2 := Lib.hid (hfound.out hy)
        clear hy hfound hstep
        go_wp2_with fail
        refine hbd.out.mono ?_
        rintro e w2 ⟨rfl, hb2⟩
        go_wp2
        go_ret
        obtain ⟨h1, h2, h3⟩ := hy2.out
        exact ⟨.inr ⟨k, rfl, h1, h2, h3⟩, bch hbel hb2⟩
      | false =>
        rw [hy] at hbd
        have hy2 := Lib.hid (hstep.out hy)
        clear hy hfound hstep
        go_wp2_with fail
        refine hbd.out.mono ?_
        rintro e w2 ⟨rfl, hb2⟩
        go_wp2
        go_roundw
        case rel => exact ⟨k + 1, by omega, by go_num, hy2.out, bch hbel hb2⟩
        case measure => simp [intOf]; omega
    · obtain rfl : k = l.length := by omega
      rw [List.take_length] at hany
      replace hany := Lib.hid hany
      go_wp2
      go_ret
      exact ⟨.inl ⟨rfl, hany.out⟩, hbel⟩
/-- One of them is so. -/
theorem contains_wr (F g : Nat) (pr : WrB → Bool) (v : Value) (l : List WrB) (w : World) (hF : PredW F g pr w.heap.size w) (hv : WrsIs w v l) (hl : l.length ≤ 1000000) (hx : ∃ x ∈ l, pr x = true) :
    Calls Tryd.prog 18 #[v, .func (.func F) #[] #[.pointer (some ⟨g, 0, none⟩)]] w fun e w' => e = .returned (.bool true) ∧ Below w.heap.size w w' := by
  have hI := Lib.hid (index_wr F g pr v l w hF hv hl)
  obtain ⟨o, c, rfl, -, -⟩ := ListIs.at hv wrBCells_len
  clear hF hv
  replace hx := Lib.hid hx
  go_enter Tryd.func18, Tryd.ntmps18
  go_wp2_with fail
  refine hI.out.mono ?_
  rintro e w2 ⟨⟨rfl, hno⟩ | ⟨k, rfl, hk, hy, hpre⟩, hb2⟩
  · obtain ⟨x, hx1, hx2⟩ := hx.out
    rw [hno x hx1] at hx2; cases hx2
  · replace hy := Lib.hid hy
    replace hpre := Lib.hid hpre
    have hk0 : (0 : Int) ≤ (k : Int) := by omega
    go_wp2
    go_ret
    exact ⟨rfl, hb2⟩
def setL (X : List Value) : Nat → List Value → List Value
  | _, [] => X
  | i, c :: cs => setL (X.set i c) (i + 1) cs
theorem setL_eq : ∀ (cs X : List Value) (i : Nat), i + cs.length ≤ X.length → setL X i cs = X.take i ++ cs ++ X.drop (i + cs.length)
  | [], X, i, h => by simp [setL]
  | c :: cs, X, i, h => by
    have hi : i < X.length := by simp at h; omega
    rw [setL, setL_eq cs (X.set i c) (i + 1) (by simp at h ⊢; omega)]
    rw [List.length_cons, show i + (cs.length + 1) = i + 1 + cs.length by omega, List.drop_set_of_lt (by omega)]
    congr 1
    rw [List.take_succ_eq_append_getElem (by simpa using hi), List.take_set_of_le (Nat.le_refl _)]
    simp
theorem flat_take_wr (l : List WrB) (k : Nat) (h : k ≤ l.length) : (l.flatMap wrBCells).take (k * 6) = (l.take k).flatMap wrBCells := by
  have e : l.flatMap wrBCells = (l.take k).flatMap wrBCells ++ (l.drop k).flatMap wrBCells := by rw [← List.flatMap_append, List.take_append_drop]
  rw [e, List.take_left']
  rw [flat_len wrBCells_len, List.length_take]; omega
theorem flat_drop_wr (l : List WrB) (k : Nat) (h : k ≤ l.length) : (l.flatMap wrBCells).drop (k * 6) = (l.drop k).flatMap wrBCells := by
  have e : l.flatMap wrBCells = (l.take k).flatMap wrBCells ++ (l.drop k).flatMap wrBCells := by rw [← List.flatMap_append, List.take_append_drop]
  rw [e, List.drop_left']
  rw [flat_len wrBCells_len, List.length_take]; omega
theorem run_from_wr (w : World) (g n cap i : Nat) (h1 : i < n) (h2 : n ≤ cap) (hm : cap ≤ maxLen) : (Instr.slice 22 (.slice (some ⟨g, 0, none⟩) n cap) (some (.int .i64 i)) none none).run Tryd.prog w = .ok (.slice (some ⟨g, i * 6, none⟩) (n - i) (cap - i)) w := by
  unfold maxLen at hm
  have e1 : i ≤ n := by omega
  have e2 : i ≤ cap := by omega
  have e3 : ¬ cap = i := by omega
  have e4 : ¬ cap - i = 0 := by omega
  go_simp
set_option maxHeartbeats 8000000 in
set_option maxRecDepth 20000 in
theorem del_wr (F gb : Nat) (pr : WrB → Bool) (v : Value) (l : List WrB) (w : World) (base : Nat) (hF : PredW F gb pr base w) (hO : w.ownsRow base 36 6 v l.length (l.flatMap wrBCells)) (hl : l.length ≤ 1000000) (hB : base ≤ w.heap.size) :
    Calls Tryd.prog 34 #[v, .func (.func F) #[] #[.pointer (some ⟨gb, 0, none⟩)]] w fun e w' => (∃ u, e = .returned u ∧ w'.ownsRow base 36 6 u (l.filter (fun d => !pr d)).length ((l.filter (fun d => !pr d)).flatMap wrBCells)) ∧ Below base w w' := by
  have hI := Lib.hid (index_wr F gb pr v l w ⟨hF.1, fun y W hW => hF.2 y W (hW.mono hB)⟩ (ListIs.of_owns hO) hl)
  obtain ⟨eg, hF⟩ := hF
  obtain ⟨o, c, rfl⟩ := owns_slice_ hO
  replace hO := Lib.hid hO
  replace hF := Lib.hid hF
  go_enter Tryd.func34, Tryd.ntmps34
  go_wp2_with fail
  refine hI.out.mono ?_
  rintro e w2 ⟨⟨rfl, hno⟩ | ⟨k0, rfl, hk0, hy, hpre⟩, hb2⟩
  · have hfl : l.filter (fun d => !pr d) = l := List.filter_eq_self.2 (fun x hx => by rw [hno x hx]; rfl)
    have hO2 := Lib.hid (owns_below hO.out hb2)
    replace hno := Lib.hid hno
    replace hfl := Lib.hid hfl
    go_wp2
    go_ret
    exact ⟨⟨_, rfl, by rw [hfl.out]; exact hO2.out⟩, hb2.mono hB⟩
  · obtain ⟨g, cap, hv⟩ := owns_addr hO.out (by intro e; injection e with e1 e2 e3; omega)
    injection hv with e1 e2 e3
    subst e1; subst e3
    have hO2 := owns_below hO.out hb2
    have hbB := hb2.mono hB
    have hgB : base ≤ g := (hO.out.lt g rfl).1
    have hcap : l.length ≤ c ∧ c ≤ maxLen := by
      rcases hO2.2 with ⟨h, _⟩ | ⟨_, _, _, h, _, _, h1, h2, _⟩
      · cases h
      · injection h with _ _ h; subst h; exact ⟨h1, h2⟩
    have hf0 : (l.take (k0 + 1)).filter (fun d => !pr d) = l.take k0 := by
      rw [List.take_succ_eq_append_getElem hk0, List.filter_append, List.filter_eq_self.2 (fun x hx => by rw [hpre x hx]; rfl)]
      simp [hy]
    have st1 := Lib.hid (flat_take_wr l k0 (by omega))
    have st2 := Lib.hid (flat_drop_wr l (k0 + 1) (by omega))
    have hlen0 : ((l.take (k0 + 1)).filter (fun d => !pr d)).length = k0 := by rw [hf0, List.length_take]; omega
    rw [← hf0] at st1
    replace hlen0 := Lib.hid hlen0
    replace hO2 := Lib.hid hO2
    replace hpre := Lib.hid hpre
    have dk : ((k0 : Int) == -1) = false := by simp only [beq_eq_false_iff_ne]; omega
    clear hy hf0
    go_wp2_with fail
    go_loopw [5, 6] (fun i j wr => ∃ (i0 j0 : Nat) (X : List Value), i = .int .i64 i0 ∧ j = .int .i64 j0 ∧ i0 < j0 ∧ j0 ≤ l.length ∧ wr.ownsRow base 36 6 (.slice (some ⟨g, 0, none⟩) l.length c) l.length X ∧ X.take (i0 * 6) = ((l.take j0).filter (fun d => !pr d)).flatMap wrBCells ∧ ((l.take j0).filter (fun d => !pr d)).length = i0 ∧ X.drop (j0 * 6) = (l.drop j0).flatMap wrBCells ∧ Below base w wr) (fun _ j _ => l.length - (intOf j).toNat)
    case atStart => exact ⟨k0, k0 + 1, _, rfl, by go_num, by omega, by omega, hO2.out, st1.out, hlen0.out, st2.out, by first | exact hbB | (repeat (first | exact Below.refl _ _ | assumption | refine bal ?_ _ | refine bdr ?_ | refine bdn ?_ _ | refine bst ?_ (by first | assumption | exact Nat.le_refl _ | omega) _ | refine bch ?_ (by assumption)))⟩
    case round =>
      obtain ⟨i0, j0, X, rfl, rfl, hij, hj, hO3, hX1, hX2, hX3, hbel⟩ := hrel
      clear hO2 hO st1 st2 hlen0 hI hpre hbB
      have hsz := hbel.size
      by_cases hlt : j0 < l.length
      · have hXl := hO3.1
        have hcl := fun q (hq : q < 6) => hO3.cellAt (j0 * 6 + q) (by omega)
        have hxq : ∀ q, X[j0 * 6 + q]? = ((l.drop j0).flatMap wrBCells)[q]? := fun q => by rw [← hX3, List.getElem?_drop]
        rw [List.drop_eq_getElem_cons hlt, List.flatMap_cons] at hxq
        have hft : (l.take (j0 + 1)).filter (fun d => !pr d) = (l.take j0).filter (fun d => !pr d) ++ (if pr l[j0] then [] else [l[j0]]) := by
          rw [List.take_succ_eq_append_getElem hlt, List.filter_append]
          cases hq : pr l[j0] <;> simp [hq]
        have hX4 : X.drop ((j0 + 1) * 6) = (l.drop (j0 + 1)).flatMap wrBCells := by
          rw [show (j0 + 1) * 6 = j0 * 6 + 6 by omega, ← List.drop_drop, hX3, List.drop_eq_getElem_cons hlt, List.flatMap_cons]
          rfl
        have hfz := fun (W : World) (Y : List Value) (hW : W.ownsRow base 36 6 (.slice (some ⟨g, 0, none⟩) l.length c) l.length Y) q (hq : i0 * 6 ≤ q ∧ q < i0 * 6 + 6) => hW.frozenAt q
        have hce := fun (W : World) (Y : List Value) (hW : W.ownsRow base 36 6 (.slice (some ⟨g, 0, none⟩) l.length c) l.length Y) q (hq : i0 * 6 ≤ q ∧ q < i0 * 6 + 6) => (show ∃ u, W.cell? ⟨g, q, none⟩ = some u from by rw [hW.cellAt q (by omega), List.getElem?_eq_getElem (by rw [hW.1]; omega)]; exact ⟨_, rfl⟩)
        generalize hd : l[j0] = d at *
        obtain ⟨yt, yr, yk, ykey, yval, yn⟩ := d
        have c0 : wr.cell? ⟨g, j0 * 6, none⟩ = some (.int .i64 yt) := (hcl 0 (by omega)).trans (hxq 0)
        have c1 : wr.cell? ⟨g, j0 * 6 + 1, none⟩ = some (.int .i64 yr) := (hcl 1 (by omega)).trans (hxq 1)
        have c2 : wr.cell? ⟨g, j0 * 6 + 2, none⟩ = some (.int .i64 yk) := (hcl 2 (by omega)).trans (hxq 2)
        have c3 : wr.cell? ⟨g, j0 * 6 + 3, none⟩ = some (.string ykey) := (hcl 3 (by omega)).trans (hxq 3)
        have c4 : wr.cell? ⟨g, j0 * 6 + 4, none⟩ = some (.string yval) := (hcl 4 (by omega)).trans (hxq 4)
        have c5 : wr.cell? ⟨g, j0 * 6 + 5, none⟩ = some (.int .i64 yn) := (hcl 5 (by omega)).trans (hxq 5)
        have hal := row_alloc wr #[.int .i64 yt, .int .i64 yr, .int .i64 yk, .string ykey, .string yval, .int .i64 yn] 36
        have hb3 : Below wr.heap.size wr (wr.alloc (.cells #[.int .i64 yt, .int .i64 yr, .int .i64 yk, .string ykey, .string yval, .int .i64 yn] 36)) := bal (Below.refl _ _) _
        clear hcl hxq hX3
        have hO4 := owns_below hO3 hb3
        have hbel4 := hbel.trans (hb3.mono (by omega))
        have hs4 := hbel4.size
        replace hO3 := Lib.hid hO3
        replace hX1 := Lib.hid hX1
        replace hX2 := Lib.hid hX2
        replace hX4 := Lib.hid hX4
        replace hft := Lib.hid hft
        replace hO4 := Lib.hid hO4
        replace hfz := Lib.hid hfz
        replace hce := Lib.hid hce
        replace hal := Lib.hid hal
        replace hd := Lib.hid hd
        go_wp2_with fail
        clear c0 c1 c2 c3 c4 c5
        generalize wr.alloc (.cells #[.int .i64 yt, .int .i64 yr, .int .i64 yk, .string ykey, .string yval, .int .i64 yn] 36) = w3 at *
        refine (hF.out ⟨yt, yr, yk, ykey, yval, yn⟩ w3 hbel4).mono ?_
        rintro e w4 ⟨rfl, hb4⟩
        have hO5 := owns_below hO4.out hb4
        have hal4 := hal.out.below hb4
        cases hpy : pr ⟨yt, yr, yk, ykey, yval, yn⟩ with
        | true =>
          rw [hpy] at hft
          have hft' := Lib.hid hft.out
          replace hO5 := Lib.hid hO5
          clear hft hpy hal4
          go_wp2
          go_roundw
          case rel => exact ⟨i0, j0 + 1, X, rfl, by go_num, by omega, by omega, hO5.out, by rw [hft'.out, hX1.out]; simp, by rw [hft'.out]; simpa using hX2.out, hX4.out, hbel4.trans (hb4.mono (Nat.le_trans hB hs4))⟩
          case measure => simp [intOf]; omega
        | false =>
          rw [hpy] at hft
          have hft' := Lib.hid hft.out
          clear hft hpy
          (have a0 := hal4.cell 0; have a1 := hal4.cell 1; have a2 := hal4.cell 2; have a3 := hal4.cell 3; have a4 := hal4.cell 4; have a5 := hal4.cell 5; simp only [List.set_cons_succ, List.set_cons_zero, List.getElem?_cons_zero, List.getElem?_cons_succ] at a0 a1 a2 a3 a4 a5)
          have hOa := (hO5.stored (i0 * 6) (.int .i64 yt)).1
          have hOb := (hOa.stored (i0 * 6 + 1) (.int .i64 yr)).1
          have hOc := (hOb.stored (i0 * 6 + 2) (.int .i64 yk)).1
          have hOd := (hOc.stored (i0 * 6 + 3) (.string ykey)).1
          have hOe := (hOd.stored (i0 * 6 + 4) (.string yval)).1
          have hOf := (hOe.stored (i0 * 6 + 5) (.int .i64 yn)).1
          obtain ⟨u0, v0⟩ := hce.out _ _ hO5 (i0 * 6) (by omega)
          obtain ⟨u1, v1⟩ := hce.out _ _ hOa (i0 * 6 + 1) (by omega)
          obtain ⟨u2, v2⟩ := hce.out _ _ hOb (i0 * 6 + 2) (by omega)
          obtain ⟨u3, v3⟩ := hce.out _ _ hOc (i0 * 6 + 3) (by omega)
          obtain ⟨u4, v4⟩ := hce.out _ _ hOd (i0 * 6 + 4) (by omega)
          obtain ⟨u5, v5⟩ := hce.out _ _ hOe (i0 * 6 + 5) (by omega)
          have f0 := hfz.out _ _ hO5 (i0 * 6) (by omega)
          have f1 := hfz.out _ _ hOa (i0 * 6 + 1) (by omega)
          have f2 := hfz.out _ _ hOb (i0 * 6 + 2) (by omega)
          have f3 := hfz.out _ _ hOc (i0 * 6 + 3) (by omega)
          have f4 := hfz.out _ _ hOd (i0 * 6 + 4) (by omega)
          have f5 := hfz.out _ _ hOe (i0 * 6 + 5) (by omega)
          have hXl2 := hO4.out.1
          have hse := setL_eq [.int .i64 yt, .int .i64 yr, .int .i64 yk, .string ykey, .string yval, .int .i64 yn] X (i0 * 6) (by simp only [List.length_cons, List.length_nil]; omega)
          simp only [setL, List.length_cons, List.length_nil] at hse
          rw [hse] at hOf
          have hbb : Below base w ((((((w4.setCell ⟨g, i0 * 6, none⟩ (.int .i64 yt)).setCell ⟨g, i0 * 6 + 1, none⟩ (.int .i64 yr)).setCell ⟨g, i0 * 6 + 2, none⟩ (.int .i64 yk)).setCell ⟨g, i0 * 6 + 3, none⟩ (.string ykey)).setCell ⟨g, i0 * 6 + 4, none⟩ (.string yval)).setCell ⟨g, i0 * 6 + 5, none⟩ (.int .i64 yn)) := ((((((hbel4.trans (hb4.mono (Nat.le_trans hB hs4))).setCell (p := ⟨g, i0 * 6, none⟩) hgB _).setCell (p := ⟨g, i0 * 6 + 1, none⟩) hgB _).setCell (p := ⟨g, i0 * 6 + 2, none⟩) hgB _).setCell (p := ⟨g, i0 * 6 + 3, none⟩) hgB _).setCell (p := ⟨g, i0 * 6 + 4, none⟩) hgB _).setCell (p := ⟨g, i0 * 6 + 5, none⟩) hgB _
          replace hOf := Lib.hid hOf
          replace hbb := Lib.hid hbb
          clear hOa hOb hOc hOd hOe hse
          have q1 : i0 < l.length := by omega
          replace hO5 := Lib.hid hO5
          go_wp2
          go_roundw
          case rel =>
            refine ⟨i0 + 1, j0 + 1, _, by go_num, by go_num, by omega, by omega, hOf.out, ?_, by rw [hft'.out, List.length_append, hX2.out]; rfl, ?_, hbb.out⟩
            · rw [hft'.out, List.flatMap_append, ← hX1.out]
              exact List.take_left' (by simp only [List.length_append, List.length_take, List.length_cons, List.length_nil]; omega)
            · rw [← hX4.out]
              have hl6 : (X.take (i0 * 6) ++ ([.int .i64 yt, .int .i64 yr, .int .i64 yk, .string ykey, .string yval, .int .i64 yn] : List Value)).length = i0 * 6 + 6 := by simp only [List.length_append, List.length_take, List.length_cons, List.length_nil]; omega
              rw [List.drop_append, hl6, List.drop_of_length_le (by omega), List.nil_append, List.drop_drop]
              congr 1
              omega
          case measure => simp [intOf]; omega
      · obtain rfl : j0 = l.length := by omega
        rw [List.take_length] at hX1 hX2
        have hsl := fun W => run_from_wr W g l.length c i0 hij hcap.1 hcap.2
        obtain ⟨w5, hcl, hO5, hb5⟩ := run_clear_own hO3 22 Tryd.underlying22 (Value.agg #[.int .i64 0, .int .i64 0, .int .i64 0, .string ⟨#[]⟩, .string ⟨#[]⟩, .int .i64 0]) (fun w => by kernel_rfl) rfl (by intro u hu; simp [Value.cells] at hu; rcases hu with rfl | rfl | rfl | rfl | rfl | rfl <;> rfl) i0 hij
        rw [hX1] at hO5
        replace hO5 := Lib.hid hO5
        replace hO3 := Lib.hid hO3
        replace hX1 := Lib.hid hX1
        replace hX2 := Lib.hid hX2
        replace hX3 := Lib.hid hX3
        have q1 : i0 ≤ c := by omega
        have q2 : i0 ≤ l.length := by omega
        go_wp2
        go_ret
        exact ⟨⟨_, rfl, by rw [hX2.out]; exact hO5.out⟩, hbel.trans hb5⟩
end Go.Proofs.YtpmedolndkidcaaDoor
