/- The walks of keep.sameCells (of lists that are one), keep.right, keep.stored. -/
import Derived.Test.YtpmedolndkidcaaDoorWStoreOf
import Derived.Test.YtpmedolndkidcaaDoorWEqStr
namespace Go.Proofs.YtpmedolndkidcaaDoor
open Go.RowKit
set_option linter.unusedVariables false
set_option linter.unusedSimpArgs false
set_option maxHeartbeats 1000000 in
theorem same_cel (k : ByteArray) (h : Bool) (t : ByteArray) (s : Int) (l : List ByteArray) (la lb : Option Addr) (ln ln' lc lc' : Nat) (W : World) (hx : StrsIs W (.slice la ln lc) l) (hy : StrsIs W (.slice lb ln' lc') l) (hl : l.length ≤ 1000) :
    Calls Tryd.prog 56 #[.agg #[.string k, .bool h, .string t, .int .i64 s, .slice la ln lc], .agg #[.string k, .bool h, .string t, .int .i64 s, .slice lb ln' lc']] W fun e w' => e = .returned (.bool true) ∧ Below W.heap.size W w' := by
  have hE := Lib.hid (fun V (hV : Below W.heap.size W V) => eq_strs (.slice la ln lc) (.slice lb ln' lc') l l V (ListIs.below hx (by omega) hV) (ListIs.below hy (by omega) hV) (by omega) (by omega))
  clear hx hy
  have hd : decide (l = l) = true := by simp
  go_enter Tryd.func56, Tryd.ntmps56
  go_wp2_with (go_at_call 36; refine (hE.out _ (by (repeat (first | exact Below.refl _ _ | assumption | refine bal ?_ _ | refine bdr ?_ | refine bdn ?_ _ | refine bst ?_ (by first | assumption | exact Nat.le_refl _ | omega) _ | refine bch ?_ (by assumption))))).mono ?_; rintro _ w2 ⟨rfl, hb2⟩; rw [hd])
  go_ret
  exact ⟨rfl, by (repeat (first | exact Below.refl _ _ | assumption | refine bal ?_ _ | refine bdr ?_ | refine bdn ?_ _ | refine bst ?_ (by first | assumption | exact Nat.le_refl _ | omega) _ | refine bch ?_ (by assumption)))⟩
/-- Lists of cells that a walk compares. -/
def CelL (w : World) (v : Value) (L : List CelB) : Prop := ListIs celCells 5 w v L ∧ ∀ x ∈ L, StrsIs w (.slice x.la x.ln x.lc) x.cel.val.list
theorem CelL.below {w w' : World} {v : Value} {L : List CelB} (h : CelL w v L) (hb : Below w.heap.size w w') : CelL w' v L := ⟨h.1.below (by omega) hb, fun x hx => (h.2 x hx).below (by omega) hb⟩
set_option maxHeartbeats 2000000 in
set_option maxRecDepth 20000 in
theorem equal_cells (va vb : Value) (A B : List CelB) (w : World) (ha : CelL w va A) (hb : CelL w vb B) (hAB : A.map CelB.cel = B.map CelB.cel) (hl : A.length ≤ 1000) (hll : ∀ x ∈ A, x.cel.val.list.length ≤ 1000) :
    Calls Tryd.prog 55 #[va, vb, .func (.func 56) #[] #[]] w fun e w' => e = .returned (.bool true) ∧ Below w.heap.size w w' := by
  have hlen : B.length = A.length := by have := congrArg List.length hAB; simpa using this.symm
  obtain ⟨oa, ca, rfl, -, hca⟩ := ha.1.at celCells_len
  obtain ⟨ob, cb, rfl, -, hcb⟩ := hb.1.at celCells_len
  rw [hlen]
  replace hca := Lib.hid hca
  replace hcb := Lib.hid hcb
  have hsa := Lib.hid ha.2
  have hsb := Lib.hid hb.2
  clear ha hb
  replace hAB := Lib.hid hAB
  replace hlen := Lib.hid hlen
  replace hll := Lib.hid hll
  go_enter Tryd.func55, Tryd.ntmps55
  go_wp2
  go_loopw [17] (fun i wr => ∃ k : Nat, k ≤ A.length ∧ i = .int .i64 k ∧ Below w.heap.size w wr) (fun i _ => A.length - (intOf i).toNat)
  case atStart => exact ⟨0, by omega, rfl, Below.refl _ _⟩
  case round =>
    obtain ⟨k, hk, rfl, hb⟩ := hrel
    by_cases hlt : k < A.length
    · have hltb : k < B.length := by rw [hlen.out]; exact hlt
      obtain ⟨b1, f1, rfl, hb1, hc1⟩ := hca.out k hlt
      obtain ⟨b2, f2, rfl, hb2, hc2⟩ := hcb.out k hltb
      have hb1 := hb1 (by omega)
      have hb2 := hb2 (by omega)
      have hcel : B[k].cel = A[k].cel := by
        have := congrArg (fun l => l[k]?) hAB.out
        simp only [List.getElem?_map, List.getElem?_eq_getElem hlt, List.getElem?_eq_getElem hltb, Option.map_some, Option.some.injEq] at this
        exact this.symm
      have g1 : ∀ (j : Nat) (u : Value), (celCells A[k])[j]? = some u → wr.cell? ⟨b1, f1 + k * 5 + j, none⟩ = some u := fun j u hu => (hb.cell (p := ⟨b1, f1 + k * 5 + j, none⟩) hb1).trans (hc1 j u hu)
      have g2 : ∀ (j : Nat) (u : Value), (celCells B[k])[j]? = some u → wr.cell? ⟨b2, f2 + k * 5 + j, none⟩ = some u := fun j u hu => (hb.cell (p := ⟨b2, f2 + k * 5 + j, none⟩) hb2).trans (hc2 j u hu)
      have hS1 := (hsa.out _ (List.getElem_mem hlt)).below (by omega) hb
      have hS2 := (hsb.out _ (List.getElem_mem hltb)).below (by omega) hb
      have hn := hll.out _ (List.getElem_mem hlt)
      generalize A[k] = x at *
      generalize B[k] = y at *
      obtain ⟨⟨xk, xh, xt, xs, xl⟩, xa, xn, xc⟩ := x
      obtain ⟨yc, ya, yn, yd⟩ := y
      simp only at hcel
      subst hcel
      (try simp only at hS1 hS2 hn)
      have c0 : wr.cell? ⟨b1, f1 + k * 5, none⟩ = _ := g1 0 _ rfl
      have c1 := g1 1 _ rfl
      have c2 := g1 2 _ rfl
      have c3 := g1 3 _ rfl
      have c4 := g1 4 _ rfl
      have d0 : wr.cell? ⟨b2, f2 + k * 5, none⟩ = _ := g2 0 _ rfl
      have d1 := g2 1 _ rfl
      have d2 := g2 2 _ rfl
      have d3 := g2 3 _ rfl
      have d4 := g2 4 _ rfl
      (try simp only at c0 c1 c2 c3 c4 d0 d1 d2 d3 d4)
      have hb1w : b1 < wr.heap.size := Nat.lt_of_lt_of_le hb1 hb.size
      have hb2w : b2 < wr.heap.size := Nat.lt_of_lt_of_le hb2 hb.size
      have hcm := Lib.hid (fun V (hV : Below wr.heap.size wr V) => same_cel xk xh xt xs xl xa ya xn yn xc yd V (hS1.below (by omega) hV) (hS2.below (by omega) hV) hn)
      clear g1 g2 hc1 hc2 hS1 hS2 hn
      go_wp2_with (go_at_call 56; refine (hcm.out _ (by (repeat (first | exact Below.refl _ _ | assumption | refine bal ?_ _ | refine bdr ?_ | refine bdn ?_ _ | refine bst ?_ (by first | assumption | exact Nat.le_refl _ | omega) _ | refine bch ?_ (by assumption))))).mono ?_; rintro _ w3 ⟨rfl, hb3⟩)
      go_roundw
      case rel => exact ⟨k + 1, by omega, by go_num, by (repeat (first | exact Below.refl _ _ | assumption | refine bal ?_ _ | refine bdr ?_ | refine bdn ?_ _ | refine bst ?_ (by first | assumption | exact Nat.le_refl _ | omega) _ | refine bch ?_ (by assumption)))⟩
      case measure => simp [intOf]; omega
    · obtain rfl : k = A.length := by omega
      go_wp2
      go_ret
      exact ⟨rfl, hb⟩
theorem same_cells (va vb : Value) (A B : List CelB) (w : World) (ha : CelL w va A) (hb : CelL w vb B) (hAB : A.map CelB.cel = B.map CelB.cel) (hl : A.length ≤ 1000) (hll : ∀ x ∈ A, x.cel.val.list.length ≤ 1000) :
    Calls Tryd.prog 21 #[va, vb] w fun e w' => e = .returned (.bool true) ∧ Below w.heap.size w w' := by
  have hE := Lib.hid (equal_cells va vb A B w ha hb hAB hl hll)
  clear ha hb
  replace hAB := Lib.hid hAB
  replace hll := Lib.hid hll
  go_enter Tryd.func21, Tryd.ntmps21
  go_wp2_with (go_at_call 55; refine hE.out.mono ?_; rintro _ w2 ⟨rfl, hb2⟩)
  go_ret
  exact ⟨rfl, hb2⟩
/-- What keep.right leaves of a list. -/
def Rights (w : World) (l : List WrB) (e : Ending) (w' : World) : Prop := ∃ (v : Value) (L : List WrB), e = .returned v ∧ w'.ownsRow w.heap.size 36 6 v L.length (L.flatMap wrBCells) ∧ (∀ x ∈ L, Right_ x ∧ x ∈ l) ∧ L.length ≤ 60 ∧ Below w.heap.size w w'
def RightsTo (w : World) (l : List WrB) (v : Value) (wr : World) : Prop := ∃ L : List WrB, wr.ownsRow w.heap.size 36 6 v L.length (L.flatMap wrBCells) ∧ (∀ x ∈ L, Right_ x ∧ x ∈ l) ∧ L.length ≤ 60 ∧ Below w.heap.size w wr
set_option maxHeartbeats 4000000 in
set_option maxRecDepth 20000 in
theorem keep_right (v : Value) (l : List WrB) (w : World) (hv : WrsIs w v l) (hl : l.length ≤ 140737488351232) : Calls Tryd.prog 16 #[v] w (Rights w l) := by
  obtain ⟨o, c, rfl, -, hcell⟩ := ListIs.at hv wrBCells_len
  clear hv
  replace hcell := Lib.hid hcell
  go_enter Tryd.func16, Tryd.ntmps16
  go_wp2
  go_loopw [3, 8] (fun out i wr => ∃ k : Nat, k ≤ l.length ∧ i = .int .i64 k ∧ RightsTo w l out wr) (fun _ i _ => l.length - (intOf i).toNat)
  case atStart => exact ⟨0, by omega, rfl, [], World.ownsRow_nil _ _ _ _, (fun x hx => by cases hx), by simp, Below.refl _ _⟩
  case round =>
    obtain ⟨k, hk, rfl, L, hO, hL, h60, hb⟩ := hrel
    replace hL := Lib.hid hL
    obtain ⟨oo, oc, rfl⟩ := owns_slice_ hO
    replace hO := Lib.hid hO
    by_cases hlt : k < l.length
    · obtain ⟨b1, f1, rfl, hb1', hc1⟩ := hcell.out k hlt
      have hb1' := hb1' (by omega)
      have hcc : ∀ (j : Nat) (u : Value), (wrBCells l[k])[j]? = some u → wr.cell? ⟨b1, f1 + k * 6 + j, none⟩ = some u := fun j u hu => (hb.cell (p := ⟨b1, f1 + k * 6 + j, none⟩) hb1').trans (hc1 j u hu)
      have c0 : wr.cell? ⟨b1, f1 + k * 6, none⟩ = _ := hcc 0 _ rfl
      have c1 := hcc 1 _ rfl
      have c2 := hcc 2 _ rfl
      have c3 := hcc 3 _ rfl
      have c4 := hcc 4 _ rfl
      have c5 := hcc 5 _ rfl
      have hin := List.getElem_mem hlt
      obtain ⟨x, hxe⟩ : ∃ x, x = l[k] := ⟨_, rfl⟩
      rw [← hxe] at c0 c1 c2 c3 c4 c5 hin
      have hR := Lib.hid (fun W => write_right x.t x.r x.k x.key x.val x.n W)
      have hb1w : b1 < wr.heap.size := Nat.lt_of_lt_of_le hb1' hb.size
      clear hcc hc1 hxe
      replace hin := Lib.hid hin
      by_cases h6 : L.length < 60
      · go_wp2_with fail
        have q2 := row_at (w := wr) (g := wr.heap.size) #[.int .i64 x.t, .int .i64 x.r, .int .i64 x.k, .string x.key, .string x.val, .int .i64 x.n] 36 rfl
        have hb2 : Below wr.heap.size wr (wr.alloc (Obj.cells #[.int .i64 x.t, .int .i64 x.r, .int .i64 x.k, .string x.key, .string x.val, .int .i64 x.n] 36)) := bal (Below.refl _ _) _
        generalize wr.alloc (Obj.cells #[.int .i64 x.t, .int .i64 x.r, .int .i64 x.k, .string x.key, .string x.val, .int .i64 x.n] 36) = w2 at *
        refine (hR.out _).mono ?_
        rintro _ w3 ⟨rfl, hb3⟩
        replace q2 := q2.below hb3
        replace hb2 := bch hb2 hb3
        have hs3 : w.heap.size ≤ w3.heap.size := Nat.le_trans hb.size hb2.size
        have hO3 := Lib.hid (owns_below hO.out hb2)
        clear hb3 c0 c1 c2 c3 c4 c5
        by_cases hr : Right_ x
        · unfold Right_ at hr
          rw [hr, show errW 0 = .nilIface from rfl]
          have hr' := Lib.hid hr
          clear hr
          (have c0 := q2.cell 0; have c1 := q2.cell 1; have c2 := q2.cell 2; have c3 := q2.cell 3; have c4 := q2.cell 4; have c5 := q2.cell 5; simp only [List.set_cons_succ, List.set_cons_zero, List.getElem?_cons_zero, List.getElem?_cons_succ] at c0 c1 c2 c3 c4 c5)
          go_wp2_with ((at_builtin; go_must (refine app_one rfl _ _ 22 36 rfl (w.heap.size) (.agg #[.int .i64 0, .int .i64 0, .int .i64 0, .string ⟨#[]⟩, .string ⟨#[]⟩, .int .i64 0]) 6 64 Tryd.underlying22 (by kernel_rfl) rfl _ _ _ rfl hO3.out _ rfl rfl ?_ (by omega) (by omega) hs3 ?_)); (focus (intro u hu; simp only [List.mem_cons, List.not_mem_nil, or_false] at hu; rcases hu with rfl | rfl | rfl | rfl | rfl | rfl <;> rfl)); intro v5 w5 hO5 hg5 hbk5 hne5 hb5)
          go_roundw
          case rel =>
            refine ⟨k + 1, by omega, by go_num, L ++ [x], ?_, fun y hy => ?_, by rw [List.length_append]; simp only [List.length_singleton]; omega, (bch hb hb2).trans hb5⟩
            · rw [List.length_append, List.flatMap_append, List.flatMap_cons, List.flatMap_nil, List.append_nil]; exact hO5
            · rcases List.mem_append.1 hy with hy | hy
              · exact hL.out y hy
              · rw [List.mem_singleton.1 hy]; exact ⟨hr'.out, hin.out⟩
          case measure => simp [intOf]; omega
        · unfold Right_ at hr
          rw [errW_no hr]
          have hr' := Lib.hid hr
          clear hr
          go_wp2
          go_roundw
          case rel => exact ⟨k + 1, by omega, by go_num, L, hO3.out, hL.out, h60, bch hb hb2⟩
          case measure => simp [intOf]; omega
      · go_wp2
        go_roundw
        case rel => exact ⟨k + 1, by omega, by go_num, L, owns_below hO.out (by (repeat (first | exact Below.refl _ _ | assumption | refine bal ?_ _ | refine bdr ?_ | refine bdn ?_ _ | refine bst ?_ (by first | assumption | exact Nat.le_refl _ | omega) _ | refine bch ?_ (by assumption)))), hL.out, h60, by (repeat (first | exact Below.refl _ _ | assumption | refine bal ?_ _ | refine bdr ?_ | refine bdn ?_ _ | refine bst ?_ (by first | assumption | exact Nat.le_refl _ | omega) _ | refine bch ?_ (by assumption)))⟩
        case measure => simp [intOf]; omega
    · obtain rfl : k = l.length := by omega
      go_wp2
      go_ret
      exact ⟨_, L, rfl, hO.out, hL.out, h60, hb⟩
end Go.Proofs.YtpmedolndkidcaaDoor
