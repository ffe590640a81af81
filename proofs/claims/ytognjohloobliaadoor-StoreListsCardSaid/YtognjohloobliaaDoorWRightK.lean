/- The walk of keep.right. -/
import Derived.Test.YtognjohloobliaaDoorWCelL
namespace Go.Proofs.YtognjohloobliaaDoor
open Go.RowKit
set_option linter.unusedVariables false
set_option linter.unusedSimpArgs false
/-- What keep.right leaves of a list. -/
def Rights (w : World) (l : List WrB) (e : Ending) (w' : World) : Prop := ∃ (v : Value) (L : List WrB), e = .returned v ∧ w'.ownsRow w.heap.size 29 6 v L.length (L.flatMap wrBCells) ∧ (∀ x ∈ L, Right_ x ∧ x ∈ l) ∧ L.length ≤ 60 ∧ Below w.heap.size w w'
def RightsTo (w : World) (l : List WrB) (v : Value) (wr : World) : Prop := ∃ L : List WrB, wr.ownsRow w.heap.size 29 6 v L.length (L.flatMap wrBCells) ∧ (∀ x ∈ L, Right_ x ∧ x ∈ l) ∧ L.length ≤ 60 ∧ Below w.heap.size w wr
set_option maxHeartbeats 4000000 in
set_option maxRecDepth 20000 in
theorem keep_right (v : Value) (l : List WrB) (w : World) (hv : WrsIs w v l) (hl : l.length ≤ 140737488351232) : Calls Tryd.prog 5 #[v] w (Rights w l) := by
  obtain ⟨o, c, rfl, -, hcell⟩ := ListIs.at hv wrBCells_len
  clear hv
  replace hcell := Lib.hid hcell
  go_enter Tryd.func5, Tryd.ntmps5
  go_wp2
  go_loopw [3, 8] (fun out i wr => ∃ k : Nat, k ≤ l.length ∧ i = .int .i64 k ∧ RightsTo w l out wr) (fun _ i _ => l.length - (intOf i).toNat)
  case atStart => exact ⟨0, by omega, rfl, [], World.ownsRow_nil _ _ _ _, (fun x hx => by cases hx), by simp, Below.refl _ _⟩
  case round =>
    obtain ⟨k, hk, rfl, L, hO, hL, h60, hb⟩ := hrel
    replace hL := Lib.hid hL
    obtain ⟨oo, oc, rfl⟩ := owns_slice_ hO
    replace hO := Lib.hid hO
    by_cases hlt : k < l.length
    · obtain ⟨b1, f1, rfl, hb1', hc1⟩ := hcell.out k hlt
      have hb1' := hb1' (by omega)
      have hcc : ∀ (j : Nat) (u : Value), (wrBCells l[k])[j]? = some u → wr.cell? ⟨b1, f1 + k * 6 + j, none⟩ = some u := fun j u hu => (hb.cell (p := ⟨b1, f1 + k * 6 + j, none⟩) hb1').trans (hc1 j u hu)
      have c0 : wr.cell? ⟨b1, f1 + k * 6, none⟩ = _ := hcc 0 _ rfl
      have c1 := hcc 1 _ rfl
      have c2 := hcc 2 _ rfl
      have c3 := hcc 3 _ rfl
      have c4 := hcc 4 _ rfl
      have c5 := hcc 5 _ rfl
      have hin := List.getElem_mem hlt
      obtain ⟨x, hxe⟩ : ∃ x, x = l[k] := ⟨_, rfl⟩
      rw [← hxe] at c0 c1 c2 c3 c4 c5 hin
      have hR := Lib.hid (fun W => write_right x.t x.r x.k x.key x.val x.n W)
      have hb1w : b1 < wr.heap.size := Nat.lt_of_lt_of_le hb1' hb.size
      clear hcc hc1 hxe
      replace hin := Lib.hid hin
      by_cases h6 : L.length < 60
      · go_wp2_with fail
        have q2 := row_at (w := wr) (g := wr.heap.size) #[.int .i64 x.t, .int .i64 x.r, .int .i64 x.k, .string x.key, .string x.val, .int .i64 x.n] 29 rfl
        have hb2 : Below wr.heap.size wr (wr.alloc (Obj.cells #[.int .i64 x.t, .int .i64 x.r, .int .i64 x.k, .string x.key, .string x.val, .int .i64 x.n] 29)) := bal (Below.refl _ _) _
        generalize wr.alloc (Obj.cells #[.int .i64 x.t, .int .i64 x.r, .int .i64 x.k, .string x.key, .string x.val, .int .i64 x.n] 29) = w2 at *
        refine (hR.out _).mono ?_
        rintro _ w3 ⟨rfl, hb3⟩
        replace q2 := q2.below hb3
        replace hb2 := bch hb2 hb3
        have hs3 : w.heap.size ≤ w3.heap.size := Nat.le_trans hb.size hb2.size
        have hO3 := Lib.hid (owns_below hO.out hb2)
        clear hb3 c0 c1 c2 c3 c4 c5
        by_cases hr : Right_ x
        · unfold Right_ at hr
          rw [hr, show errW 0 = .nilIface from rfl]
          have hr' := Lib.hid hr
          clear hr
          obtain ⟨c0, c1, c2, c3, c4, c5⟩ := q2.c6
          go_wp2_with ((at_builtin; go_must (refine app_one rfl _ _ 22 29 rfl (w.heap.size) (.agg #[.int .i64 0, .int .i64 0, .int .i64 0, .string ⟨#[]⟩, .string ⟨#[]⟩, .int .i64 0]) 6 64 Tryd.underlying22 (by kernel_rfl) rfl _ _ _ rfl hO3.out _ rfl rfl ?_ (by omega) (by omega) hs3 ?_)); (focus (intro u hu; simp only [List.mem_cons, List.not_mem_nil, or_false] at hu; rcases hu with rfl | rfl | rfl | rfl | rfl | rfl <;> rfl)); intro v5 w5 hO5 hg5 hbk5 hne5 hb5)
          go_roundw
          case rel =>
            refine ⟨k + 1, by omega, by go_num, L ++ [x], ?_, fun y hy => ?_, by rw [List.length_append]; simp only [List.length_singleton]; omega, (bch hb hb2).trans hb5⟩
            · rw [List.length_append, List.flatMap_append, List.flatMap_cons, List.flatMap_nil, List.append_nil]; exact hO5
            · rcases List.mem_append.1 hy with hy | hy
              · exact hL.out y hy
              · rw [List.mem_singleton.1 hy]; exact ⟨hr'.out, hin.out⟩
          case measure => simp [intOf]; omega
        · unfold Right_ at hr
          rw [errW_no hr]
          have hr' := Lib.hid hr
          clear hr
          go_wp2
          go_roundw
          case rel => exact ⟨k + 1, by omega, by go_num, L, hO3.out, hL.out, h60, bch hb hb2⟩
          case measure => simp [intOf]; omega
      · go_wp2
        go_roundw
        case rel => exact ⟨k + 1, by omega, by go_num, L, owns_below hO.out (by exact blw), hL.out, h60, by exact blw⟩
        case measure => simp [intOf]; omega
    · obtain rfl : k = l.length := by omega
      go_wp2
      go_ret
      exact ⟨_, L, rfl, hO.out, hL.out, h60, hb⟩
end Go.Proofs.YtognjohloobliaaDoor
