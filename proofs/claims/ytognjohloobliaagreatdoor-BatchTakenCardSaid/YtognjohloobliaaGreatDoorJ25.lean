/- The walk of slices.Clone over lists of packtrain/api.Write; printed by gen_clone.py. -/
import Derived.Lib.SliceRun
import Derived.Test.YtognjohloobliaaGreatDoorJ18
namespace Go.Proofs.YtognjohloobliaaGreatDoor
open Go.RowKit
set_option linter.unusedVariables false
set_option linter.unusedSimpArgs false
/-- A list in memory as a source of an append. -/
theorem srcc_wrs {w : World} {v : Value} {l : List WrB} (h : ListIs wrBCells 6 w v l) : Src Tryz.prog 6 23 v l.length (l.flatMap wrBCells) w := by
 have hfl := flat_len (f := wrBCells) (sz := 6) (fun _ => rfl) l
 obtain ⟨a, cap, rfl, -, hc⟩ := h.at (fun _ => rfl)
 have hone : ∀ u ∈ l.flatMap wrBCells, u.oneCell' = true := fun u hu => by
  obtain ⟨x, -, hx⟩ := List.mem_flatMap.1 hu
  simp only [wrBCells, List.mem_cons, List.not_mem_nil, or_false] at hx
  rcases hx with rfl | rfl | rfl | rfl | rfl | rfl <;> rfl
 rcases Nat.eq_zero_or_pos l.length with h0 | hp
 ·rw [h0]
  have hl : l = [] := List.eq_nil_of_length_eq_zero h0
  subst hl
  cases a with
  | none => exact Src.ofNil w Tryz.underlying23 _
  | some a => exact Src.ofSlice w Tryz.underlying23 a 0 cap [] rfl (fun j u hu => by cases hu) (fun u hu => by cases hu)
 ·obtain ⟨b, off, rfl, -, -⟩ := hc 0 hp
  refine Src.ofSlice w Tryz.underlying23 _ _ _ _ hfl (fun j u hu => ?_) hone
  have hj := (List.getElem?_eq_some_iff.1 hu).1
  rw [hfl] at hj
  have hk : j / 6 < l.length := Nat.div_lt_of_lt_mul (by rw [Nat.mul_comm]; exact hj)
  have hm : j % 6 < 6 := Nat.mod_lt _ (by omega)
  have he : j / 6 * 6 + j % 6 = j := by omega
  have hg := flat_get (f := wrBCells) (sz := 6) (fun _ => rfl) l (j / 6) (j % 6) hk hm
  rw [he, hu] at hg
  obtain ⟨b', off', e, -, hcc⟩ := hc (j / 6) hk
  injection e with e
  injection e with e1 e2
  subst e1; subst e2
  have h2 := hcc (j % 6) u hg.symm
  rw [Nat.add_assoc, he] at h2
  have ea : (⟨b, off, none⟩ : Addr).add j = ⟨b, off + j, none⟩ := by unfold Addr.add; split <;> simp_all
  rw [ea]; exact h2
set_option maxHeartbeats 2000000 in
set_option maxRecDepth 20000 in
theorem clone_wrs (v : Value) (l : List WrB) (w : World) (hv : ListIs wrBCells 6 w v l) (hl : l.length ≤ 1000000) :
  Calls Tryz.prog 37 #[v] w fun e w' => (∃ u, e = .returned u ∧ w'.ownsRow w.heap.size 33 6 u l.length (l.flatMap wrBCells)) ∧ Below w.heap.size w w' := by
 obtain ⟨o, c, rfl, hcap, hcell⟩ := hv.at (fun _ => rfl)
 clear hcap
 cases o with
 | none =>
  have h0 : l.length = 0 := by
   rcases Nat.eq_zero_or_pos l.length with h | h
   ·exact h
   ·obtain ⟨b, off, e, -, -⟩ := hcell 0 h
    cases e
  have hl0 : l = [] := List.eq_nil_of_length_eq_zero h0
  subst hl0
  clear hv hcell
  have hnl := fun W : World => Lib.run_eql_slice_nil (P := Tryz.prog) W 23 33 none 0 c 0 0 Tryz.underlying23
  go_enter Tryz.func37, Tryz.ntmps37
  go_wp2
  go_ret
  exact ⟨⟨_, rfl, World.ownsRow_nil _ _ _ _⟩, by exact blw⟩
 | some a =>
  clear hcell
  have hb1 : Below w.heap.size w (w.alloc (.cells #[] 33)) := bal (Below.refl _ _) _
  have hsrc := Lib.hid (srcc_wrs (hv.below (by omega) hb1))
  have hO := Lib.hid (World.ownsRow_lit (base := w.heap.size) (e := 33) (size := 6) w #[] 0 (Nat.le_refl _) (by decide) rfl)
  clear hv
  have hnl := fun W : World => Lib.run_eql_slice_nil (P := Tryz.prog) W 23 33 (some a) l.length c 0 0 Tryz.underlying23
  go_enter Tryz.func37, Tryz.ntmps37
  go_wp2_with (at_builtin; go_must (refine app_any rfl _ _ 23 23 33 rfl w.heap.size (Value.agg #[.int .i64 0, .int .i64 0, .int .i64 0, .string ⟨#[]⟩, .string ⟨#[]⟩, .int .i64 0]) 6 64 Tryz.underlying23 (by kernel_rfl) rfl _ 0 [] rfl hO.out l.length (l.flatMap wrBCells) hsrc.out (by omega) (by omega) hb1.size ?_))
  intro v1 w2 hown2 hg2 hblk2 hnil hb2
  go_wp2
  go_ret
  exact ⟨⟨_, rfl, by simpa using hown2⟩, hb1.trans hb2⟩
end Go.Proofs.YtognjohloobliaaGreatDoor
/- A list of writes in memory, changed one by one. -/
namespace Go.Proofs.YtognjohloobliaaGreatDoor
open Go.RowKit
set_option linter.unusedVariables false
end Go.Proofs.YtognjohloobliaaGreatDoor
