/- The walk of slices.Clone over lists of packtrain/api.Entry; printed by gen_clone.py. -/
import Derived.Lib.SliceRun
import Derived.Test.YtognjohloobliaaGreatDoorJ15
namespace Go.Proofs.YtognjohloobliaaGreatDoor
open Go.RowKit
set_option linter.unusedVariables false
set_option linter.unusedSimpArgs false
/-- A list in memory as a source of an append. -/
theorem srcc_ents {w : World} {v : Value} {l : List Vec.Entry} (h : ListIs entCells 2 w v l) : Src Tryz.prog 2 22 v l.length (l.flatMap entCells) w := by
 have hfl := flat_len (f := entCells) (sz := 2) (fun _ => rfl) l
 obtain ⟨a, cap, rfl, -, hc⟩ := h.at (fun _ => rfl)
 have hone : ∀ u ∈ l.flatMap entCells, u.oneCell' = true := fun u hu => by
  obtain ⟨x, -, hx⟩ := List.mem_flatMap.1 hu
  simp only [entCells, List.mem_cons, List.not_mem_nil, or_false] at hx
  rcases hx with rfl | rfl <;> rfl
 rcases Nat.eq_zero_or_pos l.length with h0 | hp
 ·rw [h0]
  have hl : l = [] := List.eq_nil_of_length_eq_zero h0
  subst hl
  cases a with
  | none => exact Src.ofNil w Tryz.underlying22 _
  | some a => exact Src.ofSlice w Tryz.underlying22 a 0 cap [] rfl (fun j u hu => by cases hu) (fun u hu => by cases hu)
 ·obtain ⟨b, off, rfl, -, -⟩ := hc 0 hp
  refine Src.ofSlice w Tryz.underlying22 _ _ _ _ hfl (fun j u hu => ?_) hone
  have hj := (List.getElem?_eq_some_iff.1 hu).1
  rw [hfl] at hj
  have hk : j / 2 < l.length := Nat.div_lt_of_lt_mul (by rw [Nat.mul_comm]; exact hj)
  have hm : j % 2 < 2 := Nat.mod_lt _ (by omega)
  have he : j / 2 * 2 + j % 2 = j := by omega
  have hg := flat_get (f := entCells) (sz := 2) (fun _ => rfl) l (j / 2) (j % 2) hk hm
  rw [he, hu] at hg
  obtain ⟨b', off', e, -, hcc⟩ := hc (j / 2) hk
  injection e with e
  injection e with e1 e2
  subst e1; subst e2
  have h2 := hcc (j % 2) u hg.symm
  rw [Nat.add_assoc, he] at h2
  have ea : (⟨b, off, none⟩ : Addr).add j = ⟨b, off + j, none⟩ := by unfold Addr.add; split <;> simp_all
  rw [ea]; exact h2
set_option maxHeartbeats 2000000 in
set_option maxRecDepth 20000 in
theorem clone_ents (v : Value) (l : List Vec.Entry) (w : World) (hv : ListIs entCells 2 w v l) (hl : l.length ≤ 1000000) :
  Calls Tryz.prog 41 #[v] w fun e w' => (∃ u, e = .returned u ∧ w'.ownsRow w.heap.size 45 2 u l.length (l.flatMap entCells)) ∧ Below w.heap.size w w' := by
 obtain ⟨o, c, rfl, hcap, hcell⟩ := hv.at (fun _ => rfl)
 clear hcap
 cases o with
 | none =>
  have h0 : l.length = 0 := by
   rcases Nat.eq_zero_or_pos l.length with h | h
   ·exact h
   ·obtain ⟨b, off, e, -, -⟩ := hcell 0 h
    cases e
  have hl0 : l = [] := List.eq_nil_of_length_eq_zero h0
  subst hl0
  clear hv hcell
  have hnl := fun W : World => Lib.run_eql_slice_nil (P := Tryz.prog) W 22 45 none 0 c 0 0 Tryz.underlying22
  go_enter Tryz.func41, Tryz.ntmps41
  go_wp2
  go_ret
  exact ⟨⟨_, rfl, World.ownsRow_nil _ _ _ _⟩, by exact blw⟩
 | some a =>
  clear hcell
  have hb1 : Below w.heap.size w (w.alloc (.cells #[] 45)) := bal (Below.refl _ _) _
  have hsrc := Lib.hid (srcc_ents (hv.below (by omega) hb1))
  have hO := Lib.hid (World.ownsRow_lit (base := w.heap.size) (e := 45) (size := 2) w #[] 0 (Nat.le_refl _) (by decide) rfl)
  clear hv
  have hnl := fun W : World => Lib.run_eql_slice_nil (P := Tryz.prog) W 22 45 (some a) l.length c 0 0 Tryz.underlying22
  go_enter Tryz.func41, Tryz.ntmps41
  go_wp2_with (at_builtin; go_must (refine app_any rfl _ _ 22 22 45 rfl w.heap.size (Value.agg #[.int .i64 0, .int .i64 0]) 2 16 Tryz.underlying22 (by kernel_rfl) rfl _ 0 [] rfl hO.out l.length (l.flatMap entCells) hsrc.out (by omega) (by omega) hb1.size ?_))
  intro v1 w2 hown2 hg2 hblk2 hnil hb2
  go_wp2
  go_ret
  exact ⟨⟨_, rfl, by simpa using hown2⟩, hb1.trans hb2⟩
end Go.Proofs.YtognjohloobliaaGreatDoor
