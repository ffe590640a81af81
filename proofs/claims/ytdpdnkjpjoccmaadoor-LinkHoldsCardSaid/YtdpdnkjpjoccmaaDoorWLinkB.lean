/- The walks of link's Left, left, piece. -/
import Derived.Test.YtdpdnkjpjoccmaaDoorWLinkA
namespace Go.Proofs.YtdpdnkjpjoccmaaDoor
open Go.RowKit
set_option linter.unusedVariables false
set_option linter.unusedSimpArgs false
theorem run_from (w : World) (b off n cap q : Nat) (hq : q ≤ n) (h : n ≤ cap) (hm : cap ≤ maxLen) : (Instr.slice 55 (.slice (some ⟨b, off, none⟩) n cap) (some (.int .i64 q)) none none).run Tryd.prog w = .ok (.slice (some (if cap = q then ⟨b, off, none⟩ else ⟨b, off + q, none⟩)) (n - q) (cap - q)) w := by
  unfold maxLen at hm
  by_cases h1 : cap = q
  · subst h1
    have e : n = cap := by omega
    subst e
    go_simp
  · have e1 : q ≤ cap := by omega
    have e2 : (q : Int) ≤ (n : Int) := by omega
    go_simp
set_option maxHeartbeats 1000000 in
theorem link_Left (w : World) (l p : Nat) (vp : Value) (O : Nat → Prop) (s : ByteArray) (n : Nat) (L : Link.St) (h : LinkAt w l p vp O s n L) (hf : L.frm ≤ s.size) (h2 : s.size ≤ 4096) (h3 : 1 ≤ n) (h4 : n ≤ 256) (hc : L.frm / n ≤ Chunk.cuts s.size n) (hc2 : Chunk.cuts s.size n ≤ 4096) :
    Calls Tryd.prog 54 #[.pointer (some ⟨l, 0, none⟩)] w fun e w' => e = .returned (.int .i64 (Link.left s n L)) ∧ Below w.heap.size w w' := by
  have c1 : w.cell? ⟨l, 1, none⟩ = some vp := h.row.cell 1
  have c2 : w.cell? ⟨l, 2, none⟩ = some (.int .i64 n) := h.row.cell 2
  have c3 : w.cell? ⟨l, 3, none⟩ = some (.int .i64 L.frm) := h.row.cell 3
  obtain ⟨oa, ca, rfl, _, _⟩ := h.pcs.at strCells_len
  rw [linesTo_len] at c1
  obtain ⟨q, hq⟩ : ∃ q, q = L.frm / n := ⟨_, rfl⟩
  have hl : Hid (Link.left s n L = Chunk.cuts s.size n - q) := Lib.hid (by unfold Link.left; rw [hq])
  rw [← hq] at hc
  have e1 : (L.frm : Int) / (n : Int) = (q : Int) := by rw [hq]; rfl
  have e2 : (L.frm : Int).tdiv (n : Int) = (q : Int) := by rw [hq]; rfl
  have e0 : ¬ (n : Int) = 0 := by omega
  have e0' : ((n : Int) == 0) = false := by simp; omega
  have hz : ¬ n = 0 := by omega
  generalize Chunk.cuts s.size n = c at *
  have e3 : (c : Int) - (q : Int) = ((c - q : Nat) : Int) := by omega
  replace hq := Lib.hid hq
  clear h
  go_enter Tryd.func54, Tryd.ntmps54
  go_wp2_with fail
  go_quiet (fail)
  go_wp2
  go_ret
  exact ⟨by rw [hl.out]; rfl, by (repeat (first | exact Below.refl _ _ | assumption | refine bal ?_ _ | refine bdr ?_ | refine bdn ?_ _ | refine bst ?_ (by first | assumption | exact Nat.le_refl _ | omega) _ | refine bch ?_ (by assumption)))⟩
set_option maxHeartbeats 1000000 in
theorem link_left (w : World) (l p : Nat) (vp : Value) (O : Nat → Prop) (s : ByteArray) (n : Nat) (L : Link.St) (h : LinkAt w l p vp O s n L) (hf : L.frm ≤ s.size) (h2 : s.size ≤ 4096) (h3 : 1 ≤ n) (h4 : n ≤ 256) (hc : L.frm / n ≤ Chunk.cuts s.size n) (hc2 : Chunk.cuts s.size n ≤ 4096) :
    Calls Tryd.prog 75 #[.pointer (some ⟨l, 0, none⟩)] w fun e w' => e = .returned (.int .i64 (Link.left s n L)) ∧ Below w.heap.size w w' := by
  have hL := Lib.hid (link_Left w l p vp O s n L h hf h2 h3 h4 hc hc2)
  have hle : Link.left s n L ≤ 4096 := Nat.le_trans (Nat.sub_le _ _) hc2
  clear h hc
  generalize Link.left s n L = m at *
  have e1 : max (0 : Int) (m : Int) = (m : Int) := by omega
  have e2 : (if (m : Int) < 0 then (0 : Int) else (m : Int)) = (m : Int) := by split <;> omega
  have e3 : (if 0 < m then (m : Int) else 0) = (m : Int) := by split <;> omega
  have e4 : (if (0 : Int) < (m : Int) then (m : Int) else 0) = (m : Int) := by split <;> omega
  go_enter Tryd.func75, Tryd.ntmps75
  go_wp2_with fail
  refine hL.out.mono ?_
  rintro e w2 ⟨rfl, hb⟩
  go_wp2
  go_ret
  exact ⟨rfl, hb⟩
set_option maxHeartbeats 2000000 in
set_option maxRecDepth 20000 in
theorem link_piece (w : World) (l p : Nat) (vp : Value) (O : Nat → Prop) (s : ByteArray) (n : Nat) (L : Link.St) (h : LinkAt w l p vp O s n L) (hf : L.frm ≤ s.size) (h1 : s.size ≠ 0) (h2 : s.size ≤ 4096) (h3 : 1 ≤ n) (h4 : n ≤ 256) (hc : L.frm / n ≤ Chunk.cuts s.size n) (hc2 : Chunk.cuts s.size n ≤ 4096) (N : Int) (hN : (Lit.int .i64 N).wf = true) :
    Calls Tryd.prog 55 #[.pointer (some ⟨l, 0, none⟩), .int .i64 N] w fun e w' => e = .returned (if Link.left s n L = 0 then .tuple #[.string ⟨#[]⟩, .bool false] else .tuple #[.string (lineAt s n (Link.which s n L N)), .bool true]) ∧ Below w.heap.size w w' := by
  have hl := Lib.hid (fun W (hW : Below w.heap.size w W) => link_left W l p vp O s n L (h.below hW) hf h2 h3 h4 hc hc2)
  have c1 : w.cell? ⟨l, 1, none⟩ = some vp := h.row.cell 1
  obtain ⟨oa, ca, rfl, hca, hcell⟩ := h.pcs.at strCells_len
  rw [linesTo_len] at c1 hca
  have hc0 : 0 < Chunk.cuts s.size n := (Chunk.lt_cuts h3).2 (by omega)
  obtain ⟨b, off, rfl, hb, hcl⟩ := hcell 0 (by rw [linesTo_len]; exact hc0)
  obtain ⟨q, hq⟩ : ∃ q, q = L.frm / n := ⟨_, rfl⟩
  have hlq : Link.left s n L = Chunk.cuts s.size n - q := by unfold Link.left; rw [hq]
  have hwq : Link.which s n L N = q + (N % 18446744073709551616).toNat % Link.left s n L := by unfold Link.which; rw [hq]
  rw [← hq] at hc
  obtain ⟨ca1, ca2⟩ := hca hc0
  have hcells : ∀ k, k < Chunk.cuts s.size n → w.cell? ⟨b, off + k, none⟩ = some (.string (lineAt s n k)) := fun k hk => by
    obtain ⟨b', off', e, _, hcc⟩ := hcell k (by rw [linesTo_len]; exact hk)
    simp only [Option.some.injEq, Addr.mk.injEq, and_true] at e
    have := hcc 0 (.string (lineAt s n k)) (by rw [linesTo_get]; rfl)
    rw [← e.1, ← e.2, Nat.mul_one, Nat.add_zero] at this
    exact this
  have hrf := fun W => run_from W b off (Chunk.cuts s.size n) ca q hc ca1 ca2
  have hbw := hb (by omega)
  rw [hwq, hlq]
  rw [hlq] at hl
  clear hcell hcl h hb hwq hlq hca
  generalize Chunk.cuts s.size n = c at *
  replace hq := Lib.hid hq
  replace hcells := Lib.hid hcells
  have e3 : (c : Int) - ((c - q : Nat) : Int) = (q : Int) := by omega
  have e3w : IntKind.i64.wrap ((c : Int) - ((c - q : Nat) : Int)) = (q : Int) := by rw [e3, IntKind.wrap_i64]; omega
  by_cases h0 : c - q = 0
  · have hd : (((c - q : Nat) : Int) == 0) = true := by rw [h0]; rfl
    rw [if_pos h0]
    obtain ⟨z, hz⟩ : ∃ z, z = c - q := ⟨_, rfl⟩
    rw [← hz] at hl hrf hd e3 e3w
    generalize (if ca = q then (⟨b, off, none⟩ : Addr) else ⟨b, off + q, none⟩) = A at hrf
    replace hz := Lib.hid hz
    replace h0 := Lib.hid h0
    go_enter Tryd.func55, Tryd.ntmps55
    go_wp2_with fail
    have c1o := Old.cell c1
    have hlo := Lib.hid (fun (x : Kept (Old w.heap.size w)) => hl.out x.val x.ok.2)
    (have hN := Old.ne w; refine wp_region_kept (Old w.heap.size w) (by kernel_rfl) (by kernel_rfl) (Old.start w) ?_; (repeat (first | go_big_quiet_step ((first | (go_at_call 75; go_must (exact calls_kept (hlo.out _) Old.below)))) | quiet_step ((first | (go_at_call 75; go_must (exact calls_kept (hlo.out _) Old.below)))))); refine wpQuiet_nil ?_; rintro _ ⟨X, rfl⟩)
    go_wp2
    go_ret2
    exact ⟨rfl, X.ok.2⟩
  · rw [if_neg h0]
    obtain ⟨z, hz⟩ : ∃ z, z = c - q := ⟨_, rfl⟩
    have hi := int_i64 hN
    obtain ⟨u, hu⟩ : ∃ u, u = (N % 18446744073709551616).toNat := ⟨_, rfl⟩
    have hu2 : u < 18446744073709551616 := by omega
    have hu3 : IntKind.u64.wrap N = (u : Int) := by rw [IntKind.wrap_u64]; omega
    have hz0 : 0 < z := by omega
    have hz1 : z ≤ 4096 := by omega
    have hz3 : IntKind.u64.wrap (z : Int) = (z : Int) := by rw [IntKind.wrap_u64]; omega
    obtain ⟨r, hr⟩ : ∃ r, r = u % z := ⟨_, rfl⟩
    have hrz : r < z := by rw [hr]; exact Nat.mod_lt _ hz0
    have hr1 : (u : Int) % (z : Int) = (r : Int) := by rw [hr]; rfl
    have hr2 : (u : Int).tmod (z : Int) = (r : Int) := by rw [hr]; rfl
    have hr3 : IntKind.i64.wrap (r : Int) = (r : Int) := by rw [IntKind.wrap_i64]; omega
    have hd : ((z : Int) == 0) = false := by simp; omega
    have hdz : ¬ (z : Int) = 0 := by omega
    have hdz2 : ¬ z = 0 := by omega
    rw [← hz] at hl hrf e3 e3w
    rw [← hu, ← hz, ← hr]
    have hcq : ¬ ca = q := by omega
    rw [if_neg hcq] at hrf
    have cr : w.cell? ⟨b, off + q + r, none⟩ = some (.string (lineAt s n (q + r))) := by
      have := hcells.out (q + r) (by omega)
      rw [← Nat.add_assoc] at this; exact this
    replace hz := Lib.hid hz
    replace hu := Lib.hid hu
    replace hr := Lib.hid hr
    replace hN := Lib.hid hN
    generalize lineAt s n (q + r) = ln at *
    go_enter Tryd.func55, Tryd.ntmps55
    go_wp2_with fail
    have c1o := Old.cell c1
    have cro := Old.cell cr
    have hlo := Lib.hid (fun (x : Kept (Old w.heap.size w)) => hl.out x.val x.ok.2)
    (have hN := Old.ne w; refine wp_region_kept (Old w.heap.size w) (by kernel_rfl) (by kernel_rfl) (Old.start w) ?_; (repeat (first | go_big_quiet_step ((first | (go_at_call 75; go_must (exact calls_kept (hlo.out _) Old.below)))) | quiet_step ((first | (go_at_call 75; go_must (exact calls_kept (hlo.out _) Old.below)))))); refine wpQuiet_nil ?_; rintro _ ⟨X, rfl⟩)
    go_wp2
    go_ret2
    exact ⟨rfl, X.ok.2⟩
end Go.Proofs.YtdpdnkjpjoccmaaDoor
