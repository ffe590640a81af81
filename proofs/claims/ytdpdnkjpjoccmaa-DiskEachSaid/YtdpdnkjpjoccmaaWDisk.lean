/- The walks of disk. -/
import Derived.Test.YtdpdnkjpjoccmaaMaps
import Derived.Test.YtdpdnkjpjoccmaaOnly
import Derived.Test.YtdpdnkjpjoccmaaPlainDisk
import Derived.Test.YtdpdnkjpjoccmaaLists
namespace Go.Proofs.Ytdpdnkjpjoccmaa
open Go.RowKit
set_option linter.unusedVariables false
set_option linter.unusedSimpArgs false
abbrev NatStr (w : World) (b n : Nat) (f : Nat → Option ByteArray) : Prop := MapIs Try.prog 3 9 (fun n : Nat => Lit.int .i64 n) (fun s : ByteArray => Lit.string s.data.toList) w b n f
/-- A disk in memory: its own block, that of its sectors, and that of its map. -/
structure DiskIs (w : World) (d gs b m n : Nat) (st : Disk.St ByteArray) : Prop where
  row : Row w d 58 [.slice (some ⟨gs, 0, none⟩) n n, .map (some b)]
  safe : Row w gs 9 (st.safe.map Value.string)
  next : NatStr w b m st.next
  len : st.safe.length = n
  pos : 0 < n
  le : n ≤ 140
  ne1 : d ≠ gs
  ne2 : d ≠ b
  ne3 : gs ≠ b
  sz : ∀ x ∈ st.safe, x.size = 32
  szn : ∀ i x, st.next i = some x → i < n ∧ x.size = 32
theorem DiskIs.below {w w' : World} {d gs b m n : Nat} {st : Disk.St ByteArray} (h : DiskIs w d gs b m n st) (hb : Below w.heap.size w w') : DiskIs w' d gs b m n st :=
  { h with row := h.row.below hb, safe := h.safe.below hb, next := h.next.below hb }
/-- Whatever else changes, the disk stays. -/
theorem MapIs.only {P : Program} {k e : TypeId} {κ α : Type} {kl : κ → Lit} {vl : α → Lit} {w w' : World} {b n : Nat} {f : κ → Option α} {S : Nat → Prop} (h : MapIs P k e kl vl w b n f) (ho : Only S w w') (hn : ¬ S b) : MapIs P k e kl vl w' b n f := h.of_block (ho.block b h.lt hn)
theorem DiskIs.only {w w' : World} {d gs b m n : Nat} {st : Disk.St ByteArray} {S : Nat → Prop} (h : DiskIs w d gs b m n st) (ho : Only S w w') (h1 : ¬ S d) (h2 : ¬ S gs) (h3 : ¬ S b) : DiskIs w' d gs b m n st :=
  { h with row := h.row.only ho h1, safe := h.safe.only ho h2, next := h.next.only ho h3 }
theorem view_cases {st : Disk.St ByteArray} {i : Nat} {x : ByteArray} (h : st.view i = some x) : i < st.safe.length ∧ (st.next i = some x ∨ st.next i = none ∧ st.safe[i]? = some x) := by
  unfold Disk.St.view at h
  split at h
  · refine ⟨‹_›, ?_⟩
    split at h
    · exact .inl (by rw [‹st.next i = _›]; exact h)
    · exact .inr ⟨‹_›, h⟩
  · cases h
set_option maxHeartbeats 2000000 in
set_option maxRecDepth 20000 in
theorem disk_read (w : World) (d gs b m n : Nat) (st : Disk.St ByteArray) (hD : DiskIs w d gs b m n st) (i : Nat) (x : ByteArray) (hx : st.view i = some x) :
    Calls Try.prog 17 #[.pointer (some ⟨d, 0, none⟩), .int .i64 i] w fun e w' => e = .returned (.tuple #[.string x, .nilIface]) ∧ Below w.heap.size w w' := by
  have K := Lib.hid (key_nat (P := Try.prog) (k := 3) Try.underlying3)
  have E := Lib.hid (elem_str (P := Try.prog) (e := 9) Try.underlying9 (fun w => by kernel_rfl))
  obtain ⟨hi, hcase⟩ := view_cases hx
  have hn := hD.len
  have hle := hD.le
  have c0 : w.cell? ⟨d, 0, none⟩ = some (.slice (some ⟨gs, 0, none⟩) n n) := hD.row.cell 0
  have c1 : w.cell? ⟨d, 1, none⟩ = some (.map (some b)) := hD.row.cell 1
  have hM := Lib.hid hD.next
  have hir : i ≤ maxLen := by unfold maxLen; omega
  replace hir := Lib.hid hir
  have hin : i < n := by omega
  rcases hcase with hc | ⟨hc, hs⟩
  · replace hc := Lib.hid hc
    clear hD hx
    go_enter Try.func17, Try.ntmps17
    go_wp2_with (first
      | (at_lookup; go_must (refine wp_look_yes rfl _ _ _ rfl hM.out K.out E.out Try.underlying56 i hir.out x hc.out rfl rfl ?_)))
    go_ret2
    exact ⟨rfl, by (repeat (first | exact Below.refl _ _ | assumption | refine bal ?_ _ | refine bdr ?_ | refine bdn ?_ _ | refine bst ?_ (by first | assumption | exact Nat.le_refl _ | omega) _ | refine bch ?_ (by assumption)))⟩
  · have c2 : w.cell? ⟨gs, i, none⟩ = some (.string x) := by
      rw [hD.safe.cell i, List.getElem?_map, hs]; rfl
    replace hc := Lib.hid hc
    clear hD hx hs
    go_enter Try.func17, Try.ntmps17
    go_wp2_with (first
      | (at_lookup; go_must (refine wp_look_no rfl _ _ _ rfl hM.out K.out E.out Try.underlying56 i hir.out hc.out rfl rfl ?_)))
    go_ret2
    exact ⟨rfl, by (repeat (first | exact Below.refl _ _ | assumption | refine bal ?_ _ | refine bdr ?_ | refine bdn ?_ _ | refine bst ?_ (by first | assumption | exact Nat.le_refl _ | omega) _ | refine bch ?_ (by assumption)))⟩
end Go.Proofs.Ytdpdnkjpjoccmaa
