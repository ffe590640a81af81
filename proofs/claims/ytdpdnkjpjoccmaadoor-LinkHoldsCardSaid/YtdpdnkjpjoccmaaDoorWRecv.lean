/- Who gets the pieces, in memory; the walks of recv's New, Offer, Safe, Flush. -/
import Derived.Test.YtdpdnkjpjoccmaaDoorWRepeat
import Derived.Test.YtdpdnkjpjoccmaaDoorPlainRecv3
namespace Go.Proofs.YtdpdnkjpjoccmaaDoor
open Go.RowKit
set_option linter.unusedVariables false
set_option linter.unusedSimpArgs false
/-- Cells in a block of their own, or none. -/
def MemIs (w : World) (v : Value) (g : Nat) (e : TypeId) (cs : List Value) : Prop := (cs = [] ∧ ∃ a c, v = .slice a 0 c) ∨ (cs ≠ [] ∧ v = .slice (some ⟨g, 0, none⟩) cs.length cs.length ∧ Row w g e cs)
theorem MemIs.of_block {w w' : World} {v : Value} {g : Nat} {e : TypeId} {cs : List Value} (h : MemIs w v g e cs) (hb : cs ≠ [] → g < w.heap.size → w'.heap[g]? = w.heap[g]?) : MemIs w' v g e cs := by
  rcases h with h | ⟨h1, h2, h3⟩
  · exact .inl h
  · exact .inr ⟨h1, h2, h3.of_block (hb h1 h3.lt)⟩
theorem MemIs.slice {w : World} {v : Value} {g : Nat} {e : TypeId} {cs : List Value} (h : MemIs w v g e cs) (n : Nat) (hn : cs.length = n) : ∃ a c, v = .slice a n c ∧ ∀ k, k < n → a = some ⟨g, 0, none⟩ ∧ c = n ∧ Row w g e cs := by
  subst hn
  rcases h with ⟨rfl, a, c, rfl⟩ | ⟨h1, h2, h3⟩
  · exact ⟨a, c, rfl, fun k hk => absurd hk (Nat.not_lt_zero _)⟩
  · exact ⟨_, _, h2, fun k hk => ⟨rfl, rfl, h3⟩⟩
def flags (l : List Bool) : List Value := l.map Value.bool
/-- Who gets the pieces, in memory: O are blocks of its own (all that it has are among them). -/
structure RecvAt (w : World) (p d gs b g3 g4 m : Nat) (v3 v4 : Value) (O : Nat → Prop) (R : Recv.Rec) : Prop where
  row : Row w p 88 [.pointer (some ⟨d, 0, none⟩), .int .u32 R.name, .int .i64 R.came.length, v3, v4, .int .i64 R.saved, .int .i64 R.safe, .int .i64 R.mark]
  disk : DiskIs w d gs b m 140 R.disk
  dat : MemIs w v3 g3 5 (byteVals R.data)
  cam : MemIs w v4 g4 4 (flags R.came)
  len : R.data.length = R.came.length
  o1 : O p
  o2 : O d
  o3 : O gs
  o4 : O b
  o5 : R.came ≠ [] → O g3 ∧ O g4
  lt : ∀ k, O k → k < w.heap.size
  n1 : p ≠ d
  n2 : p ≠ gs
  n3 : p ≠ b
  n4 : R.came ≠ [] → g3 ≠ p ∧ g3 ≠ d ∧ g3 ≠ gs ∧ g3 ≠ b ∧ g4 ≠ p ∧ g4 ≠ d ∧ g4 ≠ gs ∧ g4 ≠ b ∧ g3 ≠ g4
def RecvIs (w : World) (p : Nat) (O : Nat → Prop) (m : Nat) (R : Recv.Rec) : Prop := ∃ d gs b g3 g4 v3 v4, RecvAt w p d gs b g3 g4 m v3 v4 O R
theorem came_cells {R : Recv.Rec} (h : flags R.came ≠ []) : R.came ≠ [] := fun e => h (by rw [e]; rfl)
theorem data_cells {R : Recv.Rec} (hl : R.data.length = R.came.length) (h : byteVals R.data ≠ []) : R.came ≠ [] := fun e => by
  rw [e] at hl
  exact h (by rw [List.eq_nil_of_length_eq_zero hl]; rfl)
theorem RecvAt.only {w w' : World} {p d gs b g3 g4 m : Nat} {v3 v4 : Value} {O S : Nat → Prop} {R : Recv.Rec} (h : RecvAt w p d gs b g3 g4 m v3 v4 O R) (ho : Only S w w') (hS : ∀ k, O k → ¬ S k) : RecvAt w' p d gs b g3 g4 m v3 v4 O R :=
  { h with
    row := h.row.only ho (hS _ h.o1)
    disk := h.disk.only ho (hS _ h.o2) (hS _ h.o3) (hS _ h.o4)
    dat := h.dat.of_block (fun hc hl => ho.block _ hl (hS _ (h.o5 (data_cells h.len hc)).1))
    cam := h.cam.of_block (fun hc hl => ho.block _ hl (hS _ (h.o5 (came_cells hc)).2))
    lt := fun k hk => Nat.lt_of_lt_of_le (h.lt k hk) ho.size }
theorem RecvAt.below {w w' : World} {p d gs b g3 g4 m : Nat} {v3 v4 : Value} {O : Nat → Prop} {R : Recv.Rec} (h : RecvAt w p d gs b g3 g4 m v3 v4 O R) (hb : Below w.heap.size w w') : RecvAt w' p d gs b g3 g4 m v3 v4 O R :=
  h.only (Only.of_below (fun _ => False) hb) (fun _ _ h => h)
/-- What stands behind a change of its numbers, and of its disk. -/
theorem RecvAt.change {w w' : World} {p d gs b g3 g4 m m' : Nat} {v3 v4 : Value} {O : Nat → Prop} {R : Recv.Rec} (h : RecvAt w p d gs b g3 g4 m v3 v4 O R) (ho : Only (fun k => k = p ∨ k = gs ∨ k = b) w w') (R' : Recv.Rec) (h1 : R'.data = R.data) (h2 : R'.came = R.came)
    (hrow : Row w' p 88 [.pointer (some ⟨d, 0, none⟩), .int .u32 R'.name, .int .i64 R'.came.length, v3, v4, .int .i64 R'.saved, .int .i64 R'.safe, .int .i64 R'.mark]) (hd : DiskIs w' d gs b m' 140 R'.disk) : RecvAt w' p d gs b g3 g4 m' v3 v4 O R' ∧ Only O w w' := by
  have hoO : Only O w w' := ho.mono (fun k _ hk => by
    rcases hk with rfl | rfl | rfl
    · exact h.o1
    · exact h.o3
    · exact h.o4)
  refine ⟨{ row := hrow, disk := hd, dat := ?_, cam := ?_, len := by rw [h1, h2]; exact h.len, o1 := h.o1, o2 := h.o2, o3 := h.o3, o4 := h.o4, o5 := fun hc => h.o5 (h2 ▸ hc), lt := fun k hk => Nat.lt_of_lt_of_le (h.lt k hk) ho.size, n1 := h.n1, n2 := h.n2, n3 := h.n3, n4 := fun hc => h.n4 (h2 ▸ hc) }, hoO⟩
  · rw [h1]
    refine h.dat.of_block (fun hc hl => ho.block _ hl ?_)
    have := h.n4 (data_cells h.len hc)
    omega
  · rw [h2]
    refine h.cam.of_block (fun hc hl => ho.block _ hl ?_)
    have := h.n4 (came_cells hc)
    omega
theorem RecvIs.below {w w' : World} {p m : Nat} {O : Nat → Prop} {R : Recv.Rec} (h : RecvIs w p O m R) (hb : Below w.heap.size w w') : RecvIs w' p O m R := by
  obtain ⟨d, gs, b, g3, g4, v3, v4, h⟩ := h
  exact ⟨d, gs, b, g3, g4, v3, v4, h.below hb⟩
theorem RecvIs.only {w w' : World} {p m : Nat} {O S : Nat → Prop} {R : Recv.Rec} (h : RecvIs w p O m R) (ho : Only S w w') (hS : ∀ k, O k → ¬ S k) : RecvIs w' p O m R := by
  obtain ⟨d, gs, b, g3, g4, v3, v4, h⟩ := h
  exact ⟨d, gs, b, g3, g4, v3, v4, h.only ho hS⟩
theorem RecvIs.lt {w : World} {p m : Nat} {O : Nat → Prop} {R : Recv.Rec} (h : RecvIs w p O m R) : ∀ k, O k → k < w.heap.size := by
  obtain ⟨d, gs, b, g3, g4, v3, v4, h⟩ := h
  exact h.lt
theorem pad_padB (l : List UInt8) : padB ⟨l.toArray⟩ = Recv.pad l := by
  apply ba_ext
  unfold padB Recv.pad
  rw [ba_app]
  simp [ByteArray.size]
set_option maxHeartbeats 2000000 in
set_option maxRecDepth 20000 in
theorem recv_new (w : World) :
    Calls Tryd.prog 13 #[] w fun e w' => (∃ p O, e = .returned (.pointer (some ⟨p, 0, none⟩)) ∧ RecvIs w' p O 0 Recv.new ∧ ∀ k, O k → w.heap.size ≤ k) ∧ Below w.heap.size w w' := by
  have hnew := Lib.hid (disk_new w 140 (by omega) (by omega))
  go_enter Tryd.func13, Tryd.ntmps13
  go_wp2_with fail
  refine hnew.out.mono ?_
  rintro e w2 ⟨⟨d, gs, b, rfl, hd, hg, hb, hD⟩, hb2⟩
  clear hnew
  have hs2 := hb2.size
  have hdl := hD.row.lt
  have hgl := hD.safe.lt
  have hbl := hD.next.lt
  replace hD := Lib.hid hD
  go_wp2
  go_ret
  refine ⟨⟨w2.heap.size, fun k => k = w2.heap.size ∨ k = d ∨ k = gs ∨ k = b, rfl, ⟨d, gs, b, 0, 0, .slice none 0 0, .slice none 0 0, { row := ?_, disk := ?_, dat := .inl ⟨rfl, _, _, rfl⟩, cam := .inl ⟨rfl, _, _, rfl⟩, len := rfl, o1 := .inl rfl, o2 := .inr (.inl rfl), o3 := .inr (.inr (.inl rfl)), o4 := .inr (.inr (.inr rfl)), o5 := fun h => absurd rfl h, lt := ?_, n1 := by omega, n2 := by omega, n3 := by omega, n4 := fun h => absurd rfl h }⟩, fun k hk => by omega⟩, by (repeat (first | exact Below.refl _ _ | assumption | refine bal ?_ _ | refine bdr ?_ | refine bdn ?_ _ | refine bst ?_ (by first | assumption | exact Nat.le_refl _ | omega) _ | refine bch ?_ (by assumption)))⟩
  · exact row_at _ _ rfl
  · show DiskIs _ d gs b 0 140 Recv.blank
    have e : Recv.blank = ⟨List.replicate 140 (padB ⟨#[]⟩), fun _ => none⟩ := by
      unfold Recv.blank
      rw [show padB ⟨#[]⟩ = Recv.pad [] from pad_padB []]
    rw [e]
    exact hD.out.below ((Below.refl _ _).alloc (Nat.le_refl _) _)
  · intro k hk
    have e : ∀ o : Obj, (w2.alloc o).heap.size = w2.heap.size + 1 := fun o => by simp
    rw [e]
    omega
set_option maxHeartbeats 2000000 in
set_option maxRecDepth 20000 in
theorem recv_offer (w : World) (p m : Nat) (O : Nat → Prop) (R : Recv.Rec) (hR : RecvIs w p O m R) (hl : R.came.length ≤ 4096) :
    Calls Tryd.prog 18 #[.pointer (some ⟨p, 0, none⟩)] w fun e w' => e = .returned (.int .i64 R.offer) ∧ Below w.heap.size w w' := by
  obtain ⟨d, gs, b, g3, g4, v3, v4, hR⟩ := hR
  have c2 : w.cell? ⟨p, 2, none⟩ = some (.int .i64 R.came.length) := hR.row.cell 2
  have c4 : w.cell? ⟨p, 4, none⟩ = some v4 := hR.row.cell 4
  have hpl := hR.row.lt
  obtain ⟨a, c, rfl, hcell⟩ := hR.cam.slice R.came.length (by simp [flags])
  have hle : R.offer ≤ R.came.length := Recv.offer_le _
  have htr := Lib.hid (Recv.offer_true R.came)
  have hst := Lib.hid (Recv.offer_stop R.came)
  replace hcell := Lib.hid hcell
  clear hR
  go_enter Tryd.func18, Tryd.ntmps18
  go_wp2
  go_loopw [3] (fun i wr => ∃ k : Nat, k ≤ R.offer ∧ i = .int .i64 k ∧ Below w.heap.size w wr) (fun i _ => R.came.length - (intOf i).toNat)
  case atStart => exact ⟨0, by omega, rfl, by (repeat (first | exact Below.refl _ _ | assumption | refine bal ?_ _ | refine bdr ?_ | refine bdn ?_ _ | refine bst ?_ (by first | assumption | exact Nat.le_refl _ | omega) _ | refine bch ?_ (by assumption)))⟩
  case round =>
    obtain ⟨k, hk, rfl, hbel⟩ := hrel
    have e2 : wr.cell? ⟨p, 2, none⟩ = some (.int .i64 R.came.length) := (hbel.cell (p := ⟨p, 2, none⟩) hpl).trans c2
    have e4 : wr.cell? ⟨p, 4, none⟩ = some (.slice a R.came.length c) := (hbel.cell (p := ⟨p, 4, none⟩) hpl).trans c4
    by_cases hlt : k < R.came.length
    · obtain ⟨rfl, rfl, hrow⟩ := hcell.out k hlt
      have hd1 : decide ((k : Int) < (R.came.length : Int)) = true := by simp; omega
      by_cases hko : k < R.offer
      · have c0 : wr.cell? ⟨g4, k, none⟩ = some (.bool true) := (hbel.cell (p := ⟨g4, k, none⟩) hrow.lt).trans (by rw [hrow.cell, flags, List.getElem?_map, htr.out k hko]; rfl)
        clear hrow
        go_wp2
        go_roundw
        case rel => exact ⟨k + 1, by omega, by go_num, hbel⟩
        case measure => simp [intOf]; omega
      · obtain rfl : k = R.offer := by omega
        have c0 : wr.cell? ⟨g4, R.offer, none⟩ = some (.bool false) := (hbel.cell (p := ⟨g4, R.offer, none⟩) hrow.lt).trans (by rw [hrow.cell, flags, List.getElem?_map]; rw [show R.came[R.offer]? = some false from hst.out hlt]; rfl)
        clear hrow
        go_wp2
        go_ret
        exact ⟨rfl, hbel⟩
    · have hko : k = R.offer := by omega
      subst hko
      have hd1 : decide ((R.offer : Int) < (R.came.length : Int)) = false := by simp; omega
      go_wp2
      go_ret
      exact ⟨rfl, hbel⟩
theorem recv_safe (w : World) (p m : Nat) (O : Nat → Prop) (R : Recv.Rec) (hR : RecvIs w p O m R) :
    Calls Tryd.prog 24 #[.pointer (some ⟨p, 0, none⟩)] w fun e w' => e = .returned (.int .i64 R.safe) ∧ Below w.heap.size w w' := by
  obtain ⟨d, gs, b, g3, g4, v3, v4, hR⟩ := hR
  have c6 : w.cell? ⟨p, 6, none⟩ = some (.int .i64 R.safe) := hR.row.cell 6
  clear hR
  go_enter Tryd.func24, Tryd.ntmps24
  go_wp2
  go_ret
  exact ⟨rfl, by (repeat (first | exact Below.refl _ _ | assumption | refine bal ?_ _ | refine bdr ?_ | refine bdn ?_ _ | refine bst ?_ (by first | assumption | exact Nat.le_refl _ | omega) _ | refine bch ?_ (by assumption)))⟩
set_option maxHeartbeats 2000000 in
set_option maxRecDepth 20000 in
theorem recv_flush (w : World) (p m : Nat) (O : Nat → Prop) (R : Recv.Rec) (hR : RecvIs w p O m R) :
    Calls Tryd.prog 21 #[.pointer (some ⟨p, 0, none⟩)] w fun e w' => e = .returned (.tuple #[]) ∧ RecvIs w' p O 0 R.flush ∧ Only O w w' := by
  obtain ⟨d, gs, b, g3, g4, v3, v4, hR⟩ := hR
  have c0 : w.cell? ⟨p, 0, none⟩ = some (.pointer (some ⟨d, 0, none⟩)) := hR.row.cell 0
  have hsy := Lib.hid (disk_sync w d gs b m 140 R.disk hR.disk)
  have hn1 := hR.n1
  have hn2 := hR.n2
  have hn3 := hR.n3
  replace hR := Lib.hid hR
  go_enter Tryd.func21, Tryd.ntmps21
  go_wp2_with fail
  refine hsy.out.mono ?_
  rintro e w2 ⟨rfl, hD2, ho2⟩
  have hrow := hR.out.row.only ho2 (by omega)
  have d5 : w2.cell? ⟨p, 5, none⟩ = some (.int .i64 R.saved) := hrow.cell 5
  have d6 : w2.cell? ⟨p, 6, none⟩ = some (.int .i64 R.safe) := hrow.cell 6
  have f6 := hrow.frozen 6 (by simp)
  replace hrow := Lib.hid hrow
  replace hD2 := Lib.hid hD2
  go_wp2
  go_end0
  have hR := hR.out
  have ho3 : Only (fun k => k = p ∨ k = gs ∨ k = b) w (w2.setCell ⟨p, 6, none⟩ (.int .i64 R.saved)) := (ho2.mono (fun k _ h => by rcases h with h | h <;> simp [h])).set (p := ⟨p, 6, none⟩) (Or.inl (Or.inl rfl)) _
  have hdS : DiskIs (w2.setCell ⟨p, 6, none⟩ (.int .i64 R.saved)) d gs b 0 140 R.disk.sync := hD2.out.only ((Only.refl (fun k => k = p) w2).set (Or.inl rfl) _) (by omega) (by omega) (by omega)
  obtain ⟨h1, h2⟩ := hR.change ho3 R.flush rfl rfl (hrow.out.set 6 _) hdS
  exact ⟨rfl, ⟨d, gs, b, g3, g4, v3, v4, h1⟩, h2⟩
end Go.Proofs.YtdpdnkjpjoccmaaDoor
