/- The walk of link's Step; printed by gen_step.py. -/
import Derived.Test.YtdpdnkjpjoccmaaDoorWRecvG
namespace Go.Proofs.YtdpdnkjpjoccmaaDoor
open Go.RowKit
set_option linter.unusedVariables false
set_option linter.unusedSimpArgs false
/-- What a link's step leaves. -/
def StepTo (w : World) (l p : Nat) (vp : Value) (O : Nat → Prop) (s : ByteArray) (n : Nat) (r : Link.St × Bool) (e : Ending) (w' : World) : Prop :=
  (∃ v, e = .returned v ∧ (r.2 = true → v = .nilIface) ∧ (r.2 = false → ∃ x, v = errN x)) ∧ ∃ O', LinkAt w' l p vp O' s n r.1 ∧ Only (fun j => j = l ∨ O j) w w' ∧ ∀ j, O' j → O j ∨ w.heap.size ≤ j
theorem cuts_le (s : ByteArray) (n : Nat) (h2 : s.size ≤ 4096) (h3 : 1 ≤ n) : Chunk.cuts s.size n ≤ 4096 := Nat.le_of_not_lt fun h => by
  have h5 := (Chunk.lt_cuts (n := s.size) (size := n) (k := 4096) h3).1 h
  have : 4096 * 1 ≤ 4096 * n := Nat.mul_le_mul_left _ h3
  omega
/-- Nothing has happened to the link. -/
theorem StepTo.same {w w' : World} {l p : Nat} {vp : Value} {O : Nat → Prop} {s : ByteArray} {n : Nat} {L : Link.St} {ok : Bool} {v : Value} (h : LinkAt w l p vp O s n L) (hb : Below w.heap.size w w') (h1 : ok = true → v = .nilIface) (h2 : ok = false → ∃ x, v = errN x) : StepTo w l p vp O s n (L, ok) (.returned v) w' :=
  ⟨⟨v, rfl, h1, h2⟩, O, h.below hb, Only.of_below _ hb, fun j hj => Or.inl hj⟩
theorem ok_nil : (true = true → Value.nilIface = .nilIface) ∧ (true = false → ∃ x, Value.nilIface = errN x) := ⟨fun _ => rfl, fun h => by cases h⟩

set_option maxHeartbeats 2000000 in
set_option maxRecDepth 20000 in
theorem step_none1 (w : World) (l p : Nat) (vp : Value) (O : Nat → Prop) (s : ByteArray) (n : Nat) (L : Link.St) (h : LinkAt w l p vp O s n L) (hG : Link.Good s L) (h1 : s.size ≠ 0) (h2 : s.size ≤ 4096) (h3 : 1 ≤ n) (h4 : n ≤ 256) (hm0 : L.R.mark ≤ 900000) (N : Int) (hN : (Lit.int .i64 N).wf = true) (m : Nat) (hm : m < 18446744073709551616) (h0 : Link.left s n L = 0) :
    Calls Tryd.prog 28 #[.pointer (some ⟨l, 0, none⟩), .agg #[.int .i64 1, .int .i64 N, .int .u64 m]] w (StepTo w l p vp O s n (L, true)) := by
  have hcf := Link.left_all s n L hG h3
  have hcl := cuts_le s n h2 h3
  have hbx := row_alloc w #[.int .i64 1, .int .i64 N, .int .u64 m] 53
  have hb1 : Below w.heap.size w (w.alloc (.cells #[.int .i64 1, .int .i64 N, .int .u64 m] 53)) := bal (Below.refl _ _) _
  have hL1 := h.below hb1
  have hlw := h.row.lt
  have hc0 : 0 < Chunk.cuts s.size n := (Chunk.lt_cuts h3).2 (by omega)
  have hlO := h.recv.lt
  have hnl := h.nl
  obtain ⟨bx, hbx0⟩ : ∃ bx, bx = w.heap.size := ⟨_, rfl⟩
  have hP := Lib.hid (link_piece _ l p vp O s n L hL1 hG.frm h1 h2 h3 h4 hcf hcl N hN)
  rw [if_pos h0] at hP
  replace hL1 := Lib.hid hL1
  replace hbx := Lib.hid hbx
  replace h0 := Lib.hid h0
  replace hbx0 := Lib.hid hbx0
  replace hlO := Lib.hid hlO
  clear hG hN hm
  go_enter Tryd.func28, Tryd.ntmps28
  go_wp2_with fail
  refine hP.out.mono ?_
  rintro e w2 ⟨rfl, hb2⟩
  go_wp2
  go_ret
  exact StepTo.same h (by (repeat (first | exact Below.refl _ _ | assumption | refine bal ?_ _ | refine bdr ?_ | refine bdn ?_ _ | refine bst ?_ (by first | assumption | exact Nat.le_refl _ | omega) _ | refine bch ?_ (by assumption)))) ok_nil.1 ok_nil.2

set_option maxHeartbeats 2000000 in
set_option maxRecDepth 20000 in
theorem step_none5 (w : World) (l p : Nat) (vp : Value) (O : Nat → Prop) (s : ByteArray) (n : Nat) (L : Link.St) (h : LinkAt w l p vp O s n L) (hG : Link.Good s L) (h1 : s.size ≠ 0) (h2 : s.size ≤ 4096) (h3 : 1 ≤ n) (h4 : n ≤ 256) (hm0 : L.R.mark ≤ 900000) (N : Int) (hN : (Lit.int .i64 N).wf = true) (m : Nat) (hm : m < 18446744073709551616) (h0 : Link.left s n L = 0) :
    Calls Tryd.prog 28 #[.pointer (some ⟨l, 0, none⟩), .agg #[.int .i64 5, .int .i64 N, .int .u64 m]] w (StepTo w l p vp O s n (L, true)) := by
  have hcf := Link.left_all s n L hG h3
  have hcl := cuts_le s n h2 h3
  have hbx := row_alloc w #[.int .i64 5, .int .i64 N, .int .u64 m] 53
  have hb1 : Below w.heap.size w (w.alloc (.cells #[.int .i64 5, .int .i64 N, .int .u64 m] 53)) := bal (Below.refl _ _) _
  have hL1 := h.below hb1
  have hlw := h.row.lt
  have hc0 : 0 < Chunk.cuts s.size n := (Chunk.lt_cuts h3).2 (by omega)
  have hlO := h.recv.lt
  have hnl := h.nl
  obtain ⟨bx, hbx0⟩ : ∃ bx, bx = w.heap.size := ⟨_, rfl⟩
  have hP := Lib.hid (link_piece _ l p vp O s n L hL1 hG.frm h1 h2 h3 h4 hcf hcl N hN)
  rw [if_pos h0] at hP
  replace hL1 := Lib.hid hL1
  replace hbx := Lib.hid hbx
  replace h0 := Lib.hid h0
  replace hbx0 := Lib.hid hbx0
  replace hlO := Lib.hid hlO
  clear hG hN hm
  go_enter Tryd.func28, Tryd.ntmps28
  go_wp2_with fail
  refine hP.out.mono ?_
  rintro e w2 ⟨rfl, hb2⟩
  go_wp2
  go_ret
  exact StepTo.same h (by (repeat (first | exact Below.refl _ _ | assumption | refine bal ?_ _ | refine bdr ?_ | refine bdn ?_ _ | refine bst ?_ (by first | assumption | exact Nat.le_refl _ | omega) _ | refine bch ?_ (by assumption)))) ok_nil.1 ok_nil.2

set_option maxHeartbeats 2000000 in
set_option maxRecDepth 20000 in
theorem step_take1 (w : World) (l p : Nat) (vp : Value) (O : Nat → Prop) (s : ByteArray) (n : Nat) (L : Link.St) (h : LinkAt w l p vp O s n L) (hG : Link.Good s L) (h1 : s.size ≠ 0) (h2 : s.size ≤ 4096) (h3 : 1 ≤ n) (h4 : n ≤ 256) (hm0 : L.R.mark ≤ 900000) (N : Int) (hN : (Lit.int .i64 N).wf = true) (m : Nat) (hm : m < 18446744073709551616) (h0 : Link.left s n L ≠ 0) :
    Calls Tryd.prog 28 #[.pointer (some ⟨l, 0, none⟩), .agg #[.int .i64 1, .int .i64 N, .int .u64 m]] w (StepTo w l p vp O s n (Link.deliver s n L N, true)) := by
  have hcf := Link.left_all s n L hG h3
  have hcl := cuts_le s n h2 h3
  have hbx := row_alloc w #[.int .i64 1, .int .i64 N, .int .u64 m] 53
  have hb1 : Below w.heap.size w (w.alloc (.cells #[.int .i64 1, .int .i64 N, .int .u64 m] 53)) := bal (Below.refl _ _) _
  have hL1 := h.below hb1
  have hlw := h.row.lt
  have hc0 : 0 < Chunk.cuts s.size n := (Chunk.lt_cuts h3).2 (by omega)
  have hlO := h.recv.lt
  have hnl := h.nl
  obtain ⟨bx, hbx0⟩ : ∃ bx, bx = w.heap.size := ⟨_, rfl⟩
  have hP := Lib.hid (link_piece _ l p vp O s n L hL1 hG.frm h1 h2 h3 h4 hcf hcl N hN)
  rw [if_neg h0] at hP
  have hw := (Chunk.lt_cuts h3).1 (Link.which_lt s n L N h0)
  have hdl : Hid (Link.deliver s n L N = { L with R := Link.got s n L.R (Link.which s n L N) }) := Lib.hid (by unfold Link.deliver; rw [if_neg h0])
  have hls := line_size s n _ hw h3 h4 h2
  have hld := line_data s n (Link.which s n L N)
  have hTk := fun W (hR : RecvIs W p O 0 L.R) => recv_take_got W p 0 O L.R hR s n _ hG.inv h1 h2 h3 h4 hw _ hld
  generalize Link.which s n L N = ii at *
  clear hld hw
  generalize lineAt s n ii = ln at *
  replace hTk := Lib.hid hTk
  replace hL1 := Lib.hid hL1
  replace hbx := Lib.hid hbx
  replace h0 := Lib.hid h0
  replace hbx0 := Lib.hid hbx0
  replace hlO := Lib.hid hlO
  clear hG hN hm
  go_enter Tryd.func28, Tryd.ntmps28
  go_wp2_with fail
  generalize (w.alloc (.cells #[.int .i64 1, .int .i64 N, .int .u64 m] 53)) = w1 at *
  refine hP.out.mono ?_
  rintro e w2 ⟨rfl, hb2⟩
  have hbx2 := hbx.out.below hb2
  have hL2 := hL1.out.below hb2
  have b0 : w2.cell? ⟨w.heap.size, 0, none⟩ = some (.int .i64 1) := hbx2.cell 0
  have b2 : w2.cell? ⟨w.heap.size, 2, none⟩ = some (.int .u64 m) := hbx2.cell 2
  have l0 : w2.cell? ⟨l, 0, none⟩ = some (.pointer (some ⟨p, 0, none⟩)) := hL2.row.cell 0
  have hb02 : Below w.heap.size w w2 := bch hb1 hb2
  replace hbx2 := Lib.hid hbx2
  replace hL2 := Lib.hid hL2
  go_wp2_with fail
  refine (hTk.out _ hL2.out.recv).mono ?_
  rintro e w3 ⟨rfl, O', hR3, ho3, hO3⟩
  replace hR3 := Lib.hid hR3
  go_wp2
  go_ret
  have hch := hL2.out.change ho3 _ hR3.out hO3 hc0
  rw [hdl.out]
  have hsz := hb02.size
  exact ⟨⟨_, rfl, ok_nil.1, ok_nil.2⟩, O', hch, (Only.of_below _ hb02).trans (ho3.mono (fun j _ hj => Or.inr hj)), fun j hj => by rcases hO3 j hj with h | h; exact Or.inl h; exact Or.inr (by omega)⟩

set_option maxHeartbeats 2000000 in
set_option maxRecDepth 20000 in
theorem step_take5 (w : World) (l p : Nat) (vp : Value) (O : Nat → Prop) (s : ByteArray) (n : Nat) (L : Link.St) (h : LinkAt w l p vp O s n L) (hG : Link.Good s L) (h1 : s.size ≠ 0) (h2 : s.size ≤ 4096) (h3 : 1 ≤ n) (h4 : n ≤ 256) (hm0 : L.R.mark ≤ 900000) (N : Int) (hN : (Lit.int .i64 N).wf = true) (m : Nat) (hm : m < 18446744073709551616) (h0 : Link.left s n L ≠ 0) (hm2 : m % 4294967296 = 0) :
    Calls Tryd.prog 28 #[.pointer (some ⟨l, 0, none⟩), .agg #[.int .i64 5, .int .i64 N, .int .u64 m]] w (StepTo w l p vp O s n (Link.deliver s n L N, true)) := by
  have hcf := Link.left_all s n L hG h3
  have hcl := cuts_le s n h2 h3
  have hbx := row_alloc w #[.int .i64 5, .int .i64 N, .int .u64 m] 53
  have hb1 : Below w.heap.size w (w.alloc (.cells #[.int .i64 5, .int .i64 N, .int .u64 m] 53)) := bal (Below.refl _ _) _
  have hL1 := h.below hb1
  have hlw := h.row.lt
  have hc0 : 0 < Chunk.cuts s.size n := (Chunk.lt_cuts h3).2 (by omega)
  have hlO := h.recv.lt
  have hnl := h.nl
  obtain ⟨bx, hbx0⟩ : ∃ bx, bx = w.heap.size := ⟨_, rfl⟩
  have hP := Lib.hid (link_piece _ l p vp O s n L hL1 hG.frm h1 h2 h3 h4 hcf hcl N hN)
  rw [if_neg h0] at hP
  have hw := (Chunk.lt_cuts h3).1 (Link.which_lt s n L N h0)
  have hdl : Hid (Link.deliver s n L N = { L with R := Link.got s n L.R (Link.which s n L N) }) := Lib.hid (by unfold Link.deliver; rw [if_neg h0])
  have hls := line_size s n _ hw h3 h4 h2
  have hld := line_data s n (Link.which s n L N)
  have hTn := fun W => link_turn (lineAt s n (Link.which s n L N)) m W (by omega) hm
  rw [Link.turn_none _ _ hm2, ba_mk] at hTn
  have hTk := fun W (hR : RecvIs W p O 0 L.R) => recv_take_got W p 0 O L.R hR s n _ hG.inv h1 h2 h3 h4 hw _ hld
  generalize Link.which s n L N = ii at *
  clear hld hw
  generalize lineAt s n ii = ln at *
  replace hTk := Lib.hid hTk
  replace hTn := Lib.hid hTn
  replace hm2 := Lib.hid hm2
  replace hL1 := Lib.hid hL1
  replace hbx := Lib.hid hbx
  replace h0 := Lib.hid h0
  replace hbx0 := Lib.hid hbx0
  replace hlO := Lib.hid hlO
  clear hG hN hm
  go_enter Tryd.func28, Tryd.ntmps28
  go_wp2_with fail
  generalize (w.alloc (.cells #[.int .i64 5, .int .i64 N, .int .u64 m] 53)) = w1 at *
  refine hP.out.mono ?_
  rintro e w2 ⟨rfl, hb2⟩
  have hbx2 := hbx.out.below hb2
  have hL2 := hL1.out.below hb2
  have b0 : w2.cell? ⟨w.heap.size, 0, none⟩ = some (.int .i64 5) := hbx2.cell 0
  have b2 : w2.cell? ⟨w.heap.size, 2, none⟩ = some (.int .u64 m) := hbx2.cell 2
  have l0 : w2.cell? ⟨l, 0, none⟩ = some (.pointer (some ⟨p, 0, none⟩)) := hL2.row.cell 0
  have hb02 : Below w.heap.size w w2 := bch hb1 hb2
  replace hbx2 := Lib.hid hbx2
  replace hL2 := Lib.hid hL2
  go_wp2_with fail
  refine (hTn.out _).mono ?_
  rintro e w2' ⟨rfl, hb2'⟩
  replace hL2 := Lib.hid (hL2.out.below hb2')
  replace l0 : w2'.cell? ⟨l, 0, none⟩ = some (.pointer (some ⟨p, 0, none⟩)) := hL2.out.row.cell 0
  replace hb02 := bch hb02 hb2'
  clear b0 b2
  go_wp2_with fail
  refine (hTk.out _ hL2.out.recv).mono ?_
  rintro e w3 ⟨rfl, O', hR3, ho3, hO3⟩
  replace hR3 := Lib.hid hR3
  go_wp2
  go_ret
  have hch := hL2.out.change ho3 _ hR3.out hO3 hc0
  rw [hdl.out]
  have hsz := hb02.size
  exact ⟨⟨_, rfl, ok_nil.1, ok_nil.2⟩, O', hch, (Only.of_below _ hb02).trans (ho3.mono (fun j _ hj => Or.inr hj)), fun j hj => by rcases hO3 j hj with h | h; exact Or.inl h; exact Or.inr (by omega)⟩

set_option maxHeartbeats 2000000 in
set_option maxRecDepth 20000 in
theorem step_bad5 (w : World) (l p : Nat) (vp : Value) (O : Nat → Prop) (s : ByteArray) (n : Nat) (L : Link.St) (h : LinkAt w l p vp O s n L) (hG : Link.Good s L) (h1 : s.size ≠ 0) (h2 : s.size ≤ 4096) (h3 : 1 ≤ n) (h4 : n ≤ 256) (hm0 : L.R.mark ≤ 900000) (N : Int) (hN : (Lit.int .i64 N).wf = true) (m : Nat) (hm : m < 18446744073709551616) (h0 : Link.left s n L ≠ 0) (hm2 : m % 4294967296 ≠ 0) :
    Calls Tryd.prog 28 #[.pointer (some ⟨l, 0, none⟩), .agg #[.int .i64 5, .int .i64 N, .int .u64 m]] w (StepTo w l p vp O s n (L, false)) := by
  have hcf := Link.left_all s n L hG h3
  have hcl := cuts_le s n h2 h3
  have hbx := row_alloc w #[.int .i64 5, .int .i64 N, .int .u64 m] 53
  have hb1 : Below w.heap.size w (w.alloc (.cells #[.int .i64 5, .int .i64 N, .int .u64 m] 53)) := bal (Below.refl _ _) _
  have hL1 := h.below hb1
  have hlw := h.row.lt
  have hc0 : 0 < Chunk.cuts s.size n := (Chunk.lt_cuts h3).2 (by omega)
  have hlO := h.recv.lt
  have hnl := h.nl
  obtain ⟨bx, hbx0⟩ : ∃ bx, bx = w.heap.size := ⟨_, rfl⟩
  have hP := Lib.hid (link_piece _ l p vp O s n L hL1 hG.frm h1 h2 h3 h4 hcf hcl N hN)
  rw [if_neg h0] at hP
  have hw := (Chunk.lt_cuts h3).1 (Link.which_lt s n L N h0)
  have hls := line_size s n _ hw h3 h4 h2
  have hTn := fun W => link_turn (lineAt s n (Link.which s n L N)) m W (by omega) hm
  obtain ⟨x, hx, hx0⟩ := Link.read_spoilt (Chunk.pieceAt s n (Link.which s n L N)) m hm2
  rw [← line_data] at hx
  have hTk := fun W => recv_take_bad W p ⟨(Link.turn (lineAt s n (Link.which s n L N)).data.toList m).toArray⟩ (by rw [ba_size, Link.turn_len, Link.size_len]; omega) x hx
  generalize Link.which s n L N = ii at *
  clear hw hx
  generalize (⟨(Link.turn (lineAt s n ii).data.toList m).toArray⟩ : ByteArray) = lt at *
  generalize lineAt s n ii = ln at *
  replace hTk := Lib.hid hTk
  replace hTn := Lib.hid hTn
  replace hm2 := Lib.hid hm2
  replace hL1 := Lib.hid hL1
  replace hbx := Lib.hid hbx
  replace h0 := Lib.hid h0
  replace hbx0 := Lib.hid hbx0
  replace hlO := Lib.hid hlO
  clear hG hN hm
  go_enter Tryd.func28, Tryd.ntmps28
  go_wp2_with fail
  generalize (w.alloc (.cells #[.int .i64 5, .int .i64 N, .int .u64 m] 53)) = w1 at *
  refine hP.out.mono ?_
  rintro e w2 ⟨rfl, hb2⟩
  have hbx2 := hbx.out.below hb2
  have hL2 := hL1.out.below hb2
  have b0 : w2.cell? ⟨w.heap.size, 0, none⟩ = some (.int .i64 5) := hbx2.cell 0
  have b2 : w2.cell? ⟨w.heap.size, 2, none⟩ = some (.int .u64 m) := hbx2.cell 2
  have hb02 : Below w.heap.size w w2 := bch hb1 hb2
  replace hbx2 := Lib.hid hbx2
  replace hL2 := Lib.hid hL2
  go_wp2_with fail
  refine (hTn.out _).mono ?_
  rintro e w2' ⟨rfl, hb2'⟩
  have l0 : w2'.cell? ⟨l, 0, none⟩ = some (.pointer (some ⟨p, 0, none⟩)) := (hL2.out.below hb2').row.cell 0
  replace hb02 := bch hb02 hb2'
  clear b0 b2
  go_wp2_with fail
  refine (hTk.out _).mono ?_
  rintro e w3 ⟨rfl, hb3⟩
  go_wp2
  go_ret
  exact StepTo.same h (bch hb02 hb3) (fun h => by cases h) (fun _ => ⟨x, rfl⟩)

set_option maxHeartbeats 2000000 in
set_option maxRecDepth 20000 in
theorem step_sync (w : World) (l p : Nat) (vp : Value) (O : Nat → Prop) (s : ByteArray) (n : Nat) (L : Link.St) (h : LinkAt w l p vp O s n L) (hG : Link.Good s L) (h1 : s.size ≠ 0) (h2 : s.size ≤ 4096) (h3 : 1 ≤ n) (h4 : n ≤ 256) (hm0 : L.R.mark ≤ 900000) (N : Int) (hN : (Lit.int .i64 N).wf = true) (m : Nat) (hm : m < 18446744073709551616)  :
    Calls Tryd.prog 28 #[.pointer (some ⟨l, 0, none⟩), .agg #[.int .i64 2, .int .i64 N, .int .u64 m]] w (StepTo w l p vp O s n ({ L with R := Link.sync L.R }, true)) := by
  have hcf := Link.left_all s n L hG h3
  have hcl := cuts_le s n h2 h3
  have hbx := row_alloc w #[.int .i64 2, .int .i64 N, .int .u64 m] 53
  have hb1 : Below w.heap.size w (w.alloc (.cells #[.int .i64 2, .int .i64 N, .int .u64 m] 53)) := bal (Below.refl _ _) _
  have hL1 := h.below hb1
  have hlw := h.row.lt
  have hc0 : 0 < Chunk.cuts s.size n := (Chunk.lt_cuts h3).2 (by omega)
  have hlO := h.recv.lt
  have hnl := h.nl
  obtain ⟨bx, hbx0⟩ : ∃ bx, bx = w.heap.size := ⟨_, rfl⟩
  have hlen : L.R.came.length ≤ 4096 := by
    by_cases h0 : L.R.came = []
    · rw [h0]; simp
    · have := (hG.inv.some_ h0).2.len2
      rw [Link.size_len] at this
      have e : (L.R.data, L.R.came).2.length = L.R.came.length := rfl
      omega
  have hofl := Link.offer_le' s L hG
  have hsv : L.R.saved ≤ 4096 := by have := hG.inv.le2; omega
  have i1 := Recv.inv_save _ _ hG.inv
  have i2 := Recv.inv_flush _ _ i1 trivial
  replace hlen := Lib.hid hlen
  replace hsv := Lib.hid hsv
  replace i1 := Lib.hid i1
  replace i2 := Lib.hid i2
  replace hG := Lib.hid hG
  clear hN hm
  replace hL1 := Lib.hid hL1
  replace hbx := Lib.hid hbx
  replace hbx0 := Lib.hid hbx0
  replace hlO := Lib.hid hlO
  have hR1 := Lib.hid hL1.out.recv
  have l1 := hL1.out.row.cell 0
  have l1 : (w.alloc (.cells #[.int .i64 2, .int .i64 N, .int .u64 m] 53)).cell? ⟨l, 0, none⟩ = some (.pointer (some ⟨p, 0, none⟩)) := l1
  have hO1 : Only O w (w.alloc (.cells #[.int .i64 2, .int .i64 N, .int .u64 m] 53)) := Only.of_below O hb1
  go_enter Tryd.func28, Tryd.ntmps28
  go_wp2_with fail
  generalize (w.alloc (.cells #[.int .i64 2, .int .i64 N, .int .u64 m] 53)) = w1 at *
  have hO0 := Only.refl O w1
  go_wp2_with fail
  refine (recv_save _ p 0 O L.R hR1.out hlen.out hsv.out (by omega)).mono ?_
  rintro e w2 ⟨rfl, ⟨m2, hm2, hR2⟩, ho2⟩
  have hO2 := hO0.trans ho2
  clear l1
  have l2 : w2.cell? ⟨l, 0, none⟩ = some (.pointer (some ⟨p, 0, none⟩)) := (hL1.out.row.only hO2 hnl).cell 0
  replace hR2 := Lib.hid hR2
  go_wp2_with fail
  refine (recv_flush _ p m2 O L.R.save hR2.out).mono ?_
  rintro e w3 ⟨rfl, hR3, ho3⟩
  have hO3 := hO2.trans ho3
  clear l2
  have l3 : w3.cell? ⟨l, 0, none⟩ = some (.pointer (some ⟨p, 0, none⟩)) := (hL1.out.row.only hO3 hnl).cell 0
  replace hR3 := Lib.hid hR3
  go_wp2_with fail
  refine (recv_mark _ p 0 O L.R.save.flush hR3.out s.data.toList i2.out (by rw [Link.size_len]; exact h2) (by show L.R.mark ≤ _; omega) (by omega)).mono ?_
  rintro e w4 ⟨rfl, ⟨m4, hm4, hR4⟩, ho4⟩
  have hO4 := hO3.trans ho4
  clear l3
  have l4 : w4.cell? ⟨l, 0, none⟩ = some (.pointer (some ⟨p, 0, none⟩)) := (hL1.out.row.only hO4 hnl).cell 0
  replace hR4 := Lib.hid hR4
  go_wp2_with fail
  refine (recv_flush _ p m4 O L.R.save.flush.marks hR4.out).mono ?_
  rintro e w5 ⟨rfl, hR5, ho5⟩
  have hO5 := hO4.trans ho5
  clear l4
  have l5 : w5.cell? ⟨l, 0, none⟩ = some (.pointer (some ⟨p, 0, none⟩)) := (hL1.out.row.only hO5 hnl).cell 0
  replace hR5 := Lib.hid hR5
  go_wp2
  go_ret
  have hch := hL1.out.change hO5 (Link.sync L.R) hR5.out (fun k hk => Or.inl hk) hc0
  exact ⟨⟨_, rfl, ok_nil.1, ok_nil.2⟩, O, hch, (Only.of_below _ hb1).trans (hO5.mono (fun j _ hj => Or.inr hj)), fun j hj => Or.inl hj⟩

set_option maxHeartbeats 2000000 in
set_option maxRecDepth 20000 in
theorem step_crash0 (w : World) (l p : Nat) (vp : Value) (O : Nat → Prop) (s : ByteArray) (n : Nat) (L : Link.St) (h : LinkAt w l p vp O s n L) (hG : Link.Good s L) (h1 : s.size ≠ 0) (h2 : s.size ≤ 4096) (h3 : 1 ≤ n) (h4 : n ≤ 256) (hm0 : L.R.mark ≤ 900000) (N : Int) (hN : (Lit.int .i64 N).wf = true) (m : Nat) (hm : m < 18446744073709551616) (hq : N % 4 = 0) :
    Calls Tryd.prog 28 #[.pointer (some ⟨l, 0, none⟩), .agg #[.int .i64 3, .int .i64 N, .int .u64 m]] w (StepTo w l p vp O s n ({ L with R := (Link.ahead L.R 0).crash (keepM m) }, true)) := by
  have hcf := Link.left_all s n L hG h3
  have hcl := cuts_le s n h2 h3
  have hbx := row_alloc w #[.int .i64 3, .int .i64 N, .int .u64 m] 53
  have hb1 : Below w.heap.size w (w.alloc (.cells #[.int .i64 3, .int .i64 N, .int .u64 m] 53)) := bal (Below.refl _ _) _
  have hL1 := h.below hb1
  have hlw := h.row.lt
  have hc0 : 0 < Chunk.cuts s.size n := (Chunk.lt_cuts h3).2 (by omega)
  have hlO := h.recv.lt
  have hnl := h.nl
  obtain ⟨bx, hbx0⟩ : ∃ bx, bx = w.heap.size := ⟨_, rfl⟩
  have hi := int_i64 hN
  obtain ⟨u, hu⟩ : ∃ u, u = (N % 18446744073709551616).toNat := ⟨_, rfl⟩
  have hu3 : IntKind.u64.wrap N = (u : Int) := by rw [IntKind.wrap_u64]; omega
  have hu4 : (u : Int) % 4 = 0 := by omega
  have hu5 : (u : Int).tmod 4 = 0 := by rw [Int.tmod_eq_emod_of_nonneg (by omega)]; omega
  have hnb : ¬ O w.heap.size := fun h => absurd (hlO _ h) (Nat.lt_irrefl _)
  have hmm := Lib.hid hm
  replace hu := Lib.hid hu
  replace hq := Lib.hid hq
  have hlen : L.R.came.length ≤ 4096 := by
    by_cases h0 : L.R.came = []
    · rw [h0]; simp
    · have := (hG.inv.some_ h0).2.len2
      rw [Link.size_len] at this
      have e : (L.R.data, L.R.came).2.length = L.R.came.length := rfl
      omega
  have hofl := Link.offer_le' s L hG
  have hsv : L.R.saved ≤ 4096 := by have := hG.inv.le2; omega
  have i1 := Recv.inv_save _ _ hG.inv
  have i2 := Recv.inv_flush _ _ i1 trivial
  replace hlen := Lib.hid hlen
  replace hsv := Lib.hid hsv
  replace i1 := Lib.hid i1
  replace i2 := Lib.hid i2
  replace hG := Lib.hid hG
  clear hN hm
  replace hL1 := Lib.hid hL1
  replace hbx := Lib.hid hbx
  replace hbx0 := Lib.hid hbx0
  replace hlO := Lib.hid hlO
  have hR1 := Lib.hid hL1.out.recv
  have l1 : (w.alloc (.cells #[.int .i64 3, .int .i64 N, .int .u64 m] 53)).cell? ⟨l, 0, none⟩ = some (.pointer (some ⟨p, 0, none⟩)) := hL1.out.row.cell 0
  have b1 : (w.alloc (.cells #[.int .i64 3, .int .i64 N, .int .u64 m] 53)).cell? ⟨w.heap.size, 2, none⟩ = some (.int .u64 m) := hbx.out.cell 2
  have hO1 : Only O w (w.alloc (.cells #[.int .i64 3, .int .i64 N, .int .u64 m] 53)) := Only.of_below O hb1
  go_enter Tryd.func28, Tryd.ntmps28
  go_wp2_with fail
  generalize (w.alloc (.cells #[.int .i64 3, .int .i64 N, .int .u64 m] 53)) = w1 at *
  have hO0 := Only.refl O w1

  clear hO1

  go_wp2_with fail
  have hSz : TwoV ⟨l, 0, none⟩ (.pointer (some ⟨p, 0, none⟩)) ⟨w.heap.size, 2, none⟩ (.int .u64 m) w1.drew := ⟨l1, b1, trivial⟩
  (refine wp_region_held_drew (S := TwoV ⟨l, 0, none⟩ (.pointer (some ⟨p, 0, none⟩)) ⟨w.heap.size, 2, none⟩ (.int .u64 m)) (by kernel_rfl) ?_ (fun hHeld => ?_); ((try dsimp only); exact hSz))
  (refine held_take (i := 0) (v := ?_) rfl (by kernel_rfl) (by kernel_rfl) (by kernel_rfl) (fun _ _ _ h => h) (by kernel_rfl) (by assumption) ?_ ?_; rotate_left; (focus (intro w hSw; (obtain ⟨hSw1, hSw2, hSw3⟩ := hSw); (try dsimp only at hSw1 hSw2); go_simp; (try with_reducible rfl); done)); (simp only [Act.put, List.setIfInBounds_toArray, List.set_cons_zero, List.set_cons_succ]); refine held_take (i := 1) (v := ?_) rfl (by kernel_rfl) (by kernel_rfl) (by kernel_rfl) (fun _ _ _ h => h) (by kernel_rfl) (by assumption) ?_ ?_; rotate_left; (focus (intro w hSw; (obtain ⟨hSw1, hSw2, hSw3⟩ := hSw); (try dsimp only at hSw1 hSw2); go_simp; (try with_reducible rfl); done)); (simp only [Act.put, List.setIfInBounds_toArray, List.set_cons_zero, List.set_cons_succ]); refine held_take (i := 2) (v := ?_) rfl (by kernel_rfl) (by kernel_rfl) (by kernel_rfl) (fun _ _ _ h => h) (by kernel_rfl) (by assumption) ?_ ?_; rotate_left; (focus (intro w hSw; (obtain ⟨hSw1, hSw2, hSw3⟩ := hSw); (try dsimp only at hSw1 hSw2); go_simp; (try with_reducible rfl); done)); (simp only [Act.put, List.setIfInBounds_toArray, List.set_cons_zero, List.set_cons_succ]); refine held_take (i := 3) (v := ?_) rfl (by kernel_rfl) (by kernel_rfl) (by kernel_rfl) (fun _ _ _ h => h) (by kernel_rfl) (by assumption) ?_ ?_; rotate_left; (focus (intro w hSw; (obtain ⟨hSw1, hSw2, hSw3⟩ := hSw); (try dsimp only at hSw1 hSw2); go_simp; (try with_reducible rfl); done)); (simp only [Act.put, List.setIfInBounds_toArray, List.set_cons_zero, List.set_cons_succ]); refine held_take (i := 4) (v := ?_) rfl (by kernel_rfl) (by kernel_rfl) (by kernel_rfl) (fun _ _ _ h => h) (by kernel_rfl) (by assumption) ?_ ?_; rotate_left; (focus (intro w hSw; (obtain ⟨hSw1, hSw2, hSw3⟩ := hSw); (try dsimp only at hSw1 hSw2); go_simp; (try with_reducible rfl); done)); (simp only [Act.put, List.setIfInBounds_toArray, List.set_cons_zero, List.set_cons_succ]); refine held_take (i := 5) (v := ?_) rfl (by kernel_rfl) (by kernel_rfl) (by kernel_rfl) (fun _ _ _ h => h) (by kernel_rfl) (by assumption) ?_ ?_; rotate_left; (focus (intro w hSw; (obtain ⟨hSw1, hSw2, hSw3⟩ := hSw); (try dsimp only at hSw1 hSw2); go_simp; (try with_reducible rfl); done)); (simp only [Act.put, List.setIfInBounds_toArray, List.set_cons_zero, List.set_cons_succ]))
  (refine wpAnyH_ready (P := Tryd.prog) (md := .any) (rs := [6]) (by kernel_rfl) (by simp) ?_; refine held_cons rfl (by kernel_rfl) (fun K hK => ?_) AllReadyH.nil; ((go_simp; refine (recv_crash w1.drew p 0 O L.R (hR1.out.below (Below.refl _ _).drew) m hmm.out).mono ?_; rintro _ w9 ⟨rfl, ⟨O', hR9, hO9⟩, ho9⟩; replace hR9 := Lib.hid hR9); refine hK.out _ _ ?_ (fun hHeld => ?_); ((try dsimp only); exact ⟨ho9.cell hHeld.1 hnl, ho9.cell hHeld.2.1 hnb, trivial⟩); clear hK K; (try clear hHeld0); (try rename_i hHeld0)))
  (refine wpAnyH_done (by kernel_rfl) ?_ _)
  go_wp2
  go_ret
  have hOK : Only O w1 w9 := hO0.drew.trans ho9
  have hs9 := hO0.size
  have hsb := hb1.size
  have hch := hL1.out.change hOK ((Link.ahead L.R 0).crash (keepM m)) hR9.out (fun k hk => by rcases hO9 k hk with h | h; exact Or.inl h; exact Or.inr (by have e : w1.drew.heap.size = w1.heap.size := rfl; omega)) hc0
  exact ⟨⟨_, rfl, ok_nil.1, ok_nil.2⟩, O', hch, (Only.of_below _ hb1).trans (hOK.mono (fun j _ hj => Or.inr hj)), fun j hj => by rcases hO9 j hj with h | h; exact Or.inl h; exact Or.inr (by have e : w1.drew.heap.size = w1.heap.size := rfl; omega)⟩

set_option maxHeartbeats 2000000 in
set_option maxRecDepth 20000 in
theorem step_crash1 (w : World) (l p : Nat) (vp : Value) (O : Nat → Prop) (s : ByteArray) (n : Nat) (L : Link.St) (h : LinkAt w l p vp O s n L) (hG : Link.Good s L) (h1 : s.size ≠ 0) (h2 : s.size ≤ 4096) (h3 : 1 ≤ n) (h4 : n ≤ 256) (hm0 : L.R.mark ≤ 900000) (N : Int) (hN : (Lit.int .i64 N).wf = true) (m : Nat) (hm : m < 18446744073709551616) (hq : N % 4 = 1) :
    Calls Tryd.prog 28 #[.pointer (some ⟨l, 0, none⟩), .agg #[.int .i64 3, .int .i64 N, .int .u64 m]] w (StepTo w l p vp O s n ({ L with R := (Link.ahead L.R 1).crash (keepM m) }, true)) := by
  have hcf := Link.left_all s n L hG h3
  have hcl := cuts_le s n h2 h3
  have hbx := row_alloc w #[.int .i64 3, .int .i64 N, .int .u64 m] 53
  have hb1 : Below w.heap.size w (w.alloc (.cells #[.int .i64 3, .int .i64 N, .int .u64 m] 53)) := bal (Below.refl _ _) _
  have hL1 := h.below hb1
  have hlw := h.row.lt
  have hc0 : 0 < Chunk.cuts s.size n := (Chunk.lt_cuts h3).2 (by omega)
  have hlO := h.recv.lt
  have hnl := h.nl
  obtain ⟨bx, hbx0⟩ : ∃ bx, bx = w.heap.size := ⟨_, rfl⟩
  have hi := int_i64 hN
  obtain ⟨u, hu⟩ : ∃ u, u = (N % 18446744073709551616).toNat := ⟨_, rfl⟩
  have hu3 : IntKind.u64.wrap N = (u : Int) := by rw [IntKind.wrap_u64]; omega
  have hu4 : (u : Int) % 4 = 1 := by omega
  have hu5 : (u : Int).tmod 4 = 1 := by rw [Int.tmod_eq_emod_of_nonneg (by omega)]; omega
  have hnb : ¬ O w.heap.size := fun h => absurd (hlO _ h) (Nat.lt_irrefl _)
  have hmm := Lib.hid hm
  replace hu := Lib.hid hu
  replace hq := Lib.hid hq
  have hlen : L.R.came.length ≤ 4096 := by
    by_cases h0 : L.R.came = []
    · rw [h0]; simp
    · have := (hG.inv.some_ h0).2.len2
      rw [Link.size_len] at this
      have e : (L.R.data, L.R.came).2.length = L.R.came.length := rfl
      omega
  have hofl := Link.offer_le' s L hG
  have hsv : L.R.saved ≤ 4096 := by have := hG.inv.le2; omega
  have i1 := Recv.inv_save _ _ hG.inv
  have i2 := Recv.inv_flush _ _ i1 trivial
  replace hlen := Lib.hid hlen
  replace hsv := Lib.hid hsv
  replace i1 := Lib.hid i1
  replace i2 := Lib.hid i2
  replace hG := Lib.hid hG
  clear hN hm
  replace hL1 := Lib.hid hL1
  replace hbx := Lib.hid hbx
  replace hbx0 := Lib.hid hbx0
  replace hlO := Lib.hid hlO
  have hR1 := Lib.hid hL1.out.recv
  have l1 : (w.alloc (.cells #[.int .i64 3, .int .i64 N, .int .u64 m] 53)).cell? ⟨l, 0, none⟩ = some (.pointer (some ⟨p, 0, none⟩)) := hL1.out.row.cell 0
  have b1 : (w.alloc (.cells #[.int .i64 3, .int .i64 N, .int .u64 m] 53)).cell? ⟨w.heap.size, 2, none⟩ = some (.int .u64 m) := hbx.out.cell 2
  have hO1 : Only O w (w.alloc (.cells #[.int .i64 3, .int .i64 N, .int .u64 m] 53)) := Only.of_below O hb1
  go_enter Tryd.func28, Tryd.ntmps28
  go_wp2_with fail
  generalize (w.alloc (.cells #[.int .i64 3, .int .i64 N, .int .u64 m] 53)) = w1 at *
  have hO0 := Only.refl O w1

  go_wp2_with fail
  refine (recv_save _ p 0 O L.R hR1.out hlen.out hsv.out (by omega)).mono ?_
  rintro e w2 ⟨rfl, ⟨m2, hm2, hR2⟩, ho2⟩
  have hO2 := hO0.trans ho2
  clear l1
  have l2 : w2.cell? ⟨l, 0, none⟩ = some (.pointer (some ⟨p, 0, none⟩)) := (hL1.out.row.only hO2 hnl).cell 0
  replace hR2 := Lib.hid hR2
  have b2 : w2.cell? ⟨w.heap.size, 2, none⟩ = some (.int .u64 m) := (hbx.out.only hO2 hnb).cell 2
  clear b1

  go_wp2_with fail
  have hSz : TwoV ⟨l, 0, none⟩ (.pointer (some ⟨p, 0, none⟩)) ⟨w.heap.size, 2, none⟩ (.int .u64 m) w2.drew := ⟨l2, b2, trivial⟩
  (refine wp_region_held_drew (S := TwoV ⟨l, 0, none⟩ (.pointer (some ⟨p, 0, none⟩)) ⟨w.heap.size, 2, none⟩ (.int .u64 m)) (by kernel_rfl) ?_ (fun hHeld => ?_); ((try dsimp only); exact hSz))
  (refine held_take (i := 0) (v := ?_) rfl (by kernel_rfl) (by kernel_rfl) (by kernel_rfl) (fun _ _ _ h => h) (by kernel_rfl) (by assumption) ?_ ?_; rotate_left; (focus (intro w hSw; (obtain ⟨hSw1, hSw2, hSw3⟩ := hSw); (try dsimp only at hSw1 hSw2); go_simp; (try with_reducible rfl); done)); (simp only [Act.put, List.setIfInBounds_toArray, List.set_cons_zero, List.set_cons_succ]); refine held_take (i := 1) (v := ?_) rfl (by kernel_rfl) (by kernel_rfl) (by kernel_rfl) (fun _ _ _ h => h) (by kernel_rfl) (by assumption) ?_ ?_; rotate_left; (focus (intro w hSw; (obtain ⟨hSw1, hSw2, hSw3⟩ := hSw); (try dsimp only at hSw1 hSw2); go_simp; (try with_reducible rfl); done)); (simp only [Act.put, List.setIfInBounds_toArray, List.set_cons_zero, List.set_cons_succ]); refine held_take (i := 2) (v := ?_) rfl (by kernel_rfl) (by kernel_rfl) (by kernel_rfl) (fun _ _ _ h => h) (by kernel_rfl) (by assumption) ?_ ?_; rotate_left; (focus (intro w hSw; (obtain ⟨hSw1, hSw2, hSw3⟩ := hSw); (try dsimp only at hSw1 hSw2); go_simp; (try with_reducible rfl); done)); (simp only [Act.put, List.setIfInBounds_toArray, List.set_cons_zero, List.set_cons_succ]); refine held_take (i := 3) (v := ?_) rfl (by kernel_rfl) (by kernel_rfl) (by kernel_rfl) (fun _ _ _ h => h) (by kernel_rfl) (by assumption) ?_ ?_; rotate_left; (focus (intro w hSw; (obtain ⟨hSw1, hSw2, hSw3⟩ := hSw); (try dsimp only at hSw1 hSw2); go_simp; (try with_reducible rfl); done)); (simp only [Act.put, List.setIfInBounds_toArray, List.set_cons_zero, List.set_cons_succ]); refine held_take (i := 4) (v := ?_) rfl (by kernel_rfl) (by kernel_rfl) (by kernel_rfl) (fun _ _ _ h => h) (by kernel_rfl) (by assumption) ?_ ?_; rotate_left; (focus (intro w hSw; (obtain ⟨hSw1, hSw2, hSw3⟩ := hSw); (try dsimp only at hSw1 hSw2); go_simp; (try with_reducible rfl); done)); (simp only [Act.put, List.setIfInBounds_toArray, List.set_cons_zero, List.set_cons_succ]); refine held_take (i := 5) (v := ?_) rfl (by kernel_rfl) (by kernel_rfl) (by kernel_rfl) (fun _ _ _ h => h) (by kernel_rfl) (by assumption) ?_ ?_; rotate_left; (focus (intro w hSw; (obtain ⟨hSw1, hSw2, hSw3⟩ := hSw); (try dsimp only at hSw1 hSw2); go_simp; (try with_reducible rfl); done)); (simp only [Act.put, List.setIfInBounds_toArray, List.set_cons_zero, List.set_cons_succ]))
  (refine wpAnyH_ready (P := Tryd.prog) (md := .any) (rs := [6]) (by kernel_rfl) (by simp) ?_; refine held_cons rfl (by kernel_rfl) (fun K hK => ?_) AllReadyH.nil; ((go_simp; refine (recv_crash w2.drew p m2 O L.R.save (hR2.out.below (Below.refl _ _).drew) m hmm.out).mono ?_; rintro _ w9 ⟨rfl, ⟨O', hR9, hO9⟩, ho9⟩; replace hR9 := Lib.hid hR9); refine hK.out _ _ ?_ (fun hHeld => ?_); ((try dsimp only); exact ⟨ho9.cell hHeld.1 hnl, ho9.cell hHeld.2.1 hnb, trivial⟩); clear hK K; (try clear hHeld0); (try rename_i hHeld0)))
  (refine wpAnyH_done (by kernel_rfl) ?_ _)
  go_wp2
  go_ret
  have hOK : Only O w1 w9 := hO2.drew.trans ho9
  have hs9 := hO2.size
  have hsb := hb1.size
  have hch := hL1.out.change hOK ((Link.ahead L.R 1).crash (keepM m)) hR9.out (fun k hk => by rcases hO9 k hk with h | h; exact Or.inl h; exact Or.inr (by have e : w2.drew.heap.size = w2.heap.size := rfl; omega)) hc0
  exact ⟨⟨_, rfl, ok_nil.1, ok_nil.2⟩, O', hch, (Only.of_below _ hb1).trans (hOK.mono (fun j _ hj => Or.inr hj)), fun j hj => by rcases hO9 j hj with h | h; exact Or.inl h; exact Or.inr (by have e : w2.drew.heap.size = w2.heap.size := rfl; omega)⟩

set_option maxHeartbeats 2000000 in
set_option maxRecDepth 20000 in
theorem step_crash2 (w : World) (l p : Nat) (vp : Value) (O : Nat → Prop) (s : ByteArray) (n : Nat) (L : Link.St) (h : LinkAt w l p vp O s n L) (hG : Link.Good s L) (h1 : s.size ≠ 0) (h2 : s.size ≤ 4096) (h3 : 1 ≤ n) (h4 : n ≤ 256) (hm0 : L.R.mark ≤ 900000) (N : Int) (hN : (Lit.int .i64 N).wf = true) (m : Nat) (hm : m < 18446744073709551616) (hq : N % 4 = 2) :
    Calls Tryd.prog 28 #[.pointer (some ⟨l, 0, none⟩), .agg #[.int .i64 3, .int .i64 N, .int .u64 m]] w (StepTo w l p vp O s n ({ L with R := (Link.ahead L.R 2).crash (keepM m) }, true)) := by
  have hcf := Link.left_all s n L hG h3
  have hcl := cuts_le s n h2 h3
  have hbx := row_alloc w #[.int .i64 3, .int .i64 N, .int .u64 m] 53
  have hb1 : Below w.heap.size w (w.alloc (.cells #[.int .i64 3, .int .i64 N, .int .u64 m] 53)) := bal (Below.refl _ _) _
  have hL1 := h.below hb1
  have hlw := h.row.lt
  have hc0 : 0 < Chunk.cuts s.size n := (Chunk.lt_cuts h3).2 (by omega)
  have hlO := h.recv.lt
  have hnl := h.nl
  obtain ⟨bx, hbx0⟩ : ∃ bx, bx = w.heap.size := ⟨_, rfl⟩
  have hi := int_i64 hN
  obtain ⟨u, hu⟩ : ∃ u, u = (N % 18446744073709551616).toNat := ⟨_, rfl⟩
  have hu3 : IntKind.u64.wrap N = (u : Int) := by rw [IntKind.wrap_u64]; omega
  have hu4 : (u : Int) % 4 = 2 := by omega
  have hu5 : (u : Int).tmod 4 = 2 := by rw [Int.tmod_eq_emod_of_nonneg (by omega)]; omega
  have hnb : ¬ O w.heap.size := fun h => absurd (hlO _ h) (Nat.lt_irrefl _)
  have hmm := Lib.hid hm
  replace hu := Lib.hid hu
  replace hq := Lib.hid hq
  have hlen : L.R.came.length ≤ 4096 := by
    by_cases h0 : L.R.came = []
    · rw [h0]; simp
    · have := (hG.inv.some_ h0).2.len2
      rw [Link.size_len] at this
      have e : (L.R.data, L.R.came).2.length = L.R.came.length := rfl
      omega
  have hofl := Link.offer_le' s L hG
  have hsv : L.R.saved ≤ 4096 := by have := hG.inv.le2; omega
  have i1 := Recv.inv_save _ _ hG.inv
  have i2 := Recv.inv_flush _ _ i1 trivial
  replace hlen := Lib.hid hlen
  replace hsv := Lib.hid hsv
  replace i1 := Lib.hid i1
  replace i2 := Lib.hid i2
  replace hG := Lib.hid hG
  clear hN hm
  replace hL1 := Lib.hid hL1
  replace hbx := Lib.hid hbx
  replace hbx0 := Lib.hid hbx0
  replace hlO := Lib.hid hlO
  have hR1 := Lib.hid hL1.out.recv
  have l1 : (w.alloc (.cells #[.int .i64 3, .int .i64 N, .int .u64 m] 53)).cell? ⟨l, 0, none⟩ = some (.pointer (some ⟨p, 0, none⟩)) := hL1.out.row.cell 0
  have b1 : (w.alloc (.cells #[.int .i64 3, .int .i64 N, .int .u64 m] 53)).cell? ⟨w.heap.size, 2, none⟩ = some (.int .u64 m) := hbx.out.cell 2
  have hO1 : Only O w (w.alloc (.cells #[.int .i64 3, .int .i64 N, .int .u64 m] 53)) := Only.of_below O hb1
  go_enter Tryd.func28, Tryd.ntmps28
  go_wp2_with fail
  generalize (w.alloc (.cells #[.int .i64 3, .int .i64 N, .int .u64 m] 53)) = w1 at *
  have hO0 := Only.refl O w1

  go_wp2_with fail
  refine (recv_save _ p 0 O L.R hR1.out hlen.out hsv.out (by omega)).mono ?_
  rintro e w2 ⟨rfl, ⟨m2, hm2, hR2⟩, ho2⟩
  have hO2 := hO0.trans ho2
  clear l1
  have l2 : w2.cell? ⟨l, 0, none⟩ = some (.pointer (some ⟨p, 0, none⟩)) := (hL1.out.row.only hO2 hnl).cell 0
  replace hR2 := Lib.hid hR2
  have b2 : w2.cell? ⟨w.heap.size, 2, none⟩ = some (.int .u64 m) := (hbx.out.only hO2 hnb).cell 2
  clear b1

  go_wp2_with fail
  refine (recv_flush _ p m2 O L.R.save hR2.out).mono ?_
  rintro e w3 ⟨rfl, hR3, ho3⟩
  have hO3 := hO2.trans ho3
  clear l2
  have l3 : w3.cell? ⟨l, 0, none⟩ = some (.pointer (some ⟨p, 0, none⟩)) := (hL1.out.row.only hO3 hnl).cell 0
  replace hR3 := Lib.hid hR3
  have b3 : w3.cell? ⟨w.heap.size, 2, none⟩ = some (.int .u64 m) := (hbx.out.only hO3 hnb).cell 2
  clear b2

  go_wp2_with fail
  refine (recv_mark _ p 0 O L.R.save.flush hR3.out s.data.toList i2.out (by rw [Link.size_len]; exact h2) (by show L.R.mark ≤ _; omega) (by omega)).mono ?_
  rintro e w4 ⟨rfl, ⟨m4, hm4, hR4⟩, ho4⟩
  have hO4 := hO3.trans ho4
  clear l3
  have l4 : w4.cell? ⟨l, 0, none⟩ = some (.pointer (some ⟨p, 0, none⟩)) := (hL1.out.row.only hO4 hnl).cell 0
  replace hR4 := Lib.hid hR4
  have b4 : w4.cell? ⟨w.heap.size, 2, none⟩ = some (.int .u64 m) := (hbx.out.only hO4 hnb).cell 2
  clear b3

  go_wp2_with fail
  have hSz : TwoV ⟨l, 0, none⟩ (.pointer (some ⟨p, 0, none⟩)) ⟨w.heap.size, 2, none⟩ (.int .u64 m) w4.drew := ⟨l4, b4, trivial⟩
  (refine wp_region_held_drew (S := TwoV ⟨l, 0, none⟩ (.pointer (some ⟨p, 0, none⟩)) ⟨w.heap.size, 2, none⟩ (.int .u64 m)) (by kernel_rfl) ?_ (fun hHeld => ?_); ((try dsimp only); exact hSz))
  (refine held_take (i := 0) (v := ?_) rfl (by kernel_rfl) (by kernel_rfl) (by kernel_rfl) (fun _ _ _ h => h) (by kernel_rfl) (by assumption) ?_ ?_; rotate_left; (focus (intro w hSw; (obtain ⟨hSw1, hSw2, hSw3⟩ := hSw); (try dsimp only at hSw1 hSw2); go_simp; (try with_reducible rfl); done)); (simp only [Act.put, List.setIfInBounds_toArray, List.set_cons_zero, List.set_cons_succ]); refine held_take (i := 1) (v := ?_) rfl (by kernel_rfl) (by kernel_rfl) (by kernel_rfl) (fun _ _ _ h => h) (by kernel_rfl) (by assumption) ?_ ?_; rotate_left; (focus (intro w hSw; (obtain ⟨hSw1, hSw2, hSw3⟩ := hSw); (try dsimp only at hSw1 hSw2); go_simp; (try with_reducible rfl); done)); (simp only [Act.put, List.setIfInBounds_toArray, List.set_cons_zero, List.set_cons_succ]); refine held_take (i := 2) (v := ?_) rfl (by kernel_rfl) (by kernel_rfl) (by kernel_rfl) (fun _ _ _ h => h) (by kernel_rfl) (by assumption) ?_ ?_; rotate_left; (focus (intro w hSw; (obtain ⟨hSw1, hSw2, hSw3⟩ := hSw); (try dsimp only at hSw1 hSw2); go_simp; (try with_reducible rfl); done)); (simp only [Act.put, List.setIfInBounds_toArray, List.set_cons_zero, List.set_cons_succ]); refine held_take (i := 3) (v := ?_) rfl (by kernel_rfl) (by kernel_rfl) (by kernel_rfl) (fun _ _ _ h => h) (by kernel_rfl) (by assumption) ?_ ?_; rotate_left; (focus (intro w hSw; (obtain ⟨hSw1, hSw2, hSw3⟩ := hSw); (try dsimp only at hSw1 hSw2); go_simp; (try with_reducible rfl); done)); (simp only [Act.put, List.setIfInBounds_toArray, List.set_cons_zero, List.set_cons_succ]); refine held_take (i := 4) (v := ?_) rfl (by kernel_rfl) (by kernel_rfl) (by kernel_rfl) (fun _ _ _ h => h) (by kernel_rfl) (by assumption) ?_ ?_; rotate_left; (focus (intro w hSw; (obtain ⟨hSw1, hSw2, hSw3⟩ := hSw); (try dsimp only at hSw1 hSw2); go_simp; (try with_reducible rfl); done)); (simp only [Act.put, List.setIfInBounds_toArray, List.set_cons_zero, List.set_cons_succ]); refine held_take (i := 5) (v := ?_) rfl (by kernel_rfl) (by kernel_rfl) (by kernel_rfl) (fun _ _ _ h => h) (by kernel_rfl) (by assumption) ?_ ?_; rotate_left; (focus (intro w hSw; (obtain ⟨hSw1, hSw2, hSw3⟩ := hSw); (try dsimp only at hSw1 hSw2); go_simp; (try with_reducible rfl); done)); (simp only [Act.put, List.setIfInBounds_toArray, List.set_cons_zero, List.set_cons_succ]))
  (refine wpAnyH_ready (P := Tryd.prog) (md := .any) (rs := [6]) (by kernel_rfl) (by simp) ?_; refine held_cons rfl (by kernel_rfl) (fun K hK => ?_) AllReadyH.nil; ((go_simp; refine (recv_crash w4.drew p m4 O L.R.save.flush.marks (hR4.out.below (Below.refl _ _).drew) m hmm.out).mono ?_; rintro _ w9 ⟨rfl, ⟨O', hR9, hO9⟩, ho9⟩; replace hR9 := Lib.hid hR9); refine hK.out _ _ ?_ (fun hHeld => ?_); ((try dsimp only); exact ⟨ho9.cell hHeld.1 hnl, ho9.cell hHeld.2.1 hnb, trivial⟩); clear hK K; (try clear hHeld0); (try rename_i hHeld0)))
  (refine wpAnyH_done (by kernel_rfl) ?_ _)
  go_wp2
  go_ret
  have hOK : Only O w1 w9 := hO4.drew.trans ho9
  have hs9 := hO4.size
  have hsb := hb1.size
  have hch := hL1.out.change hOK ((Link.ahead L.R 2).crash (keepM m)) hR9.out (fun k hk => by rcases hO9 k hk with h | h; exact Or.inl h; exact Or.inr (by have e : w4.drew.heap.size = w4.heap.size := rfl; omega)) hc0
  exact ⟨⟨_, rfl, ok_nil.1, ok_nil.2⟩, O', hch, (Only.of_below _ hb1).trans (hOK.mono (fun j _ hj => Or.inr hj)), fun j hj => by rcases hO9 j hj with h | h; exact Or.inl h; exact Or.inr (by have e : w4.drew.heap.size = w4.heap.size := rfl; omega)⟩

set_option maxHeartbeats 2000000 in
set_option maxRecDepth 20000 in
theorem step_crash3 (w : World) (l p : Nat) (vp : Value) (O : Nat → Prop) (s : ByteArray) (n : Nat) (L : Link.St) (h : LinkAt w l p vp O s n L) (hG : Link.Good s L) (h1 : s.size ≠ 0) (h2 : s.size ≤ 4096) (h3 : 1 ≤ n) (h4 : n ≤ 256) (hm0 : L.R.mark ≤ 900000) (N : Int) (hN : (Lit.int .i64 N).wf = true) (m : Nat) (hm : m < 18446744073709551616) (hq : N % 4 = 3) :
    Calls Tryd.prog 28 #[.pointer (some ⟨l, 0, none⟩), .agg #[.int .i64 3, .int .i64 N, .int .u64 m]] w (StepTo w l p vp O s n ({ L with R := (Link.ahead L.R 3).crash (keepM m) }, true)) := by
  have hcf := Link.left_all s n L hG h3
  have hcl := cuts_le s n h2 h3
  have hbx := row_alloc w #[.int .i64 3, .int .i64 N, .int .u64 m] 53
  have hb1 : Below w.heap.size w (w.alloc (.cells #[.int .i64 3, .int .i64 N, .int .u64 m] 53)) := bal (Below.refl _ _) _
  have hL1 := h.below hb1
  have hlw := h.row.lt
  have hc0 : 0 < Chunk.cuts s.size n := (Chunk.lt_cuts h3).2 (by omega)
  have hlO := h.recv.lt
  have hnl := h.nl
  obtain ⟨bx, hbx0⟩ : ∃ bx, bx = w.heap.size := ⟨_, rfl⟩
  have hi := int_i64 hN
  obtain ⟨u, hu⟩ : ∃ u, u = (N % 18446744073709551616).toNat := ⟨_, rfl⟩
  have hu3 : IntKind.u64.wrap N = (u : Int) := by rw [IntKind.wrap_u64]; omega
  have hu4 : (u : Int) % 4 = 3 := by omega
  have hu5 : (u : Int).tmod 4 = 3 := by rw [Int.tmod_eq_emod_of_nonneg (by omega)]; omega
  have hnb : ¬ O w.heap.size := fun h => absurd (hlO _ h) (Nat.lt_irrefl _)
  have hmm := Lib.hid hm
  replace hu := Lib.hid hu
  replace hq := Lib.hid hq
  have hlen : L.R.came.length ≤ 4096 := by
    by_cases h0 : L.R.came = []
    · rw [h0]; simp
    · have := (hG.inv.some_ h0).2.len2
      rw [Link.size_len] at this
      have e : (L.R.data, L.R.came).2.length = L.R.came.length := rfl
      omega
  have hofl := Link.offer_le' s L hG
  have hsv : L.R.saved ≤ 4096 := by have := hG.inv.le2; omega
  have i1 := Recv.inv_save _ _ hG.inv
  have i2 := Recv.inv_flush _ _ i1 trivial
  replace hlen := Lib.hid hlen
  replace hsv := Lib.hid hsv
  replace i1 := Lib.hid i1
  replace i2 := Lib.hid i2
  replace hG := Lib.hid hG
  clear hN hm
  replace hL1 := Lib.hid hL1
  replace hbx := Lib.hid hbx
  replace hbx0 := Lib.hid hbx0
  replace hlO := Lib.hid hlO
  have hR1 := Lib.hid hL1.out.recv
  have l1 : (w.alloc (.cells #[.int .i64 3, .int .i64 N, .int .u64 m] 53)).cell? ⟨l, 0, none⟩ = some (.pointer (some ⟨p, 0, none⟩)) := hL1.out.row.cell 0
  have b1 : (w.alloc (.cells #[.int .i64 3, .int .i64 N, .int .u64 m] 53)).cell? ⟨w.heap.size, 2, none⟩ = some (.int .u64 m) := hbx.out.cell 2
  have hO1 : Only O w (w.alloc (.cells #[.int .i64 3, .int .i64 N, .int .u64 m] 53)) := Only.of_below O hb1
  go_enter Tryd.func28, Tryd.ntmps28
  go_wp2_with fail
  generalize (w.alloc (.cells #[.int .i64 3, .int .i64 N, .int .u64 m] 53)) = w1 at *
  have hO0 := Only.refl O w1

  go_wp2_with fail
  refine (recv_mark _ p 0 O L.R hR1.out s.data.toList hG.out.inv (by rw [Link.size_len]; exact h2) (by omega) (by omega)).mono ?_
  rintro e w2 ⟨rfl, ⟨m2, hm2, hR2⟩, ho2⟩
  have hO2 := hO0.trans ho2
  clear l1
  have l2 : w2.cell? ⟨l, 0, none⟩ = some (.pointer (some ⟨p, 0, none⟩)) := (hL1.out.row.only hO2 hnl).cell 0
  replace hR2 := Lib.hid hR2
  have b2 : w2.cell? ⟨w.heap.size, 2, none⟩ = some (.int .u64 m) := (hbx.out.only hO2 hnb).cell 2
  clear b1

  go_wp2_with fail
  have hSz : TwoV ⟨l, 0, none⟩ (.pointer (some ⟨p, 0, none⟩)) ⟨w.heap.size, 2, none⟩ (.int .u64 m) w2.drew := ⟨l2, b2, trivial⟩
  (refine wp_region_held_drew (S := TwoV ⟨l, 0, none⟩ (.pointer (some ⟨p, 0, none⟩)) ⟨w.heap.size, 2, none⟩ (.int .u64 m)) (by kernel_rfl) ?_ (fun hHeld => ?_); ((try dsimp only); exact hSz))
  (refine held_take (i := 0) (v := ?_) rfl (by kernel_rfl) (by kernel_rfl) (by kernel_rfl) (fun _ _ _ h => h) (by kernel_rfl) (by assumption) ?_ ?_; rotate_left; (focus (intro w hSw; (obtain ⟨hSw1, hSw2, hSw3⟩ := hSw); (try dsimp only at hSw1 hSw2); go_simp; (try with_reducible rfl); done)); (simp only [Act.put, List.setIfInBounds_toArray, List.set_cons_zero, List.set_cons_succ]); refine held_take (i := 1) (v := ?_) rfl (by kernel_rfl) (by kernel_rfl) (by kernel_rfl) (fun _ _ _ h => h) (by kernel_rfl) (by assumption) ?_ ?_; rotate_left; (focus (intro w hSw; (obtain ⟨hSw1, hSw2, hSw3⟩ := hSw); (try dsimp only at hSw1 hSw2); go_simp; (try with_reducible rfl); done)); (simp only [Act.put, List.setIfInBounds_toArray, List.set_cons_zero, List.set_cons_succ]); refine held_take (i := 2) (v := ?_) rfl (by kernel_rfl) (by kernel_rfl) (by kernel_rfl) (fun _ _ _ h => h) (by kernel_rfl) (by assumption) ?_ ?_; rotate_left; (focus (intro w hSw; (obtain ⟨hSw1, hSw2, hSw3⟩ := hSw); (try dsimp only at hSw1 hSw2); go_simp; (try with_reducible rfl); done)); (simp only [Act.put, List.setIfInBounds_toArray, List.set_cons_zero, List.set_cons_succ]); refine held_take (i := 3) (v := ?_) rfl (by kernel_rfl) (by kernel_rfl) (by kernel_rfl) (fun _ _ _ h => h) (by kernel_rfl) (by assumption) ?_ ?_; rotate_left; (focus (intro w hSw; (obtain ⟨hSw1, hSw2, hSw3⟩ := hSw); (try dsimp only at hSw1 hSw2); go_simp; (try with_reducible rfl); done)); (simp only [Act.put, List.setIfInBounds_toArray, List.set_cons_zero, List.set_cons_succ]); refine held_take (i := 4) (v := ?_) rfl (by kernel_rfl) (by kernel_rfl) (by kernel_rfl) (fun _ _ _ h => h) (by kernel_rfl) (by assumption) ?_ ?_; rotate_left; (focus (intro w hSw; (obtain ⟨hSw1, hSw2, hSw3⟩ := hSw); (try dsimp only at hSw1 hSw2); go_simp; (try with_reducible rfl); done)); (simp only [Act.put, List.setIfInBounds_toArray, List.set_cons_zero, List.set_cons_succ]); refine held_take (i := 5) (v := ?_) rfl (by kernel_rfl) (by kernel_rfl) (by kernel_rfl) (fun _ _ _ h => h) (by kernel_rfl) (by assumption) ?_ ?_; rotate_left; (focus (intro w hSw; (obtain ⟨hSw1, hSw2, hSw3⟩ := hSw); (try dsimp only at hSw1 hSw2); go_simp; (try with_reducible rfl); done)); (simp only [Act.put, List.setIfInBounds_toArray, List.set_cons_zero, List.set_cons_succ]))
  (refine wpAnyH_ready (P := Tryd.prog) (md := .any) (rs := [6]) (by kernel_rfl) (by simp) ?_; refine held_cons rfl (by kernel_rfl) (fun K hK => ?_) AllReadyH.nil; ((go_simp; refine (recv_crash w2.drew p m2 O L.R.marks (hR2.out.below (Below.refl _ _).drew) m hmm.out).mono ?_; rintro _ w9 ⟨rfl, ⟨O', hR9, hO9⟩, ho9⟩; replace hR9 := Lib.hid hR9); refine hK.out _ _ ?_ (fun hHeld => ?_); ((try dsimp only); exact ⟨ho9.cell hHeld.1 hnl, ho9.cell hHeld.2.1 hnb, trivial⟩); clear hK K; (try clear hHeld0); (try rename_i hHeld0)))
  (refine wpAnyH_done (by kernel_rfl) ?_ _)
  go_wp2
  go_ret
  have hOK : Only O w1 w9 := hO2.drew.trans ho9
  have hs9 := hO2.size
  have hsb := hb1.size
  have hch := hL1.out.change hOK ((Link.ahead L.R 3).crash (keepM m)) hR9.out (fun k hk => by rcases hO9 k hk with h | h; exact Or.inl h; exact Or.inr (by have e : w2.drew.heap.size = w2.heap.size := rfl; omega)) hc0
  exact ⟨⟨_, rfl, ok_nil.1, ok_nil.2⟩, O', hch, (Only.of_below _ hb1).trans (hOK.mono (fun j _ hj => Or.inr hj)), fun j hj => by rcases hO9 j hj with h | h; exact Or.inl h; exact Or.inr (by have e : w2.drew.heap.size = w2.heap.size := rfl; omega)⟩

set_option maxHeartbeats 2000000 in
set_option maxRecDepth 20000 in
theorem step_resume (w : World) (l p : Nat) (vp : Value) (O : Nat → Prop) (s : ByteArray) (n : Nat) (L : Link.St) (h : LinkAt w l p vp O s n L) (hG : Link.Good s L) (h1 : s.size ≠ 0) (h2 : s.size ≤ 4096) (h3 : 1 ≤ n) (h4 : n ≤ 256) (hm0 : L.R.mark ≤ 900000) (N : Int) (hN : (Lit.int .i64 N).wf = true) (m : Nat) (hm : m < 18446744073709551616)  :
    Calls Tryd.prog 28 #[.pointer (some ⟨l, 0, none⟩), .agg #[.int .i64 4, .int .i64 N, .int .u64 m]] w (StepTo w l p vp O s n ({ L with frm := L.R.offer }, true)) := by
  have hcf := Link.left_all s n L hG h3
  have hcl := cuts_le s n h2 h3
  have hbx := row_alloc w #[.int .i64 4, .int .i64 N, .int .u64 m] 53
  have hb1 : Below w.heap.size w (w.alloc (.cells #[.int .i64 4, .int .i64 N, .int .u64 m] 53)) := bal (Below.refl _ _) _
  have hL1 := h.below hb1
  have hlw := h.row.lt
  have hc0 : 0 < Chunk.cuts s.size n := (Chunk.lt_cuts h3).2 (by omega)
  have hlO := h.recv.lt
  have hnl := h.nl
  obtain ⟨bx, hbx0⟩ : ∃ bx, bx = w.heap.size := ⟨_, rfl⟩
  have hlen : L.R.came.length ≤ 4096 := by
    by_cases h0 : L.R.came = []
    · rw [h0]; simp
    · have := (hG.inv.some_ h0).2.len2
      rw [Link.size_len] at this
      have e : (L.R.data, L.R.came).2.length = L.R.came.length := rfl
      omega
  have hofl := Link.offer_le' s L hG
  have hsv : L.R.saved ≤ 4096 := by have := hG.inv.le2; omega
  have i1 := Recv.inv_save _ _ hG.inv
  have i2 := Recv.inv_flush _ _ i1 trivial
  replace hlen := Lib.hid hlen
  replace hsv := Lib.hid hsv
  replace i1 := Lib.hid i1
  replace i2 := Lib.hid i2
  replace hG := Lib.hid hG
  clear hN hm
  replace hL1 := Lib.hid hL1
  replace hbx := Lib.hid hbx
  replace hbx0 := Lib.hid hbx0
  replace hlO := Lib.hid hlO
  have hf := Lib.hid (recv_offer _ p 0 O L.R hL1.out.recv hlen.out)
  go_enter Tryd.func28, Tryd.ntmps28
  have l1 : (w.alloc (.cells #[.int .i64 4, .int .i64 N, .int .u64 m] 53)).cell? ⟨l, 0, none⟩ = some (.pointer (some ⟨p, 0, none⟩)) := hL1.out.row.cell 0
  go_wp2_with fail
  generalize (w.alloc (.cells #[.int .i64 4, .int .i64 N, .int .u64 m] 53)) = w1 at *
  refine hf.out.mono ?_
  rintro e w2 ⟨rfl, hb2⟩
  have hL2 := hL1.out.below hb2
  have l2 : w2.cell? ⟨l, 3, none⟩ = some (.int .i64 L.frm) := hL2.row.cell 3
  have f2 := hL2.row.frozen 3 (by simp)
  replace hL2 := Lib.hid hL2
  go_wp2
  go_ret
  have hS : Only (fun j => j = l) w2 (w2.setCell ⟨l, 3, none⟩ (.int .i64 L.R.offer)) := (Only.refl (fun j => j = l) w2).set (p := ⟨l, 3, none⟩) (Or.inl rfl) _
  refine ⟨⟨_, rfl, ok_nil.1, ok_nil.2⟩, O, { row := hL2.out.row.set 3 (.int .i64 L.R.offer), pcs := hL2.out.pcs.only hS (fun k hk => (h.npc k hk).2), recv := hL2.out.recv.only hS (fun k hk e => hnl (e ▸ hk)), nl := hnl, npc := h.npc }, ((Only.of_below _ hb1).chain hb2).trans (hS.mono (fun j _ hj => Or.inl hj)), fun j hj => Or.inl hj⟩

set_option maxHeartbeats 2000000 in
set_option maxRecDepth 20000 in
theorem step_no (w : World) (l p : Nat) (vp : Value) (O : Nat → Prop) (s : ByteArray) (n : Nat) (L : Link.St) (h : LinkAt w l p vp O s n L) (hG : Link.Good s L) (h1 : s.size ≠ 0) (h2 : s.size ≤ 4096) (h3 : 1 ≤ n) (h4 : n ≤ 256) (hm0 : L.R.mark ≤ 900000) (N : Int) (hN : (Lit.int .i64 N).wf = true) (m : Nat) (hm : m < 18446744073709551616) (k : Int) (k1 : k ≠ 1) (k2 : k ≠ 2) (k3 : k ≠ 3) (k4 : k ≠ 4) (k5 : k ≠ 5) :
    Calls Tryd.prog 28 #[.pointer (some ⟨l, 0, none⟩), .agg #[.int .i64 k, .int .i64 N, .int .u64 m]] w (StepTo w l p vp O s n (L, false)) := by
  have d1 : ((k : Int) == 1) = false := by simpa using k1
  have d2 : ((k : Int) == 2) = false := by simpa using k2
  have d3 : ((k : Int) == 3) = false := by simpa using k3
  have d4 : ((k : Int) == 4) = false := by simpa using k4
  have d5 : ((k : Int) == 5) = false := by simpa using k5
  have h' := Lib.hid h
  clear hG hN hm h
  go_enter Tryd.func28, Tryd.ntmps28
  go_wp2
  go_ret
  exact StepTo.same h'.out (by (repeat (first | exact Below.refl _ _ | assumption | refine bal ?_ _ | refine bdr ?_ | refine bdn ?_ _ | refine bst ?_ (by first | assumption | exact Nat.le_refl _ | omega) _ | refine bch ?_ (by assumption)))) (fun h => by cases h) (fun _ => ⟨1, rfl⟩)

theorem link_step (w : World) (l p : Nat) (vp : Value) (O : Nat → Prop) (s : ByteArray) (n : Nat) (L : Link.St) (h : LinkAt w l p vp O s n L) (hG : Link.Good s L) (h1 : s.size ≠ 0) (h2 : s.size ≤ 4096) (h3 : 1 ≤ n) (h4 : n ≤ 256) (hm0 : L.R.mark ≤ 900000) (N : Int) (hN : (Lit.int .i64 N).wf = true) (m : Nat) (hm : m < 18446744073709551616) (k : Int) :
    Calls Tryd.prog 28 #[.pointer (some ⟨l, 0, none⟩), .agg #[.int .i64 k, .int .i64 N, .int .u64 m]] w (StepTo w l p vp O s n (Link.step s n L k N m)) := by
  by_cases k1 : k = 1
  · subst k1
    have e : Link.step s n L 1 N m = (Link.deliver s n L N, true) := by unfold Link.step; rw [if_pos rfl]
    rw [e]
    by_cases h0 : Link.left s n L = 0
    · have e2 : Link.deliver s n L N = L := by unfold Link.deliver; rw [if_pos h0]
      rw [e2]
      exact step_none1 w l p vp O s n L h hG h1 h2 h3 h4 hm0 N hN m hm h0
    · exact step_take1 w l p vp O s n L h hG h1 h2 h3 h4 hm0 N hN m hm h0
  · by_cases k5 : k = 5
    · subst k5
      have e : Link.step s n L 5 N m = if Link.left s n L = 0 ∨ m % 4294967296 = 0 then (Link.deliver s n L N, true) else (L, false) := by unfold Link.step; rw [if_neg (by decide), if_pos rfl]
      rw [e]
      by_cases h0 : Link.left s n L = 0
      · have e2 : Link.deliver s n L N = L := by unfold Link.deliver; rw [if_pos h0]
        rw [if_pos (Or.inl h0), e2]
        exact step_none5 w l p vp O s n L h hG h1 h2 h3 h4 hm0 N hN m hm h0
      · by_cases hm2 : m % 4294967296 = 0
        · rw [if_pos (Or.inr hm2)]
          exact step_take5 w l p vp O s n L h hG h1 h2 h3 h4 hm0 N hN m hm h0 hm2
        · rw [if_neg (fun h => h.elim h0 hm2)]
          exact step_bad5 w l p vp O s n L h hG h1 h2 h3 h4 hm0 N hN m hm h0 hm2
    · by_cases k2 : k = 2
      · subst k2
        have e : Link.step s n L 2 N m = ({ L with R := Link.sync L.R }, true) := by unfold Link.step; rw [if_neg (by decide), if_neg (by decide), if_pos rfl]
        rw [e]
        exact step_sync w l p vp O s n L h hG h1 h2 h3 h4 hm0 N hN m hm
      · by_cases k3 : k = 3
        · subst k3
          have e : Link.step s n L 3 N m = ({ L with R := (Link.ahead L.R (N % 4).toNat).crash (keepM m) }, true) := by unfold Link.step; rw [if_neg (by decide), if_neg (by decide), if_neg (by decide), if_pos rfl]
          rw [e]
          have hq : N % 4 = 0 ∨ N % 4 = 1 ∨ N % 4 = 2 ∨ N % 4 = 3 := by omega
          rcases hq with hq | hq | hq | hq
          · rw [hq]; exact step_crash0 w l p vp O s n L h hG h1 h2 h3 h4 hm0 N hN m hm hq
          · rw [hq]; exact step_crash1 w l p vp O s n L h hG h1 h2 h3 h4 hm0 N hN m hm hq
          · rw [hq]; exact step_crash2 w l p vp O s n L h hG h1 h2 h3 h4 hm0 N hN m hm hq
          · rw [hq]; exact step_crash3 w l p vp O s n L h hG h1 h2 h3 h4 hm0 N hN m hm hq
        · by_cases k4 : k = 4
          · subst k4
            have e : Link.step s n L 4 N m = ({ L with frm := L.R.offer }, true) := by unfold Link.step; rw [if_neg (by decide), if_neg (by decide), if_neg (by decide), if_neg (by decide), if_pos rfl]
            rw [e]
            exact step_resume w l p vp O s n L h hG h1 h2 h3 h4 hm0 N hN m hm
          · have e : Link.step s n L k N m = (L, false) := by unfold Link.step; rw [if_neg k1, if_neg k5, if_neg k2, if_neg k3, if_neg k4]
            rw [e]
            exact step_no w l p vp O s n L h hG h1 h2 h3 h4 hm0 N hN m hm k k1 k2 k3 k4 k5

end Go.Proofs.YtdpdnkjpjoccmaaDoor
