/- Logs in memory; the walks of log.New, Have, Writes, Cells. -/
import Derived.Test.YtdbpiabcpjgblaaDoorWStoreOf
import Derived.Test.YtdbpiabcpjgblaaDoorWCloneE
import Derived.Test.YtdbpiabcpjgblaaDoorWCloneWr
namespace Go.Proofs.YtdbpiabcpjgblaaDoor
open Go.RowKit
set_option linter.unusedVariables false
set_option linter.unusedSimpArgs false
/-- What a log holds. -/
structure Lg where
  rep : Int
  H : List Vec.Entry
  W : List WrB
/-- A log at p: its row, and two lists of its own. -/
structure LogIs (w : World) (base p : Nat) (m : Lg) (hv wv : Value) : Prop where
  row : Row w p 63 [.int .i64 m.rep, hv, wv]
  hav : w.ownsRow base 34 2 hv m.H.length (m.H.flatMap entCells)
  wri : w.ownsRow base 25 6 wv m.W.length (m.W.flatMap wrBCells)
  lo : base ≤ p
/-- The blocks that a log has. -/
def LMine (p : Nat) (hv wv : Value) (j : Nat) : Prop := j = p ∨ hv.ownBlock = some j ∨ wv.ownBlock = some j
theorem LogIs.only {S : Nat → Prop} {w w' : World} {base p : Nat} {m : Lg} {hv wv : Value} (h : LogIs w base p m hv wv) (ho : Only S w w') (hn : ∀ j, LMine p hv wv j → ¬ S j) : LogIs w' base p m hv wv :=
  ⟨h.row.only ho (hn p (.inl rfl)), owns_only h.hav ho fun j hj => hn j (.inr (.inl hj)), owns_only h.wri ho fun j hj => hn j (.inr (.inr hj)), h.lo⟩
theorem LogIs.below {w w' : World} {base p : Nat} {m : Lg} {hv wv : Value} (h : LogIs w base p m hv wv) (hb : Below w.heap.size w w') : LogIs w' base p m hv wv :=
  ⟨h.row.below hb, owns_below h.hav hb, owns_below h.wri hb, h.lo⟩
theorem LogIs.mine_lo {w : World} {base p : Nat} {m : Lg} {hv wv : Value} (h : LogIs w base p m hv wv) {j : Nat} (hj : LMine p hv wv j) : base ≤ j := by
  rcases hj with rfl | hj | hj
  · exact h.lo
  · exact (h.hav.lt j hj).1
  · exact (h.wri.lt j hj).1
theorem LogIs.mine_lt {w : World} {base p : Nat} {m : Lg} {hv wv : Value} (h : LogIs w base p m hv wv) {j : Nat} (hj : LMine p hv wv j) : j < w.heap.size := by
  rcases hj with rfl | hj | hj
  · exact h.row.lt
  · exact (h.hav.lt j hj).2
  · exact (h.wri.lt j hj).2
theorem LogIs.base_le {w : World} {base base' p : Nat} {m : Lg} {hv wv : Value} (h : LogIs w base p m hv wv) (hb : base' ≤ base) : LogIs w base' p m hv wv :=
  ⟨h.row, owns_base h.hav hb, owns_base h.wri hb, Nat.le_trans hb h.lo⟩
def NewLog (w : World) (r : Int) (e : Ending) (w' : World) : Prop := ∃ p, e = .returned (.tuple #[.pointer (some ⟨p, 0, none⟩), .nilIface]) ∧ LogIs w' w.heap.size p ⟨r, [], []⟩ (.slice none 0 0) (.slice none 0 0) ∧ Below w.heap.size w w'
set_option maxHeartbeats 1000000 in
theorem log_new (r : Int) (w : World) (h0 : 0 ≤ r) (h1 : r ≤ 200) : Calls Tryd.prog 8 #[.int .i64 r] w (NewLog w r) := by
  have d0 : decide (r < 0) = false := by simp; omega
  have d1 : decide (200 < r) = false := by simp; omega
  replace h0 := Lib.hid h0
  replace h1 := Lib.hid h1
  go_enter Tryd.func8, Tryd.ntmps8
  go_wp2
  go_ret2
  exact ⟨w.heap.size, rfl, ⟨row_at _ _ rfl, World.ownsRow_nil _ _ _ _, World.ownsRow_nil _ _ _ _, Nat.le_refl _⟩, by (repeat (first | exact Below.refl _ _ | assumption | refine bal ?_ _ | refine bdr ?_ | refine bdn ?_ _ | refine bst ?_ (by first | assumption | exact Nat.le_refl _ | omega) _ | refine bch ?_ (by assumption)))⟩
set_option maxHeartbeats 1000000 in
theorem log_have (base p : Nat) (m : Lg) (hv wv : Value) (w : World) (h : LogIs w base p m hv wv) (hl : m.H.length ≤ 1000) :
    Calls Tryd.prog 17 #[.pointer (some ⟨p, 0, none⟩)] w fun e w' => (∃ u, e = .returned u ∧ w'.ownsRow w.heap.size 34 2 u m.H.length (m.H.flatMap entCells)) ∧ Below w.heap.size w w' := by
  have hC := Lib.hid (clone_ents hv m.H w (ListIs.of_owns h.hav) (by omega))
  have q := h.row
  clear h
  (have c0 := q.cell 0; have c1 := q.cell 1; have c2 := q.cell 2; simp only [List.set_cons_succ, List.set_cons_zero, List.getElem?_cons_zero, List.getElem?_cons_succ] at c0 c1 c2)
  go_enter Tryd.func17, Tryd.ntmps17
  go_wp2_with (go_at_call 30; refine hC.out.mono ?_; rintro _ w2 ⟨⟨u, rfl, hu⟩, hb⟩)
  go_ret
  exact ⟨⟨_, rfl, hu⟩, hb⟩
set_option maxHeartbeats 1000000 in
theorem log_writes (base p : Nat) (m : Lg) (hv wv : Value) (w : World) (h : LogIs w base p m hv wv) (hl : m.W.length ≤ 1000) :
    Calls Tryd.prog 13 #[.pointer (some ⟨p, 0, none⟩)] w fun e w' => (∃ u, e = .returned u ∧ w'.ownsRow w.heap.size 25 6 u m.W.length (m.W.flatMap wrBCells)) ∧ Below w.heap.size w w' := by
  have hC := Lib.hid (clone_wrs wv m.W w (ListIs.of_owns h.wri) (by omega))
  have q := h.row
  clear h
  (have c0 := q.cell 0; have c1 := q.cell 1; have c2 := q.cell 2; simp only [List.set_cons_succ, List.set_cons_zero, List.getElem?_cons_zero, List.getElem?_cons_succ] at c0 c1 c2)
  go_enter Tryd.func13, Tryd.ntmps13
  go_wp2_with (go_at_call 9; refine hC.out.mono ?_; rintro _ w2 ⟨⟨u, rfl, hu⟩, hb⟩)
  go_ret
  exact ⟨⟨_, rfl, hu⟩, hb⟩
def CelsRet1 (w : World) (F : ByteArray → St.Val) (e : Ending) (w' : World) : Prop :=
  ∃ (v : Value) (L : List CelB), e = .returned v ∧ w'.ownsRow w.heap.size 59 5 v L.length (L.flatMap celCells) ∧ (∀ x ∈ L, w'.ownsRow w.heap.size 9 1 (.slice x.la x.ln x.lc) x.cel.val.list.length (x.cel.val.list.flatMap strCells)) ∧ St.IsCells (L.map CelB.cel) F ∧ Below w.heap.size w w'
set_option maxHeartbeats 1000000 in
theorem log_cells (base p : Nat) (m : Lg) (hv wv : Value) (w : World) (h : LogIs w base p m hv wv) (hr : ∀ x ∈ m.W, Right_ x) (hl : m.W.length ≤ 1000) :
    Calls Tryd.prog 19 #[.pointer (some ⟨p, 0, none⟩)] w (CelsRet1 w (St.at_ (m.W.map WrB.sw))) := by
  have hC := Lib.hid (store_of wv m.W w (ListIs.of_owns h.wri) hr hl)
  have q := h.row
  clear h
  (have c0 := q.cell 0; have c1 := q.cell 1; have c2 := q.cell 2; simp only [List.set_cons_succ, List.set_cons_zero, List.getElem?_cons_zero, List.getElem?_cons_succ] at c0 c1 c2)
  go_enter Tryd.func19, Tryd.ntmps19
  go_wp2_with (go_at_call 31; refine hC.out.mono ?_; rintro _ w2 ⟨v2, L2, rfl, hO, hS, hI, hb⟩)
  go_ret
  exact ⟨v2, L2, rfl, hO, hS, hI, hb⟩
end Go.Proofs.YtdbpiabcpjgblaaDoor
