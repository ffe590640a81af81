/- Lists of cells in memory; how long they can be. -/
import Derived.Test.YtognjohloobliaaDoorWStoreOf
import Derived.Test.YtognjohloobliaaDoorWEqStr
namespace Go.Proofs.YtognjohloobliaaDoor
open Go.RowKit
set_option linter.unusedVariables false
set_option linter.unusedSimpArgs false
/-- Lists of cells that a walk compares. -/
def CelL (w : World) (v : Value) (L : List CelB) : Prop := ListIs celCells 5 w v L ∧ ∀ x ∈ L, StrsIs w (.slice x.la x.ln x.lc) x.cel.val.list
theorem CelL.below {w w' : World} {v : Value} {L : List CelB} (h : CelL w v L) (hb : Below w.heap.size w w') : CelL w' v L := ⟨h.1.below (by omega) hb, fun x hx => (h.2 x hx).below (by omega) hb⟩
theorem celL_of {w : World} {base base' : Nat} {v : Value} {L : List CelB} (h : w.ownsRow base 37 5 v L.length (L.flatMap celCells)) (hs : ∀ x ∈ L, w.ownsRow base' 9 1 (.slice x.la x.ln x.lc) x.cel.val.list.length (x.cel.val.list.flatMap strCells)) : CelL w v L :=
  ⟨ListIs.of_owns h, fun x hx => ListIs.of_owns (hs x hx)⟩
/-- How long lists of cells can be. -/
theorem cells_le {l : List St.W} {C : List St.Cel} (hl : ∀ x ∈ l, St.Good x) (h : St.IsCells C (St.at_ l)) : C.length ≤ l.length ∧ ∀ c ∈ C, c.val.list.length ≤ l.length := by
  constructor
  · have hn : (C.map (·.key)).Nodup := by
      rw [List.Nodup, List.pairwise_map]
      exact h.1.imp fun hab e => by rw [e, St.lt_irrefl] at hab; cases hab
    have hs : (C.map (·.key)) ⊆ l.map (·.key) := fun k hk => by
      obtain ⟨c, hc, rfl⟩ := List.mem_map.1 hk
      obtain ⟨h1, h2⟩ := (h.2 c).1 hc
      rw [← h2] at h1
      obtain ⟨x, hx, e⟩ := St.at_mem h1
      exact List.mem_map.2 ⟨x, hx, e⟩
    have := hn.length_le_of_subset hs
    simpa using this
  · intro c hc
    rw [← ((h.2 c).1 hc).2]
    exact (St.at_fits l hl c.key).len
theorem good_sws {l : List WrB} (h : ∀ x ∈ l, Right_ x) : ∀ x ∈ l.map WrB.sw, St.Good x := fun x hx => by
  obtain ⟨y, hy, rfl⟩ := List.mem_map.1 hx
  exact good_sw (h y hy)
theorem celB_le {l : List WrB} {L : List CelB} (hl : ∀ x ∈ l, Right_ x) (hn : l.length ≤ 1000) (h : St.IsCells (L.map CelB.cel) (St.at_ (l.map WrB.sw))) : L.length ≤ 1000 ∧ ∀ x ∈ L, x.cel.val.list.length ≤ 1000 := by
  obtain ⟨h1, h2⟩ := cells_le (good_sws hl) h
  rw [List.length_map, List.length_map] at h1
  refine ⟨by omega, fun x hx => ?_⟩
  have := h2 _ (List.mem_map.2 ⟨x, hx, rfl⟩)
  rw [List.length_map] at this
  omega
end Go.Proofs.YtognjohloobliaaDoor
