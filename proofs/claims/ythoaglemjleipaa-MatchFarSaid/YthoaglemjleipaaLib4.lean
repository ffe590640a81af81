/- A region that draws its order and whose calls make memory, walked once: every world that meets S is one of the class. -/
import Derived.Test.YthoaglemjleipaaLib3
import Derived.Deep.Quiet
import Derived.Deep.QuietTactic
import Derived.BigQuiet
namespace Go.Proofs.Ythoaglemjleipaa
open Go.RowKit
set_option linter.unusedVariables false
/-- A world that meets S. -/
structure Kept (S : World → Prop) where
  val : World
  ok : S val
theorem wp_region_kept {P : Program} (S : World → Prop) {id : Nat} {Q : Exit → Act → World → Prop} {a : Act} {w : World} {l : List Oper} (hm : P.follows .mixedOrders = true) (hB : Region.lexB .any l.toArray = true) (hS : S w.drew)
    (h : wpQuiet P l.toArray (fun w' => ∃ x : Kept S, w' = x.val) (fun a' => ∀ w', (∃ x : Kept S, w' = x.val) → Q .normal a' w') l a) : (Code.region id l.toArray true).wp P Q a w :=
  wp_region_quiet (C := fun w' => ∃ x : Kept S, w' = x.val) hm hB ⟨⟨w.drew, hS⟩, rfl⟩ (by simpa using h)
theorem calls_kept {P : Program} {S : World → Prop} {f : FuncId} {args : Array Value} {x : Kept S} {v : Value}
    (h : Calls P f args x.val fun e w' => e = .returned v ∧ Below x.val.heap.size x.val w') (hk : ∀ W W', S W → Below W.heap.size W W' → S W') : Calls P f args x.val fun e w'' => e = .returned v ∧ ∃ y : Kept S, w'' = y.val :=
  h.mono fun _ w' ⟨he, hb⟩ => ⟨he, ⟨w', hk _ _ x.ok hb⟩, rfl⟩
theorem calls_kept_same {P : Program} {S : World → Prop} {f : FuncId} {args : Array Value} {x : Kept S} {v : Value}
    (h : Calls P f args x.val fun e w' => e = .returned v ∧ x.val = w') : Calls P f args x.val fun e w'' => e = .returned v ∧ ∃ y : Kept S, w'' = y.val :=
  h.mono fun _ w' ⟨he, hb⟩ => ⟨he, x, hb.symm⟩
/-- The class to use: nothing that stood in w below B has changed. -/
def Old (B : Nat) (w W : World) : Prop := B ≤ w.heap.size ∧ Below B w W
theorem Old.below {B : Nat} {w : World} : ∀ W W', Old B w W → Below W.heap.size W W' → Old B w W' := fun W W' h hb =>
  ⟨h.1, h.2.trans (hb.mono (Nat.le_trans h.1 h.2.size))⟩
theorem Old.start (w : World) : Old w.heap.size w w.drew := ⟨Nat.le_refl _, (Below.refl _ w).drew⟩
theorem Old.ne (w : World) : Nonempty (Kept (Old w.heap.size w)) := ⟨⟨w.drew, Old.start w⟩⟩
/-- A cell that stood reads as it did in every world of the class. -/
theorem Old.cell {w : World} {p : Addr} {v : Value} (h : w.cell? p = some v) (x : Kept (Old w.heap.size w)) : x.val.cell? p = some v :=
  (x.ok.2.cell (World.block_lt_of_cell? w p h)).trans h
theorem Old.list {α : Type} {f : α → List Value} {sz : Nat} {w : World} {v : Value} {l : List α} (h : ListIs f sz w v l) (hsz : 0 < sz) (x : Kept (Old w.heap.size w)) : ListIs f sz x.val v l := h.below hsz x.ok.2
theorem cell_below {w w' : World} {p : Addr} {v : Value} (hb : Below w.heap.size w w') (h : w.cell? p = some v) : w'.cell? p = some v := (hb.cell (World.block_lt_of_cell? w p h)).trans h
theorem cell_alloc {w : World} {p : Addr} {v : Value} (h : w.cell? p = some v) (o : Obj) : (w.alloc o).cell? p = some v := by
  rw [World.cell?_alloc_lt _ _ p (World.block_lt_of_cell? w p h)]; exact h
theorem row_at {w : World} {g : Nat} (cs : Array Value) (e : TypeId) (hg : g = w.heap.size) : Row (w.alloc (.cells cs e)) g e cs.toList := hg ▸ row_alloc w cs e
end Go.Proofs.Ythoaglemjleipaa
