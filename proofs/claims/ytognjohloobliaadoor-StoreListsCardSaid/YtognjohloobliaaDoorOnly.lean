/- Worlds that differ in some blocks alone. -/
import Derived.Test.YtognjohloobliaaDoorLib4
namespace Go.Proofs.YtognjohloobliaaDoor
open Go.RowKit
set_option linter.unusedVariables false
/-- All that stood is as it was, but for the blocks of S. -/
structure Only (S : Nat → Prop) (w w' : World) : Prop where
  os : w'.os = w.os
  tape : w'.tape = w.tape
  output : w'.output = w.output
  size : w.heap.size ≤ w'.heap.size
  block : ∀ k, k < w.heap.size → ¬ S k → w'.heap[k]? = w.heap[k]?
namespace Only
variable {S : Nat → Prop} {w a b : World}
theorem refl (S : Nat → Prop) (w : World) : Only S w w := ⟨rfl, rfl, rfl, Nat.le_refl _, fun _ _ _ => rfl⟩
theorem trans (h : Only S w a) (k : Only S a b) : Only S w b :=
  ⟨k.os.trans h.os, k.tape.trans h.tape, k.output.trans h.output, Nat.le_trans h.size k.size, fun i hi hn => (k.block i (Nat.lt_of_lt_of_le hi h.size) hn).trans (h.block i hi hn)⟩
theorem of_below (S : Nat → Prop) (h : Below w.heap.size w a) : Only S w a := ⟨h.os, h.tape, h.output, h.size, fun i hi _ => h.block i hi⟩
theorem chain (h : Only S w a) (k : Below a.heap.size a b) : Only S w b := h.trans (of_below S k)
theorem below {B : Nat} (h : Only S w a) (hS : ∀ k, S k → B ≤ k) (hB : B ≤ w.heap.size) : Below B w a :=
  ⟨h.os, h.tape, h.output, h.size, fun i hi => h.block i (Nat.lt_of_lt_of_le hi hB) fun hs => by have := hS i hs; omega⟩
theorem alloc (h : Only S w a) (o : Obj) : Only S w (a.alloc o) := h.chain ((Below.refl _ a).alloc (Nat.le_refl _) o)
theorem drew (h : Only S w a) : Only S w a.drew := ⟨h.os, h.tape, h.output, h.size, h.block⟩
theorem drewN (h : Only S w a) (n : Nat) : Only S w (a.drewN n) := ⟨h.os, h.tape, h.output, h.size, h.block⟩
theorem grown {row : Option Nat} (h : Only S w a) (hg : a.grownBy b row) (hr : ∀ k, row = some k → S k ∨ w.heap.size ≤ k) : Only S w b :=
  ⟨hg.os.trans h.os, hg.tape.trans h.tape, hg.output.trans h.output, Nat.le_trans h.size hg.size, fun i hi hn =>
    (hg.block i (Nat.lt_of_lt_of_le hi h.size) (fun e => by
      rcases hr i e.symm with hs | hs
      · exact hn hs
      · omega)).trans (h.block i hi hn)⟩
theorem set (h : Only S w a) {p : Addr} (hp : S p.block ∨ w.heap.size ≤ p.block) (v : Value) : Only S w (a.setCell p v) :=
  ⟨h.os, h.tape, h.output, by have := h.size; simpa [World.setCell] using this, fun i hi hn => (Below.heap_setCell a p v i (fun e => by
      rcases hp with hs | hs
      · exact hn (e ▸ hs)
      · omega)).trans (h.block i hi hn)⟩
theorem mono {S' : Nat → Prop} (h : Only S w a) (hS : ∀ k, k < w.heap.size → S k → S' k) : Only S' w a := ⟨h.os, h.tape, h.output, h.size, fun i hi hn => h.block i hi fun hs => hn (hS i hi hs)⟩
theorem cell (h : Only S w a) {p : Addr} {v : Value} (hc : w.cell? p = some v) (hn : ¬ S p.block) : a.cell? p = some v :=
  (World.cell?_of_block (w := w) (h.block p.block (World.block_lt_of_cell? w p hc) hn)).trans hc
end Only
theorem Only.step {S T : Nat → Prop} {w a b : World} (h : Only S w a) (k : Only T a b) (hT : ∀ j, T j → S j ∨ w.heap.size ≤ j) : Only S w b :=
  ⟨k.os.trans h.os, k.tape.trans h.tape, k.output.trans h.output, Nat.le_trans h.size k.size, fun i hi hn => (k.block i (Nat.lt_of_lt_of_le hi h.size) (fun hs => by
    rcases hT i hs with h1 | h1
    · exact hn h1
    · omega)).trans (h.block i hi hn)⟩
theorem Row.only {S : Nat → Prop} {w a : World} {g : Nat} {e : TypeId} {cs : List Value} (h : Row w g e cs) (ho : Only S w a) (hn : ¬ S g) : Row a g e cs := h.of_block (ho.block g h.lt hn)
theorem owns_only {S : Nat → Prop} {w w' : World} {base : Nat} {e : TypeId} {sz n : Nat} {v : Value} {xs : List Value} (h : w.ownsRow base e sz v n xs) (ho : Only S w w') (hn : ∀ k, v.ownBlock = some k → ¬ S k) : w'.ownsRow base e sz v n xs := by
  refine ⟨h.1, ?_⟩
  rcases h.2 with hn0 | ⟨g, cap, cur, rfl, hb1, hg, rest⟩
  · exact .inl hn0
  · exact .inr ⟨g, cap, cur, rfl, hb1, (ho.block g (Array.getElem?_eq_some_iff.1 hg).1 (hn g rfl)).trans hg, rest⟩
end Go.Proofs.YtognjohloobliaaDoor
