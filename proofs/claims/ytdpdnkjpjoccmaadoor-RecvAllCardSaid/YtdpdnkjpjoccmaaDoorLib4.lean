/- A region that draws its order and whose calls make memory, walked once: every world that meets S is one of the class. -/
import Derived.Test.YtdpdnkjpjoccmaaDoorLib3
import Derived.Deep.Quiet
import Derived.Deep.QuietTactic
import Derived.BigQuiet
namespace Go.Proofs.YtdpdnkjpjoccmaaDoor
open Go.RowKit
set_option linter.unusedVariables false
/-- A world that meets S. -/
structure Kept (S : World → Prop) where
  val : World
  ok : S val
theorem wp_region_kept {P : Program} (S : World → Prop) {id : Nat} {Q : Exit → Act → World → Prop} {a : Act} {w : World} {l : List Oper} (hm : P.follows .mixedOrders = true) (hB : Region.lexB .any l.toArray = true) (hS : S w.drew)
    (h : wpQuiet P l.toArray (fun w' => ∃ x : Kept S, w' = x.val) (fun a' => ∀ w', (∃ x : Kept S, w' = x.val) → Q .normal a' w') l a) : (Code.region id l.toArray true).wp P Q a w :=
  wp_region_quiet (C := fun w' => ∃ x : Kept S, w' = x.val) hm hB ⟨⟨w.drew, hS⟩, rfl⟩ (by simpa using h)
theorem calls_kept {P : Program} {S : World → Prop} {f : FuncId} {args : Array Value} {x : Kept S} {v : Value}
    (h : Calls P f args x.val fun e w' => e = .returned v ∧ Below x.val.heap.size x.val w') (hk : ∀ W W', S W → Below W.heap.size W W' → S W') : Calls P f args x.val fun e w'' => e = .returned v ∧ ∃ y : Kept S, w'' = y.val :=
  h.mono fun _ w' ⟨he, hb⟩ => ⟨he, ⟨w', hk _ _ x.ok hb⟩, rfl⟩
theorem calls_kept_same {P : Program} {S : World → Prop} {f : FuncId} {args : Array Value} {x : Kept S} {v : Value}
    (h : Calls P f args x.val fun e w' => e = .returned v ∧ x.val = w') : Calls P f args x.val fun e w'' => e = .returned v ∧ ∃ y : Kept S, w'' = y.val :=
  h.mono fun _ w' ⟨he, hb⟩ => ⟨he, x, hb.symm⟩
/-- The class to use: nothing that stood in w below B has changed. -/
def Old (B : Nat) (w W : World) : Prop := B ≤ w.heap.size ∧ Below B w W
theorem Old.below {B : Nat} {w : World} : ∀ W W', Old B w W → Below W.heap.size W W' → Old B w W' := fun W W' h hb =>
  ⟨h.1, h.2.trans (hb.mono (Nat.le_trans h.1 h.2.size))⟩
theorem Old.start (w : World) : Old w.heap.size w w.drew := ⟨Nat.le_refl _, (Below.refl _ w).drew⟩
theorem Old.ne (w : World) : Nonempty (Kept (Old w.heap.size w)) := ⟨⟨w.drew, Old.start w⟩⟩
/-- A cell that stood reads as it did in every world of the class. -/
theorem Old.cell {w : World} {p : Addr} {v : Value} (h : w.cell? p = some v) (x : Kept (Old w.heap.size w)) : x.val.cell? p = some v :=
  (x.ok.2.cell (World.block_lt_of_cell? w p h)).trans h
theorem Old.list {α : Type} {f : α → List Value} {sz : Nat} {w : World} {v : Value} {l : List α} (h : ListIs f sz w v l) (hsz : 0 < sz) (x : Kept (Old w.heap.size w)) : ListIs f sz x.val v l := h.below hsz x.ok.2
theorem cell_below {w w' : World} {p : Addr} {v : Value} (hb : Below w.heap.size w w') (h : w.cell? p = some v) : w'.cell? p = some v := (hb.cell (World.block_lt_of_cell? w p h)).trans h
theorem cell_alloc {w : World} {p : Addr} {v : Value} (h : w.cell? p = some v) (o : Obj) : (w.alloc o).cell? p = some v := by
  rw [World.cell?_alloc_lt _ _ p (World.block_lt_of_cell? w p h)]; exact h
/-- 'append(out, x)' of one element that has just been laid, in a region that draws. -/
theorem step_app_one {P : Program} {w0 : World} {ops : Array Oper} {o : Oper} {a : Act} {K : Act → World → Prop} {Q : Exit → Act → World → Prop} {E : Prop} (hgd : o.guard = none) (s x : Operand) (t e : TypeId)
    (ho : o.op = .call { callee := .builtin .append, args := #[s, x], argTypes := #[t, t] }) (base : Nat) (z : Value) (size bytes : Nat)
    (ht : P.underlying t = some (.slice e)) (hinfo : (P.info? e).map (fun i => (i.zero, i.size, i.bytes)) = some (some z, size, bytes)) (hzs : z.cells.size = size)
    (v : Value) (n : Nat) (xs : List Value) (hs : a.eval s = v) (hown : w0.ownsRow base e size v n xs)
    (us : Array Value) (g : Nat) (hg : g = w0.heap.size) (hx : a.eval x = .slice (some ⟨g, 0, none⟩) 1 1) (hus : us.size = size) (h1 : ∀ u ∈ us.toList, u.oneCell' = true)
    (h63 : n + 1 ≤ 1000000000) (hby : bytes ≤ 1000) (hbase : base ≤ w0.heap.size)
    (h : ∀ v' w', w'.ownsRow base e size v' (n + 1) (xs ++ us.toList) → w0.grownBy w' v.ownBlock → (v'.ownBlock = v.ownBlock ∨ v'.ownBlock = some (w0.heap.size + 1)) → v' ≠ .slice none 0 0 → Below base w0 w' → K (a.put o.dst v') w') :
    if Region.wanted o (yielded ops a.tmps) = true then Oper.wp P o a (w0.alloc (.cells us e)) K Q else E := by
  subst hg
  have hw : Region.wanted o (yielded ops a.tmps) = true := by simp [Region.wanted, hgd]
  rw [if_pos hw]
  have hz : (w0.alloc (.cells us e)).heap.size = w0.heap.size + 1 := by simp
  obtain ⟨i, hi, hzi, hsize, hb⟩ := info_parts hinfo
  subst hsize
  obtain ⟨v', w', hr, r1, r2, r4, r3⟩ := run_append_src (P := P) (w0.alloc (.cells us e)) base t t o.type e i z ht hi hzi hzs v n xs (hown.alloc _) (a.eval x) 1 us.toList (hx ▸ Src.ofSlice (w0.alloc _) ht _ 1 1 us.toList (by simp [hus]) (fun j u hj => by
    have e1 : (⟨w0.heap.size, 0, none⟩ : Addr).add j = ⟨w0.heap.size, j, none⟩ := by unfold Addr.add; split <;> simp_all
    rw [e1, World.cell?_alloc_at _ _ _ _ rfl]
    simpa using hj) h1) (by unfold maxLen; omega) (by
    have := Nat.mul_le_mul (show n + 1 ≤ 1000000000 from h63) hby
    rw [hb]; omega) (by omega)
  unfold Oper.wp execOp
  simp only [ho, resolve, invoke, builtin, Sem.run_bind, Sem.run_pure, Result.andThen_ok, List.map_toArray, List.map_cons, List.map_nil, hs, hr]
  exact h v' w' r1 ⟨r2.os, r2.tape, r2.output, by have := r2.size; omega, fun k hk hne => (r2.block k (by omega) hne).trans (Go.heap_alloc_old w0 _ hk)⟩ (by rw [← hz]; exact r3) (fun e => by have := r4.1 e; omega) (((Below.refl base w0).alloc hbase _).trans ((Below.refl base _).grown r2 (by omega) (fun k hk => (hown.lt k hk).1)))
theorem row_at {w : World} {g : Nat} (cs : Array Value) (e : TypeId) (hg : g = w.heap.size) : Row (w.alloc (.cells cs e)) g e cs.toList := hg ▸ row_alloc w cs e
end Go.Proofs.YtdpdnkjpjoccmaaDoor
