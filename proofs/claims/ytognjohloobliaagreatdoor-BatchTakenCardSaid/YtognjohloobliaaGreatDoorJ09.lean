/- A store in memory. -/
import Derived.Test.YtognjohloobliaaGreatDoorJ04
import Derived.Test.YtognjohloobliaaGreatDoorJ01
import Derived.Test.YtognjohloobliaaGreatDoorJ05
import Derived.Test.YtognjohloobliaaGreatDoorJ07
namespace Go.Proofs.YtognjohloobliaaGreatDoor
set_option linter.unusedSimpArgs false
open Go.RowKit
set_option linter.unusedVariables false
def WrB.sw (x : WrB) : St.W := ⟨x.k, x.key, x.val, x.n⟩
theorem good_sw {x : WrB} (h : Wr.right (wr x.t x.r x.k x.key x.val x.n) = 0) : St.Good x.sw := by
 obtain ⟨h1, h2, -, -, -, -, h7, h8, -, -, h11, h12⟩ := Wr.right_zero h
 exact ⟨h1, h2, by simp only [wr, Array.length_toList] at h7; exact h7, by simp only [wr, Array.length_toList] at h8; exact h8, h11, h12⟩
/-- What lies under a key: the cell's block, its list, and what they hold. -/
structure Slot where
 g : Nat
 lv : Value
 val : St.Val
def slotCells (s : ByteArray) (x : Slot) : List Value := [.string s, .bool x.val.has, .string x.val.text, .int .i64 x.val.sum, x.lv]
def ptrs (f : ByteArray → Option Slot) (s : ByteArray) : Option Value := (f s).map fun x => .pointer (some ⟨x.g, 0, none⟩)
def vals (f : ByteArray → Option Slot) (s : ByteArray) : St.Val := ((f s).map Slot.val).getD St.no
/-- The blocks that a store may write. -/
def Mine (b : Nat) (f : ByteArray → Option Slot) (j : Nat) : Prop := j = b ∨ ∃ s x, f s = some x ∧ (j = x.g ∨ x.lv.ownBlock = some j)
structure StoreIs (w : World) (base p b n : Nat) (f : ByteArray → Option Slot) : Prop where
 row : Row w p 143 [.map (some b)]
 map : MapV Tryz.prog 9 w b n (ptrs f)
 key : ∀ s x, f s = some x → s.size ≤ 40
 cell : ∀ s x, f s = some x → Row w x.g 147 (slotCells s x)
 list : ∀ s x, f s = some x → w.ownsRow base 9 1 x.lv x.val.list.length (x.val.list.flatMap strCells)
 fits : ∀ s x, f s = some x → St.Fits x.val n
 lo : base ≤ b
 los : ∀ s x, f s = some x → base ≤ x.g
 apart : ∀ s x s' x', f s = some x → f s' = some x' → s ≠ s' → x.g ≠ x'.g
 apart2 : ∀ s x s' x' i, f s = some x → f s' = some x' → s ≠ s' → x.lv.ownBlock = some i → x'.lv.ownBlock ≠ some i
theorem row_ne {w : World} {g g' : Nat} {e e' : TypeId} {cs cs' : List Value} (h : Row w g e cs) (h' : Row w g' e' cs') (hn : e ≠ e') : g ≠ g' := by
 rintro rfl
 obtain ⟨fr, h1, -⟩ := h
 obtain ⟨fr', h2, -⟩ := h'
 rw [h1] at h2
 injection h2 with h2
 injection h2 with _ h2
 exact hn h2
theorem row_ne_map {P : Program} {k : TypeId} {w : World} {g b n : Nat} {e : TypeId} {cs : List Value} {f : ByteArray → Option Value} (h : Row w g e cs) (h' : MapV P k w b n f) : g ≠ b := by
 rintro rfl
 obtain ⟨fr, h1, -⟩ := h
 obtain ⟨D, ⟨es, clock, h2, -⟩, -⟩ := h'
 rw [h1] at h2
 cases h2
theorem row_ne_own {w : World} {g : Nat} {e : TypeId} {cs : List Value} {base : Nat} {e' : TypeId} {sz n : Nat} {v : Value} {xs : List Value} (h : Row w g e cs) (h' : w.ownsRow base e' sz v n xs) (hn : e ≠ e') : v.ownBlock ≠ some g := by
 intro hv
 obtain ⟨fr, h1, -⟩ := h
 rcases h'.2 with ⟨rfl, -⟩ | ⟨g', cap, cur, rfl, -, h2, -⟩
 ·cases hv
 ·simp only [Value.ownBlock, Option.some.injEq] at hv
  subst hv
  rw [h1] at h2
  injection h2 with h2
  injection h2 with _ h2
  exact hn h2
theorem map_ne_own {P : Program} {k : TypeId} {w : World} {b n : Nat} {f : ByteArray → Option Value} {base : Nat} {e' : TypeId} {sz m : Nat} {v : Value} {xs : List Value} (h' : MapV P k w b n f) (h : w.ownsRow base e' sz v m xs) : v.ownBlock ≠ some b := by
 intro hv
 obtain ⟨D, ⟨es, clock, h2, -⟩, -⟩ := h'
 rcases h.2 with ⟨rfl, -⟩ | ⟨g', cap, cur, rfl, -, h1, -⟩
 ·cases hv
 ·simp only [Value.ownBlock, Option.some.injEq] at hv
  subst hv
  rw [h1] at h2
  cases h2
theorem cell_ne_string : 147 ≠ 9 := by decide
theorem cell_ne_store : 147 ≠ 143 := by decide
theorem store_ne_string : 143 ≠ 9 := by decide
namespace StoreIs
variable {w w' : World} {base p b n : Nat} {f : ByteArray → Option Slot}
theorem lts {s : ByteArray} {x : Slot} (h : StoreIs w base p b n f) (hx : f s = some x) : x.g < w.heap.size := (h.cell s x hx).lt
theorem mine_lo (h : StoreIs w base p b n f) {j : Nat} (hj : Mine b f j) : base ≤ j := by
 rcases hj with rfl | ⟨s, x, hx, rfl | hj⟩
 ·exact h.lo
 ·exact h.los s x hx
 ·exact ((h.list s x hx).lt j hj).1
theorem mono (h : StoreIs w base p b n f) {m : Nat} (hm : n ≤ m) : StoreIs w base p b m f :=
 { h with map := h.map.mono hm, fits := fun s x hx => (h.fits s x hx).mono hm }
theorem only {S : Nat → Prop} (h : StoreIs w base p b n f) (ho : Only S w w') (hp : ¬ S p) (hS : ∀ j, Mine b f j → ¬ S j) : StoreIs w' base p b n f :=
 { h with
  row := h.row.only ho hp
  map := h.map.of_block (ho.block b h.map.lt (hS b (.inl rfl)))
  cell := fun s x hx => (h.cell s x hx).only ho (hS _ (.inr ⟨s, x, hx, .inl rfl⟩))
  list := fun s x hx => owns_only (h.list s x hx) ho fun k hk => hS k (.inr ⟨s, x, hx, .inr hk⟩) }
theorem below (h : StoreIs w base p b n f) (hb : Below w.heap.size w w') : StoreIs w' base p b n f :=
 h.only (Only.of_below (fun _ => False) hb) id fun _ _ => id
end StoreIs
theorem vals_none {f : ByteArray → Option Slot} {s : ByteArray} (h : f s = none) : vals f s = St.no := by unfold vals; rw [h]; rfl
theorem vals_some {f : ByteArray → Option Slot} {s : ByteArray} {x : Slot} (h : f s = some x) : vals f s = x.val := by unfold vals; rw [h]; rfl
/-- Another slot under a key. -/
def putSlot (f : ByteArray → Option Slot) (k : ByteArray) (x : Slot) (s : ByteArray) : Option Slot := if s = k then some x else f s
theorem putSlot_same (f : ByteArray → Option Slot) (k : ByteArray) (x : Slot) : putSlot f k x k = some x := if_pos rfl
theorem putSlot_other {f : ByteArray → Option Slot} {k s : ByteArray} (x : Slot) (h : s ≠ k) : putSlot f k x s = f s := if_neg h
theorem vals_put (f : ByteArray → Option Slot) (k : ByteArray) (x : Slot) (s : ByteArray) : vals (putSlot f k x) s = if k = s then x.val else vals f s := by
 by_cases h : s = k
 ·subst h; rw [if_pos rfl, vals_some (putSlot_same f s x)]
 ·rw [if_neg (fun e => h e.symm)]; unfold vals; rw [putSlot_other x h]
/-- The same cell, and its list, after some stores to them. -/
theorem StoreIs.turn {w w' : World} {base p b n : Nat} {f : ByteArray → Option Slot} (h : StoreIs w base p b n f) {k : ByteArray} {x y : Slot} (hx : f k = some x) (hg : y.g = x.g)
  (hrow : Row w' y.g 147 (slotCells k y)) (hown : w'.ownsRow base 9 1 y.lv y.val.list.length (y.val.list.flatMap strCells)) (hf : St.Fits y.val n)
  (hl : y.lv.ownBlock = x.lv.ownBlock ∨ ∀ i, y.lv.ownBlock = some i → w.heap.size ≤ i) (ho : Only (fun j => j = x.g ∨ x.lv.ownBlock = some j) w w') : StoreIs w' base p b n (putSlot f k y) := by
 have hcell := h.cell k x hx
 have hlist := h.list k x hx
 have hother : ∀ s z, f s = some z → s ≠ k → z.g ≠ x.g ∧ x.lv.ownBlock ≠ some z.g ∧ ∀ i, z.lv.ownBlock = some i → i ≠ x.g ∧ x.lv.ownBlock ≠ some i := fun s z hz hs =>
  ⟨h.apart s z k x hz hx hs, row_ne_own (h.cell s z hz) hlist cell_ne_string, fun i hi => ⟨fun e => row_ne_own hcell (h.list s z hz) cell_ne_string (by rw [hi, e]), fun e => h.apart2 s z k x i hz hx hs hi e⟩⟩
 have hput : ∀ s z, putSlot f k y s = some z → (s = k ∧ z = y) ∨ (s ≠ k ∧ f s = some z) := fun s z hz => by
  by_cases hs : s = k
  ·subst hs; rw [putSlot_same] at hz; injection hz with hz; exact .inl ⟨rfl, hz.symm⟩
  ·rw [putSlot_other y hs] at hz; exact .inr ⟨hs, hz⟩
 refine { row := h.row.only ho (fun e => ?_), map := ?_, key := fun s z hz => ?_, cell := fun s z hz => ?_, list := fun s z hz => ?_, fits := fun s z hz => ?_, lo := h.lo, los := fun s z hz => ?_, apart := fun s z s' z' hz hz' hn => ?_, apart2 := fun s z s' z' i hz hz' hn hi => ?_ }
 ·rcases e with e | e
  ·exact row_ne hcell h.row cell_ne_store e.symm
  ·exact row_ne_own h.row hlist store_ne_string e
 ·have hp : ptrs (putSlot f k y) = ptrs f := by
   funext s
   unfold ptrs
   by_cases hs : s = k
   ·subst hs; rw [putSlot_same, hx]; simp [hg]
   ·rw [putSlot_other y hs]
  rw [hp]
  exact h.map.of_block (ho.block b h.map.lt fun e => by
   rcases e with e | e
   ·exact row_ne_map hcell h.map e.symm
   ·exact map_ne_own h.map hlist e)
 ·rcases hput s z hz with ⟨rfl, rfl⟩ | ⟨hs, h0⟩
  ·exact h.key s x hx
  ·exact h.key s z h0
 ·rcases hput s z hz with ⟨rfl, rfl⟩ | ⟨hs, h0⟩
  ·exact hrow
  ·exact (h.cell s z h0).only ho fun e => by
    obtain ⟨h1, h2, -⟩ := hother s z h0 hs
    rcases e with e | e
    ·exact h1 e
    ·exact h2 e
 ·rcases hput s z hz with ⟨rfl, rfl⟩ | ⟨hs, h0⟩
  ·exact hown
  ·exact owns_only (h.list s z h0) ho fun i hi e => by
    obtain ⟨-, -, h3⟩ := hother s z h0 hs
    rcases e with e | e
    ·exact (h3 i hi).1 e
    ·exact (h3 i hi).2 e
 ·rcases hput s z hz with ⟨rfl, rfl⟩ | ⟨hs, h0⟩
  ·exact hf
  ·exact h.fits s z h0
 ·rcases hput s z hz with ⟨rfl, rfl⟩ | ⟨hs, h0⟩
  ·rw [hg]; exact h.los s x hx
  ·exact h.los s z h0
 ·rcases hput s z hz with ⟨rfl, rfl⟩ | ⟨hs, h0⟩
  ·rcases hput s' z' hz' with ⟨rfl, rfl⟩ | ⟨hs', h0'⟩
   ·exact absurd rfl hn
   ·rw [hg]; exact fun e => (hother s' z' h0' hs').1 e.symm
  ·rcases hput s' z' hz' with ⟨rfl, rfl⟩ | ⟨hs', h0'⟩
   ·rw [hg]; exact (hother s z h0 hs).1
   ·exact h.apart s z s' z' h0 h0' hn
 ·have hnew : ∀ s z i, f s = some z → s ≠ k → z.lv.ownBlock = some i → y.lv.ownBlock ≠ some i := fun s z i hz hs hi e => by
   rcases hl with hl | hl
   ·exact (((hother s z hz hs).2.2 i hi).2) (hl ▸ e)
   ·have := hl i e
    have := ((h.list s z hz).lt i hi).2
    omega
  rcases hput s z hz with ⟨rfl, rfl⟩ | ⟨hs, h0⟩
  ·rcases hput s' z' hz' with ⟨rfl, rfl⟩ | ⟨hs', h0'⟩
   ·exact absurd rfl hn
   ·exact fun e => hnew s' z' i h0' hs' e hi
  ·rcases hput s' z' hz' with ⟨rfl, rfl⟩ | ⟨hs', h0'⟩
   ·exact hnew s z i h0 hs hi
   ·exact h.apart2 s z s' z' i h0 h0' hn hi
/-- A new cell under a key that had none. -/
theorem StoreIs.add {w1 w' : World} {base p b n : Nat} {f : ByteArray → Option Slot} (h : StoreIs w1 base p b n f) {k : ByteArray} (hk : f k = none) (hs : k.size ≤ 40) (g : Nat) (hb : base ≤ w1.heap.size)
  (hold : ∀ s x, f s = some x → x.g ≠ g) (hrow : Row w1 g 147 (slotCells k ⟨g, .slice none 0 0, St.no⟩)) (hg : base ≤ g)
  (hmap : MapV Tryz.prog 9 w' b (n + 1) (fun s' => if s' = k then some (.pointer (some ⟨g, 0, none⟩)) else ptrs f s')) (hgr : w1.grownBy w' (some b)) : StoreIs w' base p b (n + 1) (putSlot f k ⟨g, .slice none 0 0, St.no⟩) := by
 have hO : Only (fun j => j = b) w1 w' := (Only.refl _ w1).grown hgr fun i hi => .inl (by injection hi with hi; exact hi.symm)
 have hput : ∀ s z, putSlot f k ⟨g, .slice none 0 0, St.no⟩ s = some z → (s = k ∧ z = ⟨g, .slice none 0 0, St.no⟩) ∨ (s ≠ k ∧ f s = some z) := fun s z hz => by
  by_cases hs : s = k
  ·subst hs; rw [putSlot_same] at hz; injection hz with hz; exact .inl ⟨rfl, hz.symm⟩
  ·rw [putSlot_other _ hs] at hz; exact .inr ⟨hs, hz⟩
 have hgb : g ≠ b := row_ne_map hrow h.map
 refine { row := h.row.only hO (fun e => row_ne_map h.row h.map e), map := ?_, key := fun s z hz => ?_, cell := fun s z hz => ?_, list := fun s z hz => ?_, fits := fun s z hz => ?_, lo := h.lo, los := fun s z hz => ?_, apart := fun s z s' z' hz hz' hn => ?_, apart2 := fun s z s' z' i hz hz' hn hi => ?_ }
 ·have e : (fun s' => if s' = k then some (Value.pointer (some ⟨g, 0, none⟩)) else ptrs f s') = ptrs (putSlot f k ⟨g, .slice none 0 0, St.no⟩) := by
   funext s
   unfold ptrs
   by_cases hs : s = k
   ·subst hs; rw [putSlot_same, if_pos rfl]; rfl
   ·rw [putSlot_other _ hs, if_neg hs]
  rw [← e]; exact hmap
 ·rcases hput s z hz with ⟨rfl, rfl⟩ | ⟨hs', h0⟩
  ·exact hs
  ·exact h.key s z h0
 ·rcases hput s z hz with ⟨rfl, rfl⟩ | ⟨hs', h0⟩
  ·exact hrow.only hO hgb
  ·exact (h.cell s z h0).only hO (row_ne_map (h.cell s z h0) h.map)
 ·rcases hput s z hz with ⟨rfl, rfl⟩ | ⟨hs', h0⟩
  ·exact World.ownsRow_nil _ _ _ _
  ·exact owns_only (h.list s z h0) hO fun i hi e => map_ne_own h.map (h.list s z h0) (e ▸ hi)
 ·rcases hput s z hz with ⟨rfl, rfl⟩ | ⟨hs', h0⟩
  ·exact St.Fits.no _
  ·exact (h.fits s z h0).mono (by omega)
 ·rcases hput s z hz with ⟨rfl, rfl⟩ | ⟨hs', h0⟩
  ·exact hg
  ·exact h.los s z h0
 ·rcases hput s z hz with ⟨rfl, rfl⟩ | ⟨hs', h0⟩
  ·rcases hput s' z' hz' with ⟨rfl, rfl⟩ | ⟨hs', h0'⟩
   ·exact absurd rfl hn
   ·exact fun e => hold s' z' h0' e.symm
  ·rcases hput s' z' hz' with ⟨rfl, rfl⟩ | ⟨hs', h0'⟩
   ·exact hold s z h0
   ·exact h.apart s z s' z' h0 h0' hn
 ·rcases hput s z hz with ⟨rfl, rfl⟩ | ⟨hs', h0⟩
  ·cases hi
  ·rcases hput s' z' hz' with ⟨rfl, rfl⟩ | ⟨hs', h0'⟩
   ·exact fun e => by cases e
   ·exact h.apart2 s z s' z' i h0 h0' hn hi
/-- Without what lay under a key. -/
def dropSlot (f : ByteArray → Option Slot) (k : ByteArray) (s : ByteArray) : Option Slot := if s = k then none else f s
theorem vals_drop (f : ByteArray → Option Slot) (k : ByteArray) (s : ByteArray) : vals (dropSlot f k) s = if k = s then St.no else vals f s := by
 by_cases h : s = k
 ·subst h; rw [if_pos rfl, vals_none (if_pos rfl)]
 ·rw [if_neg (fun e => h e.symm)]; unfold vals dropSlot; rw [if_neg h]
theorem StoreIs.drop {w w' : World} {base p b n : Nat} {f : ByteArray → Option Slot} (h : StoreIs w base p b n f) {k : ByteArray}
  (hmap : MapV Tryz.prog 9 w' b n (fun s' => if s' = k then none else ptrs f s')) (hgr : w.grownBy w' (some b)) : StoreIs w' base p b n (dropSlot f k) := by
 have hO : Only (fun j => j = b) w w' := (Only.refl _ w).grown hgr fun i hi => .inl (by injection hi with hi; exact hi.symm)
 have hput : ∀ s z, dropSlot f k s = some z → f s = some z := fun s z hz => by
  unfold dropSlot at hz
  by_cases hs : s = k
  ·rw [if_pos hs] at hz; cases hz
  ·rw [if_neg hs] at hz; exact hz
 refine { row := h.row.only hO (fun e => row_ne_map h.row h.map e), map := ?_, key := fun s z hz => h.key s z (hput s z hz), cell := fun s z hz => (h.cell s z (hput s z hz)).only hO (row_ne_map (h.cell s z (hput s z hz)) h.map), list := fun s z hz => owns_only (h.list s z (hput s z hz)) hO fun i hi e => map_ne_own h.map (h.list s z (hput s z hz)) (e ▸ hi), fits := fun s z hz => h.fits s z (hput s z hz), lo := h.lo, los := fun s z hz => h.los s z (hput s z hz), apart := fun s z s' z' hz hz' hn => h.apart s z s' z' (hput s z hz) (hput s' z' hz') hn, apart2 := fun s z s' z' i hz hz' hn hi => h.apart2 s z s' z' i (hput s z hz) (hput s' z' hz') hn hi }
 have e : (fun s' => if s' = k then none else ptrs f s') = ptrs (dropSlot f k) := by
  funext s
  unfold ptrs dropSlot
  by_cases hs : s = k
  ·rw [if_pos hs, if_pos hs]; rfl
  ·rw [if_neg hs, if_neg hs]
 rw [← e]; exact hmap
end Go.Proofs.YtognjohloobliaaGreatDoor
/- What store.Do leaves. -/
namespace Go.Proofs.YtognjohloobliaaGreatDoor
open Go.RowKit
set_option linter.unusedVariables false
def Did (x : WrB) (w : World) (base p b n : Nat) (f : ByteArray → Option Slot) (w' : World) : Prop :=
 ∃ f', StoreIs w' base p b (n + 1) f' ∧ (∀ s, vals f' s = if x.key = s then St.step (vals f s) x.sw else vals f s) ∧ Only (Mine b f) w w' ∧ ∀ j, Mine b f' j → Mine b f j ∨ w.heap.size ≤ j
theorem did_turn {x : WrB} {w w5 w6 : World} {base p b n : Nat} {f f1 : ByteArray → Option Slot} {X y : Slot} (h5 : StoreIs w5 base p b (n + 1) f1) (hX : f1 x.key = some X) (hv : ∀ s, vals f1 s = vals f s) (ho5 : Only (Mine b f) w w5)
  (hm : ∀ j, Mine b f1 j → Mine b f j ∨ w.heap.size ≤ j) (hg : y.g = X.g) (hrow : Row w6 y.g 147 (slotCells x.key y)) (hown : w6.ownsRow base 9 1 y.lv y.val.list.length (y.val.list.flatMap strCells))
  (hf : St.Fits y.val (n + 1)) (hl : y.lv.ownBlock = X.lv.ownBlock ∨ ∀ i, y.lv.ownBlock = some i → w5.heap.size ≤ i) (ho : Only (fun j => j = X.g ∨ X.lv.ownBlock = some j) w5 w6) (hy : y.val = St.step X.val x.sw) : Did x w base p b n f w6 := by
 have hmX : ∀ j, j = X.g ∨ X.lv.ownBlock = some j → Mine b f1 j := fun j hj => .inr ⟨x.key, X, hX, hj⟩
 refine ⟨putSlot f1 x.key y, h5.turn hX hg hrow hown hf hl ho, fun s => ?_, ho5.step ho fun j hj => hm j (hmX j hj), fun j hj => ?_⟩
 ·rw [vals_put]
  by_cases e : x.key = s
  ·subst e
   rw [if_pos rfl, if_pos rfl, hy, ← hv, vals_some hX]
  ·rw [if_neg e, if_neg e, hv]
 ·rcases hj with rfl | ⟨s, z, hz, hj⟩
  ·exact hm _ (.inl rfl)
  ·by_cases e : s = x.key
   ·subst e
    rw [putSlot_same] at hz
    injection hz with hz
    subst hz
    rcases hj with rfl | hj
    ·exact hm _ (hmX _ (.inl hg))
    ·rcases hl with hl | hl
     ·exact hm _ (hmX _ (.inr (hl ▸ hj)))
     ·exact .inr (Nat.le_trans ho5.size (hl j hj))
   ·rw [putSlot_other _ e] at hz
    exact hm _ (.inr ⟨s, z, hz, hj⟩)
/-- The list stays. -/
theorem did_same {x : WrB} {w w5 w6 : World} {base p b n : Nat} {f f1 : ByteArray → Option Slot} {X : Slot} {v : St.Val} (h5 : StoreIs w5 base p b (n + 1) f1) (hX : f1 x.key = some X) (hv : ∀ s, vals f1 s = vals f s) (ho5 : Only (Mine b f) w w5)
  (hm : ∀ j, Mine b f1 j → Mine b f j ∨ w.heap.size ≤ j) (hrow : Row w6 X.g 147 (slotCells x.key ⟨X.g, X.lv, v⟩)) (hfx : St.Fits X.val n) (hgood : St.Good x.sw)
  (ho : Only (fun j => j = X.g) w5 w6) (hy : v = St.step X.val x.sw) (hlist : v.list = X.val.list) : Did x w base p b n f w6 := by
 refine did_turn (y := ⟨X.g, X.lv, v⟩) h5 hX hv ho5 hm rfl hrow ?_ (by rw [show (⟨X.g, X.lv, v⟩ : Slot).val = St.step X.val x.sw from hy]; exact hfx.step hgood) (.inl rfl) (ho.mono fun j _ hj => .inl hj) hy
 show w6.ownsRow base 9 1 X.lv v.list.length (v.list.flatMap strCells)
 rw [hlist]
 exact owns_only (h5.list _ _ hX) ho fun k hk e => row_ne_own (h5.cell _ _ hX) (h5.list _ _ hX) cell_ne_string (e ▸ hk)
theorem did_drop {x : WrB} {w w5 w6 : World} {base p b n : Nat} {f f1 : ByteArray → Option Slot} (h5 : StoreIs w5 base p b (n + 1) f1) (hv : ∀ s, vals f1 s = vals f s) (ho5 : Only (Mine b f) w w5)
  (hm : ∀ j, Mine b f1 j → Mine b f j ∨ w.heap.size ≤ j) (hmap : MapV Tryz.prog 9 w6 b (n + 1) (fun s' => if s' = x.key then none else ptrs f1 s')) (hgr : w5.grownBy w6 (some b)) (hk : x.k = 2) : Did x w base p b n f w6 := by
 have ho : Only (fun j => j = b) w5 w6 := (Only.refl _ w5).grown hgr fun i hi => .inl (by injection hi with hi; exact hi.symm)
 refine ⟨dropSlot f1 x.key, h5.drop hmap hgr, fun s => ?_, ho5.step ho fun j hj => .inl (.inl hj), fun j hj => ?_⟩
 ·rw [vals_drop, hv]
  by_cases e : x.key = s
  ·subst e
   rw [if_pos rfl, if_pos rfl]
   unfold St.step WrB.sw
   rw [if_neg (by simp only; omega), if_pos hk]
  ·rw [if_neg e, if_neg e]
 ·rcases hj with rfl | ⟨s, z, hz, hj⟩
  ·exact hm _ (.inl rfl)
  ·unfold dropSlot at hz
   by_cases e : s = x.key
   ·rw [if_pos e] at hz; cases hz
   ·rw [if_neg e] at hz
    exact hm _ (.inr ⟨s, z, hz, hj⟩)
end Go.Proofs.YtognjohloobliaaGreatDoor
