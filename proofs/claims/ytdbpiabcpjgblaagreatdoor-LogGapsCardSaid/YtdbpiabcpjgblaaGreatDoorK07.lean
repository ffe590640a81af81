/- A store in memory. -/
import Derived.Test.YtdbpiabcpjgblaaGreatDoorK02
import Derived.Test.YtdbpiabcpjgblaaGreatDoorK06
import Derived.Shelf.SlSortCmp.WholeK
import Derived.Shelf.SlSortCmp.NoneTotal
import Derived.Test.YtdbpiabcpjgblaaGreatDoorShelf
import Derived.Lib.SliceRun
import Derived.Test.YtdbpiabcpjgblaaGreatDoorK01
namespace Go.Proofs.YtdbpiabcpjgblaaGreatDoor
set_option linter.unusedSimpArgs false
open Go.RowKit
set_option linter.unusedVariables false
def WrB.sw (x : WrB) : St.W := ⟨x.k, x.key, x.val, x.n⟩
theorem good_sw {x : WrB} (h : Wr.right (wr x.t x.r x.k x.key x.val x.n) = 0) : St.Good x.sw := by
  obtain ⟨h1, h2, -, -, -, -, h7, h8, -, -, h11, h12⟩ := Wr.right_zero h
  exact ⟨h1, h2, by simp only [wr, Array.length_toList] at h7; exact h7, by simp only [wr, Array.length_toList] at h8; exact h8, h11, h12⟩
/-- What lies under a key: the cell's block, its list, and what they hold. -/
structure Slot where
  g : Nat
  lv : Value
  val : St.Val
def slotCells (s : ByteArray) (x : Slot) : List Value := [.string s, .bool x.val.has, .string x.val.text, .int .i64 x.val.sum, x.lv]
def ptrs (f : ByteArray → Option Slot) (s : ByteArray) : Option Value := (f s).map fun x => .pointer (some ⟨x.g, 0, none⟩)
def vals (f : ByteArray → Option Slot) (s : ByteArray) : St.Val := ((f s).map Slot.val).getD St.no
/-- The blocks that a store may write. -/
def Mine (b : Nat) (f : ByteArray → Option Slot) (j : Nat) : Prop := j = b ∨ ∃ s x, f s = some x ∧ (j = x.g ∨ x.lv.ownBlock = some j)
structure StoreIs (w : World) (base p b n : Nat) (f : ByteArray → Option Slot) : Prop where
  row : Row w p 133 [.map (some b)]
  map : MapV Tryz.prog 9 w b n (ptrs f)
  key : ∀ s x, f s = some x → s.size ≤ 40
  cell : ∀ s x, f s = some x → Row w x.g 105 (slotCells s x)
  list : ∀ s x, f s = some x → w.ownsRow base 9 1 x.lv x.val.list.length (x.val.list.flatMap strCells)
  fits : ∀ s x, f s = some x → St.Fits x.val n
  lo : base ≤ b
  los : ∀ s x, f s = some x → base ≤ x.g
  apart : ∀ s x s' x', f s = some x → f s' = some x' → s ≠ s' → x.g ≠ x'.g
  apart2 : ∀ s x s' x' i, f s = some x → f s' = some x' → s ≠ s' → x.lv.ownBlock = some i → x'.lv.ownBlock ≠ some i
theorem row_ne {w : World} {g g' : Nat} {e e' : TypeId} {cs cs' : List Value} (h : Row w g e cs) (h' : Row w g' e' cs') (hn : e ≠ e') : g ≠ g' := by
  rintro rfl
  obtain ⟨fr, h1, -⟩ := h
  obtain ⟨fr', h2, -⟩ := h'
  rw [h1] at h2
  injection h2 with h2
  injection h2 with _ h2
  exact hn h2
theorem row_ne_map {P : Program} {k : TypeId} {w : World} {g b n : Nat} {e : TypeId} {cs : List Value} {f : ByteArray → Option Value} (h : Row w g e cs) (h' : MapV P k w b n f) : g ≠ b := by
  rintro rfl
  obtain ⟨fr, h1, -⟩ := h
  obtain ⟨D, ⟨es, clock, h2, -⟩, -⟩ := h'
  rw [h1] at h2
  cases h2
theorem row_ne_own {w : World} {g : Nat} {e : TypeId} {cs : List Value} {base : Nat} {e' : TypeId} {sz n : Nat} {v : Value} {xs : List Value} (h : Row w g e cs) (h' : w.ownsRow base e' sz v n xs) (hn : e ≠ e') : v.ownBlock ≠ some g := by
  intro hv
  obtain ⟨fr, h1, -⟩ := h
  rcases h'.2 with ⟨rfl, -⟩ | ⟨g', cap, cur, rfl, -, h2, -⟩
  · cases hv
  · simp only [Value.ownBlock, Option.some.injEq] at hv
    subst hv
    rw [h1] at h2
    injection h2 with h2
    injection h2 with _ h2
    exact hn h2
theorem map_ne_own {P : Program} {k : TypeId} {w : World} {b n : Nat} {f : ByteArray → Option Value} {base : Nat} {e' : TypeId} {sz m : Nat} {v : Value} {xs : List Value} (h' : MapV P k w b n f) (h : w.ownsRow base e' sz v m xs) : v.ownBlock ≠ some b := by
  intro hv
  obtain ⟨D, ⟨es, clock, h2, -⟩, -⟩ := h'
  rcases h.2 with ⟨rfl, -⟩ | ⟨g', cap, cur, rfl, -, h1, -⟩
  · cases hv
  · simp only [Value.ownBlock, Option.some.injEq] at hv
    subst hv
    rw [h1] at h2
    cases h2
theorem cell_ne_string : 105 ≠ 9 := by decide
theorem cell_ne_store : 105 ≠ 133 := by decide
theorem store_ne_string : 133 ≠ 9 := by decide
namespace StoreIs
variable {w w' : World} {base p b n : Nat} {f : ByteArray → Option Slot}
theorem lts {s : ByteArray} {x : Slot} (h : StoreIs w base p b n f) (hx : f s = some x) : x.g < w.heap.size := (h.cell s x hx).lt
theorem mine_lo (h : StoreIs w base p b n f) {j : Nat} (hj : Mine b f j) : base ≤ j := by
  rcases hj with rfl | ⟨s, x, hx, rfl | hj⟩
  · exact h.lo
  · exact h.los s x hx
  · exact ((h.list s x hx).lt j hj).1
theorem mono (h : StoreIs w base p b n f) {m : Nat} (hm : n ≤ m) : StoreIs w base p b m f :=
  { h with map := h.map.mono hm, fits := fun s x hx => (h.fits s x hx).mono hm }
theorem only {S : Nat → Prop} (h : StoreIs w base p b n f) (ho : Only S w w') (hp : ¬ S p) (hS : ∀ j, Mine b f j → ¬ S j) : StoreIs w' base p b n f :=
  { h with
    row := h.row.only ho hp
    map := h.map.of_block (ho.block b h.map.lt (hS b (.inl rfl)))
    cell := fun s x hx => (h.cell s x hx).only ho (hS _ (.inr ⟨s, x, hx, .inl rfl⟩))
    list := fun s x hx => owns_only (h.list s x hx) ho fun k hk => hS k (.inr ⟨s, x, hx, .inr hk⟩) }
theorem below (h : StoreIs w base p b n f) (hb : Below w.heap.size w w') : StoreIs w' base p b n f :=
  h.only (Only.of_below (fun _ => False) hb) id fun _ _ => id
end StoreIs
theorem vals_none {f : ByteArray → Option Slot} {s : ByteArray} (h : f s = none) : vals f s = St.no := by unfold vals; rw [h]; rfl
theorem vals_some {f : ByteArray → Option Slot} {s : ByteArray} {x : Slot} (h : f s = some x) : vals f s = x.val := by unfold vals; rw [h]; rfl
/-- Another slot under a key. -/
def putSlot (f : ByteArray → Option Slot) (k : ByteArray) (x : Slot) (s : ByteArray) : Option Slot := if s = k then some x else f s
theorem putSlot_same (f : ByteArray → Option Slot) (k : ByteArray) (x : Slot) : putSlot f k x k = some x := if_pos rfl
theorem putSlot_other {f : ByteArray → Option Slot} {k s : ByteArray} (x : Slot) (h : s ≠ k) : putSlot f k x s = f s := if_neg h
theorem vals_put (f : ByteArray → Option Slot) (k : ByteArray) (x : Slot) (s : ByteArray) : vals (putSlot f k x) s = if k = s then x.val else vals f s := by
  by_cases h : s = k
  · subst h; rw [if_pos rfl, vals_some (putSlot_same f s x)]
  · rw [if_neg (fun e => h e.symm)]; unfold vals; rw [putSlot_other x h]
/-- The same cell, and its list, after some stores to them. -/
theorem StoreIs.turn {w w' : World} {base p b n : Nat} {f : ByteArray → Option Slot} (h : StoreIs w base p b n f) {k : ByteArray} {x y : Slot} (hx : f k = some x) (hg : y.g = x.g)
    (hrow : Row w' y.g 105 (slotCells k y)) (hown : w'.ownsRow base 9 1 y.lv y.val.list.length (y.val.list.flatMap strCells)) (hf : St.Fits y.val n)
    (hl : y.lv.ownBlock = x.lv.ownBlock ∨ ∀ i, y.lv.ownBlock = some i → w.heap.size ≤ i) (ho : Only (fun j => j = x.g ∨ x.lv.ownBlock = some j) w w') : StoreIs w' base p b n (putSlot f k y) := by
  have hcell := h.cell k x hx
  have hlist := h.list k x hx
  have hother : ∀ s z, f s = some z → s ≠ k → z.g ≠ x.g ∧ x.lv.ownBlock ≠ some z.g ∧ ∀ i, z.lv.ownBlock = some i → i ≠ x.g ∧ x.lv.ownBlock ≠ some i := fun s z hz hs =>
    ⟨h.apart s z k x hz hx hs, row_ne_own (h.cell s z hz) hlist cell_ne_string, fun i hi => ⟨fun e => row_ne_own hcell (h.list s z hz) cell_ne_string (by rw [hi, e]), fun e => h.apart2 s z k x i hz hx hs hi e⟩⟩
  have hput : ∀ s z, putSlot f k y s = some z → (s = k ∧ z = y) ∨ (s ≠ k ∧ f s = some z) := fun s z hz => by
    by_cases hs : s = k
    · subst hs; rw [putSlot_same] at hz; injection hz with hz; exact .inl ⟨rfl, hz.symm⟩
    · rw [putSlot_other y hs] at hz; exact .inr ⟨hs, hz⟩
  refine { row := h.row.only ho (fun e => ?_), map := ?_, key := fun s z hz => ?_, cell := fun s z hz => ?_, list := fun s z hz => ?_, fits := fun s z hz => ?_, lo := h.lo, los := fun s z hz => ?_, apart := fun s z s' z' hz hz' hn => ?_, apart2 := fun s z s' z' i hz hz' hn hi => ?_ }
  · rcases e with e | e
    · exact row_ne hcell h.row cell_ne_store e.symm
    · exact row_ne_own h.row hlist store_ne_string e
  · have hp : ptrs (putSlot f k y) = ptrs f := by
      funext s
      unfold ptrs
      by_cases hs : s = k
      · subst hs; rw [putSlot_same, hx]; simp [hg]
      · rw [putSlot_other y hs]
    rw [hp]
    exact h.map.of_block (ho.block b h.map.lt fun e => by
      rcases e with e | e
      · exact row_ne_map hcell h.map e.symm
      · exact map_ne_own h.map hlist e)
  · rcases hput s z hz with ⟨rfl, rfl⟩ | ⟨hs, h0⟩
    · exact h.key s x hx
    · exact h.key s z h0
  · rcases hput s z hz with ⟨rfl, rfl⟩ | ⟨hs, h0⟩
    · exact hrow
    · exact (h.cell s z h0).only ho fun e => by
        obtain ⟨h1, h2, -⟩ := hother s z h0 hs
        rcases e with e | e
        · exact h1 e
        · exact h2 e
  · rcases hput s z hz with ⟨rfl, rfl⟩ | ⟨hs, h0⟩
    · exact hown
    · exact owns_only (h.list s z h0) ho fun i hi e => by
        obtain ⟨-, -, h3⟩ := hother s z h0 hs
        rcases e with e | e
        · exact (h3 i hi).1 e
        · exact (h3 i hi).2 e
  · rcases hput s z hz with ⟨rfl, rfl⟩ | ⟨hs, h0⟩
    · exact hf
    · exact h.fits s z h0
  · rcases hput s z hz with ⟨rfl, rfl⟩ | ⟨hs, h0⟩
    · rw [hg]; exact h.los s x hx
    · exact h.los s z h0
  · rcases hput s z hz with ⟨rfl, rfl⟩ | ⟨hs, h0⟩
    · rcases hput s' z' hz' with ⟨rfl, rfl⟩ | ⟨hs', h0'⟩
      · exact absurd rfl hn
      · rw [hg]; exact fun e => (hother s' z' h0' hs').1 e.symm
    · rcases hput s' z' hz' with ⟨rfl, rfl⟩ | ⟨hs', h0'⟩
      · rw [hg]; exact (hother s z h0 hs).1
      · exact h.apart s z s' z' h0 h0' hn
  · have hnew : ∀ s z i, f s = some z → s ≠ k → z.lv.ownBlock = some i → y.lv.ownBlock ≠ some i := fun s z i hz hs hi e => by
      rcases hl with hl | hl
      · exact (((hother s z hz hs).2.2 i hi).2) (hl ▸ e)
      · have := hl i e
        have := ((h.list s z hz).lt i hi).2
        omega
    rcases hput s z hz with ⟨rfl, rfl⟩ | ⟨hs, h0⟩
    · rcases hput s' z' hz' with ⟨rfl, rfl⟩ | ⟨hs', h0'⟩
      · exact absurd rfl hn
      · exact fun e => hnew s' z' i h0' hs' e hi
    · rcases hput s' z' hz' with ⟨rfl, rfl⟩ | ⟨hs', h0'⟩
      · exact hnew s z i h0 hs hi
      · exact h.apart2 s z s' z' i h0 h0' hn hi
/-- A new cell under a key that had none. -/
theorem StoreIs.add {w1 w' : World} {base p b n : Nat} {f : ByteArray → Option Slot} (h : StoreIs w1 base p b n f) {k : ByteArray} (hk : f k = none) (hs : k.size ≤ 40) (g : Nat) (hb : base ≤ w1.heap.size)
    (hold : ∀ s x, f s = some x → x.g ≠ g) (hrow : Row w1 g 105 (slotCells k ⟨g, .slice none 0 0, St.no⟩)) (hg : base ≤ g)
    (hmap : MapV Tryz.prog 9 w' b (n + 1) (fun s' => if s' = k then some (.pointer (some ⟨g, 0, none⟩)) else ptrs f s')) (hgr : w1.grownBy w' (some b)) : StoreIs w' base p b (n + 1) (putSlot f k ⟨g, .slice none 0 0, St.no⟩) := by
  have hO : Only (fun j => j = b) w1 w' := (Only.refl _ w1).grown hgr fun i hi => .inl (by injection hi with hi; exact hi.symm)
  have hput : ∀ s z, putSlot f k ⟨g, .slice none 0 0, St.no⟩ s = some z → (s = k ∧ z = ⟨g, .slice none 0 0, St.no⟩) ∨ (s ≠ k ∧ f s = some z) := fun s z hz => by
    by_cases hs : s = k
    · subst hs; rw [putSlot_same] at hz; injection hz with hz; exact .inl ⟨rfl, hz.symm⟩
    · rw [putSlot_other _ hs] at hz; exact .inr ⟨hs, hz⟩
  have hgb : g ≠ b := row_ne_map hrow h.map
  refine { row := h.row.only hO (fun e => row_ne_map h.row h.map e), map := ?_, key := fun s z hz => ?_, cell := fun s z hz => ?_, list := fun s z hz => ?_, fits := fun s z hz => ?_, lo := h.lo, los := fun s z hz => ?_, apart := fun s z s' z' hz hz' hn => ?_, apart2 := fun s z s' z' i hz hz' hn hi => ?_ }
  · have e : (fun s' => if s' = k then some (Value.pointer (some ⟨g, 0, none⟩)) else ptrs f s') = ptrs (putSlot f k ⟨g, .slice none 0 0, St.no⟩) := by
      funext s
      unfold ptrs
      by_cases hs : s = k
      · subst hs; rw [putSlot_same, if_pos rfl]; rfl
      · rw [putSlot_other _ hs, if_neg hs]
    rw [← e]; exact hmap
  · rcases hput s z hz with ⟨rfl, rfl⟩ | ⟨hs', h0⟩
    · exact hs
    · exact h.key s z h0
  · rcases hput s z hz with ⟨rfl, rfl⟩ | ⟨hs', h0⟩
    · exact hrow.only hO hgb
    · exact (h.cell s z h0).only hO (row_ne_map (h.cell s z h0) h.map)
  · rcases hput s z hz with ⟨rfl, rfl⟩ | ⟨hs', h0⟩
    · exact World.ownsRow_nil _ _ _ _
    · exact owns_only (h.list s z h0) hO fun i hi e => map_ne_own h.map (h.list s z h0) (e ▸ hi)
  · rcases hput s z hz with ⟨rfl, rfl⟩ | ⟨hs', h0⟩
    · exact St.Fits.no _
    · exact (h.fits s z h0).mono (by omega)
  · rcases hput s z hz with ⟨rfl, rfl⟩ | ⟨hs', h0⟩
    · exact hg
    · exact h.los s z h0
  · rcases hput s z hz with ⟨rfl, rfl⟩ | ⟨hs', h0⟩
    · rcases hput s' z' hz' with ⟨rfl, rfl⟩ | ⟨hs', h0'⟩
      · exact absurd rfl hn
      · exact fun e => hold s' z' h0' e.symm
    · rcases hput s' z' hz' with ⟨rfl, rfl⟩ | ⟨hs', h0'⟩
      · exact hold s z h0
      · exact h.apart s z s' z' h0 h0' hn
  · rcases hput s z hz with ⟨rfl, rfl⟩ | ⟨hs', h0⟩
    · cases hi
    · rcases hput s' z' hz' with ⟨rfl, rfl⟩ | ⟨hs', h0'⟩
      · exact fun e => by cases e
      · exact h.apart2 s z s' z' i h0 h0' hn hi
/-- Without what lay under a key. -/
def dropSlot (f : ByteArray → Option Slot) (k : ByteArray) (s : ByteArray) : Option Slot := if s = k then none else f s
theorem vals_drop (f : ByteArray → Option Slot) (k : ByteArray) (s : ByteArray) : vals (dropSlot f k) s = if k = s then St.no else vals f s := by
  by_cases h : s = k
  · subst h; rw [if_pos rfl, vals_none (if_pos rfl)]
  · rw [if_neg (fun e => h e.symm)]; unfold vals dropSlot; rw [if_neg h]
theorem StoreIs.drop {w w' : World} {base p b n : Nat} {f : ByteArray → Option Slot} (h : StoreIs w base p b n f) {k : ByteArray}
    (hmap : MapV Tryz.prog 9 w' b n (fun s' => if s' = k then none else ptrs f s')) (hgr : w.grownBy w' (some b)) : StoreIs w' base p b n (dropSlot f k) := by
  have hO : Only (fun j => j = b) w w' := (Only.refl _ w).grown hgr fun i hi => .inl (by injection hi with hi; exact hi.symm)
  have hput : ∀ s z, dropSlot f k s = some z → f s = some z := fun s z hz => by
    unfold dropSlot at hz
    by_cases hs : s = k
    · rw [if_pos hs] at hz; cases hz
    · rw [if_neg hs] at hz; exact hz
  refine { row := h.row.only hO (fun e => row_ne_map h.row h.map e), map := ?_, key := fun s z hz => h.key s z (hput s z hz), cell := fun s z hz => (h.cell s z (hput s z hz)).only hO (row_ne_map (h.cell s z (hput s z hz)) h.map), list := fun s z hz => owns_only (h.list s z (hput s z hz)) hO fun i hi e => map_ne_own h.map (h.list s z (hput s z hz)) (e ▸ hi), fits := fun s z hz => h.fits s z (hput s z hz), lo := h.lo, los := fun s z hz => h.los s z (hput s z hz), apart := fun s z s' z' hz hz' hn => h.apart s z s' z' (hput s z hz) (hput s' z' hz') hn, apart2 := fun s z s' z' i hz hz' hn hi => h.apart2 s z s' z' i (hput s z hz) (hput s' z' hz') hn hi }
  have e : (fun s' => if s' = k then none else ptrs f s') = ptrs (dropSlot f k) := by
    funext s
    unfold ptrs dropSlot
    by_cases hs : s = k
    · rw [if_pos hs, if_pos hs]; rfl
    · rw [if_neg hs, if_neg hs]
  rw [← e]; exact hmap
end Go.Proofs.YtdbpiabcpjgblaaGreatDoor
/- What store.Do leaves. -/
namespace Go.Proofs.YtdbpiabcpjgblaaGreatDoor
open Go.RowKit
set_option linter.unusedVariables false
def Did (x : WrB) (w : World) (base p b n : Nat) (f : ByteArray → Option Slot) (w' : World) : Prop :=
  ∃ f', StoreIs w' base p b (n + 1) f' ∧ (∀ s, vals f' s = if x.key = s then St.step (vals f s) x.sw else vals f s) ∧ Only (Mine b f) w w' ∧ ∀ j, Mine b f' j → Mine b f j ∨ w.heap.size ≤ j
theorem did_turn {x : WrB} {w w5 w6 : World} {base p b n : Nat} {f f1 : ByteArray → Option Slot} {X y : Slot} (h5 : StoreIs w5 base p b (n + 1) f1) (hX : f1 x.key = some X) (hv : ∀ s, vals f1 s = vals f s) (ho5 : Only (Mine b f) w w5)
    (hm : ∀ j, Mine b f1 j → Mine b f j ∨ w.heap.size ≤ j) (hg : y.g = X.g) (hrow : Row w6 y.g 105 (slotCells x.key y)) (hown : w6.ownsRow base 9 1 y.lv y.val.list.length (y.val.list.flatMap strCells))
    (hf : St.Fits y.val (n + 1)) (hl : y.lv.ownBlock = X.lv.ownBlock ∨ ∀ i, y.lv.ownBlock = some i → w5.heap.size ≤ i) (ho : Only (fun j => j = X.g ∨ X.lv.ownBlock = some j) w5 w6) (hy : y.val = St.step X.val x.sw) : Did x w base p b n f w6 := by
  have hmX : ∀ j, j = X.g ∨ X.lv.ownBlock = some j → Mine b f1 j := fun j hj => .inr ⟨x.key, X, hX, hj⟩
  refine ⟨putSlot f1 x.key y, h5.turn hX hg hrow hown hf hl ho, fun s => ?_, ho5.step ho fun j hj => hm j (hmX j hj), fun j hj => ?_⟩
  · rw [vals_put]
    by_cases e : x.key = s
    · subst e
      rw [if_pos rfl, if_pos rfl, hy, ← hv, vals_some hX]
    · rw [if_neg e, if_neg e, hv]
  · rcases hj with rfl | ⟨s, z, hz, hj⟩
    · exact hm _ (.inl rfl)
    · by_cases e : s = x.key
      · subst e
        rw [putSlot_same] at hz
        injection hz with hz
        subst hz
        rcases hj with rfl | hj
        · exact hm _ (hmX _ (.inl hg))
        · rcases hl with hl | hl
          · exact hm _ (hmX _ (.inr (hl ▸ hj)))
          · exact .inr (Nat.le_trans ho5.size (hl j hj))
      · rw [putSlot_other _ e] at hz
        exact hm _ (.inr ⟨s, z, hz, hj⟩)
/-- The list stays. -/
theorem did_same {x : WrB} {w w5 w6 : World} {base p b n : Nat} {f f1 : ByteArray → Option Slot} {X : Slot} {v : St.Val} (h5 : StoreIs w5 base p b (n + 1) f1) (hX : f1 x.key = some X) (hv : ∀ s, vals f1 s = vals f s) (ho5 : Only (Mine b f) w w5)
    (hm : ∀ j, Mine b f1 j → Mine b f j ∨ w.heap.size ≤ j) (hrow : Row w6 X.g 105 (slotCells x.key ⟨X.g, X.lv, v⟩)) (hfx : St.Fits X.val n) (hgood : St.Good x.sw)
    (ho : Only (fun j => j = X.g) w5 w6) (hy : v = St.step X.val x.sw) (hlist : v.list = X.val.list) : Did x w base p b n f w6 := by
  refine did_turn (y := ⟨X.g, X.lv, v⟩) h5 hX hv ho5 hm rfl hrow ?_ (by rw [show (⟨X.g, X.lv, v⟩ : Slot).val = St.step X.val x.sw from hy]; exact hfx.step hgood) (.inl rfl) (ho.mono fun j _ hj => .inl hj) hy
  show w6.ownsRow base 9 1 X.lv v.list.length (v.list.flatMap strCells)
  rw [hlist]
  exact owns_only (h5.list _ _ hX) ho fun k hk e => row_ne_own (h5.cell _ _ hX) (h5.list _ _ hX) cell_ne_string (e ▸ hk)
theorem did_drop {x : WrB} {w w5 w6 : World} {base p b n : Nat} {f f1 : ByteArray → Option Slot} (h5 : StoreIs w5 base p b (n + 1) f1) (hv : ∀ s, vals f1 s = vals f s) (ho5 : Only (Mine b f) w w5)
    (hm : ∀ j, Mine b f1 j → Mine b f j ∨ w.heap.size ≤ j) (hmap : MapV Tryz.prog 9 w6 b (n + 1) (fun s' => if s' = x.key then none else ptrs f1 s')) (hgr : w5.grownBy w6 (some b)) (hk : x.k = 2) : Did x w base p b n f w6 := by
  have ho : Only (fun j => j = b) w5 w6 := (Only.refl _ w5).grown hgr fun i hi => .inl (by injection hi with hi; exact hi.symm)
  refine ⟨dropSlot f1 x.key, h5.drop hmap hgr, fun s => ?_, ho5.step ho fun j hj => .inl (.inl hj), fun j hj => ?_⟩
  · rw [vals_drop, hv]
    by_cases e : x.key = s
    · subst e
      rw [if_pos rfl, if_pos rfl]
      unfold St.step WrB.sw
      rw [if_neg (by simp only; omega), if_pos hk]
    · rw [if_neg e, if_neg e]
  · rcases hj with rfl | ⟨s, z, hz, hj⟩
    · exact hm _ (.inl rfl)
    · unfold dropSlot at hz
      by_cases e : s = x.key
      · rw [if_pos e] at hz; cases hz
      · rw [if_neg e] at hz
        exact hm _ (.inr ⟨s, z, hz, hj⟩)
end Go.Proofs.YtdbpiabcpjgblaaGreatDoor
/- Lists of cells in memory; slices.SortFunc over them, by keys. -/
namespace Go.Proofs.YtdbpiabcpjgblaaGreatDoor
set_option linter.unusedSimpArgs false
open Go.RowKit
open Go.Sort hiding Below
set_option linter.unusedVariables false
/-- A cell in memory: what it says, and where its list lies. -/
structure CelB where
  cel : St.Cel
  la : Option Addr
  ln : Nat
  lc : Nat
instance : Inhabited CelB := ⟨⟨⟨⟨#[]⟩, St.no⟩, none, 0, 0⟩⟩
def celCells (x : CelB) : List Value := [.string x.cel.key, .bool x.cel.val.has, .string x.cel.val.text, .int .i64 x.cel.val.sum, .slice x.la x.ln x.lc]
theorem celCells_len (x : CelB) : (celCells x).length = 5 := rfl
theorem celCells_one (x : CelB) : ∀ v ∈ celCells x, v.oneCell' = true := fun v hv => by
  simp only [celCells, List.mem_cons, List.not_mem_nil, or_false] at hv
  rcases hv with rfl | rfl | rfl | rfl | rfl <;> rfl
def cmpCel (x y : CelB) : Int := Lib.compareBytes x.cel.key.data.toList y.cel.key.data.toList
theorem lt_cmpCel (x y : CelB) : Go.Proofs.ltOf cmpCel x y = St.lt x.cel.key y.cel.key := rfl
theorem cmpCel_swo : SWO (Go.Proofs.ltOf cmpCel) where
  irrefl x := by rw [lt_cmpCel]; exact St.lt_irrefl _
  trans x y z h1 h2 := by rw [lt_cmpCel] at *; exact St.lt_trans h1 h2
  ntrans x y z h1 h2 := by
    rw [lt_cmpCel] at *
    cases h : St.lt x.cel.key z.cel.key with
    | false => rfl
    | true =>
      by_cases e : y.cel.key = x.cel.key
      · rw [e, h] at h2; cases h2
      · have := St.lt_trans (St.lt_total e h1) h
        rw [this] at h2; cases h2
theorem flatK_list (d : Array CelB) : (flatK celCells 5 d).toList = d.toList.flatMap celCells := by
  have hl : (d.toList.flatMap celCells).length = d.size * 5 := by rw [flat_len celCells_len]; simp
  apply List.ext_getElem?
  intro t
  by_cases ht : t < d.size * 5
  · have h1 : t / 5 < d.size := by omega
    have h2 : t % 5 < 5 := by omega
    have hg := flat_get celCells_len d.toList (t / 5) (t % 5) (by simpa using h1) h2
    rw [show t / 5 * 5 + t % 5 = t by omega] at hg
    rw [hg]
    have hk := get_flatK celCells 5 d t ht
    have hs : t < (flatK celCells 5 d).size := by simpa using ht
    rw [Array.getElem?_toList, Array.getElem?_eq_getElem hs, ← getElem!_pos _ t hs, hk]
    rw [getElem!_pos d (t / 5) h1]
    have h3 : t % 5 < (celCells (d[t / 5]'h1)).length := by rw [celCells_len]; exact h2
    rw [getElem!_pos (celCells (d[t / 5]'h1)) (t % 5) h3, ← List.getElem?_eq_getElem h3]
    rfl
  · rw [List.getElem?_eq_none (by simp; omega), List.getElem?_eq_none (by rw [hl]; omega)]
theorem putCells_take (F cur : Array Value) (h : F.size ≤ cur.size) : (putCells id 0 F cur).toList.take F.size = F.toList := by
  apply List.ext_getElem?
  intro t
  rw [List.getElem?_take]
  by_cases ht : t < F.size
  · rw [if_pos ht]
    unfold putCells
    simp only [Array.getElem?_toList, Array.getElem?_mapIdx, Nat.zero_le, true_and, Nat.zero_add, Nat.sub_zero, id]
    rw [Array.getElem?_eq_getElem (show t < cur.size by omega), Array.getElem?_eq_getElem ht]
    simp only [Option.map_some, if_pos ht]
    rw [getElem!_pos F t ht]
  · rw [if_neg ht, List.getElem?_eq_none (by simpa using ht)]
theorem owns_holdsK {w : World} {base : Nat} {e : TypeId} {g n cap : Nat} {L : List CelB} (hn : n = L.length) (h : w.ownsRow base e 5 (.slice (some ⟨g, 0, none⟩) n cap) n (L.flatMap celCells)) : HoldsK celCells 5 w g 0 L.toArray := by
  subst hn
  rcases h.2 with ⟨h', _⟩ | ⟨g', cap', cur, h', hb, hg, hn, hm, hs, htake⟩
  · cases h'
  · injection h' with h1 h2 h3
    injection h1 with h1
    injection h1 with h1
    subst h1; subst h3
    intro j hj
    rw [size_flatK] at hj
    have hj' : j < (L.flatMap celCells).length := by rw [flat_len celCells_len]; simpa using hj
    have hjc : j < cur.size := by
      have := List.length_take_le (L.length * 5) cur.toList
      have e := congrArg List.length htake
      rw [List.length_take] at e
      rw [flat_len celCells_len] at e hj'
      simp only [Array.length_toList] at e
      omega
    have hf := flatK_list L.toArray
    rw [List.toList_toArray] at hf
    have hF : (flatK celCells 5 L.toArray)[j]! = (L.flatMap celCells)[j] := by
      have hs : j < (flatK celCells 5 L.toArray).size := by simpa using hj
      rw [getElem!_pos _ j hs]
      have := congrArg (fun l => l[j]?) hf
      simp only [Array.getElem?_toList, Array.getElem?_eq_getElem hs, List.getElem?_eq_getElem hj', Option.some.injEq] at this
      exact this
    constructor
    · rw [Nat.zero_add, hF]
      simp only [World.cell?, hg]
      rw [Array.getElem?_eq_getElem hjc]
      have := congrArg (fun l => l[j]?) htake
      simp only [List.getElem?_take, List.getElem?_eq_getElem hj'] at this
      rw [if_pos (by rw [flat_len celCells_len] at hj'; exact hj'), Array.getElem?_toList, Array.getElem?_eq_getElem hjc] at this
      exact this
    · simp [World.frozen?, hg]
theorem sort_world {w : World} {base : Nat} {e : TypeId} {g n cap : Nat} {L : List CelB} (h : w.ownsRow base e 5 (.slice (some ⟨g, 0, none⟩) n cap) n (L.flatMap celCells)) (m : Nat) (d' : Array CelB) (os : Array Obj) (hn : n = L.length) (hd : d'.size = L.length) :
    (sortWorldK celCells 5 w g 0 m d' os).ownsRow base e 5 (.slice (some ⟨g, 0, none⟩) n cap) n (d'.toList.flatMap celCells) ∧ Only (fun j => j = g) w (sortWorldK celCells 5 w g 0 m d' os) := by
  have hlt : g < w.heap.size := (h.lt g rfl).2
  constructor
  · refine ⟨by rw [flat_len celCells_len, hn]; simp [hd], ?_⟩
    rcases h.2 with ⟨h', _⟩ | ⟨g', cap', cur, h', hb, hg, hnc, hm, hs, htake⟩
    · cases h'
    · injection h' with h1 h2 h3
      injection h1 with h1
      injection h1 with h1
      subst h1; subst h3
      have hF : (flatK celCells 5 d').size = n * 5 := by rw [size_flatK, hd, hn]
      refine .inr ⟨g, cap, putCells id 0 (flatK celCells 5 d') cur, rfl, hb, ?_, hnc, hm, by unfold putCells; simpa using hs, ?_⟩
      · unfold sortWorldK putRowK putRow
        rw [heap_grow_old _ _ (by simpa [mapBlock, ahead] using hlt)]
        simp [mapBlock, Array.getElem?_modify, hg, onCells, Go.Sort.ahead]
      · rw [← hF, putCells_take _ _ (by rw [hF, hs]; exact Nat.mul_le_mul_right _ hnc), flatK_list]
  · refine ⟨rfl, rfl, rfl, ?_, fun k hk hne => ?_⟩
    · simp [sortWorldK, size_putRowK, ahead]
    · unfold sortWorldK putRowK putRow
      rw [heap_grow_old _ _ (by simpa [mapBlock, ahead] using hk)]
      simp only [mapBlock, ahead, Array.getElem?_modify]
      rw [if_neg (fun e => hne e.symm)]
      rfl
theorem sortedIn_pairwise (d : Array CelB) (h : SortedIn (Go.Proofs.ltOf cmpCel) 0 d.size d) : d.toList.Pairwise fun a b => St.lt b.cel.key a.cel.key = false := by
  rw [List.pairwise_iff_getElem]
  intro i j hi hj hij
  have hj' : j < d.size := by simpa using hj
  have hi' : i < d.size := by simpa using hi
  have := h i j (Nat.zero_le _) hij hj'
  rw [getElem!_pos d j hj', getElem!_pos d i hi', lt_cmpCel] at this
  simpa using this
set_option maxHeartbeats 1000000 in
/-- slices.SortFunc over cells that the call owns, by keys, whichever closure compares them. -/
theorem sort_cells (F : FuncId) (eg : ∀ args w, (callFunc F args).run Tryz.prog w = .ok (.enter F args) w)
    (hF : ∀ (x y : CelB) (W : World), Calls Tryz.prog F #[.agg (celCells x).toArray, .agg (celCells y).toArray] W fun e w' => e = .returned (.int .i64 (cmpCel x y)) ∧ ∃ q os', w' = grow (W.drewN q) os')
    (v : Value) (L : List CelB) (base : Nat) (w : World) (hown : w.ownsRow base 105 5 v L.length (L.flatMap celCells)) (hl : L.length ≤ 1000000) :
    Calls Tryz.prog 78 #[v, .func (.func F) #[] #[]] w fun e w' => e = .returned (.tuple #[]) ∧ ∃ L' : List CelB, L'.Perm L ∧ L'.Pairwise (fun a b => St.lt b.cel.key a.cel.key = false) ∧ w'.ownsRow base 105 5 v L'.length (L'.flatMap celCells) ∧ Only (fun j => v.ownBlock = some j) w w' := by
  rcases hown.2 with ⟨rfl, h0⟩ | ⟨g, cap, cur, rfl, hb, hg, rest⟩
  · have hL : L = [] := List.eq_nil_of_length_eq_zero h0
    subst hL
    have hcon := AnyF.slices_SortFunc_none Tryz.sortCell none 0 (.func (.func F) #[] #[]) w
    change Calls Tryz.prog _ _ _ _ at hcon
    exact hcon.mono fun e w' ⟨he, hw⟩ => ⟨he, [], List.Perm.refl _, List.Pairwise.nil, by rw [hw]; exact World.ownsRow_nil _ _ _ _, by rw [hw]; exact Only.refl _ _⟩
  · have hcon := AnyQ.slices_SortFunc Tryz.sortCell 5 Tryz.isAgg105 Tryz.sizeOf105 celCells celCells_len celCells_one cmpCel cmpCel_swo F #[] g 0 cap L.toArray w eg (fun m os dk _ x y => by simpa using hF x y (sortWorldK celCells 5 w g 0 m dk os)) (owns_holdsK rfl hown) (Array.getElem?_eq_some_iff.1 hg).1 (by simp; omega)
    change Calls Tryz.prog _ _ _ _ at hcon
    simp only [List.size_toArray] at hcon
    refine hcon.mono fun e w' ⟨he, d', n, os, hp, hs, hw⟩ => ⟨he, d'.toList, ?_, ?_, ?_, ?_⟩
    · have := hp.2.2
      have hsz : d'.size = L.length := by simpa using hp.1
      rw [Array.extract_eq_self_of_le (by omega), Array.extract_eq_self_of_le (by simp)] at this
      simpa using this
    · have hsz : d'.size = L.length := by simpa using hp.1
      exact sortedIn_pairwise d' (by rw [hsz]; exact hs)
    · have hsz : d'.size = L.length := by simpa using hp.1
      rw [hw, show d'.toList.length = L.length by simpa using hsz]
      exact (sort_world hown n d' os rfl hsz).1
    · have hsz : d'.size = L.length := by simpa using hp.1
      rw [hw]
      exact (sort_world hown n d' os rfl hsz).2.mono fun j _ hj => by rw [hj]; rfl
end Go.Proofs.YtdbpiabcpjgblaaGreatDoor
/- The walk of slices.Clone over lists of string; printed by gen_clone.py. -/
namespace Go.Proofs.YtdbpiabcpjgblaaGreatDoor
open Go.RowKit
set_option linter.unusedVariables false
set_option linter.unusedSimpArgs false
/-- A list in memory as a source of an append. -/
theorem srcc_strs {w : World} {v : Value} {l : List ByteArray} (h : ListIs strCells 1 w v l) : Src Tryz.prog 1 103 v l.length (l.flatMap strCells) w := by
  have hfl := flat_len (f := strCells) (sz := 1) (fun _ => rfl) l
  obtain ⟨a, cap, rfl, -, hc⟩ := h.at (fun _ => rfl)
  have hone : ∀ u ∈ l.flatMap strCells, u.oneCell' = true := fun u hu => by
    obtain ⟨x, -, hx⟩ := List.mem_flatMap.1 hu
    simp only [strCells, List.mem_cons, List.not_mem_nil, or_false] at hx
    subst hx; rfl
  rcases Nat.eq_zero_or_pos l.length with h0 | hp
  · rw [h0]
    have hl : l = [] := List.eq_nil_of_length_eq_zero h0
    subst hl
    cases a with
    | none => exact Src.ofNil w Tryz.underlying103 _
    | some a => exact Src.ofSlice w Tryz.underlying103 a 0 cap [] rfl (fun j u hu => by cases hu) (fun u hu => by cases hu)
  · obtain ⟨b, off, rfl, -, -⟩ := hc 0 hp
    refine Src.ofSlice w Tryz.underlying103 _ _ _ _ hfl (fun j u hu => ?_) hone
    have hj := (List.getElem?_eq_some_iff.1 hu).1
    rw [hfl] at hj
    have hk : j / 1 < l.length := Nat.div_lt_of_lt_mul (by rw [Nat.mul_comm]; exact hj)
    have hm : j % 1 < 1 := Nat.mod_lt _ (by omega)
    have he : j / 1 * 1 + j % 1 = j := by omega
    have hg := flat_get (f := strCells) (sz := 1) (fun _ => rfl) l (j / 1) (j % 1) hk hm
    rw [he, hu] at hg
    obtain ⟨b', off', e, -, hcc⟩ := hc (j / 1) hk
    injection e with e
    injection e with e1 e2
    subst e1; subst e2
    have h2 := hcc (j % 1) u hg.symm
    rw [Nat.add_assoc, he] at h2
    have ea : (⟨b, off, none⟩ : Addr).add j = ⟨b, off + j, none⟩ := by unfold Addr.add; split <;> simp_all
    rw [ea]; exact h2
set_option maxHeartbeats 2000000 in
set_option maxRecDepth 20000 in
theorem clone_strs (v : Value) (l : List ByteArray) (w : World) (hv : ListIs strCells 1 w v l) (hl : l.length ≤ 1000000) :
    Calls Tryz.prog 77 #[v] w fun e w' => (∃ u, e = .returned u ∧ w'.ownsRow w.heap.size 9 1 u l.length (l.flatMap strCells)) ∧ Below w.heap.size w w' := by
  obtain ⟨o, c, rfl, hcap, hcell⟩ := hv.at (fun _ => rfl)
  clear hcap
  cases o with
  | none =>
    have h0 : l.length = 0 := by
      rcases Nat.eq_zero_or_pos l.length with h | h
      · exact h
      · obtain ⟨b, off, e, -, -⟩ := hcell 0 h
        cases e
    have hl0 : l = [] := List.eq_nil_of_length_eq_zero h0
    subst hl0
    clear hv hcell
    have hnl := fun W : World => Lib.run_eql_slice_nil (P := Tryz.prog) W 103 9 none 0 c 0 0 Tryz.underlying103
    go_enter Tryz.func77, Tryz.ntmps77
    go_wp2
    go_ret
    exact ⟨⟨_, rfl, World.ownsRow_nil _ _ _ _⟩, by exact blw⟩
  | some a =>
    clear hcell
    have hb1 : Below w.heap.size w (w.alloc (.cells #[] 9)) := bal (Below.refl _ _) _
    have hsrc := Lib.hid (srcc_strs (hv.below (by omega) hb1))
    have hO := Lib.hid (World.ownsRow_lit (base := w.heap.size) (e := 9) (size := 1) w #[] 0 (Nat.le_refl _) (by decide) rfl)
    clear hv
    have hnl := fun W : World => Lib.run_eql_slice_nil (P := Tryz.prog) W 103 9 (some a) l.length c 0 0 Tryz.underlying103
    go_enter Tryz.func77, Tryz.ntmps77
    go_wp2_with (at_builtin; go_must (refine app_any rfl _ _ 103 103 9 rfl w.heap.size (.string ⟨#[]⟩) 1 16 Tryz.underlying103 (by kernel_rfl) rfl _ 0 [] rfl hO.out l.length (l.flatMap strCells) hsrc.out (by omega) (by omega) hb1.size ?_))
    intro v1 w2 hown2 hg2 hblk2 hnil hb2
    go_wp2
    go_ret
    exact ⟨⟨_, rfl, by simpa using hown2⟩, hb1.trans hb2⟩
end Go.Proofs.YtdbpiabcpjgblaaGreatDoor
