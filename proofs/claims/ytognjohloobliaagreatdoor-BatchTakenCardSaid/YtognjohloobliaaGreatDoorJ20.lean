/- Lists of cells in memory; slices.SortFunc over them, by keys. -/
import Derived.Shelf.SlSortCmp.WholeK
import Derived.Shelf.SlSortCmp.NoneTotal
import Derived.Test.YtognjohloobliaaGreatDoorJ09
import Derived.Test.YtognjohloobliaaGreatDoorShelf
namespace Go.Proofs.YtognjohloobliaaGreatDoor
set_option linter.unusedSimpArgs false
open Go.RowKit
open Go.Sort hiding Below
set_option linter.unusedVariables false
/-- A cell in memory: what it says, and where its list lies. -/
structure CelB where
 cel : St.Cel
 la : Option Addr
 ln : Nat
 lc : Nat
instance : Inhabited CelB := ⟨⟨⟨⟨#[]⟩, St.no⟩, none, 0, 0⟩⟩
def celCells (x : CelB) : List Value := [.string x.cel.key, .bool x.cel.val.has, .string x.cel.val.text, .int .i64 x.cel.val.sum, .slice x.la x.ln x.lc]
theorem celCells_len (x : CelB) : (celCells x).length = 5 := rfl
theorem celCells_one (x : CelB) : ∀ v ∈ celCells x, v.oneCell' = true := fun v hv => by
 simp only [celCells, List.mem_cons, List.not_mem_nil, or_false] at hv
 rcases hv with rfl | rfl | rfl | rfl | rfl <;> rfl
def cmpCel (x y : CelB) : Int := Lib.compareBytes x.cel.key.data.toList y.cel.key.data.toList
theorem lt_cmpCel (x y : CelB) : Go.Proofs.ltOf cmpCel x y = St.lt x.cel.key y.cel.key := rfl
theorem cmpCel_swo : SWO (Go.Proofs.ltOf cmpCel) where
 irrefl x := by rw [lt_cmpCel]; exact St.lt_irrefl _
 trans x y z h1 h2 := by rw [lt_cmpCel] at *; exact St.lt_trans h1 h2
 ntrans x y z h1 h2 := by
  rw [lt_cmpCel] at *
  cases h : St.lt x.cel.key z.cel.key with
  | false => rfl
  | true =>
   by_cases e : y.cel.key = x.cel.key
   ·rw [e, h] at h2; cases h2
   ·have := St.lt_trans (St.lt_total e h1) h
    rw [this] at h2; cases h2
theorem flatK_list (d : Array CelB) : (flatK celCells 5 d).toList = d.toList.flatMap celCells := by
 have hl : (d.toList.flatMap celCells).length = d.size * 5 := by rw [flat_len celCells_len]; simp
 apply List.ext_getElem?
 intro t
 by_cases ht : t < d.size * 5
 ·have h1 : t / 5 < d.size := by omega
  have h2 : t % 5 < 5 := by omega
  have hg := flat_get celCells_len d.toList (t / 5) (t % 5) (by simpa using h1) h2
  rw [show t / 5 * 5 + t % 5 = t by omega] at hg
  rw [hg]
  have hk := get_flatK celCells 5 d t ht
  have hs : t < (flatK celCells 5 d).size := by simpa using ht
  rw [Array.getElem?_toList, Array.getElem?_eq_getElem hs, ← getElem!_pos _ t hs, hk]
  rw [getElem!_pos d (t / 5) h1]
  have h3 : t % 5 < (celCells (d[t / 5]'h1)).length := by rw [celCells_len]; exact h2
  rw [getElem!_pos (celCells (d[t / 5]'h1)) (t % 5) h3, ← List.getElem?_eq_getElem h3]
  rfl
 ·rw [List.getElem?_eq_none (by simp; omega), List.getElem?_eq_none (by rw [hl]; omega)]
theorem putCells_take (F cur : Array Value) (h : F.size ≤ cur.size) : (putCells id 0 F cur).toList.take F.size = F.toList := by
 apply List.ext_getElem?
 intro t
 rw [List.getElem?_take]
 by_cases ht : t < F.size
 ·rw [if_pos ht]
  unfold putCells
  simp only [Array.getElem?_toList, Array.getElem?_mapIdx, Nat.zero_le, true_and, Nat.zero_add, Nat.sub_zero, id]
  rw [Array.getElem?_eq_getElem (show t < cur.size by omega), Array.getElem?_eq_getElem ht]
  simp only [Option.map_some, if_pos ht]
  rw [getElem!_pos F t ht]
 ·rw [if_neg ht, List.getElem?_eq_none (by simpa using ht)]
theorem owns_holdsK {w : World} {base : Nat} {e : TypeId} {g n cap : Nat} {L : List CelB} (hn : n = L.length) (h : w.ownsRow base e 5 (.slice (some ⟨g, 0, none⟩) n cap) n (L.flatMap celCells)) : HoldsK celCells 5 w g 0 L.toArray := by
 subst hn
 rcases h.2 with ⟨h', _⟩ | ⟨g', cap', cur, h', hb, hg, hn, hm, hs, htake⟩
 ·cases h'
 ·injection h' with h1 h2 h3
  injection h1 with h1
  injection h1 with h1
  subst h1; subst h3
  intro j hj
  rw [size_flatK] at hj
  have hj' : j < (L.flatMap celCells).length := by rw [flat_len celCells_len]; simpa using hj
  have hjc : j < cur.size := by
   have := List.length_take_le (L.length * 5) cur.toList
   have e := congrArg List.length htake
   rw [List.length_take] at e
   rw [flat_len celCells_len] at e hj'
   simp only [Array.length_toList] at e
   omega
  have hf := flatK_list L.toArray
  rw [List.toList_toArray] at hf
  have hF : (flatK celCells 5 L.toArray)[j]! = (L.flatMap celCells)[j] := by
   have hs : j < (flatK celCells 5 L.toArray).size := by simpa using hj
   rw [getElem!_pos _ j hs]
   have := congrArg (fun l => l[j]?) hf
   simp only [Array.getElem?_toList, Array.getElem?_eq_getElem hs, List.getElem?_eq_getElem hj', Option.some.injEq] at this
   exact this
  constructor
  ·rw [Nat.zero_add, hF]
   simp only [World.cell?, hg]
   rw [Array.getElem?_eq_getElem hjc]
   have := congrArg (fun l => l[j]?) htake
   simp only [List.getElem?_take, List.getElem?_eq_getElem hj'] at this
   rw [if_pos (by rw [flat_len celCells_len] at hj'; exact hj'), Array.getElem?_toList, Array.getElem?_eq_getElem hjc] at this
   exact this
  ·simp [World.frozen?, hg]
theorem sort_world {w : World} {base : Nat} {e : TypeId} {g n cap : Nat} {L : List CelB} (h : w.ownsRow base e 5 (.slice (some ⟨g, 0, none⟩) n cap) n (L.flatMap celCells)) (m : Nat) (d' : Array CelB) (os : Array Obj) (hn : n = L.length) (hd : d'.size = L.length) :
  (sortWorldK celCells 5 w g 0 m d' os).ownsRow base e 5 (.slice (some ⟨g, 0, none⟩) n cap) n (d'.toList.flatMap celCells) ∧ Only (fun j => j = g) w (sortWorldK celCells 5 w g 0 m d' os) := by
 have hlt : g < w.heap.size := (h.lt g rfl).2
 constructor
 ·refine ⟨by rw [flat_len celCells_len, hn]; simp [hd], ?_⟩
  rcases h.2 with ⟨h', _⟩ | ⟨g', cap', cur, h', hb, hg, hnc, hm, hs, htake⟩
  ·cases h'
  ·injection h' with h1 h2 h3
   injection h1 with h1
   injection h1 with h1
   subst h1; subst h3
   have hF : (flatK celCells 5 d').size = n * 5 := by rw [size_flatK, hd, hn]
   refine .inr ⟨g, cap, putCells id 0 (flatK celCells 5 d') cur, rfl, hb, ?_, hnc, hm, by unfold putCells; simpa using hs, ?_⟩
   ·unfold sortWorldK putRowK putRow
    rw [heap_grow_old _ _ (by simpa [mapBlock, ahead] using hlt)]
    simp [mapBlock, Array.getElem?_modify, hg, onCells, Go.Sort.ahead]
   ·rw [← hF, putCells_take _ _ (by rw [hF, hs]; exact Nat.mul_le_mul_right _ hnc), flatK_list]
 ·refine ⟨rfl, rfl, rfl, ?_, fun k hk hne => ?_⟩
  ·simp [sortWorldK, size_putRowK, ahead]
  ·unfold sortWorldK putRowK putRow
   rw [heap_grow_old _ _ (by simpa [mapBlock, ahead] using hk)]
   simp only [mapBlock, ahead, Array.getElem?_modify]
   rw [if_neg (fun e => hne e.symm)]
   rfl
theorem sortedIn_pairwise (d : Array CelB) (h : SortedIn (Go.Proofs.ltOf cmpCel) 0 d.size d) : d.toList.Pairwise fun a b => St.lt b.cel.key a.cel.key = false := by
 rw [List.pairwise_iff_getElem]
 intro i j hi hj hij
 have hj' : j < d.size := by simpa using hj
 have hi' : i < d.size := by simpa using hi
 have := h i j (Nat.zero_le _) hij hj'
 rw [getElem!_pos d j hj', getElem!_pos d i hi', lt_cmpCel] at this
 simpa using this
set_option maxHeartbeats 1000000 in
/-- slices.SortFunc over cells that the call owns, by keys, whichever closure compares them. -/
theorem sort_cells (F : FuncId) (eg : ∀ args w, (callFunc F args).run Tryz.prog w = .ok (.enter F args) w)
  (hF : ∀ (x y : CelB) (W : World), Calls Tryz.prog F #[.agg (celCells x).toArray, .agg (celCells y).toArray] W fun e w' => e = .returned (.int .i64 (cmpCel x y)) ∧ ∃ q os', w' = grow (W.drewN q) os')
  (v : Value) (L : List CelB) (base : Nat) (w : World) (hown : w.ownsRow base 147 5 v L.length (L.flatMap celCells)) (hl : L.length ≤ 1000000) :
  Calls Tryz.prog 80 #[v, .func (.func F) #[] #[]] w fun e w' => e = .returned (.tuple #[]) ∧ ∃ L' : List CelB, L'.Perm L ∧ L'.Pairwise (fun a b => St.lt b.cel.key a.cel.key = false) ∧ w'.ownsRow base 147 5 v L'.length (L'.flatMap celCells) ∧ Only (fun j => v.ownBlock = some j) w w' := by
 rcases hown.2 with ⟨rfl, h0⟩ | ⟨g, cap, cur, rfl, hb, hg, rest⟩
 ·have hL : L = [] := List.eq_nil_of_length_eq_zero h0
  subst hL
  have hcon := AnyF.slices_SortFunc_none Tryz.sortCell none 0 (.func (.func F) #[] #[]) w
  change Calls Tryz.prog _ _ _ _ at hcon
  exact hcon.mono fun e w' ⟨he, hw⟩ => ⟨he, [], List.Perm.refl _, List.Pairwise.nil, by rw [hw]; exact World.ownsRow_nil _ _ _ _, by rw [hw]; exact Only.refl _ _⟩
 ·have hcon := AnyQ.slices_SortFunc Tryz.sortCell 5 Tryz.isAgg147 Tryz.sizeOf147 celCells celCells_len celCells_one cmpCel cmpCel_swo F #[] g 0 cap L.toArray w eg (fun m os dk _ x y => by simpa using hF x y (sortWorldK celCells 5 w g 0 m dk os)) (owns_holdsK rfl hown) (Array.getElem?_eq_some_iff.1 hg).1 (by simp; omega)
  change Calls Tryz.prog _ _ _ _ at hcon
  simp only [List.size_toArray] at hcon
  refine hcon.mono fun e w' ⟨he, d', n, os, hp, hs, hw⟩ => ⟨he, d'.toList, ?_, ?_, ?_, ?_⟩
  ·have := hp.2.2
   have hsz : d'.size = L.length := by simpa using hp.1
   rw [Array.extract_eq_self_of_le (by omega), Array.extract_eq_self_of_le (by simp)] at this
   simpa using this
  ·have hsz : d'.size = L.length := by simpa using hp.1
   exact sortedIn_pairwise d' (by rw [hsz]; exact hs)
  ·have hsz : d'.size = L.length := by simpa using hp.1
   rw [hw, show d'.toList.length = L.length by simpa using hsz]
   exact (sort_world hown n d' os rfl hsz).1
  ·have hsz : d'.size = L.length := by simpa using hp.1
   rw [hw]
   exact (sort_world hown n d' os rfl hsz).2.mono fun j _ hj => by rw [hj]; rfl
end Go.Proofs.YtognjohloobliaaGreatDoor
