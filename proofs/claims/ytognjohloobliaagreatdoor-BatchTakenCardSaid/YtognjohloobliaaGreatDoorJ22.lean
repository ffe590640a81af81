/- The walk of store.Cells. -/
import Derived.Test.YtognjohloobliaaGreatDoorJ20
import Derived.Test.YtognjohloobliaaGreatDoorJ21
import Derived.Test.YtognjohloobliaaGreatDoorJ12
import Derived.Test.YtognjohloobliaaGreatDoorJ02
namespace Go.Proofs.YtognjohloobliaaGreatDoor
open Go.RowKit
open Go.Sort hiding Below
set_option linter.unusedVariables false
set_option linter.unusedSimpArgs false
theorem RangeV.of_blocks {P : Program} {k : TypeId} {w w' : World} {b r n cnt : Nat} {f : ByteArray → Option Value} {left : ByteArray → Bool} (h : RangeV P k w b r n f left cnt) (hb : w'.heap[b]? = w.heap[b]?) (hr : w'.heap[r]? = w.heap[r]?) : RangeV P k w' b r n f left cnt := by
 obtain ⟨D, L, ⟨es, clock, since, seen, c0, h1, h2, h3, h4, h5, h6⟩, h7⟩ := h
 exact ⟨D, L, ⟨es, clock, since, seen, c0, hb.trans h1, h2, h3, h4, hr.trans h5, h6⟩, h7⟩
theorem own_ne_own {w : World} {base base' : Nat} {e e' : TypeId} {sz sz' n n' : Nat} {v v' : Value} {xs xs' : List Value} (h : w.ownsRow base e sz v n xs) (h' : w.ownsRow base' e' sz' v' n' xs') (hn : e ≠ e') (i : Nat) (hi : v.ownBlock = some i) : v'.ownBlock ≠ some i := by
 rcases h.2 with ⟨rfl, -⟩ | ⟨g, cap, cur, rfl, -, h2, -⟩
 ·cases hi
 ·simp only [Value.ownBlock, Option.some.injEq] at hi
  subst hi
  exact row_ne_own (g := g) (e := e) (cs := cur.toList) ⟨(0, 0), by simpa using h2, .inl rfl⟩ h' hn
set_option maxHeartbeats 1000000 in
theorem cells_less (x y : CelB) (W : World) : Calls Tryz.prog 81 #[.agg (celCells x).toArray, .agg (celCells y).toArray] W fun e w' => e = .returned (.int .i64 (cmpCel x y)) ∧ ∃ q os', w' = grow (W.drewN q) os' := by
 have hc := fun W => Tryz.strings_Compare x.cel.key y.cel.key W
 change ∀ W, Calls Tryz.prog 82 _ _ _ at hc
 unfold celCells
 have hr : Hid (Lib.compareBytes x.cel.key.data.toList y.cel.key.data.toList = cmpCel x y) := Lib.hid rfl
 generalize Lib.compareBytes x.cel.key.data.toList y.cel.key.data.toList = r at hc hr
 replace hc := Lib.hid hc
 go_enter Tryz.func81, Tryz.ntmps81
 go_wp2_with (go_at_call 82; refine (hc.out _).mono ?_; rintro e w' ⟨rfl, rfl⟩)
 go_ret
 exact ⟨ret_int hr.out, 0, _, by rw [alloc_eq_grow, alloc_eq_grow, grow_grow]; rfl⟩
theorem owns_base {w : World} {base base' : Nat} {e : TypeId} {sz n : Nat} {v : Value} {xs : List Value} (h : w.ownsRow base e sz v n xs) (hb : base' ≤ base) : w.ownsRow base' e sz v n xs :=
 ⟨h.1, h.2.imp id fun ⟨g, cap, cur, e, h1, rest⟩ => ⟨g, cap, cur, e, Nat.le_trans hb h1, rest⟩⟩
theorem RangeV.le {P : Program} {k : TypeId} {w : World} {b r n cnt : Nat} {f : ByteArray → Option Value} {left : ByteArray → Bool} (h : RangeV P k w b r n f left cnt) : cnt ≤ n := by
 obtain ⟨D, L, ⟨es, clock, since, seen, c0, h1, h2, h3, h4, h5, h6, h7, h8⟩, h9⟩ := h
 rw [← h7]
 exact Nat.le_trans (Array.size_filter_le ..) h3
def CelsOf (w : World) (f : ByteArray → Option Slot) (e : Ending) (w' : World) : Prop :=
 ∃ (v : Value) (L : List CelB), e = .returned v ∧ w'.ownsRow w.heap.size 147 5 v L.length (L.flatMap celCells) ∧ (∀ x ∈ L, w'.ownsRow w.heap.size 9 1 (.slice x.la x.ln x.lc) x.cel.val.list.length (x.cel.val.list.flatMap strCells)) ∧ St.IsCells (L.map CelB.cel) (vals f) ∧ Below w.heap.size w w'
/-- What has been gathered, and what is still to come. -/
def Gath (w : World) (b n : Nat) (f : ByteArray → Option Slot) (v : Value) (wr : World) : Prop :=
 ∃ (left : ByteArray → Bool) (cnt : Nat) (L : List CelB), RangeV Tryz.prog 9 wr b w.heap.size n (ptrs f) left cnt ∧ wr.ownsRow (w.heap.size + 1) 147 5 v L.length (L.flatMap celCells) ∧
  (∀ x ∈ L, wr.ownsRow (w.heap.size + 1) 9 1 (.slice x.la x.ln x.lc) x.cel.val.list.length (x.cel.val.list.flatMap strCells)) ∧ ((L.map CelB.cel).map (·.key)).Nodup ∧
  (∀ c, c ∈ L.map CelB.cel ↔ c.val.some_ = true ∧ (∃ x, f c.key = some x ∧ x.val = c.val) ∧ left c.key = false) ∧ L.length + cnt ≤ n ∧ Below w.heap.size w wr
theorem owns_setc {w : World} {base : Nat} {e : TypeId} {sz n : Nat} {v : Value} {xs : List Value} (h : w.ownsRow base e sz v n xs) {p : Addr} (hp : v.ownBlock ≠ some p.block) (u : Value) : (w.setCell p u).ownsRow base e sz v n xs :=
 owns_only h ((Only.refl (fun j => j = p.block) w).set (.inl rfl) u) fun k hk e => hp (by rw [hk, e])
theorem gath_add {w wr w1 w5 : World} {b n cnt cnt1 : Nat} {f : ByteArray → Option Slot} {left : ByteArray → Bool} {s : ByteArray} {X : Slot} {L : List CelB} {v5 : Value} {y : CelB} (hb : Below w.heap.size w wr)
  (hR1 : RangeV Tryz.prog 9 w1 b w.heap.size n (ptrs f) (fun s' => left s' && !decide (s' = s)) cnt1) (hlt : cnt1 < cnt) (hL : L.length + cnt ≤ n) (hg1 : wr.grownBy w1 (some w.heap.size)) (hB : Below (w.heap.size + 1) w1 w5) (hbw : b < w.heap.size)
  (hO5 : w5.ownsRow (w.heap.size + 1) 147 5 v5 (L.length + 1) (L.flatMap celCells ++ celCells y)) (hS5 : ∀ x ∈ L, w5.ownsRow (w.heap.size + 1) 9 1 (.slice x.la x.ln x.lc) x.cel.val.list.length (x.cel.val.list.flatMap strCells))
  (hy : w5.ownsRow (w.heap.size + 1) 9 1 (.slice y.la y.ln y.lc) y.cel.val.list.length (y.cel.val.list.flatMap strCells)) (hyc : y.cel = ⟨s, X.val⟩) (hX : f s = some X) (hls : left s = true) (hsome : X.val.some_ = true)
  (hN : ((L.map CelB.cel).map (·.key)).Nodup) (hC : ∀ c, c ∈ L.map CelB.cel ↔ c.val.some_ = true ∧ (∃ x, f c.key = some x ∧ x.val = c.val) ∧ left c.key = false) : Gath w b n f v5 w5 := by
 refine ⟨_, cnt1, L ++ [y], hR1.of_blocks (hB.block b (by omega)) (hB.block _ (by omega)), ?_, ?_, ?_, ?_, ?_, ?_⟩
 ·rw [List.length_append, List.flatMap_append]; simpa using hO5
 ·intro x hx
  rcases List.mem_append.1 hx with hx | hx
  ·exact hS5 x hx
  ·rw [List.mem_singleton.1 hx]; exact hy
 ·rw [List.map_append, List.map_append, List.nodup_append]
  refine ⟨hN, by simp, fun k hk k' hk' e => ?_⟩
  simp only [List.map_cons, List.map_nil, List.mem_singleton] at hk'
  obtain ⟨c, hc, rfl⟩ := List.mem_map.1 hk
  have := ((hC c).1 hc).2.2
  rw [e, hk', hyc] at this
  rw [hls] at this; cases this
 ·intro c
  rw [List.map_append, List.mem_append, hC c]
  simp only [List.map_cons, List.map_nil, List.mem_singleton, hyc]
  constructor
  ·rintro (⟨h1, h2, h3⟩ | rfl)
   ·exact ⟨h1, h2, by rw [h3]; rfl⟩
   ·exact ⟨hsome, ⟨X, hX, rfl⟩, by simp⟩
  ·rintro ⟨h1, ⟨x, h2, h3⟩, h4⟩
   by_cases e : c.key = s
   ·right
    rw [e, hX] at h2
    injection h2 with h2
    obtain ⟨ck, cv⟩ := c
    simp only at e h3 ⊢
    rw [e, ← h3, h2]
   ·left
    refine ⟨h1, ⟨x, h2, h3⟩, ?_⟩
    simpa [e] using h4
 ·rw [List.length_append]; simp only [List.length_singleton]; omega
 ·have hs := hb.size
  exact (hb.grown hg1 hb.size (fun k hk => by injection hk with hk; omega)).trans (hB.mono (by omega))
theorem gath_skip {w wr w1 : World} {b n cnt cnt1 : Nat} {f : ByteArray → Option Slot} {left : ByteArray → Bool} {s : ByteArray} {X : Slot} {L : List CelB} {v : Value} (hb : Below w.heap.size w wr)
  (hR1 : RangeV Tryz.prog 9 w1 b w.heap.size n (ptrs f) (fun s' => left s' && !decide (s' = s)) cnt1) (hlt : cnt1 < cnt) (hL : L.length + cnt ≤ n) (hg1 : wr.grownBy w1 (some w.heap.size))
  (hO : wr.ownsRow (w.heap.size + 1) 147 5 v L.length (L.flatMap celCells)) (hS : ∀ x ∈ L, wr.ownsRow (w.heap.size + 1) 9 1 (.slice x.la x.ln x.lc) x.cel.val.list.length (x.cel.val.list.flatMap strCells))
  (hX : f s = some X) (hsome : X.val.some_ = false)
  (hN : ((L.map CelB.cel).map (·.key)).Nodup) (hC : ∀ c, c ∈ L.map CelB.cel ↔ c.val.some_ = true ∧ (∃ x, f c.key = some x ∧ x.val = c.val) ∧ left c.key = false) : Gath w b n f v w1 := by
 have hk : ∀ {e sz m v xs}, wr.ownsRow (w.heap.size + 1) e sz v m xs → w1.ownsRow (w.heap.size + 1) e sz v m xs := fun h => h.kept hg1 (.inr fun e => by have := (h.lt _ e).1; omega)
 refine ⟨_, cnt1, L, hR1, hk hO, fun x hx => hk (hS x hx), hN, fun c => ?_, by omega, hb.grown hg1 hb.size (fun k hk => by injection hk with hk; omega)⟩
 rw [hC c]
 constructor
 ·rintro ⟨h1, h2, h3⟩
  exact ⟨h1, h2, by rw [h3]; rfl⟩
 ·rintro ⟨h1, ⟨x, h2, h3⟩, h4⟩
  refine ⟨h1, ⟨x, h2, h3⟩, ?_⟩
  by_cases e : c.key = s
  ·rw [e, hX] at h2
   injection h2 with h2
   rw [← h3, ← h2, hsome] at h1; cases h1
  ·simpa [e] using h4
set_option maxHeartbeats 8000000 in
set_option maxRecDepth 20000 in
theorem store_cells (w : World) (base p b n : Nat) (f : ByteArray → Option Slot) (h : StoreIs w base p b n f) (hn : n ≤ 1000) :
  Calls Tryz.prog 64 #[.pointer (some ⟨p, 0, none⟩)] w (CelsOf w f) := by
 have hp0 := h.row.cell 0
 simp only [List.getElem?_cons_zero] at hp0
 have hM := Lib.hid h.map
 replace h := Lib.hid h
 go_enter Tryz.func64, Tryz.ntmps64
 go_wp2_with (at_range; go_must (refine wp_rangev rfl _ 141 rfl hM.out Tryz.underlying9 Tryz.underlying141 rfl ?_); intro w0 cnt0 hR0 hg0 hs0)
 go_frame
 replace hR0 := Lib.hid hR0
 replace hg0 := Lib.hid hg0
 replace hs0 := Lib.hid hs0
 go_loopw [3] (fun v wr => Gath w b n f v wr) (fun _ wr => wr.rangeLeft b w.heap.size)
 case atStart =>
  have hs := hs0.out
  refine ⟨_, cnt0, [], hR0.out, World.ownsRow_nil _ _ _ _, (fun x hx => by cases hx), List.nodup_nil, fun c => ?_, by have := hR0.out.le; simpa using this, (Below.refl _ w).grown hg0.out (Nat.le_refl _) (fun k hk => by cases hk)⟩
  simp only [List.map_nil, List.not_mem_nil, false_iff]
  rintro ⟨-, ⟨x, hx, -⟩, h2⟩
  unfold ptrs at h2
  rw [hx] at h2
  cases h2
 case round =>
  obtain ⟨left, cnt, L, hR, hO, hS, hN, hC, hL, hb⟩ := hrel
  go_wp2_with (at_next; go_must (refine wp_nextv rfl _ rfl Tryz.underlying9 rfl hR ?_ ?_))
  ·intro hdone
   have hD : ∀ c, c ∈ L.map CelB.cel ↔ (c.val.some_ = true ∧ vals f c.key = c.val) := fun c => by
    rw [hC c]
    constructor
    ·rintro ⟨h1, ⟨x, h2, h3⟩, -⟩
     exact ⟨h1, by rw [vals_some h2, h3]⟩
    ·rintro ⟨h1, h2⟩
     refine ⟨h1, ?_, hdone _⟩
     cases hf : f c.key with
     | none =>
      rw [vals_none hf] at h2
      rw [← h2] at h1; cases h1
     | some x => exact ⟨x, rfl, by rw [vals_some hf] at h2; exact h2⟩
   have hso := sort_cells 81 (enters_of Tryz.func81 (by kernel_rfl) rfl) cells_less u3 L (w.heap.size + 1) wr hO (by omega)
   replace hso := Lib.hid hso
   replace hD := Lib.hid hD
   have hS' := Lib.hid hS
   have hO' := Lib.hid hO
   have hN' := Lib.hid hN
   clear hS hO hN hC hdone hR
   go_wp2_with (go_at_call 80; refine hso.out.mono ?_; rintro _ w2 ⟨rfl, L', hp, hs, hO2, hon⟩)
   go_ret
   refine ⟨u3, L', rfl, owns_base hO2 (by omega), fun x hx => owns_base (owns_only (hS'.out x (hp.mem_iff.1 hx)) hon fun k hk e => own_ne_own hO'.out (hS'.out x (hp.mem_iff.1 hx)) (by decide) k e hk) (by omega), ?_, ?_⟩
   ·exact St.cells_of (L.map CelB.cel) (hp.map _) (List.pairwise_map.2 hs) hN'.out hD.out
   ·exact hb.trans (hon.below (fun k hk => Nat.le_trans (Nat.le_succ _) (hO'.out.lt k hk).1) hb.size)
  ·intro s v w1 cnt1 hls hfs hvu hsz hR1 hlt hg1 hs1 hen
   have hX0 : ∃ X, f s = some X := by
    unfold ptrs at hfs
    cases hX : f s with
    | none => rw [hX] at hfs; cases hfs
    | some X => exact ⟨X, rfl⟩
   obtain ⟨X, hX⟩ := hX0
   obtain rfl := hvu _ (show ptrs f s = some (.pointer (some ⟨X.g, 0, none⟩)) by unfold ptrs; rw [hX]; rfl)
   clear hvu hfs
   have hXg := h.out.lts hX
   have hrow : Row w1 X.g 147 [.string s, .bool X.val.has, .string X.val.text, .int .i64 X.val.sum, X.lv] := ((h.out.cell s X hX).below hb).grown hg1 (by simp; omega)
   have hlist := h.out.list s X hX
   have hlb : ∀ i, X.lv.ownBlock = some i → i < w.heap.size := fun i hi => (hlist.lt i hi).2
   have hlist1 := (owns_below hlist hb).kept hg1 (.inr (fun e => by have := hlb _ e; omega))
   have hfit := h.out.fits s X hX
   have hlen := hfit.len
   have hks := h.out.key s X hX
   obtain ⟨Xg, Xlv, has, text, sum, list⟩ := X
   (try simp only at *)
   obtain ⟨lo, lc, rfl⟩ := owns_slice_ hlist1
   have hst : StrsIs w1 (.slice lo list.length lc) list := ListIs.of_owns hlist1
   have hbw1 : Below (w.heap.size + 1) wr w1 → True := fun _ => trivial
   clear hbw1 hlist hlist1 hlb
   obtain ⟨c0, c1, c2, c3, c4⟩ := hrow.c5
   have hM1 := Lib.hid (fun (hn : list.length ≤ 1000000) W (hW : Below w1.heap.size w1 W) => clone_strs (.slice lo list.length lc) list W (hst.below (by omega) hW) hn)
   replace hO := Lib.hid hO
   replace hS := Lib.hid hS
   replace hN := Lib.hid hN
   replace hC := Lib.hid hC
   replace hR := Lib.hid hR
   replace hR1 := Lib.hid hR1
   replace hg1 := Lib.hid hg1
   replace hs1 := Lib.hid hs1
   replace hfit := Lib.hid hfit
   replace hls := Lib.hid hls
   replace hX := Lib.hid hX
   clear hst
   cases has with
   | true =>
    clear hrow
    have hxw : Xg < w1.heap.size := World.block_lt_of_cell? w1 _ c4
    go_wp2_with fail
    have q2 := row_at (w := w1) (g := w1.heap.size) #[.string s, .bool true, .string text, .int .i64 sum, .slice lo list.length lc] 147 rfl
    have hb2 : Below w1.heap.size w1 (w1.alloc (Obj.cells #[.string s, .bool true, .string text, .int .i64 sum, .slice lo list.length lc] 147)) := bal (Below.refl _ _) _
    have hs2 := hb2.size
    clear hxw c0 c1 c2 c3 c4
    generalize w1.alloc (Obj.cells #[.string s, .bool true, .string text, .int .i64 sum, .slice lo list.length lc] 147) = w2 at *
    refine (hM1.out (by omega) _ hb2).mono ?_
    rintro _ w3 ⟨⟨u, rfl, hu⟩, hb3⟩
    obtain ⟨ua, uc, rfl⟩ := owns_slice_ hu
    replace q2 := q2.below hb3
    replace hb2 := bch hb2 hb3
    have hw2 := hb3.size
    replace hu : w3.ownsRow (w.heap.size + 1) _ _ _ _ _ := owns_base hu (by have h1 := hs1.out; have h2 := hR.out.lt; omega)
    clear hM1 hb3
    obtain ⟨c0, c1, c2, c3, c4⟩ := q2.c5
    have z4 := q2.frozen 4 (by simp)
    obtain ⟨oa, oc, rfl⟩ := owns_slice_ hO.out
    have hwr := hR.out.lt
    have hk3 : ∀ {e sz m v xs}, wr.ownsRow (w.heap.size + 1) e sz v m xs → w3.ownsRow (w.heap.size + 1) e sz v m xs ∧ v.ownBlock ≠ some w1.heap.size := fun h =>
     ⟨owns_below (h.kept hg1.out (.inr fun e => by have := (h.lt _ e).1; omega)) hb2, fun e => by have h1 := (h.lt _ e).2; have h2 := hs1.out; omega⟩
    have hO3 := hk3 hO.out
    have hO4 := owns_setc hO3.1 (p := ⟨w1.heap.size, 4, none⟩) hO3.2 (.slice ua list.length uc)
    have hS3 := fun x hx => hk3 (hS.out x hx)
    have hS4 := fun x hx => owns_setc (hS3 x hx).1 (p := ⟨w1.heap.size, 4, none⟩) (hS3 x hx).2 (.slice ua list.length uc)
    have hu4 := owns_setc hu (p := ⟨w1.heap.size, 4, none⟩) (row_ne_own q2 hu cell_ne_string) (.slice ua list.length uc)
    have hb4 : Below (w.heap.size + 1) w1 (w3.setCell ⟨w1.heap.size, 4, none⟩ (.slice ua list.length uc)) := Below.setCell (hb2.mono (by have := hs1.out; omega)) (p := ⟨w1.heap.size, 4, none⟩) (by have := hs1.out; show _ ≤ w1.heap.size; omega) _
    have hs4 : w.heap.size + 1 ≤ (w3.setCell ⟨w1.heap.size, 4, none⟩ (.slice ua list.length uc)).heap.size := by have := hs1.out; have := hb2.size; simp; omega
    have hgs := Lib.hid (show w3.heap.size = (w3.setCell ⟨w1.heap.size, 4, none⟩ (.slice ua list.length uc)).heap.size by simp)
    clear hO3 hS3 hk3 hu
    replace hS4 := Lib.hid hS4
    replace hu4 := Lib.hid hu4
    replace hO4 := Lib.hid hO4
    replace hb4 := Lib.hid hb4
    go_wp2_with ((at_builtin; go_must (refine app_one_g rfl _ _ 69 147 rfl (w.heap.size + 1) (.agg #[.string ⟨#[]⟩, .bool false, .string ⟨#[]⟩, .int .i64 0, .slice none 0 0]) 5 72 Tryz.underlying69 (by kernel_rfl) rfl _ _ _ rfl hO4.out _ _ hgs.out rfl rfl ?_ (by omega) (by omega) hs4 ?_)); (focus (intro u hu; simp only [List.mem_cons, List.not_mem_nil, or_false] at hu; rcases hu with rfl | rfl | rfl | rfl | rfl <;> rfl)); intro v5 w5 hO5 hg5 hbk5 hne5 hb5)
    go_roundw
    case rel =>
     have hg5' : (w3.setCell ⟨w1.heap.size, 4, none⟩ (.slice ua list.length uc)).grownBy w5 (Value.ownBlock (.slice oa L.length oc)) := hg5
     have hne : ∀ {m v xs}, (w3.setCell ⟨w1.heap.size, 4, none⟩ (.slice ua list.length uc)).ownsRow (w.heap.size + 1) 9 1 v m xs → w5.ownsRow (w.heap.size + 1) 9 1 v m xs := fun {m v xs} h => h.kept hg5' (by
      cases hv : Value.ownBlock v with
      | none => exact .inl rfl
      | some i => exact .inr fun e => own_ne_own h hO4.out (by decide) i hv e.symm)
     exact gath_add (y := ⟨⟨s, ⟨true, text, sum, list⟩⟩, ua, list.length, uc⟩) hb hR1.out hlt hL hg1.out (hb4.out.trans hb5) hM.out.lt hO5 (fun x hx => hne (hS4.out x hx)) (hne hu4.out) rfl hX.out hls.out rfl hN.out hC.out
    case measure =>
     rw [hR.out.left_eq, (hR1.out.of_blocks ((hb4.out.trans hb5).block b (by have := hM.out.lt; omega)) ((hb4.out.trans hb5).block _ (by omega)) : RangeV _ _ _ _ _ _ _ _ _).left_eq]
     exact hlt
   | false =>
    by_cases hsum : sum = 0
    ·subst hsum
     cases list with
     | nil =>
      clear hrow hM1
      go_wp2
      go_roundw
      case rel => exact gath_skip hb hR1.out hlt hL hg1.out hO.out hS.out hX.out rfl hN.out hC.out
      case measure =>
       rw [hR.out.left_eq, hR1.out.left_eq]
       exact hlt
     | cons l0 ls =>
      have hne0 : 0 < (l0 :: ls).length := by simp
      generalize hlist : l0 :: ls = list at *
      have hlist' := Lib.hid hlist
      clear hlist hrow
      have hxw : Xg < w1.heap.size := World.block_lt_of_cell? w1 _ c4
      go_wp2_with fail
      have q2 := row_at (w := w1) (g := w1.heap.size) #[.string s, .bool false, .string text, .int .i64 0, .slice lo list.length lc] 147 rfl
      have hb2 : Below w1.heap.size w1 (w1.alloc (Obj.cells #[.string s, .bool false, .string text, .int .i64 0, .slice lo list.length lc] 147)) := bal (Below.refl _ _) _
      have hs2 := hb2.size
      clear hxw c0 c1 c2 c3 c4
      generalize w1.alloc (Obj.cells #[.string s, .bool false, .string text, .int .i64 0, .slice lo list.length lc] 147) = w2 at *
      refine (hM1.out (by omega) _ hb2).mono ?_
      rintro _ w3 ⟨⟨u, rfl, hu⟩, hb3⟩
      obtain ⟨ua, uc, rfl⟩ := owns_slice_ hu
      replace q2 := q2.below hb3
      replace hb2 := bch hb2 hb3
      have hw2 := hb3.size
      replace hu : w3.ownsRow (w.heap.size + 1) _ _ _ _ _ := owns_base hu (by have h1 := hs1.out; have h2 := hR.out.lt; omega)
      clear hM1 hb3
      obtain ⟨c0, c1, c2, c3, c4⟩ := q2.c5
      have z4 := q2.frozen 4 (by simp)
      obtain ⟨oa, oc, rfl⟩ := owns_slice_ hO.out
      have hwr := hR.out.lt
      have hk3 : ∀ {e sz m v xs}, wr.ownsRow (w.heap.size + 1) e sz v m xs → w3.ownsRow (w.heap.size + 1) e sz v m xs ∧ v.ownBlock ≠ some w1.heap.size := fun h =>
       ⟨owns_below (h.kept hg1.out (.inr fun e => by have := (h.lt _ e).1; omega)) hb2, fun e => by have h1 := (h.lt _ e).2; have h2 := hs1.out; omega⟩
      have hO3 := hk3 hO.out
      have hO4 := owns_setc hO3.1 (p := ⟨w1.heap.size, 4, none⟩) hO3.2 (.slice ua list.length uc)
      have hS3 := fun x hx => hk3 (hS.out x hx)
      have hS4 := fun x hx => owns_setc (hS3 x hx).1 (p := ⟨w1.heap.size, 4, none⟩) (hS3 x hx).2 (.slice ua list.length uc)
      have hu4 := owns_setc hu (p := ⟨w1.heap.size, 4, none⟩) (row_ne_own q2 hu cell_ne_string) (.slice ua list.length uc)
      have hb4 : Below (w.heap.size + 1) w1 (w3.setCell ⟨w1.heap.size, 4, none⟩ (.slice ua list.length uc)) := Below.setCell (hb2.mono (by have := hs1.out; omega)) (p := ⟨w1.heap.size, 4, none⟩) (by have := hs1.out; show _ ≤ w1.heap.size; omega) _
      have hs4 : w.heap.size + 1 ≤ (w3.setCell ⟨w1.heap.size, 4, none⟩ (.slice ua list.length uc)).heap.size := by have := hs1.out; have := hb2.size; simp; omega
      have hgs := Lib.hid (show w3.heap.size = (w3.setCell ⟨w1.heap.size, 4, none⟩ (.slice ua list.length uc)).heap.size by simp)
      clear hO3 hS3 hk3 hu
      replace hS4 := Lib.hid hS4
      replace hu4 := Lib.hid hu4
      replace hO4 := Lib.hid hO4
      replace hb4 := Lib.hid hb4
      go_wp2_with ((at_builtin; go_must (refine app_one_g rfl _ _ 69 147 rfl (w.heap.size + 1) (.agg #[.string ⟨#[]⟩, .bool false, .string ⟨#[]⟩, .int .i64 0, .slice none 0 0]) 5 72 Tryz.underlying69 (by kernel_rfl) rfl _ _ _ rfl hO4.out _ _ hgs.out rfl rfl ?_ (by omega) (by omega) hs4 ?_)); (focus (intro u hu; simp only [List.mem_cons, List.not_mem_nil, or_false] at hu; rcases hu with rfl | rfl | rfl | rfl | rfl <;> rfl)); intro v5 w5 hO5 hg5 hbk5 hne5 hb5)
      go_roundw
      case rel =>
       have hg5' : (w3.setCell ⟨w1.heap.size, 4, none⟩ (.slice ua list.length uc)).grownBy w5 (Value.ownBlock (.slice oa L.length oc)) := hg5
       have hne : ∀ {m v xs}, (w3.setCell ⟨w1.heap.size, 4, none⟩ (.slice ua list.length uc)).ownsRow (w.heap.size + 1) 9 1 v m xs → w5.ownsRow (w.heap.size + 1) 9 1 v m xs := fun {m v xs} h => h.kept hg5' (by
        cases hv : Value.ownBlock v with
        | none => exact .inl rfl
        | some i => exact .inr fun e => own_ne_own h hO4.out (by decide) i hv e.symm)
       exact gath_add (y := ⟨⟨s, ⟨false, text, 0, list⟩⟩, ua, list.length, uc⟩) hb hR1.out hlt hL hg1.out (hb4.out.trans hb5) hM.out.lt hO5 (fun x hx => hne (hS4.out x hx)) (hne hu4.out) rfl hX.out hls.out (by unfold St.Val.some_; simp [hne0]) hN.out hC.out
      case measure =>
       rw [hR.out.left_eq, (hR1.out.of_blocks ((hb4.out.trans hb5).block b (by have := hM.out.lt; omega)) ((hb4.out.trans hb5).block _ (by omega)) : RangeV _ _ _ _ _ _ _ _ _).left_eq]
       exact hlt
    ·have hs1' : (sum == 0) = false := by simpa using hsum
     have hs2' : (sum != 0) = true := by simpa using hsum
     have hsum' := Lib.hid hsum
     clear hrow hsum
     have hxw : Xg < w1.heap.size := World.block_lt_of_cell? w1 _ c4
     go_wp2_with fail
     have q2 := row_at (w := w1) (g := w1.heap.size) #[.string s, .bool false, .string text, .int .i64 sum, .slice lo list.length lc] 147 rfl
     have hb2 : Below w1.heap.size w1 (w1.alloc (Obj.cells #[.string s, .bool false, .string text, .int .i64 sum, .slice lo list.length lc] 147)) := bal (Below.refl _ _) _
     have hs2 := hb2.size
     clear hxw c0 c1 c2 c3 c4
     generalize w1.alloc (Obj.cells #[.string s, .bool false, .string text, .int .i64 sum, .slice lo list.length lc] 147) = w2 at *
     refine (hM1.out (by omega) _ hb2).mono ?_
     rintro _ w3 ⟨⟨u, rfl, hu⟩, hb3⟩
     obtain ⟨ua, uc, rfl⟩ := owns_slice_ hu
     replace q2 := q2.below hb3
     replace hb2 := bch hb2 hb3
     have hw2 := hb3.size
     replace hu : w3.ownsRow (w.heap.size + 1) _ _ _ _ _ := owns_base hu (by have h1 := hs1.out; have h2 := hR.out.lt; omega)
     clear hM1 hb3
     obtain ⟨c0, c1, c2, c3, c4⟩ := q2.c5
     have z4 := q2.frozen 4 (by simp)
     obtain ⟨oa, oc, rfl⟩ := owns_slice_ hO.out
     have hwr := hR.out.lt
     have hk3 : ∀ {e sz m v xs}, wr.ownsRow (w.heap.size + 1) e sz v m xs → w3.ownsRow (w.heap.size + 1) e sz v m xs ∧ v.ownBlock ≠ some w1.heap.size := fun h =>
      ⟨owns_below (h.kept hg1.out (.inr fun e => by have := (h.lt _ e).1; omega)) hb2, fun e => by have h1 := (h.lt _ e).2; have h2 := hs1.out; omega⟩
     have hO3 := hk3 hO.out
     have hO4 := owns_setc hO3.1 (p := ⟨w1.heap.size, 4, none⟩) hO3.2 (.slice ua list.length uc)
     have hS3 := fun x hx => hk3 (hS.out x hx)
     have hS4 := fun x hx => owns_setc (hS3 x hx).1 (p := ⟨w1.heap.size, 4, none⟩) (hS3 x hx).2 (.slice ua list.length uc)
     have hu4 := owns_setc hu (p := ⟨w1.heap.size, 4, none⟩) (row_ne_own q2 hu cell_ne_string) (.slice ua list.length uc)
     have hb4 : Below (w.heap.size + 1) w1 (w3.setCell ⟨w1.heap.size, 4, none⟩ (.slice ua list.length uc)) := Below.setCell (hb2.mono (by have := hs1.out; omega)) (p := ⟨w1.heap.size, 4, none⟩) (by have := hs1.out; show _ ≤ w1.heap.size; omega) _
     have hs4 : w.heap.size + 1 ≤ (w3.setCell ⟨w1.heap.size, 4, none⟩ (.slice ua list.length uc)).heap.size := by have := hs1.out; have := hb2.size; simp; omega
     have hgs := Lib.hid (show w3.heap.size = (w3.setCell ⟨w1.heap.size, 4, none⟩ (.slice ua list.length uc)).heap.size by simp)
     clear hO3 hS3 hk3 hu
     replace hS4 := Lib.hid hS4
     replace hu4 := Lib.hid hu4
     replace hO4 := Lib.hid hO4
     replace hb4 := Lib.hid hb4
     go_wp2_with ((at_builtin; go_must (refine app_one_g rfl _ _ 69 147 rfl (w.heap.size + 1) (.agg #[.string ⟨#[]⟩, .bool false, .string ⟨#[]⟩, .int .i64 0, .slice none 0 0]) 5 72 Tryz.underlying69 (by kernel_rfl) rfl _ _ _ rfl hO4.out _ _ hgs.out rfl rfl ?_ (by omega) (by omega) hs4 ?_)); (focus (intro u hu; simp only [List.mem_cons, List.not_mem_nil, or_false] at hu; rcases hu with rfl | rfl | rfl | rfl | rfl <;> rfl)); intro v5 w5 hO5 hg5 hbk5 hne5 hb5)
     go_roundw
     case rel =>
      have hg5' : (w3.setCell ⟨w1.heap.size, 4, none⟩ (.slice ua list.length uc)).grownBy w5 (Value.ownBlock (.slice oa L.length oc)) := hg5
      have hne : ∀ {m v xs}, (w3.setCell ⟨w1.heap.size, 4, none⟩ (.slice ua list.length uc)).ownsRow (w.heap.size + 1) 9 1 v m xs → w5.ownsRow (w.heap.size + 1) 9 1 v m xs := fun {m v xs} h => h.kept hg5' (by
       cases hv : Value.ownBlock v with
       | none => exact .inl rfl
       | some i => exact .inr fun e => own_ne_own h hO4.out (by decide) i hv e.symm)
      exact gath_add (y := ⟨⟨s, ⟨false, text, sum, list⟩⟩, ua, list.length, uc⟩) hb hR1.out hlt hL hg1.out (hb4.out.trans hb5) hM.out.lt hO5 (fun x hx => hne (hS4.out x hx)) (hne hu4.out) rfl hX.out hls.out (by unfold St.Val.some_; simp [hsum'.out]) hN.out hC.out
     case measure =>
      rw [hR.out.left_eq, (hR1.out.of_blocks ((hb4.out.trans hb5).block b (by have := hM.out.lt; omega)) ((hb4.out.trans hb5).block _ (by omega)) : RangeV _ _ _ _ _ _ _ _ _).left_eq]
      exact hlt
end Go.Proofs.YtognjohloobliaaGreatDoor
