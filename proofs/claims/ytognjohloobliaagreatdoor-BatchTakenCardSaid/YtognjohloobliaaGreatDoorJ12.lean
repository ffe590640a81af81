/- The walk of store.Do, way by way; printed by gen_do.py. -/
import Derived.Test.YtognjohloobliaaGreatDoorJ09
import Derived.Test.YtognjohloobliaaGreatDoorJ11
import Derived.Test.YtognjohloobliaaGreatDoorJ02
namespace Go.Proofs.YtognjohloobliaaGreatDoor
open Go.RowKit Go.Maps
set_option linter.unusedVariables false
set_option linter.unusedSimpArgs false
section
variable {P : Program} {k e t : TypeId} {w : World} {b n : Nat} {f : ByteArray → Option Value} {o : Oper} {a : Act} {Q : Exit → Act → World → Prop}
theorem exec_lookv (m x : Operand) (t : TypeId) (hop : o.op = Op.lookup t m x false) (h : MapV P k w b n f) (hk : P.underlying k = some .string) (ht : P.underlying t = some (.map k e)) (z : Value) (hz : ∀ w, (zeroValue e).run P w = .ok z w) (s : ByteArray) (hs : s.size ≤ maxLen) (y : Value) (hr : (f s).getD z = y)
  (hm : a.eval m = .map (some b)) (hx : a.eval x = .string s) : (execOp a.eval o).run P w = .ok (.value y) w := by
 have hrun := h.look hk ht z (hz w) s hs
 rw [hr] at hrun
 simp [execOp, hop, hm, hx, hrun, Result.andThen]
theorem step_updatev (m x v : Operand) (t : TypeId) (hop : o.op = Op.mapUpdate t m x v) (h : MapV P k w b n f) (hk : P.underlying k = some .string) (ht : P.underlying t = some (.map k e)) (hn : n < 1000000000) (s : ByteArray) (hs : s.size ≤ maxLen) (y : Value)
  (hm : a.eval m = .map (some b)) (hx : a.eval x = .string s) (hv : a.eval v = y) (K' : Act → World → Prop)
  (hK : ∀ w', MapV P k w' b (n + 1) (fun s' => if s' = s then some y else f s') → w.grownBy w' (some b) → K' (a.put o.dst undef) w') : Oper.wp P o a w K' Q := by
 obtain ⟨w', hrun, r1, r2⟩ := h.update hk ht (by unfold maxLen; omega) s hs y
 unfold Oper.wp
 simp [execOp, hop, hm, hx, hv, hrun, Result.andThen]
 exact hK w' r1 r2
theorem step_deletev (m x : Operand) (t : TypeId) (hop : o.op = Op.call { callee := Callee.builtin Builtin.delete, args := #[m, x], argTypes := #[t, k] }) (h : MapV P k w b n f) (hk : P.underlying k = some .string) (ht : P.underlying t = some (.map k e)) (s : ByteArray) (hs : s.size ≤ maxLen)
  (hm : a.eval m = .map (some b)) (hx : a.eval x = .string s) (K' : Act → World → Prop)
  (hK : ∀ w', MapV P k w' b n (fun s' => if s' = s then none else f s') → w.grownBy w' (some b) → K' (a.put o.dst (.tuple #[])) w') : Oper.wp P o a w K' Q := by
 obtain ⟨w', hrun, r1, r2⟩ := h.drop hk ht s hs o.type
 unfold Oper.wp
 simp [execOp, hop, resolve, invoke, builtin, hm, hx, hrun, Result.andThen]
 exact hK w' r1 r2
end
theorem strs_take (l : List ByteArray) (i : Nat) : (l.take i).flatMap strCells = (l.flatMap strCells).take i := by
 have e : ∀ l : List ByteArray, l.flatMap strCells = l.map Value.string := fun l => by induction l with
  | nil => rfl
  | cons x l ih => rw [List.flatMap_cons, ih]; rfl
 rw [e, e, List.map_take]
theorem strs_drop (l : List ByteArray) (i : Nat) : (l.drop i).flatMap strCells = (l.flatMap strCells).drop i := by
 have e : ∀ l : List ByteArray, l.flatMap strCells = l.map Value.string := fun l => by induction l with
  | nil => rfl
  | cons x l ih => rw [List.flatMap_cons, ih]; rfl
 rw [e, e, List.map_drop]
/-- What a drawn region of store.Do reads. -/
def TC (p b q n : Nat) (x : WrB) (f : ByteArray → Option Value) (W : World) : Prop :=
 W.cell? ⟨p, 0, none⟩ = some (.map (some b)) ∧ W.cell? ⟨q, 2, none⟩ = some (.int .i64 x.k) ∧ W.cell? ⟨q, 3, none⟩ = some (.string x.key) ∧ W.cell? ⟨q, 4, none⟩ = some (.string x.val) ∧ W.cell? ⟨q, 5, none⟩ = some (.int .i64 x.n) ∧ MapV Tryz.prog 9 W b n f
theorem byWStoreDo5 {p : Prop} (h : p := by
 have hrow : Row _ X.g 147 [.string key, .bool X.val.has, .string X.val.text, .int .i64 X.val.sum, X.lv] := h5.cell _ _ hX1
 obtain ⟨d0, d1, d2, d3, d4⟩ := hrow.c5
 obtain ⟨c0, c1, c2, c3, c4, c5⟩ := q5.c6
 (have z1 := hrow.frozen 1 (by simp); have z2 := hrow.frozen 2 (by simp); have z3 := hrow.frozen 3 (by simp); have z4 := hrow.frozen 4 (by simp))
 have hlo := hfx.lo
 have hhi := hfx.hi
 have hp5 := h5.row.cell 0
 simp only [List.getElem?_cons_zero] at hp5
 replace h5 := Lib.hid h5
 replace hX1 := Lib.hid hX1
 replace hv1 := Lib.hid hv1
 replace ho5 := Lib.hid ho5
 replace hm1 := Lib.hid hm1
 replace hrow := Lib.hid hrow
 replace q5 := Lib.hid q5
 clear hlo hhi hp5
 go_wp2_with fail
 go_region
 go_wp2
 go_ret
 exact ⟨rfl, did_same (x := ⟨xt, xr, 1, key, val, xn⟩) (v := { X.val with has := true, text := val }) h5.out hX1.out hv1.out ho5.out hm1.out (((hrow.out.set 1 _).set 2 _).drew) hfx hg ((((Only.refl (fun j => j = X.g) w5).set (p := ⟨X.g, 1, none⟩) (.inl rfl) _).set (p := ⟨X.g, 2, none⟩) (.inl rfl) _).drew) rfl rfl⟩) : p := h
theorem byWStoreDo6 {p : Prop} (h : p := by
 exact exec_lookv (.tmp 15) (.tmp 17) 141 rfl hSW.2.2.2.2.2 Tryz.underlying9 Tryz.underlying141 (.pointer none) (fun w => by kernel_rfl) key hks (.pointer (some ⟨X.g, 0, none⟩)) (by unfold ptrs; rw [hX]; rfl) rfl rfl) : p := h
set_option maxHeartbeats 8000000 in
set_option maxRecDepth 20000 in
theorem do_hit1 (x : WrB) (w : World) (base p b n : Nat) (f : ByteArray → Option Slot) (h : StoreIs w base p b n f) (hr : Wr.right (wr x.t x.r x.k x.key x.val x.n) = 0) (hk : x.k = 1) (hn : n ≤ 1000) (X : Slot) (hX : f x.key = some X) :
  Calls Tryz.prog 63 #[.pointer (some ⟨p, 0, none⟩), .agg #[.int .i64 x.t, .int .i64 x.r, .int .i64 x.k, .string x.key, .string x.val, .int .i64 x.n]] w fun e w' => e = .returned .nilIface ∧ Did x w base p b n f w' := by
 obtain ⟨xt, xr, xk, key, val, xn⟩ := x
 (try simp only at *)
 subst hk
 have hg := good_sw (x := ⟨xt, xr, 1, key, val, xn⟩) hr
 have hks : key.size ≤ maxLen := by have h40 : key.size ≤ 40 := hg.key; unfold maxLen; omega
 have hR := fun W => write_right xt xr 1 key val xn W
 rw [hr] at hR
 replace hR := Lib.hid hR
 replace hr := Lib.hid hr
 have hpw := h.row.lt
 replace h := Lib.hid h
 go_enter Tryz.func63, Tryz.ntmps63
 go_wp2_with fail
 have q0 := row_at #[.int .i64 xt, .int .i64 xr, .int .i64 1, .string key, .string val, .int .i64 xn] 33 (rfl : w.heap.size = w.heap.size)
 have hb1 := bal (Below.refl w.heap.size w) (Obj.cells #[.int .i64 xt, .int .i64 xr, .int .i64 1, .string key, .string val, .int .i64 xn] 33)
 generalize w.alloc (Obj.cells #[.int .i64 xt, .int .i64 xr, .int .i64 1, .string key, .string val, .int .i64 xn] 33) = w1 at *
 refine (hR.out _).mono ?_
 rintro _ w2 ⟨rfl, hb2⟩
 rw [show errW 0 = .nilIface from rfl]
 replace q0 := q0.below hb2
 replace hb1 := bch hb1 hb2
 clear hb2
 have hq := q0.lt
 have h2 := h.out.below hb1
 obtain ⟨c0, c1, c2, c3, c4, c5⟩ := q0.c6
 have cp := h2.row.cell 0
 simp only [List.getElem?_cons_zero] at cp
 have hS0 : TC p b w.heap.size n ⟨xt, xr, 1, key, val, xn⟩ (ptrs f) w2.drew := ⟨cp, c2, c3, c4, c5, h2.map⟩
 replace h2 := Lib.hid h2
 replace q0 := Lib.hid q0
 go_wp2_with fail
 (refine wp_region_held_drew (S := TC p b w.heap.size n ⟨xt, xr, 1, key, val, xn⟩ (ptrs f)) (by kernel_rfl) ?_ (fun hHeld => ?_); ((try dsimp only); exact hS0))
 clear hS0
 (refine tkO 0 ?_; refine tkO 1 ?_; refine tkO 2 ?_; refine tkO 3 ?_; refine tkO 4 ?_; refine tkO 5 ?_)
 refine held_take (i := 6) (v := (.pointer (some ⟨X.g, 0, none⟩))) rfl (by kernel_rfl) (by kernel_rfl) (by kernel_rfl) (fun _ _ _ h => h) (by kernel_rfl) (by assumption) ?_ ?_
 ·intro W hSW
  exact byWStoreDo6
 simp only [Act.put, List.setIfInBounds_toArray, List.set_cons_zero, List.set_cons_succ]
 (refine tkO 7 ?_)
 (refine wpAnyH_done (by kernel_rfl) ?_ _)
 clear hHeld
 have h3 := Lib.hid (show StoreIs w2.drew base p b n f from h2.out.below (by exact blw))
 have q3 := Lib.hid (show Row w2.drew w.heap.size _ _ from q0.out)
 have hb3 := bdr hb1
 clear h2 q0 hb1 c0 c1 c2 c3 c4 c5 cp
 generalize w2.drew = w3 at *
 have h5 := h3.out.mono (show n ≤ n + 1 by omega)
 obtain ⟨f1, hf1⟩ : ∃ f1, f1 = f := ⟨_, rfl⟩
 have hX1 : f1 key = some X := by rw [hf1]; exact hX
 have hfx := h3.out.fits _ _ hX
 have hv1 : ∀ s, vals f1 s = vals f s := fun s => by rw [hf1]
 have ho5 : Only (Mine b f) w w3 := Only.of_below _ hb3
 have hm1 : ∀ j, Mine b f1 j → Mine b f j ∨ w.heap.size ≤ j := fun j hj => .inl (hf1 ▸ hj)
 rw [← hf1] at h5
 have q5 := q3.out
 clear hf1 h3 q3 hb3 hX
 obtain ⟨w5, hw5⟩ : ∃ w5, w5 = w3 := ⟨_, rfl⟩
 rw [← hw5] at h5 ho5 q5 ⊢
 clear hw5
 exact byWStoreDo5
theorem byWStoreDo3 {p : Prop} (h : p := by
 rcases hj with rfl | ⟨s, x, hx, hj⟩
 ·exact .inl (.inl rfl)
 ·by_cases e : s = key
  ·subst e
   rw [hX1] at hx
   injection hx with hx
   subst hx
   rcases hj with hj | hj
   ·exact .inr (by rw [hj]; show w.heap.size ≤ G; omega)
   ·cases hj
  ·rw [putSlot_other _ e] at hx
   exact .inl (.inr ⟨s, x, hx, hj⟩)) : p := h
theorem byWStoreDo7 {p : Prop} (h : p := by
 exact exec_lookv (.tmp 15) (.tmp 17) 141 rfl hSW.2.2.2.2.2 Tryz.underlying9 Tryz.underlying141 (.pointer none) (fun w => by kernel_rfl) key hks (.pointer none) (by unfold ptrs; rw [hX]; rfl) rfl rfl) : p := h
set_option maxHeartbeats 8000000 in
set_option maxRecDepth 20000 in
theorem do_new1 (x : WrB) (w : World) (base p b n : Nat) (f : ByteArray → Option Slot) (h : StoreIs w base p b n f) (hr : Wr.right (wr x.t x.r x.k x.key x.val x.n) = 0) (hk : x.k = 1) (hn : n ≤ 1000) (hX : f x.key = none) :
  Calls Tryz.prog 63 #[.pointer (some ⟨p, 0, none⟩), .agg #[.int .i64 x.t, .int .i64 x.r, .int .i64 x.k, .string x.key, .string x.val, .int .i64 x.n]] w fun e w' => e = .returned .nilIface ∧ Did x w base p b n f w' := by
 obtain ⟨xt, xr, xk, key, val, xn⟩ := x
 (try simp only at *)
 subst hk
 have hg := good_sw (x := ⟨xt, xr, 1, key, val, xn⟩) hr
 have hks : key.size ≤ maxLen := by have h40 : key.size ≤ 40 := hg.key; unfold maxLen; omega
 have hR := fun W => write_right xt xr 1 key val xn W
 rw [hr] at hR
 replace hR := Lib.hid hR
 replace hr := Lib.hid hr
 have hpw := h.row.lt
 replace h := Lib.hid h
 go_enter Tryz.func63, Tryz.ntmps63
 go_wp2_with fail
 have q0 := row_at #[.int .i64 xt, .int .i64 xr, .int .i64 1, .string key, .string val, .int .i64 xn] 33 (rfl : w.heap.size = w.heap.size)
 have hb1 := bal (Below.refl w.heap.size w) (Obj.cells #[.int .i64 xt, .int .i64 xr, .int .i64 1, .string key, .string val, .int .i64 xn] 33)
 generalize w.alloc (Obj.cells #[.int .i64 xt, .int .i64 xr, .int .i64 1, .string key, .string val, .int .i64 xn] 33) = w1 at *
 refine (hR.out _).mono ?_
 rintro _ w2 ⟨rfl, hb2⟩
 rw [show errW 0 = .nilIface from rfl]
 replace q0 := q0.below hb2
 replace hb1 := bch hb1 hb2
 clear hb2
 have hq := q0.lt
 have h2 := h.out.below hb1
 obtain ⟨c0, c1, c2, c3, c4, c5⟩ := q0.c6
 have cp := h2.row.cell 0
 simp only [List.getElem?_cons_zero] at cp
 have hS0 : TC p b w.heap.size n ⟨xt, xr, 1, key, val, xn⟩ (ptrs f) w2.drew := ⟨cp, c2, c3, c4, c5, h2.map⟩
 replace h2 := Lib.hid h2
 replace q0 := Lib.hid q0
 go_wp2_with fail
 (refine wp_region_held_drew (S := TC p b w.heap.size n ⟨xt, xr, 1, key, val, xn⟩ (ptrs f)) (by kernel_rfl) ?_ (fun hHeld => ?_); ((try dsimp only); exact hS0))
 clear hS0
 (refine tkO 0 ?_; refine tkO 1 ?_; refine tkO 2 ?_; refine tkO 3 ?_; refine tkO 4 ?_; refine tkO 5 ?_)
 refine held_take (i := 6) (v := (.pointer none)) rfl (by kernel_rfl) (by kernel_rfl) (by kernel_rfl) (fun _ _ _ h => h) (by kernel_rfl) (by assumption) ?_ ?_
 ·intro W hSW
  exact byWStoreDo7
 simp only [Act.put, List.setIfInBounds_toArray, List.set_cons_zero, List.set_cons_succ]
 (refine tkO 7 ?_)
 (refine wpAnyH_done (by kernel_rfl) ?_ _)
 clear hHeld
 have h3 := Lib.hid (show StoreIs w2.drew base p b n f from h2.out.below (by exact blw))
 have q3 := Lib.hid (show Row w2.drew w.heap.size _ _ from q0.out)
 have hb3 := bdr hb1
 clear h2 q0 hb1 c0 c1 c2 c3 c4 c5 cp
 generalize w2.drew = w3 at *
 obtain ⟨c0, c1, c2, c3, c4, c5⟩ := q3.out.c6
 go_wp2_with fail
 have cp := h3.out.row.cell 0
 simp only [List.getElem?_cons_zero] at cp
 have h4 := h3.out.below (by exact blw : Below w3.heap.size w3 (w3.alloc (Obj.cells #[.string key, .bool false, .string ⟨#[]⟩, .int .i64 0, .slice none 0 0] 147)))
 have r4 : Row (w3.alloc (Obj.cells #[.string key, .bool false, .string ⟨#[]⟩, .int .i64 0, .slice none 0 0] 147)) w3.heap.size 147 (slotCells key ⟨w3.heap.size, .slice none 0 0, St.no⟩) := row_at (w := w3) (g := w3.heap.size) #[.string key, .bool false, .string ⟨#[]⟩, .int .i64 0, .slice none 0 0] 147 rfl
 have q4 := q3.out.alloc (Obj.cells #[.string key, .bool false, .string ⟨#[]⟩, .int .i64 0, .slice none 0 0] 147)
 have hb4 : Below w.heap.size w (w3.alloc (Obj.cells #[.string key, .bool false, .string ⟨#[]⟩, .int .i64 0, .slice none 0 0] 147)) := bal hb3 _
 obtain ⟨G, hG⟩ : ∃ G, G = w3.heap.size := ⟨_, rfl⟩
 have hs4 : (w3.alloc (Obj.cells #[.string key, .bool false, .string ⟨#[]⟩, .int .i64 0, .slice none 0 0] 147)).heap.size = G + 1 := by rw [hG]; simp
 have hs3 := hb3.size
 have hqG : w.heap.size < w3.heap.size := q3.out.lt
 have hG1 : w.heap.size < G := by omega
 have hold : ∀ s x, f s = some x → x.g ≠ G := fun s x hx => by have := h3.out.lts hx; omega
 rw [← hG] at r4 ⊢
 clear c0 c1 c2 c3 c4 c5 cp h3 q3 hb3 hG hs3 hqG
 generalize w3.alloc (Obj.cells #[.string key, .bool false, .string ⟨#[]⟩, .int .i64 0, .slice none 0 0] 147) = w4 at *
 replace h4 : StoreIs w4.drew base p b n f := h4.below (by exact blw)
 replace r4 := r4.drew
 replace q4 := q4.drew
 replace hb4 := bdr hb4
 replace hs4 : w4.drew.heap.size = G + 1 := hs4
 have hS1 : w4.drew.cell? ⟨p, 0, none⟩ = some (.map (some b)) ∧ w4.drew.cell? ⟨w.heap.size, 3, none⟩ = some (.string key) := ⟨h4.row.cell 0, q4.cell 3⟩
 (refine wp_region_held_drew (S := (fun W => W.cell? ⟨p, 0, none⟩ = some (.map (some b)) ∧ W.cell? ⟨w.heap.size, 3, none⟩ = some (.string key))) (by kernel_rfl) ?_ (fun hHeld => ?_); ((try dsimp only); exact hS1))
 clear hS1
 (refine tkO 0 ?_; refine tkO 1 ?_; refine tkO 2 ?_; refine tkO 3 ?_; refine tkO 4 ?_; refine tkO 5 ?_; refine tkO 6 ?_)
 have hgb : ∀ w', w4.drew.grownBy w' (some b) → Only (fun j => j = b) w4.drew w' := fun w' hg => (Only.refl _ w4.drew).grown hg fun i hi => .inl (by injection hi with hi; exact hi.symm)
 have hpb : p ≠ b := row_ne_map h4.row h4.map
 have hqb : w.heap.size ≠ b := row_ne_map q4 h4.map
 (refine tdoO 7 (fun K hK => ?_); ((refine step_updatev (.tmp 28) (.tmp 30) (.tmp 31) 141 rfl h4.map Tryz.underlying9 Tryz.underlying141 (by omega) key hks (.pointer (some ⟨G, 0, none⟩)) rfl rfl rfl _ ?_; intro w5 hM5 hg5); refine hK.out _ _ ?_ (fun hHeld => ?_); ((try dsimp only); exact ⟨(hgb _ hg5).cell hHeld.1 hpb, (hgb _ hg5).cell hHeld.2 hqb⟩); clear hK K; (try clear hHeld0); (try rename_i hHeld0)))
 (refine wpAnyH_done (by kernel_rfl) ?_ _)
 clear hHeld
 have hbw : b < w.heap.size := h.out.map.lt
 have hlo := h4.lo
 have h5 := h4.add hX hg.key G (by omega) hold r4 (by omega) hM5 hg5
 clear hbw hlo
 have q5 := q4.only (hgb _ hg5) hqb
 have hX1 := putSlot_same f key ⟨G, .slice none 0 0, St.no⟩
 have hfx := St.Fits.no n
 have hv1 : ∀ s, vals (putSlot f key ⟨G, .slice none 0 0, St.no⟩) s = vals f s := fun s => by
  rw [vals_put]
  by_cases e : key = s
  ·subst e; rw [if_pos rfl, vals_none hX]
  ·rw [if_neg e]
 have ho5 : Only (Mine b f) w w5 := (Only.of_below _ hb4).trans ((hgb _ hg5).mono fun j _ hj => .inl hj)
 have hm1 : ∀ j, Mine b (putSlot f key ⟨G, .slice none 0 0, St.no⟩) j → Mine b f j ∨ w.heap.size ≤ j := fun j hj => by
  exact byWStoreDo3
 have hX2 : (⟨G, .slice none 0 0, St.no⟩ : Slot) = ⟨G, .slice none 0 0, St.no⟩ := rfl
 generalize hf1 : putSlot f key ⟨G, .slice none 0 0, St.no⟩ = f1 at h5 hX1 hv1 hm1
 obtain ⟨X, hXe⟩ : ∃ X : Slot, X = ⟨G, .slice none 0 0, St.no⟩ := ⟨_, rfl⟩
 rw [← hXe] at hX1
 rw [show St.no = X.val by rw [hXe]] at hfx
 have hXg : G = X.g := by rw [hXe]
 rw [hXg]
 clear hXg hXe hX2 hf1 hM5 hg5 hgb hold r4 h4 q4 hb4 hpb hqb hG1 hs4 hX
 exact byWStoreDo5
theorem byWStoreDo2 {p : Prop} (h : p := by
 have hrow : Row _ X.g 147 [.string key, .bool X.val.has, .string X.val.text, .int .i64 X.val.sum, X.lv] := h5.cell _ _ hX1
 obtain ⟨d0, d1, d2, d3, d4⟩ := hrow.c5
 obtain ⟨c0, c1, c2, c3, c4, c5⟩ := q5.c6
 (have z1 := hrow.frozen 1 (by simp); have z2 := hrow.frozen 2 (by simp); have z3 := hrow.frozen 3 (by simp); have z4 := hrow.frozen 4 (by simp))
 have hlo := hfx.lo
 have hhi := hfx.hi
 have hp5 := h5.row.cell 0
 simp only [List.getElem?_cons_zero] at hp5
 replace h5 := Lib.hid h5
 replace hX1 := Lib.hid hX1
 replace hv1 := Lib.hid hv1
 replace ho5 := Lib.hid ho5
 replace hm1 := Lib.hid hm1
 replace hrow := Lib.hid hrow
 replace q5 := Lib.hid q5
 clear hlo hhi z1 z2 z3 z4 d0 d1 d2 d3 d4
 have hS2 : w5.drew.cell? ⟨p, 0, none⟩ = some (.map (some b)) ∧ w5.drew.cell? ⟨w.heap.size, 3, none⟩ = some (.string key) := ⟨hp5, c3⟩
 have hpb : p ≠ b := row_ne_map h5.out.row h5.out.map
 have hqb : w.heap.size ≠ b := row_ne_map q5.out h5.out.map
 have hgb : ∀ w', w5.drew.grownBy w' (some b) → Only (fun j => j = b) w5.drew w' := fun w' hg => (Only.refl _ w5.drew).grown hg fun i hi => .inl (by injection hi with hi; exact hi.symm)
 replace hgb := Lib.hid hgb
 go_wp2_with fail
 (refine wp_region_held_drew (S := (fun W => W.cell? ⟨p, 0, none⟩ = some (.map (some b)) ∧ W.cell? ⟨w.heap.size, 3, none⟩ = some (.string key))) (by kernel_rfl) ?_ (fun hHeld => ?_); ((try dsimp only); exact hS2))
 clear hS2
 (refine tkO 0 ?_; refine tkO 1 ?_; refine tkO 2 ?_; refine tkO 3 ?_; refine tkO 4 ?_; refine tkO 5 ?_)
 (refine tdoO 6 (fun K hK => ?_); ((refine step_deletev (.tmp 49) (.tmp 51) 141 rfl h5.out.map.drew Tryz.underlying9 Tryz.underlying141 key hks rfl rfl _ ?_; intro w6 hM6 hg6); refine hK.out _ _ ?_ (fun hHeld => ?_); ((try dsimp only); exact ⟨(hgb.out _ hg6).cell hHeld.1 hpb, (hgb.out _ hg6).cell hHeld.2 hqb⟩); clear hK K; (try clear hHeld0); (try rename_i hHeld0)))
 (refine wpAnyH_done (by kernel_rfl) ?_ _)
 clear hHeld hpb hqb hgb
 replace hM6 := Lib.hid hM6
 replace hg6 := Lib.hid hg6
 go_wp2
 go_ret
 exact ⟨rfl, did_drop (x := ⟨xt, xr, 2, key, val, xn⟩) (w5 := w5.drew) (h5.out.below (by exact blw)) hv1.out ho5.out.drew hm1.out hM6.out hg6.out rfl⟩) : p := h
set_option maxHeartbeats 8000000 in
set_option maxRecDepth 20000 in
theorem do_hit2 (x : WrB) (w : World) (base p b n : Nat) (f : ByteArray → Option Slot) (h : StoreIs w base p b n f) (hr : Wr.right (wr x.t x.r x.k x.key x.val x.n) = 0) (hk : x.k = 2) (hn : n ≤ 1000) (X : Slot) (hX : f x.key = some X) :
  Calls Tryz.prog 63 #[.pointer (some ⟨p, 0, none⟩), .agg #[.int .i64 x.t, .int .i64 x.r, .int .i64 x.k, .string x.key, .string x.val, .int .i64 x.n]] w fun e w' => e = .returned .nilIface ∧ Did x w base p b n f w' := by
 obtain ⟨xt, xr, xk, key, val, xn⟩ := x
 (try simp only at *)
 subst hk
 have hg := good_sw (x := ⟨xt, xr, 2, key, val, xn⟩) hr
 have hks : key.size ≤ maxLen := by have h40 : key.size ≤ 40 := hg.key; unfold maxLen; omega
 have hR := fun W => write_right xt xr 2 key val xn W
 rw [hr] at hR
 replace hR := Lib.hid hR
 replace hr := Lib.hid hr
 have hpw := h.row.lt
 replace h := Lib.hid h
 go_enter Tryz.func63, Tryz.ntmps63
 go_wp2_with fail
 have q0 := row_at #[.int .i64 xt, .int .i64 xr, .int .i64 2, .string key, .string val, .int .i64 xn] 33 (rfl : w.heap.size = w.heap.size)
 have hb1 := bal (Below.refl w.heap.size w) (Obj.cells #[.int .i64 xt, .int .i64 xr, .int .i64 2, .string key, .string val, .int .i64 xn] 33)
 generalize w.alloc (Obj.cells #[.int .i64 xt, .int .i64 xr, .int .i64 2, .string key, .string val, .int .i64 xn] 33) = w1 at *
 refine (hR.out _).mono ?_
 rintro _ w2 ⟨rfl, hb2⟩
 rw [show errW 0 = .nilIface from rfl]
 replace q0 := q0.below hb2
 replace hb1 := bch hb1 hb2
 clear hb2
 have hq := q0.lt
 have h2 := h.out.below hb1
 obtain ⟨c0, c1, c2, c3, c4, c5⟩ := q0.c6
 have cp := h2.row.cell 0
 simp only [List.getElem?_cons_zero] at cp
 have hS0 : TC p b w.heap.size n ⟨xt, xr, 2, key, val, xn⟩ (ptrs f) w2.drew := ⟨cp, c2, c3, c4, c5, h2.map⟩
 replace h2 := Lib.hid h2
 replace q0 := Lib.hid q0
 go_wp2_with fail
 (refine wp_region_held_drew (S := TC p b w.heap.size n ⟨xt, xr, 2, key, val, xn⟩ (ptrs f)) (by kernel_rfl) ?_ (fun hHeld => ?_); ((try dsimp only); exact hS0))
 clear hS0
 (refine tkO 0 ?_; refine tkO 1 ?_; refine tkO 2 ?_; refine tkO 3 ?_; refine tkO 4 ?_; refine tkO 5 ?_)
 refine held_take (i := 6) (v := (.pointer (some ⟨X.g, 0, none⟩))) rfl (by kernel_rfl) (by kernel_rfl) (by kernel_rfl) (fun _ _ _ h => h) (by kernel_rfl) (by assumption) ?_ ?_
 ·intro W hSW
  exact byWStoreDo6
 simp only [Act.put, List.setIfInBounds_toArray, List.set_cons_zero, List.set_cons_succ]
 (refine tkO 7 ?_)
 (refine wpAnyH_done (by kernel_rfl) ?_ _)
 clear hHeld
 have h3 := Lib.hid (show StoreIs w2.drew base p b n f from h2.out.below (by exact blw))
 have q3 := Lib.hid (show Row w2.drew w.heap.size _ _ from q0.out)
 have hb3 := bdr hb1
 clear h2 q0 hb1 c0 c1 c2 c3 c4 c5 cp
 generalize w2.drew = w3 at *
 have h5 := h3.out.mono (show n ≤ n + 1 by omega)
 obtain ⟨f1, hf1⟩ : ∃ f1, f1 = f := ⟨_, rfl⟩
 have hX1 : f1 key = some X := by rw [hf1]; exact hX
 have hfx := h3.out.fits _ _ hX
 have hv1 : ∀ s, vals f1 s = vals f s := fun s => by rw [hf1]
 have ho5 : Only (Mine b f) w w3 := Only.of_below _ hb3
 have hm1 : ∀ j, Mine b f1 j → Mine b f j ∨ w.heap.size ≤ j := fun j hj => .inl (hf1 ▸ hj)
 rw [← hf1] at h5
 have q5 := q3.out
 clear hf1 h3 q3 hb3 hX
 obtain ⟨w5, hw5⟩ : ∃ w5, w5 = w3 := ⟨_, rfl⟩
 rw [← hw5] at h5 ho5 q5 ⊢
 clear hw5
 exact byWStoreDo2
set_option maxHeartbeats 8000000 in
set_option maxRecDepth 20000 in
theorem do_new2 (x : WrB) (w : World) (base p b n : Nat) (f : ByteArray → Option Slot) (h : StoreIs w base p b n f) (hr : Wr.right (wr x.t x.r x.k x.key x.val x.n) = 0) (hk : x.k = 2) (hn : n ≤ 1000) (hX : f x.key = none) :
  Calls Tryz.prog 63 #[.pointer (some ⟨p, 0, none⟩), .agg #[.int .i64 x.t, .int .i64 x.r, .int .i64 x.k, .string x.key, .string x.val, .int .i64 x.n]] w fun e w' => e = .returned .nilIface ∧ Did x w base p b n f w' := by
 obtain ⟨xt, xr, xk, key, val, xn⟩ := x
 (try simp only at *)
 subst hk
 have hg := good_sw (x := ⟨xt, xr, 2, key, val, xn⟩) hr
 have hks : key.size ≤ maxLen := by have h40 : key.size ≤ 40 := hg.key; unfold maxLen; omega
 have hR := fun W => write_right xt xr 2 key val xn W
 rw [hr] at hR
 replace hR := Lib.hid hR
 replace hr := Lib.hid hr
 have hpw := h.row.lt
 replace h := Lib.hid h
 go_enter Tryz.func63, Tryz.ntmps63
 go_wp2_with fail
 have q0 := row_at #[.int .i64 xt, .int .i64 xr, .int .i64 2, .string key, .string val, .int .i64 xn] 33 (rfl : w.heap.size = w.heap.size)
 have hb1 := bal (Below.refl w.heap.size w) (Obj.cells #[.int .i64 xt, .int .i64 xr, .int .i64 2, .string key, .string val, .int .i64 xn] 33)
 generalize w.alloc (Obj.cells #[.int .i64 xt, .int .i64 xr, .int .i64 2, .string key, .string val, .int .i64 xn] 33) = w1 at *
 refine (hR.out _).mono ?_
 rintro _ w2 ⟨rfl, hb2⟩
 rw [show errW 0 = .nilIface from rfl]
 replace q0 := q0.below hb2
 replace hb1 := bch hb1 hb2
 clear hb2
 have hq := q0.lt
 have h2 := h.out.below hb1
 obtain ⟨c0, c1, c2, c3, c4, c5⟩ := q0.c6
 have cp := h2.row.cell 0
 simp only [List.getElem?_cons_zero] at cp
 have hS0 : TC p b w.heap.size n ⟨xt, xr, 2, key, val, xn⟩ (ptrs f) w2.drew := ⟨cp, c2, c3, c4, c5, h2.map⟩
 replace h2 := Lib.hid h2
 replace q0 := Lib.hid q0
 go_wp2_with fail
 (refine wp_region_held_drew (S := TC p b w.heap.size n ⟨xt, xr, 2, key, val, xn⟩ (ptrs f)) (by kernel_rfl) ?_ (fun hHeld => ?_); ((try dsimp only); exact hS0))
 clear hS0
 (refine tkO 0 ?_; refine tkO 1 ?_; refine tkO 2 ?_; refine tkO 3 ?_; refine tkO 4 ?_; refine tkO 5 ?_)
 refine held_take (i := 6) (v := (.pointer none)) rfl (by kernel_rfl) (by kernel_rfl) (by kernel_rfl) (fun _ _ _ h => h) (by kernel_rfl) (by assumption) ?_ ?_
 ·intro W hSW
  exact byWStoreDo7
 simp only [Act.put, List.setIfInBounds_toArray, List.set_cons_zero, List.set_cons_succ]
 (refine tkO 7 ?_)
 (refine wpAnyH_done (by kernel_rfl) ?_ _)
 clear hHeld
 have h3 := Lib.hid (show StoreIs w2.drew base p b n f from h2.out.below (by exact blw))
 have q3 := Lib.hid (show Row w2.drew w.heap.size _ _ from q0.out)
 have hb3 := bdr hb1
 clear h2 q0 hb1 c0 c1 c2 c3 c4 c5 cp
 generalize w2.drew = w3 at *
 obtain ⟨c0, c1, c2, c3, c4, c5⟩ := q3.out.c6
 go_wp2_with fail
 have cp := h3.out.row.cell 0
 simp only [List.getElem?_cons_zero] at cp
 have h4 := h3.out.below (by exact blw : Below w3.heap.size w3 (w3.alloc (Obj.cells #[.string key, .bool false, .string ⟨#[]⟩, .int .i64 0, .slice none 0 0] 147)))
 have r4 : Row (w3.alloc (Obj.cells #[.string key, .bool false, .string ⟨#[]⟩, .int .i64 0, .slice none 0 0] 147)) w3.heap.size 147 (slotCells key ⟨w3.heap.size, .slice none 0 0, St.no⟩) := row_at (w := w3) (g := w3.heap.size) #[.string key, .bool false, .string ⟨#[]⟩, .int .i64 0, .slice none 0 0] 147 rfl
 have q4 := q3.out.alloc (Obj.cells #[.string key, .bool false, .string ⟨#[]⟩, .int .i64 0, .slice none 0 0] 147)
 have hb4 : Below w.heap.size w (w3.alloc (Obj.cells #[.string key, .bool false, .string ⟨#[]⟩, .int .i64 0, .slice none 0 0] 147)) := bal hb3 _
 obtain ⟨G, hG⟩ : ∃ G, G = w3.heap.size := ⟨_, rfl⟩
 have hs4 : (w3.alloc (Obj.cells #[.string key, .bool false, .string ⟨#[]⟩, .int .i64 0, .slice none 0 0] 147)).heap.size = G + 1 := by rw [hG]; simp
 have hs3 := hb3.size
 have hqG : w.heap.size < w3.heap.size := q3.out.lt
 have hG1 : w.heap.size < G := by omega
 have hold : ∀ s x, f s = some x → x.g ≠ G := fun s x hx => by have := h3.out.lts hx; omega
 rw [← hG] at r4 ⊢
 clear c0 c1 c2 c3 c4 c5 cp h3 q3 hb3 hG hs3 hqG
 generalize w3.alloc (Obj.cells #[.string key, .bool false, .string ⟨#[]⟩, .int .i64 0, .slice none 0 0] 147) = w4 at *
 replace h4 : StoreIs w4.drew base p b n f := h4.below (by exact blw)
 replace r4 := r4.drew
 replace q4 := q4.drew
 replace hb4 := bdr hb4
 replace hs4 : w4.drew.heap.size = G + 1 := hs4
 have hS1 : w4.drew.cell? ⟨p, 0, none⟩ = some (.map (some b)) ∧ w4.drew.cell? ⟨w.heap.size, 3, none⟩ = some (.string key) := ⟨h4.row.cell 0, q4.cell 3⟩
 (refine wp_region_held_drew (S := (fun W => W.cell? ⟨p, 0, none⟩ = some (.map (some b)) ∧ W.cell? ⟨w.heap.size, 3, none⟩ = some (.string key))) (by kernel_rfl) ?_ (fun hHeld => ?_); ((try dsimp only); exact hS1))
 clear hS1
 (refine tkO 0 ?_; refine tkO 1 ?_; refine tkO 2 ?_; refine tkO 3 ?_; refine tkO 4 ?_; refine tkO 5 ?_; refine tkO 6 ?_)
 have hgb : ∀ w', w4.drew.grownBy w' (some b) → Only (fun j => j = b) w4.drew w' := fun w' hg => (Only.refl _ w4.drew).grown hg fun i hi => .inl (by injection hi with hi; exact hi.symm)
 have hpb : p ≠ b := row_ne_map h4.row h4.map
 have hqb : w.heap.size ≠ b := row_ne_map q4 h4.map
 (refine tdoO 7 (fun K hK => ?_); ((refine step_updatev (.tmp 28) (.tmp 30) (.tmp 31) 141 rfl h4.map Tryz.underlying9 Tryz.underlying141 (by omega) key hks (.pointer (some ⟨G, 0, none⟩)) rfl rfl rfl _ ?_; intro w5 hM5 hg5); refine hK.out _ _ ?_ (fun hHeld => ?_); ((try dsimp only); exact ⟨(hgb _ hg5).cell hHeld.1 hpb, (hgb _ hg5).cell hHeld.2 hqb⟩); clear hK K; (try clear hHeld0); (try rename_i hHeld0)))
 (refine wpAnyH_done (by kernel_rfl) ?_ _)
 clear hHeld
 have hbw : b < w.heap.size := h.out.map.lt
 have hlo := h4.lo
 have h5 := h4.add hX hg.key G (by omega) hold r4 (by omega) hM5 hg5
 clear hbw hlo
 have q5 := q4.only (hgb _ hg5) hqb
 have hX1 := putSlot_same f key ⟨G, .slice none 0 0, St.no⟩
 have hfx := St.Fits.no n
 have hv1 : ∀ s, vals (putSlot f key ⟨G, .slice none 0 0, St.no⟩) s = vals f s := fun s => by
  rw [vals_put]
  by_cases e : key = s
  ·subst e; rw [if_pos rfl, vals_none hX]
  ·rw [if_neg e]
 have ho5 : Only (Mine b f) w w5 := (Only.of_below _ hb4).trans ((hgb _ hg5).mono fun j _ hj => .inl hj)
 have hm1 : ∀ j, Mine b (putSlot f key ⟨G, .slice none 0 0, St.no⟩) j → Mine b f j ∨ w.heap.size ≤ j := fun j hj => by
  exact byWStoreDo3
 have hX2 : (⟨G, .slice none 0 0, St.no⟩ : Slot) = ⟨G, .slice none 0 0, St.no⟩ := rfl
 generalize hf1 : putSlot f key ⟨G, .slice none 0 0, St.no⟩ = f1 at h5 hX1 hv1 hm1
 obtain ⟨X, hXe⟩ : ∃ X : Slot, X = ⟨G, .slice none 0 0, St.no⟩ := ⟨_, rfl⟩
 rw [← hXe] at hX1
 rw [show St.no = X.val by rw [hXe]] at hfx
 have hXg : G = X.g := by rw [hXe]
 rw [hXg]
 clear hXg hXe hX2 hf1 hM5 hg5 hgb hold r4 h4 q4 hb4 hpb hqb hG1 hs4 hX
 exact byWStoreDo2
theorem byWStoreDo4 {p : Prop} (h : p := by
 have hrow : Row _ X.g 147 [.string key, .bool X.val.has, .string X.val.text, .int .i64 X.val.sum, X.lv] := h5.cell _ _ hX1
 obtain ⟨d0, d1, d2, d3, d4⟩ := hrow.c5
 obtain ⟨c0, c1, c2, c3, c4, c5⟩ := q5.c6
 (have z1 := hrow.frozen 1 (by simp); have z2 := hrow.frozen 2 (by simp); have z3 := hrow.frozen 3 (by simp); have z4 := hrow.frozen 4 (by simp))
 have hlo := hfx.lo
 have hhi := hfx.hi
 have hp5 := h5.row.cell 0
 simp only [List.getElem?_cons_zero] at hp5
 replace h5 := Lib.hid h5
 replace hX1 := Lib.hid hX1
 replace hv1 := Lib.hid hv1
 replace ho5 := Lib.hid ho5
 replace hm1 := Lib.hid hm1
 replace hrow := Lib.hid hrow
 replace q5 := Lib.hid q5
 have hng : -1125899906842624 ≤ xn ∧ xn ≤ 1125899906842624 := hg.add rfl
 have hw1 : IntKind.i64.wrap (X.val.sum + xn) = X.val.sum + xn := by rw [IntKind.wrap_i64]; omega
 clear hlo hhi hng hp5
 go_wp2_with fail
 go_region
 go_wp2
 go_ret
 exact ⟨rfl, did_same (x := ⟨xt, xr, 3, key, val, xn⟩) (v := { X.val with sum := X.val.sum + xn }) h5.out hX1.out hv1.out ho5.out hm1.out ((hrow.out.set 3 _).drew) hfx hg (((Only.refl (fun j => j = X.g) w5).set (p := ⟨X.g, 3, none⟩) (.inl rfl) _).drew) rfl rfl⟩) : p := h
set_option maxHeartbeats 8000000 in
set_option maxRecDepth 20000 in
theorem do_hit3 (x : WrB) (w : World) (base p b n : Nat) (f : ByteArray → Option Slot) (h : StoreIs w base p b n f) (hr : Wr.right (wr x.t x.r x.k x.key x.val x.n) = 0) (hk : x.k = 3) (hn : n ≤ 1000) (X : Slot) (hX : f x.key = some X) :
  Calls Tryz.prog 63 #[.pointer (some ⟨p, 0, none⟩), .agg #[.int .i64 x.t, .int .i64 x.r, .int .i64 x.k, .string x.key, .string x.val, .int .i64 x.n]] w fun e w' => e = .returned .nilIface ∧ Did x w base p b n f w' := by
 obtain ⟨xt, xr, xk, key, val, xn⟩ := x
 (try simp only at *)
 subst hk
 have hg := good_sw (x := ⟨xt, xr, 3, key, val, xn⟩) hr
 have hks : key.size ≤ maxLen := by have h40 : key.size ≤ 40 := hg.key; unfold maxLen; omega
 have hR := fun W => write_right xt xr 3 key val xn W
 rw [hr] at hR
 replace hR := Lib.hid hR
 replace hr := Lib.hid hr
 have hpw := h.row.lt
 replace h := Lib.hid h
 go_enter Tryz.func63, Tryz.ntmps63
 go_wp2_with fail
 have q0 := row_at #[.int .i64 xt, .int .i64 xr, .int .i64 3, .string key, .string val, .int .i64 xn] 33 (rfl : w.heap.size = w.heap.size)
 have hb1 := bal (Below.refl w.heap.size w) (Obj.cells #[.int .i64 xt, .int .i64 xr, .int .i64 3, .string key, .string val, .int .i64 xn] 33)
 generalize w.alloc (Obj.cells #[.int .i64 xt, .int .i64 xr, .int .i64 3, .string key, .string val, .int .i64 xn] 33) = w1 at *
 refine (hR.out _).mono ?_
 rintro _ w2 ⟨rfl, hb2⟩
 rw [show errW 0 = .nilIface from rfl]
 replace q0 := q0.below hb2
 replace hb1 := bch hb1 hb2
 clear hb2
 have hq := q0.lt
 have h2 := h.out.below hb1
 obtain ⟨c0, c1, c2, c3, c4, c5⟩ := q0.c6
 have cp := h2.row.cell 0
 simp only [List.getElem?_cons_zero] at cp
 have hS0 : TC p b w.heap.size n ⟨xt, xr, 3, key, val, xn⟩ (ptrs f) w2.drew := ⟨cp, c2, c3, c4, c5, h2.map⟩
 replace h2 := Lib.hid h2
 replace q0 := Lib.hid q0
 go_wp2_with fail
 (refine wp_region_held_drew (S := TC p b w.heap.size n ⟨xt, xr, 3, key, val, xn⟩ (ptrs f)) (by kernel_rfl) ?_ (fun hHeld => ?_); ((try dsimp only); exact hS0))
 clear hS0
 (refine tkO 0 ?_; refine tkO 1 ?_; refine tkO 2 ?_; refine tkO 3 ?_; refine tkO 4 ?_; refine tkO 5 ?_)
 refine held_take (i := 6) (v := (.pointer (some ⟨X.g, 0, none⟩))) rfl (by kernel_rfl) (by kernel_rfl) (by kernel_rfl) (fun _ _ _ h => h) (by kernel_rfl) (by assumption) ?_ ?_
 ·intro W hSW
  exact byWStoreDo6
 simp only [Act.put, List.setIfInBounds_toArray, List.set_cons_zero, List.set_cons_succ]
 (refine tkO 7 ?_)
 (refine wpAnyH_done (by kernel_rfl) ?_ _)
 clear hHeld
 have h3 := Lib.hid (show StoreIs w2.drew base p b n f from h2.out.below (by exact blw))
 have q3 := Lib.hid (show Row w2.drew w.heap.size _ _ from q0.out)
 have hb3 := bdr hb1
 clear h2 q0 hb1 c0 c1 c2 c3 c4 c5 cp
 generalize w2.drew = w3 at *
 have h5 := h3.out.mono (show n ≤ n + 1 by omega)
 obtain ⟨f1, hf1⟩ : ∃ f1, f1 = f := ⟨_, rfl⟩
 have hX1 : f1 key = some X := by rw [hf1]; exact hX
 have hfx := h3.out.fits _ _ hX
 have hv1 : ∀ s, vals f1 s = vals f s := fun s => by rw [hf1]
 have ho5 : Only (Mine b f) w w3 := Only.of_below _ hb3
 have hm1 : ∀ j, Mine b f1 j → Mine b f j ∨ w.heap.size ≤ j := fun j hj => .inl (hf1 ▸ hj)
 rw [← hf1] at h5
 have q5 := q3.out
 clear hf1 h3 q3 hb3 hX
 obtain ⟨w5, hw5⟩ : ∃ w5, w5 = w3 := ⟨_, rfl⟩
 rw [← hw5] at h5 ho5 q5 ⊢
 clear hw5
 exact byWStoreDo4
set_option maxHeartbeats 8000000 in
set_option maxRecDepth 20000 in
theorem do_new3 (x : WrB) (w : World) (base p b n : Nat) (f : ByteArray → Option Slot) (h : StoreIs w base p b n f) (hr : Wr.right (wr x.t x.r x.k x.key x.val x.n) = 0) (hk : x.k = 3) (hn : n ≤ 1000) (hX : f x.key = none) :
  Calls Tryz.prog 63 #[.pointer (some ⟨p, 0, none⟩), .agg #[.int .i64 x.t, .int .i64 x.r, .int .i64 x.k, .string x.key, .string x.val, .int .i64 x.n]] w fun e w' => e = .returned .nilIface ∧ Did x w base p b n f w' := by
 obtain ⟨xt, xr, xk, key, val, xn⟩ := x
 (try simp only at *)
 subst hk
 have hg := good_sw (x := ⟨xt, xr, 3, key, val, xn⟩) hr
 have hks : key.size ≤ maxLen := by have h40 : key.size ≤ 40 := hg.key; unfold maxLen; omega
 have hR := fun W => write_right xt xr 3 key val xn W
 rw [hr] at hR
 replace hR := Lib.hid hR
 replace hr := Lib.hid hr
 have hpw := h.row.lt
 replace h := Lib.hid h
 go_enter Tryz.func63, Tryz.ntmps63
 go_wp2_with fail
 have q0 := row_at #[.int .i64 xt, .int .i64 xr, .int .i64 3, .string key, .string val, .int .i64 xn] 33 (rfl : w.heap.size = w.heap.size)
 have hb1 := bal (Below.refl w.heap.size w) (Obj.cells #[.int .i64 xt, .int .i64 xr, .int .i64 3, .string key, .string val, .int .i64 xn] 33)
 generalize w.alloc (Obj.cells #[.int .i64 xt, .int .i64 xr, .int .i64 3, .string key, .string val, .int .i64 xn] 33) = w1 at *
 refine (hR.out _).mono ?_
 rintro _ w2 ⟨rfl, hb2⟩
 rw [show errW 0 = .nilIface from rfl]
 replace q0 := q0.below hb2
 replace hb1 := bch hb1 hb2
 clear hb2
 have hq := q0.lt
 have h2 := h.out.below hb1
 obtain ⟨c0, c1, c2, c3, c4, c5⟩ := q0.c6
 have cp := h2.row.cell 0
 simp only [List.getElem?_cons_zero] at cp
 have hS0 : TC p b w.heap.size n ⟨xt, xr, 3, key, val, xn⟩ (ptrs f) w2.drew := ⟨cp, c2, c3, c4, c5, h2.map⟩
 replace h2 := Lib.hid h2
 replace q0 := Lib.hid q0
 go_wp2_with fail
 (refine wp_region_held_drew (S := TC p b w.heap.size n ⟨xt, xr, 3, key, val, xn⟩ (ptrs f)) (by kernel_rfl) ?_ (fun hHeld => ?_); ((try dsimp only); exact hS0))
 clear hS0
 (refine tkO 0 ?_; refine tkO 1 ?_; refine tkO 2 ?_; refine tkO 3 ?_; refine tkO 4 ?_; refine tkO 5 ?_)
 refine held_take (i := 6) (v := (.pointer none)) rfl (by kernel_rfl) (by kernel_rfl) (by kernel_rfl) (fun _ _ _ h => h) (by kernel_rfl) (by assumption) ?_ ?_
 ·intro W hSW
  exact byWStoreDo7
 simp only [Act.put, List.setIfInBounds_toArray, List.set_cons_zero, List.set_cons_succ]
 (refine tkO 7 ?_)
 (refine wpAnyH_done (by kernel_rfl) ?_ _)
 clear hHeld
 have h3 := Lib.hid (show StoreIs w2.drew base p b n f from h2.out.below (by exact blw))
 have q3 := Lib.hid (show Row w2.drew w.heap.size _ _ from q0.out)
 have hb3 := bdr hb1
 clear h2 q0 hb1 c0 c1 c2 c3 c4 c5 cp
 generalize w2.drew = w3 at *
 obtain ⟨c0, c1, c2, c3, c4, c5⟩ := q3.out.c6
 go_wp2_with fail
 have cp := h3.out.row.cell 0
 simp only [List.getElem?_cons_zero] at cp
 have h4 := h3.out.below (by exact blw : Below w3.heap.size w3 (w3.alloc (Obj.cells #[.string key, .bool false, .string ⟨#[]⟩, .int .i64 0, .slice none 0 0] 147)))
 have r4 : Row (w3.alloc (Obj.cells #[.string key, .bool false, .string ⟨#[]⟩, .int .i64 0, .slice none 0 0] 147)) w3.heap.size 147 (slotCells key ⟨w3.heap.size, .slice none 0 0, St.no⟩) := row_at (w := w3) (g := w3.heap.size) #[.string key, .bool false, .string ⟨#[]⟩, .int .i64 0, .slice none 0 0] 147 rfl
 have q4 := q3.out.alloc (Obj.cells #[.string key, .bool false, .string ⟨#[]⟩, .int .i64 0, .slice none 0 0] 147)
 have hb4 : Below w.heap.size w (w3.alloc (Obj.cells #[.string key, .bool false, .string ⟨#[]⟩, .int .i64 0, .slice none 0 0] 147)) := bal hb3 _
 obtain ⟨G, hG⟩ : ∃ G, G = w3.heap.size := ⟨_, rfl⟩
 have hs4 : (w3.alloc (Obj.cells #[.string key, .bool false, .string ⟨#[]⟩, .int .i64 0, .slice none 0 0] 147)).heap.size = G + 1 := by rw [hG]; simp
 have hs3 := hb3.size
 have hqG : w.heap.size < w3.heap.size := q3.out.lt
 have hG1 : w.heap.size < G := by omega
 have hold : ∀ s x, f s = some x → x.g ≠ G := fun s x hx => by have := h3.out.lts hx; omega
 rw [← hG] at r4 ⊢
 clear c0 c1 c2 c3 c4 c5 cp h3 q3 hb3 hG hs3 hqG
 generalize w3.alloc (Obj.cells #[.string key, .bool false, .string ⟨#[]⟩, .int .i64 0, .slice none 0 0] 147) = w4 at *
 replace h4 : StoreIs w4.drew base p b n f := h4.below (by exact blw)
 replace r4 := r4.drew
 replace q4 := q4.drew
 replace hb4 := bdr hb4
 replace hs4 : w4.drew.heap.size = G + 1 := hs4
 have hS1 : w4.drew.cell? ⟨p, 0, none⟩ = some (.map (some b)) ∧ w4.drew.cell? ⟨w.heap.size, 3, none⟩ = some (.string key) := ⟨h4.row.cell 0, q4.cell 3⟩
 (refine wp_region_held_drew (S := (fun W => W.cell? ⟨p, 0, none⟩ = some (.map (some b)) ∧ W.cell? ⟨w.heap.size, 3, none⟩ = some (.string key))) (by kernel_rfl) ?_ (fun hHeld => ?_); ((try dsimp only); exact hS1))
 clear hS1
 (refine tkO 0 ?_; refine tkO 1 ?_; refine tkO 2 ?_; refine tkO 3 ?_; refine tkO 4 ?_; refine tkO 5 ?_; refine tkO 6 ?_)
 have hgb : ∀ w', w4.drew.grownBy w' (some b) → Only (fun j => j = b) w4.drew w' := fun w' hg => (Only.refl _ w4.drew).grown hg fun i hi => .inl (by injection hi with hi; exact hi.symm)
 have hpb : p ≠ b := row_ne_map h4.row h4.map
 have hqb : w.heap.size ≠ b := row_ne_map q4 h4.map
 (refine tdoO 7 (fun K hK => ?_); ((refine step_updatev (.tmp 28) (.tmp 30) (.tmp 31) 141 rfl h4.map Tryz.underlying9 Tryz.underlying141 (by omega) key hks (.pointer (some ⟨G, 0, none⟩)) rfl rfl rfl _ ?_; intro w5 hM5 hg5); refine hK.out _ _ ?_ (fun hHeld => ?_); ((try dsimp only); exact ⟨(hgb _ hg5).cell hHeld.1 hpb, (hgb _ hg5).cell hHeld.2 hqb⟩); clear hK K; (try clear hHeld0); (try rename_i hHeld0)))
 (refine wpAnyH_done (by kernel_rfl) ?_ _)
 clear hHeld
 have hbw : b < w.heap.size := h.out.map.lt
 have hlo := h4.lo
 have h5 := h4.add hX hg.key G (by omega) hold r4 (by omega) hM5 hg5
 clear hbw hlo
 have q5 := q4.only (hgb _ hg5) hqb
 have hX1 := putSlot_same f key ⟨G, .slice none 0 0, St.no⟩
 have hfx := St.Fits.no n
 have hv1 : ∀ s, vals (putSlot f key ⟨G, .slice none 0 0, St.no⟩) s = vals f s := fun s => by
  rw [vals_put]
  by_cases e : key = s
  ·subst e; rw [if_pos rfl, vals_none hX]
  ·rw [if_neg e]
 have ho5 : Only (Mine b f) w w5 := (Only.of_below _ hb4).trans ((hgb _ hg5).mono fun j _ hj => .inl hj)
 have hm1 : ∀ j, Mine b (putSlot f key ⟨G, .slice none 0 0, St.no⟩) j → Mine b f j ∨ w.heap.size ≤ j := fun j hj => by
  exact byWStoreDo3
 have hX2 : (⟨G, .slice none 0 0, St.no⟩ : Slot) = ⟨G, .slice none 0 0, St.no⟩ := rfl
 generalize hf1 : putSlot f key ⟨G, .slice none 0 0, St.no⟩ = f1 at h5 hX1 hv1 hm1
 obtain ⟨X, hXe⟩ : ∃ X : Slot, X = ⟨G, .slice none 0 0, St.no⟩ := ⟨_, rfl⟩
 rw [← hXe] at hX1
 rw [show St.no = X.val by rw [hXe]] at hfx
 have hXg : G = X.g := by rw [hXe]
 rw [hXg]
 clear hXg hXe hX2 hf1 hM5 hg5 hgb hold r4 h4 q4 hb4 hpb hqb hG1 hs4 hX
 exact byWStoreDo4
theorem byWStoreDo1 {p : Prop} (h : p := by
 have hrow : Row _ X.g 147 [.string key, .bool X.val.has, .string X.val.text, .int .i64 X.val.sum, X.lv] := h5.cell _ _ hX1
 obtain ⟨d0, d1, d2, d3, d4⟩ := hrow.c5
 obtain ⟨c0, c1, c2, c3, c4, c5⟩ := q5.c6
 (have z1 := hrow.frozen 1 (by simp); have z2 := hrow.frozen 2 (by simp); have z3 := hrow.frozen 3 (by simp); have z4 := hrow.frozen 4 (by simp))
 have hlo := hfx.lo
 have hhi := hfx.hi
 have hp5 := h5.row.cell 0
 simp only [List.getElem?_cons_zero] at hp5
 replace h5 := Lib.hid h5
 replace hX1 := Lib.hid hX1
 replace hv1 := Lib.hid hv1
 replace ho5 := Lib.hid ho5
 replace hm1 := Lib.hid hm1
 replace hrow := Lib.hid hrow
 replace q5 := Lib.hid q5
 have hni : 0 ≤ xn ∧ xn ≤ 1000 := hg.ins rfl
 obtain ⟨hn0, hn1⟩ := hni
 clear hlo hhi hp5
 clear z1 z2 z3 d0 d1 d2 d3 c0 c1 c3
 obtain ⟨Xg, Xlv, Xv⟩ := X
 (try simp only at *)
 have hlist := h5.out.list _ _ hX1.out
 (try simp only at hlist)
 obtain ⟨lo, lc, rfl⟩ := owns_slice_ hlist
 obtain ⟨m, rfl⟩ : ∃ m : Nat, xn = m := ⟨xn.toNat, by omega⟩
 have hlen := hfx.len
 (try simp only at hlen)
 have hfl := flat_len strCells_len Xv.list
 have hm64 : (m : Int) ≤ 1000 := hn1
 have hl64 : (Xv.list.length : Int) ≤ 1000 := by omega
 generalize hL : Xv.list.length = L at *
 replace hlist := Lib.hid hlist
 replace hL := Lib.hid hL
 replace hfl := Lib.hid hfl
 have hs5 := hrow.out.lt
 have hIn := Lib.hid (fun (i : Nat) (hi : i ≤ L) => insert_str (.slice lo L lc) L i (Xv.list.flatMap strCells) [.string val] w5.heap.size 1 base (w5.alloc (.cells #[.string val] 9)).drew (show World.ownsRow _ _ _ _ _ _ _ from hlist.out.alloc _) hi (by omega) rfl (fun u hu => by obtain ⟨s, -, hs⟩ := List.mem_flatMap.1 hu; simp only [strCells, List.mem_singleton] at hs; subst hs; rfl) (fun u hu => by simp only [List.mem_singleton] at hu; subst hu; rfl) (show (w5.alloc _).heap[w5.heap.size]? = _ from heap_alloc_new w5 _) (owns_lt hlist.out _ (Nat.le_refl _)) (Nat.le_trans (show base ≤ w5.heap.size by have := h5.out.lo; have := h5.out.map.lt; omega) (show w5.heap.size ≤ (w5.alloc _).heap.size from (World.grownBy_alloc w5 _ none).size)))
 have hls := hlist.out
 have hnq : ∀ k, Value.ownBlock (.slice lo L lc) = some k → k ≠ w.heap.size := fun k hk e => by subst e; exact row_ne_own q5.out hls (by decide) hk
 have hnx : ∀ k, Value.ownBlock (.slice lo L lc) = some k → k ≠ Xg := fun k hk e => by subst e; exact row_ne_own hrow.out hls cell_ne_string hk
 have hO : ∀ wm, (w5.alloc (.cells #[.string val] 9)).drew.grownBy wm (Value.ownBlock (.slice lo L lc)) → Only (fun j => Value.ownBlock (.slice lo L lc) = some j) w5 wm := fun wm hg =>
  (((Only.refl _ w5).alloc _).drew).grown hg fun k hk => .inl hk
 replace hO := Lib.hid hO
 have hown8 : ∀ (i : Nat), i = min m L → (List.take i (List.flatMap strCells Xv.list) ++ [Value.string val] ++ List.drop i (List.flatMap strCells Xv.list)) = (St.step Xv ⟨4, key, val, m⟩).list.flatMap strCells ∧ (St.step Xv ⟨4, key, val, m⟩).list.length = L + 1 := fun i hi => by
  have e : (St.step Xv ⟨4, key, val, m⟩).list = St.ins Xv.list (min (m : Int).toNat Xv.list.length) val := rfl
  rw [e, hL.out, Int.toNat_natCast, ← hi, St.ins_len, hL.out]
  refine ⟨?_, rfl⟩
  unfold St.ins
  rw [List.flatMap_append, List.flatMap_append, strs_take, strs_drop]
  rfl
 replace hown8 := Lib.hid hown8
 by_cases hml : (m : Int) ≤ (L : Int)
 ·have hml2 : ¬ L < m := by omega
  have hI := Lib.hid (hIn.out m (by omega))
  have hE := hown8.out m (by omega)
  rw [hE.1, ← hE.2] at hI
  clear hIn hE
  replace hI := Lib.hid hI.out
  go_wp2_with fail
  (refine last_start (fun W => W.cell? ⟨Xg, 4, none⟩ = some (.slice lo L lc) ∧ W.cell? ⟨w.heap.size, 4, none⟩ = some (.string val) ∧ W.cell? ⟨w.heap.size, 5, none⟩ = some (.int .i64 m)) 19 (by kernel_rfl) ?_ (fun hHeld => ?_); ((try dsimp only); exact ⟨d4, c4, c5⟩))
  (refine lkO 0 ?_; refine lkO 1 ?_; refine lkO 2 ?_; refine lkO 3 ?_; refine lkO 4 ?_; refine lkO 5 ?_; refine lkO 6 ?_; refine lkO 7 ?_; refine lkO 8 ?_; refine lkO 9 ?_; refine lkO 10 ?_; refine lkO 11 ?_; refine lkO 12 ?_; refine lkO 13 ?_; refine lkO 14 ?_)
  (refine last_ready (P := Tryz.prog) (rs := [15]) (by kernel_rfl) (by simp) ?_; refine last_cons rfl (by kernel_rfl) (fun K hK => ?_) ReadyL.nil; (go_simp; refine hK.out _ _ ?_ (fun hHeld => ?_); ((try dsimp only); exact ⟨cell_alloc hHeld.1 _, cell_alloc hHeld.2.1 _, cell_alloc hHeld.2.2 _⟩); clear hK K; (try clear hHeld0); (try rename_i hHeld0)))
  (refine last_ready (P := Tryz.prog) (rs := [16]) (by kernel_rfl) (by simp) ?_; refine last_cons rfl (by kernel_rfl) (fun K hK => ?_) ReadyL.nil; ((go_simp; (with_reducible refine hI.out.mono ?_); rintro _ wm ⟨v3, rfl, hv3, hgr, hbk, hnil⟩); refine hK.out _ _ ?_ (fun hHeld => ?_); ((try dsimp only); exact ⟨(hO.out _ hgr).cell d4 (fun e => hnx _ e rfl), (hO.out _ hgr).cell c4 (fun e => hnq _ e rfl), (hO.out _ hgr).cell c5 (fun e => hnq _ e rfl)⟩); clear hK K; (try clear hHeld0); (try rename_i hHeld0)))
  obtain ⟨g3, m4, rfl⟩ := owns_addr hv3 hnil
  (refine last_ready (P := Tryz.prog) (rs := [17]) (by kernel_rfl) (by simp) ?_; refine last_cons rfl (by kernel_rfl) (fun K hK => ?_) ReadyL.nil; (go_simp; refine hK.out _ _ ?_ (fun hHeld => ?_); ((try dsimp only); exact hHeld); clear hK K; (try clear hHeld0); (try rename_i hHeld0)))
  (refine lkO 18 ?_)
  have hOm := hO.out _ hgr
  have hrm := hrow.out.only hOm (fun e => hnx _ e rfl)
  have y4 := hrm.frozen 4 (by simp)
  have x4 := hrm.cell 4
  simp only [List.getElem?_cons_zero, List.getElem?_cons_succ] at x4
  (refine last_ready (P := Tryz.prog) (rs := [19]) (by kernel_rfl) (by simp) ?_; refine last_end rfl (by kernel_rfl) (fun K hK => ?_); go_simp; refine hK.out _ _ ?_; clear hK K; refine last_done (by kernel_rfl) ?_ _)
  replace hv3 := Lib.hid hv3
  replace hgr := Lib.hid hgr
  replace hbk := Lib.hid hbk
  replace hnil := Lib.hid hnil
  replace hOm := Lib.hid hOm
  replace hrm := Lib.hid hrm
  clear x4 y4 hHeld
  go_wp2
  go_ret
  refine ⟨rfl, did_turn (x := ⟨xt, xr, 4, key, val, m⟩) (X := ⟨Xg, .slice lo L lc, Xv⟩) (y := ⟨Xg, .slice (some ⟨g3, 0, none⟩) (St.step Xv ⟨4, key, val, m⟩).list.length m4, St.step Xv ⟨4, key, val, m⟩⟩) h5.out hX1.out hv1.out ho5.out hm1.out rfl ?_ ?_ ?_ ?_ ?_ rfl⟩
  ·exact (hrm.out.set 4 _).drew
  ·exact owns_only hv3.out ((Only.refl (fun j => j = Xg) wm).set (p := ⟨Xg, 4, none⟩) (.inl rfl) _) (fun k hk e => by subst e; exact row_ne_own hrm.out hv3.out cell_ne_string hk)
  ·exact hfx.step hg
  ·rcases hbk.out with h | h
   ·exact .inl h
   ·refine .inr fun i hi => ?_
    have e : some i = some ((w5.alloc (.cells #[.string val] 9)).drew.heap.size) := hi.symm.trans h
    injection e with e
    rw [e]
    exact (World.grownBy_alloc w5 _ none).size
  ·exact (hOm.out.mono fun j _ hj => .inr hj).set (p := ⟨Xg, 4, none⟩) (.inl (.inl rfl)) _
 ·have hml2 : L < m := by omega
  have hI := Lib.hid (hIn.out L (by omega))
  have hE := hown8.out L (by omega)
  rw [hE.1, ← hE.2] at hI
  clear hIn hE
  replace hI := Lib.hid hI.out
  go_wp2_with fail
  (refine last_start (fun W => W.cell? ⟨Xg, 4, none⟩ = some (.slice lo L lc) ∧ W.cell? ⟨w.heap.size, 4, none⟩ = some (.string val) ∧ W.cell? ⟨w.heap.size, 5, none⟩ = some (.int .i64 m)) 19 (by kernel_rfl) ?_ (fun hHeld => ?_); ((try dsimp only); exact ⟨d4, c4, c5⟩))
  (refine lkO 0 ?_; refine lkO 1 ?_; refine lkO 2 ?_; refine lkO 3 ?_; refine lkO 4 ?_; refine lkO 5 ?_; refine lkO 6 ?_; refine lkO 7 ?_; refine lkO 8 ?_; refine lkO 9 ?_; refine lkO 10 ?_; refine lkO 11 ?_; refine lkO 12 ?_; refine lkO 13 ?_; refine lkO 14 ?_)
  (refine last_ready (P := Tryz.prog) (rs := [15]) (by kernel_rfl) (by simp) ?_; refine last_cons rfl (by kernel_rfl) (fun K hK => ?_) ReadyL.nil; (go_simp; refine hK.out _ _ ?_ (fun hHeld => ?_); ((try dsimp only); exact ⟨cell_alloc hHeld.1 _, cell_alloc hHeld.2.1 _, cell_alloc hHeld.2.2 _⟩); clear hK K; (try clear hHeld0); (try rename_i hHeld0)))
  (refine last_ready (P := Tryz.prog) (rs := [16]) (by kernel_rfl) (by simp) ?_; refine last_cons rfl (by kernel_rfl) (fun K hK => ?_) ReadyL.nil; ((go_simp; (with_reducible refine hI.out.mono ?_); rintro _ wm ⟨v3, rfl, hv3, hgr, hbk, hnil⟩); refine hK.out _ _ ?_ (fun hHeld => ?_); ((try dsimp only); exact ⟨(hO.out _ hgr).cell d4 (fun e => hnx _ e rfl), (hO.out _ hgr).cell c4 (fun e => hnq _ e rfl), (hO.out _ hgr).cell c5 (fun e => hnq _ e rfl)⟩); clear hK K; (try clear hHeld0); (try rename_i hHeld0)))
  obtain ⟨g3, m4, rfl⟩ := owns_addr hv3 hnil
  (refine last_ready (P := Tryz.prog) (rs := [17]) (by kernel_rfl) (by simp) ?_; refine last_cons rfl (by kernel_rfl) (fun K hK => ?_) ReadyL.nil; (go_simp; refine hK.out _ _ ?_ (fun hHeld => ?_); ((try dsimp only); exact hHeld); clear hK K; (try clear hHeld0); (try rename_i hHeld0)))
  (refine lkO 18 ?_)
  have hOm := hO.out _ hgr
  have hrm := hrow.out.only hOm (fun e => hnx _ e rfl)
  have y4 := hrm.frozen 4 (by simp)
  have x4 := hrm.cell 4
  simp only [List.getElem?_cons_zero, List.getElem?_cons_succ] at x4
  (refine last_ready (P := Tryz.prog) (rs := [19]) (by kernel_rfl) (by simp) ?_; refine last_end rfl (by kernel_rfl) (fun K hK => ?_); go_simp; refine hK.out _ _ ?_; clear hK K; refine last_done (by kernel_rfl) ?_ _)
  replace hv3 := Lib.hid hv3
  replace hgr := Lib.hid hgr
  replace hbk := Lib.hid hbk
  replace hnil := Lib.hid hnil
  replace hOm := Lib.hid hOm
  replace hrm := Lib.hid hrm
  clear x4 y4 hHeld
  go_wp2
  go_ret
  refine ⟨rfl, did_turn (x := ⟨xt, xr, 4, key, val, m⟩) (X := ⟨Xg, .slice lo L lc, Xv⟩) (y := ⟨Xg, .slice (some ⟨g3, 0, none⟩) (St.step Xv ⟨4, key, val, m⟩).list.length m4, St.step Xv ⟨4, key, val, m⟩⟩) h5.out hX1.out hv1.out ho5.out hm1.out rfl ?_ ?_ ?_ ?_ ?_ rfl⟩
  ·exact (hrm.out.set 4 _).drew
  ·exact owns_only hv3.out ((Only.refl (fun j => j = Xg) wm).set (p := ⟨Xg, 4, none⟩) (.inl rfl) _) (fun k hk e => by subst e; exact row_ne_own hrm.out hv3.out cell_ne_string hk)
  ·exact hfx.step hg
  ·rcases hbk.out with h | h
   ·exact .inl h
   ·refine .inr fun i hi => ?_
    have e : some i = some ((w5.alloc (.cells #[.string val] 9)).drew.heap.size) := hi.symm.trans h
    injection e with e
    rw [e]
    exact (World.grownBy_alloc w5 _ none).size
  ·exact (hOm.out.mono fun j _ hj => .inr hj).set (p := ⟨Xg, 4, none⟩) (.inl (.inl rfl)) _) : p := h
set_option maxHeartbeats 8000000 in
set_option maxRecDepth 20000 in
theorem do_hit4 (x : WrB) (w : World) (base p b n : Nat) (f : ByteArray → Option Slot) (h : StoreIs w base p b n f) (hr : Wr.right (wr x.t x.r x.k x.key x.val x.n) = 0) (hk : x.k = 4) (hn : n ≤ 1000) (X : Slot) (hX : f x.key = some X) :
  Calls Tryz.prog 63 #[.pointer (some ⟨p, 0, none⟩), .agg #[.int .i64 x.t, .int .i64 x.r, .int .i64 x.k, .string x.key, .string x.val, .int .i64 x.n]] w fun e w' => e = .returned .nilIface ∧ Did x w base p b n f w' := by
 obtain ⟨xt, xr, xk, key, val, xn⟩ := x
 (try simp only at *)
 subst hk
 have hg := good_sw (x := ⟨xt, xr, 4, key, val, xn⟩) hr
 have hks : key.size ≤ maxLen := by have h40 : key.size ≤ 40 := hg.key; unfold maxLen; omega
 have hR := fun W => write_right xt xr 4 key val xn W
 rw [hr] at hR
 replace hR := Lib.hid hR
 replace hr := Lib.hid hr
 have hpw := h.row.lt
 replace h := Lib.hid h
 go_enter Tryz.func63, Tryz.ntmps63
 go_wp2_with fail
 have q0 := row_at #[.int .i64 xt, .int .i64 xr, .int .i64 4, .string key, .string val, .int .i64 xn] 33 (rfl : w.heap.size = w.heap.size)
 have hb1 := bal (Below.refl w.heap.size w) (Obj.cells #[.int .i64 xt, .int .i64 xr, .int .i64 4, .string key, .string val, .int .i64 xn] 33)
 generalize w.alloc (Obj.cells #[.int .i64 xt, .int .i64 xr, .int .i64 4, .string key, .string val, .int .i64 xn] 33) = w1 at *
 refine (hR.out _).mono ?_
 rintro _ w2 ⟨rfl, hb2⟩
 rw [show errW 0 = .nilIface from rfl]
 replace q0 := q0.below hb2
 replace hb1 := bch hb1 hb2
 clear hb2
 have hq := q0.lt
 have h2 := h.out.below hb1
 obtain ⟨c0, c1, c2, c3, c4, c5⟩ := q0.c6
 have cp := h2.row.cell 0
 simp only [List.getElem?_cons_zero] at cp
 have hS0 : TC p b w.heap.size n ⟨xt, xr, 4, key, val, xn⟩ (ptrs f) w2.drew := ⟨cp, c2, c3, c4, c5, h2.map⟩
 replace h2 := Lib.hid h2
 replace q0 := Lib.hid q0
 go_wp2_with fail
 (refine wp_region_held_drew (S := TC p b w.heap.size n ⟨xt, xr, 4, key, val, xn⟩ (ptrs f)) (by kernel_rfl) ?_ (fun hHeld => ?_); ((try dsimp only); exact hS0))
 clear hS0
 (refine tkO 0 ?_; refine tkO 1 ?_; refine tkO 2 ?_; refine tkO 3 ?_; refine tkO 4 ?_; refine tkO 5 ?_)
 refine held_take (i := 6) (v := (.pointer (some ⟨X.g, 0, none⟩))) rfl (by kernel_rfl) (by kernel_rfl) (by kernel_rfl) (fun _ _ _ h => h) (by kernel_rfl) (by assumption) ?_ ?_
 ·intro W hSW
  exact byWStoreDo6
 simp only [Act.put, List.setIfInBounds_toArray, List.set_cons_zero, List.set_cons_succ]
 (refine tkO 7 ?_)
 (refine wpAnyH_done (by kernel_rfl) ?_ _)
 clear hHeld
 have h3 := Lib.hid (show StoreIs w2.drew base p b n f from h2.out.below (by exact blw))
 have q3 := Lib.hid (show Row w2.drew w.heap.size _ _ from q0.out)
 have hb3 := bdr hb1
 clear h2 q0 hb1 c0 c1 c2 c3 c4 c5 cp
 generalize w2.drew = w3 at *
 have h5 := h3.out.mono (show n ≤ n + 1 by omega)
 obtain ⟨f1, hf1⟩ : ∃ f1, f1 = f := ⟨_, rfl⟩
 have hX1 : f1 key = some X := by rw [hf1]; exact hX
 have hfx := h3.out.fits _ _ hX
 have hv1 : ∀ s, vals f1 s = vals f s := fun s => by rw [hf1]
 have ho5 : Only (Mine b f) w w3 := Only.of_below _ hb3
 have hm1 : ∀ j, Mine b f1 j → Mine b f j ∨ w.heap.size ≤ j := fun j hj => .inl (hf1 ▸ hj)
 rw [← hf1] at h5
 have q5 := q3.out
 clear hf1 h3 q3 hb3 hX
 obtain ⟨w5, hw5⟩ : ∃ w5, w5 = w3 := ⟨_, rfl⟩
 rw [← hw5] at h5 ho5 q5 ⊢
 clear hw5
 exact byWStoreDo1
set_option maxHeartbeats 8000000 in
set_option maxRecDepth 20000 in
theorem do_new4 (x : WrB) (w : World) (base p b n : Nat) (f : ByteArray → Option Slot) (h : StoreIs w base p b n f) (hr : Wr.right (wr x.t x.r x.k x.key x.val x.n) = 0) (hk : x.k = 4) (hn : n ≤ 1000) (hX : f x.key = none) :
  Calls Tryz.prog 63 #[.pointer (some ⟨p, 0, none⟩), .agg #[.int .i64 x.t, .int .i64 x.r, .int .i64 x.k, .string x.key, .string x.val, .int .i64 x.n]] w fun e w' => e = .returned .nilIface ∧ Did x w base p b n f w' := by
 obtain ⟨xt, xr, xk, key, val, xn⟩ := x
 (try simp only at *)
 subst hk
 have hg := good_sw (x := ⟨xt, xr, 4, key, val, xn⟩) hr
 have hks : key.size ≤ maxLen := by have h40 : key.size ≤ 40 := hg.key; unfold maxLen; omega
 have hR := fun W => write_right xt xr 4 key val xn W
 rw [hr] at hR
 replace hR := Lib.hid hR
 replace hr := Lib.hid hr
 have hpw := h.row.lt
 replace h := Lib.hid h
 go_enter Tryz.func63, Tryz.ntmps63
 go_wp2_with fail
 have q0 := row_at #[.int .i64 xt, .int .i64 xr, .int .i64 4, .string key, .string val, .int .i64 xn] 33 (rfl : w.heap.size = w.heap.size)
 have hb1 := bal (Below.refl w.heap.size w) (Obj.cells #[.int .i64 xt, .int .i64 xr, .int .i64 4, .string key, .string val, .int .i64 xn] 33)
 generalize w.alloc (Obj.cells #[.int .i64 xt, .int .i64 xr, .int .i64 4, .string key, .string val, .int .i64 xn] 33) = w1 at *
 refine (hR.out _).mono ?_
 rintro _ w2 ⟨rfl, hb2⟩
 rw [show errW 0 = .nilIface from rfl]
 replace q0 := q0.below hb2
 replace hb1 := bch hb1 hb2
 clear hb2
 have hq := q0.lt
 have h2 := h.out.below hb1
 obtain ⟨c0, c1, c2, c3, c4, c5⟩ := q0.c6
 have cp := h2.row.cell 0
 simp only [List.getElem?_cons_zero] at cp
 have hS0 : TC p b w.heap.size n ⟨xt, xr, 4, key, val, xn⟩ (ptrs f) w2.drew := ⟨cp, c2, c3, c4, c5, h2.map⟩
 replace h2 := Lib.hid h2
 replace q0 := Lib.hid q0
 go_wp2_with fail
 (refine wp_region_held_drew (S := TC p b w.heap.size n ⟨xt, xr, 4, key, val, xn⟩ (ptrs f)) (by kernel_rfl) ?_ (fun hHeld => ?_); ((try dsimp only); exact hS0))
 clear hS0
 (refine tkO 0 ?_; refine tkO 1 ?_; refine tkO 2 ?_; refine tkO 3 ?_; refine tkO 4 ?_; refine tkO 5 ?_)
 refine held_take (i := 6) (v := (.pointer none)) rfl (by kernel_rfl) (by kernel_rfl) (by kernel_rfl) (fun _ _ _ h => h) (by kernel_rfl) (by assumption) ?_ ?_
 ·intro W hSW
  exact byWStoreDo7
 simp only [Act.put, List.setIfInBounds_toArray, List.set_cons_zero, List.set_cons_succ]
 (refine tkO 7 ?_)
 (refine wpAnyH_done (by kernel_rfl) ?_ _)
 clear hHeld
 have h3 := Lib.hid (show StoreIs w2.drew base p b n f from h2.out.below (by exact blw))
 have q3 := Lib.hid (show Row w2.drew w.heap.size _ _ from q0.out)
 have hb3 := bdr hb1
 clear h2 q0 hb1 c0 c1 c2 c3 c4 c5 cp
 generalize w2.drew = w3 at *
 obtain ⟨c0, c1, c2, c3, c4, c5⟩ := q3.out.c6
 go_wp2_with fail
 have cp := h3.out.row.cell 0
 simp only [List.getElem?_cons_zero] at cp
 have h4 := h3.out.below (by exact blw : Below w3.heap.size w3 (w3.alloc (Obj.cells #[.string key, .bool false, .string ⟨#[]⟩, .int .i64 0, .slice none 0 0] 147)))
 have r4 : Row (w3.alloc (Obj.cells #[.string key, .bool false, .string ⟨#[]⟩, .int .i64 0, .slice none 0 0] 147)) w3.heap.size 147 (slotCells key ⟨w3.heap.size, .slice none 0 0, St.no⟩) := row_at (w := w3) (g := w3.heap.size) #[.string key, .bool false, .string ⟨#[]⟩, .int .i64 0, .slice none 0 0] 147 rfl
 have q4 := q3.out.alloc (Obj.cells #[.string key, .bool false, .string ⟨#[]⟩, .int .i64 0, .slice none 0 0] 147)
 have hb4 : Below w.heap.size w (w3.alloc (Obj.cells #[.string key, .bool false, .string ⟨#[]⟩, .int .i64 0, .slice none 0 0] 147)) := bal hb3 _
 obtain ⟨G, hG⟩ : ∃ G, G = w3.heap.size := ⟨_, rfl⟩
 have hs4 : (w3.alloc (Obj.cells #[.string key, .bool false, .string ⟨#[]⟩, .int .i64 0, .slice none 0 0] 147)).heap.size = G + 1 := by rw [hG]; simp
 have hs3 := hb3.size
 have hqG : w.heap.size < w3.heap.size := q3.out.lt
 have hG1 : w.heap.size < G := by omega
 have hold : ∀ s x, f s = some x → x.g ≠ G := fun s x hx => by have := h3.out.lts hx; omega
 rw [← hG] at r4 ⊢
 clear c0 c1 c2 c3 c4 c5 cp h3 q3 hb3 hG hs3 hqG
 generalize w3.alloc (Obj.cells #[.string key, .bool false, .string ⟨#[]⟩, .int .i64 0, .slice none 0 0] 147) = w4 at *
 replace h4 : StoreIs w4.drew base p b n f := h4.below (by exact blw)
 replace r4 := r4.drew
 replace q4 := q4.drew
 replace hb4 := bdr hb4
 replace hs4 : w4.drew.heap.size = G + 1 := hs4
 have hS1 : w4.drew.cell? ⟨p, 0, none⟩ = some (.map (some b)) ∧ w4.drew.cell? ⟨w.heap.size, 3, none⟩ = some (.string key) := ⟨h4.row.cell 0, q4.cell 3⟩
 (refine wp_region_held_drew (S := (fun W => W.cell? ⟨p, 0, none⟩ = some (.map (some b)) ∧ W.cell? ⟨w.heap.size, 3, none⟩ = some (.string key))) (by kernel_rfl) ?_ (fun hHeld => ?_); ((try dsimp only); exact hS1))
 clear hS1
 (refine tkO 0 ?_; refine tkO 1 ?_; refine tkO 2 ?_; refine tkO 3 ?_; refine tkO 4 ?_; refine tkO 5 ?_; refine tkO 6 ?_)
 have hgb : ∀ w', w4.drew.grownBy w' (some b) → Only (fun j => j = b) w4.drew w' := fun w' hg => (Only.refl _ w4.drew).grown hg fun i hi => .inl (by injection hi with hi; exact hi.symm)
 have hpb : p ≠ b := row_ne_map h4.row h4.map
 have hqb : w.heap.size ≠ b := row_ne_map q4 h4.map
 (refine tdoO 7 (fun K hK => ?_); ((refine step_updatev (.tmp 28) (.tmp 30) (.tmp 31) 141 rfl h4.map Tryz.underlying9 Tryz.underlying141 (by omega) key hks (.pointer (some ⟨G, 0, none⟩)) rfl rfl rfl _ ?_; intro w5 hM5 hg5); refine hK.out _ _ ?_ (fun hHeld => ?_); ((try dsimp only); exact ⟨(hgb _ hg5).cell hHeld.1 hpb, (hgb _ hg5).cell hHeld.2 hqb⟩); clear hK K; (try clear hHeld0); (try rename_i hHeld0)))
 (refine wpAnyH_done (by kernel_rfl) ?_ _)
 clear hHeld
 have hbw : b < w.heap.size := h.out.map.lt
 have hlo := h4.lo
 have h5 := h4.add hX hg.key G (by omega) hold r4 (by omega) hM5 hg5
 clear hbw hlo
 have q5 := q4.only (hgb _ hg5) hqb
 have hX1 := putSlot_same f key ⟨G, .slice none 0 0, St.no⟩
 have hfx := St.Fits.no n
 have hv1 : ∀ s, vals (putSlot f key ⟨G, .slice none 0 0, St.no⟩) s = vals f s := fun s => by
  rw [vals_put]
  by_cases e : key = s
  ·subst e; rw [if_pos rfl, vals_none hX]
  ·rw [if_neg e]
 have ho5 : Only (Mine b f) w w5 := (Only.of_below _ hb4).trans ((hgb _ hg5).mono fun j _ hj => .inl hj)
 have hm1 : ∀ j, Mine b (putSlot f key ⟨G, .slice none 0 0, St.no⟩) j → Mine b f j ∨ w.heap.size ≤ j := fun j hj => by
  exact byWStoreDo3
 have hX2 : (⟨G, .slice none 0 0, St.no⟩ : Slot) = ⟨G, .slice none 0 0, St.no⟩ := rfl
 generalize hf1 : putSlot f key ⟨G, .slice none 0 0, St.no⟩ = f1 at h5 hX1 hv1 hm1
 obtain ⟨X, hXe⟩ : ∃ X : Slot, X = ⟨G, .slice none 0 0, St.no⟩ := ⟨_, rfl⟩
 rw [← hXe] at hX1
 rw [show St.no = X.val by rw [hXe]] at hfx
 have hXg : G = X.g := by rw [hXe]
 rw [hXg]
 clear hXg hXe hX2 hf1 hM5 hg5 hgb hold r4 h4 q4 hb4 hpb hqb hG1 hs4 hX
 exact byWStoreDo1
theorem store_do (x : WrB) (w : World) (base p b n : Nat) (f : ByteArray → Option Slot) (h : StoreIs w base p b n f) (hr : Wr.right (wr x.t x.r x.k x.key x.val x.n) = 0) (hn : n ≤ 1000) :
  Calls Tryz.prog 63 #[.pointer (some ⟨p, 0, none⟩), .agg #[.int .i64 x.t, .int .i64 x.r, .int .i64 x.k, .string x.key, .string x.val, .int .i64 x.n]] w fun e w' => e = .returned .nilIface ∧ Did x w base p b n f w' := by
 have hg := good_sw hr
 have h1 : 1 ≤ x.k := hg.k1
 have h4 : x.k ≤ 4 := hg.k4
 have hk : x.k = 1 ∨ x.k = 2 ∨ x.k = 3 ∨ x.k = 4 := by omega
 cases hX : f x.key with
 | none =>
  rcases hk with hk | hk | hk | hk
  ·exact do_new1 x w base p b n f h hr hk hn hX
  ·exact do_new2 x w base p b n f h hr hk hn hX
  ·exact do_new3 x w base p b n f h hr hk hn hX
  ·exact do_new4 x w base p b n f h hr hk hn hX
 | some X =>
  rcases hk with hk | hk | hk | hk
  ·exact do_hit1 x w base p b n f h hr hk hn X hX
  ·exact do_hit2 x w base p b n f h hr hk hn X hX
  ·exact do_hit3 x w base p b n f h hr hk hn X hX
  ·exact do_hit4 x w base p b n f h hr hk hn X hX
end Go.Proofs.YtognjohloobliaaGreatDoor
