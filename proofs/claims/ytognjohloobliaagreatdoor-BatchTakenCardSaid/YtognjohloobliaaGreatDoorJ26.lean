/- The walk of a log's Local. -/
import Derived.Test.YtognjohloobliaaGreatDoorJ23
import Derived.Test.YtognjohloobliaaGreatDoorJ17
import Derived.Test.YtognjohloobliaaGreatDoorJ02
import Derived.Laws.Rows
import Derived.Laws.ResultCell
namespace Go.Proofs.YtognjohloobliaaGreatDoor
open Go.RowKit
set_option linter.unusedVariables false
set_option linter.unusedSimpArgs false
namespace Lg
def top (H : List Vec.Entry) : Int := H.foldl (fun t x => max t x.t) 0
theorem top_snoc (H : List Vec.Entry) (x : Vec.Entry) : top (H ++ [x]) = max (top H) x.t := by
 unfold top; rw [List.foldl_append]; rfl
theorem top_bounds_go : ∀ (H : List Vec.Entry) (t : Int), (∀ x ∈ H, x.t ≤ 1099511627776) → 0 ≤ t → t ≤ 1099511627776 → 0 ≤ H.foldl (fun t x => max t x.t) t ∧ H.foldl (fun t x => max t x.t) t ≤ 1099511627776
 | [], t, _, h0, h1 => ⟨h0, h1⟩
 | x :: H, t, h, h0, h1 => by
  have := h x (by simp)
  exact top_bounds_go H _ (fun y hy => h y (List.mem_cons_of_mem _ hy)) (show 0 ≤ max t x.t by omega) (show max t x.t ≤ 1099511627776 by omega)
theorem top_bounds {H : List Vec.Entry} (h : ∀ x ∈ H, x.t ≤ 1099511627776) : 0 ≤ top H ∧ top H ≤ 1099511627776 := top_bounds_go H 0 h (by omega) (by omega)
theorem take_bounds {H : List Vec.Entry} (h : ∀ x ∈ H, x.t ≤ 1099511627776) (k : Nat) : 0 ≤ top (H.take k) ∧ top (H.take k) ≤ 1099511627776 := top_bounds fun x hx => h x (List.mem_of_mem_take hx)
/-- The write that is logged. -/
def mine_ (m : Lg) (x : WrB) : WrB := ⟨top m.H + 1, m.rep, x.k, x.key, x.val, x.n⟩
def rightC (y : WrB) : Nat := Wr.right (wr y.t y.r y.k y.key y.val y.n)
def local_ (m : Lg) (x : WrB) : Nat ⊕ Lg :=
 if top m.H = 1099511627776 then .inl 4
 else if rightC (mine_ m x) ≠ 0 then .inl (rightC (mine_ m x))
 else if 300 ≤ m.W.length then .inl 12
 else match joined m.H [⟨m.rep, top m.H + 1⟩] with
  | .inl e => .inl e.code
  | .inr H' => .inr ⟨m.rep, H', m.W ++ [mine_ m x]⟩
theorem local_join {m : Lg} {x : WrB} (h1 : top m.H ≠ 1099511627776) (h2 : rightC (mine_ m x) = 0) (h3 : ¬ 300 ≤ m.W.length) {T1 : Int} (hT : T1 = top m.H + 1) {j : Err ⊕ List Vec.Entry} (hj : j = joined m.H [⟨m.rep, T1⟩]) :
  local_ m x = match (generalizing := false) j with | .inl e => .inl e.code | .inr H' => .inr ⟨m.rep, H', m.W ++ [mine_ m x]⟩ := by
 subst hT hj
 unfold local_
 rw [if_neg h1, if_neg (by simpa using h2), if_neg h3]
end Lg
def LC (p b : Nat) (v : Value) (x : WrB) (W : World) : Prop := W.cell? ⟨p, 2, none⟩ = some v ∧ W.cell? ⟨b, 0, none⟩ = some (.int .i64 x.t) ∧ W.cell? ⟨b, 1, none⟩ = some (.int .i64 x.r) ∧ W.cell? ⟨b, 2, none⟩ = some (.int .i64 x.k) ∧ W.cell? ⟨b, 3, none⟩ = some (.string x.key) ∧ W.cell? ⟨b, 4, none⟩ = some (.string x.val) ∧ W.cell? ⟨b, 5, none⟩ = some (.int .i64 x.n)
theorem LC.step {W W' : World} {p b : Nat} {v : Value} {x : WrB} (h : LC p b v x W) (hb : W'.heap[p]? = W.heap[p]?) (hg : W'.heap[b]? = W.heap[b]?) : LC p b v x W' := by
 have hc : ∀ i v, W.cell? ⟨b, i, none⟩ = some v → W'.cell? ⟨b, i, none⟩ = some v := fun i v hv => (World.cell?_of_block (w := W) hg).trans hv
 exact ⟨(World.cell?_of_block (w := W) hb).trans h.1, hc _ _ h.2.1, hc _ _ h.2.2.1, hc _ _ h.2.2.2.1, hc _ _ h.2.2.2.2.1, hc _ _ h.2.2.2.2.2.1, hc _ _ h.2.2.2.2.2.2⟩
theorem LC.blocks {W : World} {p b : Nat} {v : Value} {x : WrB} (h : LC p b v x W) : p < W.heap.size ∧ b < W.heap.size := ⟨World.block_lt_of_cell? W _ h.1, World.block_lt_of_cell? W _ h.2.1⟩
theorem LC.below {W W' : World} {p b : Nat} {v : Value} {x : WrB} (h : LC p b v x W) (hb : Below W.heap.size W W') : LC p b v x W' := h.step (hb.block p h.blocks.1) (hb.block b h.blocks.2)
theorem owns_set_ {w : World} {base : Nat} {e : TypeId} {sz n : Nat} {v : Value} {xs : List Value} (h : w.ownsRow base e sz v n xs) {p : Addr} (hp : v.ownBlock ≠ some p.block) (u : Value) : (w.setCell p u).ownsRow base e sz v n xs :=
 owns_only h ((Only.refl (fun j => j = p.block) w).set (.inl rfl) u) fun k hk e => hp (by rw [hk, e])
theorem right_lg (t r k : Int) (key val : ByteArray) (n : Int) (w : World) : Calls Tryz.prog 46 #[wrV t r k key val n] w fun e w' => e = .returned (errW (Lg.rightC ⟨t, r, k, key, val, n⟩)) ∧ Below w.heap.size w w' := write_right t r k key val n w
theorem results_row_tmp {P : Program} {fn : Func} {p u : Tmp} {ty : TypeId} (h : fn.results = #[.cell p ty, .tmp u]) (tmps : Array Value) (w : World) (g : Nat) (t : TypeId) (cs : Array Value) (fr : Nat × Nat) (d : TypeDesc) (v : Value)
  (hp : tmps.getD p undef = .pointer (some ⟨g, 0, none⟩)) (hg : w.heap[g]? = some (.cells cs t fr))
  (hu : P.underlying ty = some d) (hd : (match d with | .struct _ | .array _ _ => true | _ => false) = true) (hi : (P.info? ty).map (·.size) = some cs.size) (hv : tmps.getD u undef = v) :
  (results fn tmps).run P w = .ok (.tuple #[.agg cs, v]) w := by
 have hp' : tmps[p]?.getD undef = .pointer (some ⟨g, 0, none⟩) := by simpa using hp
 have hv' : tmps[u]?.getD undef = v := by simpa using hv
 rw [results_cell_tmp h]
 simp [hp', hv', asAddr, run_loadVar_row w g t ty cs fr d hg hu hd hi, Result.andThen]
theorem one_right {r t : Int} (h0 : 0 ≤ r) (h1 : r ≤ 200) (h2 : 1 ≤ t) (h3 : t ≤ 1099511627776) : Vec.right [⟨r, t⟩] = .ok :=
 (Vec.right_iff _).2 { len := by simp, each := by simp; omega, sorted := by simp [Vec.Sorted] }
def LocalRet (base p : Nat) (m : Lg) (x : WrB) (hv wv : Value) (w : World) (e : Ending) (w' : World) : Prop :=
 match Lg.local_ m x with
 | .inl c => e = .returned (.tuple #[.agg #[.int .i64 0, .int .i64 0], errV c]) ∧ Below w.heap.size w w'
 | .inr m' => e = .returned (.tuple #[.agg #[.int .i64 (Lg.top m.H + 1), .int .i64 m.rep], .nilIface]) ∧ ∃ hv' wv', LogIs w' base p m' hv' wv' ∧ Only (fun j => j = p ∨ wv.ownBlock = some j) w w' ∧ (∀ j, LMine p hv' wv' j → LMine p hv wv j ∨ w.heap.size ≤ j)
theorem local_bad {base p : Nat} {m : Lg} {x : WrB} {hv wv : Value} {w w' : World} {c : Nat} (h : Lg.local_ m x = .inl c) (hb : Below w.heap.size w w') : LocalRet base p m x hv wv w (.returned (.tuple #[.agg #[.int .i64 0, .int .i64 0], errV c])) w' := by
 unfold LocalRet; rw [h]; exact ⟨rfl, hb⟩
theorem local_good {base p : Nat} {m m' : Lg} {x : WrB} {hv wv hv' wv' : Value} {w w' : World} {T : Int} (h : Lg.local_ m x = .inr m') (hT : T = Lg.top m.H + 1) (h1 : LogIs w' base p m' hv' wv') (h2 : Only (fun j => j = p ∨ wv.ownBlock = some j) w w') (h3 : ∀ j, LMine p hv' wv' j → LMine p hv wv j ∨ w.heap.size ≤ j) : LocalRet base p m x hv wv w (.returned (.tuple #[.agg #[.int .i64 T, .int .i64 m.rep], .nilIface])) w' := by
 subst hT
 unfold LocalRet; rw [h]; exact ⟨rfl, _, _, h1, h2, h3⟩
theorem op_app_one {P : Program} {w0 : World} {o : Oper} {a : Act} {K : Act → World → Prop} {Q : Exit → Act → World → Prop} (hgd : o.guard = none) (s x : Operand) (t e : TypeId)
  (ho : o.op = .call { callee := .builtin .append, args := #[s, x], argTypes := #[t, t] }) (base : Nat) (z : Value) (size bytes : Nat)
  (ht : P.underlying t = some (.slice e)) (hinfo : (P.info? e).map (fun i => (i.zero, i.size, i.bytes)) = some (some z, size, bytes)) (hzs : z.cells.size = size)
  (v : Value) (n : Nat) (xs : List Value) (hs : a.eval s = v) (hown : w0.ownsRow base e size v n xs)
  (us : Array Value) (g : Nat) (hg : g = w0.heap.size) (hx : a.eval x = .slice (some ⟨g, 0, none⟩) 1 1) (hus : us.size = size) (h1 : ∀ u ∈ us.toList, u.oneCell' = true)
  (h63 : n + 1 ≤ 1000000000) (hby : bytes ≤ 1000) (hbase : base ≤ w0.heap.size)
  (h : ∀ v' w', w'.ownsRow base e size v' (n + 1) (xs ++ us.toList) → w0.grownBy w' v.ownBlock → (v'.ownBlock = v.ownBlock ∨ v'.ownBlock = some (w0.heap.size + 1)) → v' ≠ .slice none 0 0 → Below base w0 w' → K (a.put o.dst v') w') :
  Oper.wp P o a (w0.alloc (.cells us e)) K Q := by
 have hh := step_app_one (P := P) (Q := Q) (ops := #[]) (E := True) hgd s x t e ho base z size bytes ht hinfo hzs v n xs hs hown us g hg hx hus h1 h63 hby hbase h
 rwa [if_pos (by simp [Region.wanted, hgd])] at hh
set_option maxHeartbeats 8000000 in
set_option maxRecDepth 20000 in
theorem log_local (base p : Nat) (m : Lg) (hv wv : Value) (x : WrB) (w : World) (hL : Laid w) (h : LogIs w base p m hv wv) (hH : Vec.right m.H = .ok) (hlW : m.W.length ≤ 300) (hr0 : 0 ≤ m.rep) (hr1 : m.rep ≤ 200) :
  Calls Tryz.prog 30 #[.pointer (some ⟨p, 0, none⟩), .agg (wrBCells x).toArray] w (LocalRet base p m x hv wv w) := by
 obtain ⟨xt, xr, xk, xkey, xval, xn⟩ := x
 obtain ⟨rep, H, W⟩ := m
 (try simp only at h hH hlW hr0 hr1)
 obtain ⟨oh, ch, rfl⟩ := owns_slice_ h.hav
 obtain ⟨ow, cw, rfl⟩ := owns_slice_ h.wri
 have q := h.row
 obtain ⟨c0, c1, c2⟩ := q.c3
 have hp := q.lt
 have hHb : ∀ x ∈ H, x.t ≤ 1099511627776 := fun x hx => (((Vec.right_iff _).1 hH).each x hx).2.2.2
 have hH16 : H.length ≤ 16 := ((Vec.right_iff _).1 hH).len
 have hVec : VecIs w (.slice oh H.length ch) H := ListIs.of_owns h.hav
 obtain ⟨o1, m1, e1, -, hcH⟩ := hVec.list.at entCells_len
 injection e1 with e1 _ e2
 subst e1; subst e2
 replace h := Lib.hid h
 replace hH := Lib.hid hH
 replace hHb := Lib.hid hHb
 replace hVec := Lib.hid hVec
 replace hcH := Lib.hid hcH
 (try unfold wrBCells)
 have hsz : (Tryz.prog.info? 31).map (·.size) = some 2 := by kernel_rfl
 replace hsz := Lib.hid hsz
 go_enter Tryz.func30, Tryz.ntmps30
 go_wp2
 have qW := (row_at (w := w) (g := w.heap.size) #[.int .i64 xt, .int .i64 xr, .int .i64 xk, .string xkey, .string xval, .int .i64 xn] 33 rfl).alloc (Obj.cells #[.int .i64 0, .int .i64 0] 31)
 have qI := row_at (w := w.alloc (Obj.cells #[.int .i64 xt, .int .i64 xr, .int .i64 xk, .string xkey, .string xval, .int .i64 xn] 33)) (g := w.heap.size + 1) #[.int .i64 0, .int .i64 0] 31 (by simp)
 have hb1 : Below w.heap.size w ((w.alloc (Obj.cells #[.int .i64 xt, .int .i64 xr, .int .i64 xk, .string xkey, .string xval, .int .i64 xn] 33)).alloc (Obj.cells #[.int .i64 0, .int .i64 0] 31)) := by exact blw
 obtain ⟨gi, hgi⟩ : ∃ g, g = w.heap.size + 1 := ⟨_, rfl⟩
 rw [← hgi] at qI ⊢
 generalize (w.alloc (Obj.cells #[.int .i64 xt, .int .i64 xr, .int .i64 xk, .string xkey, .string xval, .int .i64 xn] 33)).alloc (Obj.cells #[.int .i64 0, .int .i64 0] 31) = w1 at *
 replace hgi := Lib.hid hgi
 replace qW := Lib.hid qW
 replace qI := Lib.hid qI
 have hb1' := Lib.hid hb1
 have hs1 := hb1.size
 clear hb1
 go_loopw [6, 17] (fun t i wr => ∃ k : Nat, k ≤ H.length ∧ i = .int .i64 k ∧ t = .int .i64 (Lg.top (H.take k)) ∧ Below w1.heap.size w1 wr) (fun _ i _ => H.length - (intOf i).toNat)
 case atStart => exact ⟨0, by omega, rfl, rfl, Below.refl _ _⟩
 case round =>
  obtain ⟨k, hk, rfl, rfl, hb⟩ := hrel
  by_cases hlt : k < H.length
  ·obtain ⟨b1, f1, rfl, hbl, hc1⟩ := hcH.out k hlt
   have hbl := hbl (by omega)
   have g1 : ∀ (j : Nat) (u : Value), (entCells H[k])[j]? = some u → wr.cell? ⟨b1, f1 + k * 2 + j, none⟩ = some u := fun j u hu => ((hb1'.out.trans (hb.mono hs1)).cell (p := ⟨b1, f1 + k * 2 + j, none⟩) hbl).trans (hc1 j u hu)
   have d0 : wr.cell? ⟨b1, f1 + k * 2, none⟩ = _ := g1 0 _ rfl
   have d1 := g1 1 _ rfl
   have hbw : b1 < wr.heap.size := by have := hb.size; omega
   have ht := Lg.take_bounds hHb.out k
   have hx := hHb.out _ (List.getElem_mem hlt)
   have hsn : Lg.top (H.take (k + 1)) = max (Lg.top (H.take k)) H[k].t := by rw [List.take_succ_eq_append_getElem hlt, Lg.top_snoc]
   generalize Lg.top (H.take k) = T at *
   generalize H[k] = y at *
   obtain ⟨yr, yt⟩ := y
   (try simp only at d0 d1 hx hsn)
   clear g1 hc1
   go_wp2
   go_roundw
   case rel => exact ⟨k + 1, by omega, by go_num, congrArg _ hsn.symm, by exact blw⟩
   case measure => simp [intOf]; omega
  ·obtain rfl : k = H.length := by omega
   rw [List.take_length]
   have hbw := hb1'.out.trans (hb.mono hs1)
   have h1 := h.out.below hbw
   have qW1 := qW.out.below hb
   have qI1 := qI.out.below hb
   have q1 := h1.row
   obtain ⟨ht0, ht1⟩ := Lg.top_bounds hHb.out
   clear q c0 c1 c2 hcH hb
   obtain ⟨c0, c1, c2⟩ := q1.c3
   obtain ⟨a0, a1, a2, a3, a4, a5⟩ := qW1.c6
   obtain ⟨b0, b1⟩ := qI1.c2
   (have z0 := qI1.frozen 0 (by simp); have z1 := qI1.frozen 1 (by simp))
   (have y0 := qW1.frozen 0 (by simp); have y1 := qW1.frozen 1 (by simp))
   have hpw := q1.lt
   have hWw := qW1.lt
   have hIw := qI1.lt
   replace h1 := Lib.hid h1
   replace qW1 := Lib.hid qW1
   replace qI1 := Lib.hid qI1
   replace q1 := Lib.hid q1
   replace hbw := Lib.hid hbw
   obtain ⟨res, hres⟩ : ∃ r, r = Lg.local_ ⟨rep, H, W⟩ ⟨xt, xr, xk, xkey, xval, xn⟩ := ⟨_, rfl⟩
   have hT : ∃ T, T = Lg.top H := ⟨_, rfl⟩
   obtain ⟨T, hT⟩ := hT
   rw [← hT] at ht0 ht1 ⊢
   replace hT := Lib.hid hT
   replace hres := Lib.hid hres
   by_cases hm : T = 1099511627776
   ·have hr : res = .inl 4 := by
     rw [hres.out]; unfold Lg.local_; rw [if_pos (hT.out.symm.trans hm)]
    have hr := Lib.hid hr
    subst hm
    have qI2 := (qI1.out.set 0 (.int .i64 0)).set 1 (.int .i64 0)
    have hb2 := Below.setCell (Below.setCell hbw.out (p := ⟨gi, 0, none⟩) (show w.heap.size ≤ gi by have := hgi.out; omega) (.int .i64 0)) (p := ⟨gi, 1, none⟩) (show w.heap.size ≤ gi by have := hgi.out; omega) (.int .i64 0)
    simp only [List.set_cons_succ, List.set_cons_zero] at qI2
    replace qI2 := Lib.hid qI2
    replace hb2 := Lib.hid hb2
    go_wp2
    (try simp only [Exit.inBlock, Exit.then])
    obtain ⟨fr, hg, -⟩ := qI2.out
    refine bodyPost_ret (v := .tuple #[.agg #[.int .i64 0, .int .i64 0], errV 4]) (results_row_tmp Tryz.results30 _ _ gi 31 _ fr _ _ rfl hg Tryz.underlying31 rfl hsz.out rfl) rfl ?_
    exact local_bad (hres.out.symm.trans hr.out) hb2.out
   ·have hm' : (T == 1099511627776) = false := by simp [hm]
    obtain ⟨T1, hT1⟩ : ∃ T1, T1 = T + 1 := ⟨_, rfl⟩
    have hwr : IntKind.i64.wrap (T + 1) = T1 := by rw [hT1]; simp [IntKind.wrap_i64]; omega
    have h1T : 1 ≤ T1 := by omega
    have hT1m : T1 ≤ 1099511627776 := by omega
    have hT1e := Lib.hid hT1
    replace hm := Lib.hid hm
    clear hT1
    have qW2 := (qW1.out.set 0 (.int .i64 T1)).set 1 (.int .i64 rep)
    have hgi0 : w.heap.size ≠ gi := by have := hgi.out; omega
    have qI2 := (qI1.out.other (p := ⟨w.heap.size, 0, none⟩) hgi0 (.int .i64 T1)).other (p := ⟨w.heap.size, 1, none⟩) hgi0 (.int .i64 rep)
    have hb2 := Below.setCell (Below.setCell hbw.out (p := ⟨w.heap.size, 0, none⟩) (Nat.le_refl _) (.int .i64 T1)) (p := ⟨w.heap.size, 1, none⟩) (Nat.le_refl _) (.int .i64 rep)
    simp only [List.set_cons_succ, List.set_cons_zero] at qW2
    replace qW2 := Lib.hid qW2
    replace qI2 := Lib.hid qI2
    replace hb2 := Lib.hid hb2
    have hR := Lib.hid (fun W => right_lg T1 rep xk xkey xval xn W)
    have hwc : (wr.setCell ⟨w.heap.size, 0, none⟩ (.int .i64 T1)).heap.size = wr.heap.size := by simp
    clear b0 b1 z0 z1 hwc
    go_wp2_with fail
    replace qW2 := qW2.out
    replace qI2 := qI2.out
    replace hb2 := hb2.out
    have h2 := h.out.below hb2
    generalize (wr.setCell ⟨w.heap.size, 0, none⟩ (.int .i64 T1)).setCell ⟨w.heap.size, 1, none⟩ (.int .i64 rep) = w2 at *
    clear a0 a1 a2 a3 a4 a5 y0 y1 c0 c1 c2 qW1 qI1 q1 h1 hpw hWw hIw hbw
    refine (hR.out _).mono ?_
    rintro _ w3 ⟨rfl, hb23⟩
    have hb3 : Below w.heap.size w w3 := bch hb2 hb23
    have h3 := h2.below hb23
    have qW3 := qW2.below hb23
    have qI3 := qI2.below hb23
    clear h2 qW2 qI2 hb23 hb2 hR
    have hmax : Lg.top H ≠ 1099511627776 := by rw [← hT.out]; exact hm.out
    have hmx : Lg.mine_ ⟨rep, H, W⟩ ⟨xt, xr, xk, xkey, xval, xn⟩ = ⟨T1, rep, xk, xkey, xval, xn⟩ := by unfold Lg.mine_; rw [hT1e.out, hT.out]
    have hrc : Lg.rightC (Lg.mine_ ⟨rep, H, W⟩ ⟨xt, xr, xk, xkey, xval, xn⟩) = Lg.rightC ⟨T1, rep, xk, xkey, xval, xn⟩ := by rw [hmx]
    replace hmax := Lib.hid hmax
    replace hmx := Lib.hid hmx
    replace hrc := Lib.hid hrc
    have hWl3 := qW3.lt
    have hIl3 := qI3.lt
    by_cases hc : Lg.rightC ⟨T1, rep, xk, xkey, xval, xn⟩ = 0
    ·rw [hc, show errW 0 = .nilIface from rfl]
     replace hc := Lib.hid hc
     have q3 := h3.row
     obtain ⟨c0, c1, c2⟩ := q3.c3
     by_cases hfull : 300 ≤ W.length
     ·have hfl : decide (300 ≤ (W.length : Int)) = true := by simp; omega
      replace hfull := Lib.hid hfull
      have qI9 := (qI3.set 0 (.int .i64 0)).set 1 (.int .i64 0)
      have hbz := Below.setCell (Below.setCell hb3 (p := ⟨gi, 0, none⟩) (show w.heap.size ≤ gi by have := hgi.out; omega) (.int .i64 0)) (p := ⟨gi, 1, none⟩) (show w.heap.size ≤ gi by have := hgi.out; omega) (.int .i64 0)
      simp only [List.set_cons_succ, List.set_cons_zero] at qI9
      replace qI9 := Lib.hid qI9
      replace hbz := Lib.hid hbz
      obtain ⟨b0, b1⟩ := qI3.c2
      (have z0 := qI3.frozen 0 (by simp); have z1 := qI3.frozen 1 (by simp))
      go_wp2
      (try simp only [Exit.inBlock, Exit.then])
      obtain ⟨fr, hg, -⟩ := qI9.out
      refine bodyPost_ret (v := .tuple #[.agg #[.int .i64 0, .int .i64 0], errV 12]) (results_row_tmp Tryz.results30 _ _ gi 31 _ fr _ _ rfl hg Tryz.underlying31 rfl hsz.out rfl) rfl ?_
      exact local_bad (by unfold Lg.local_; rw [if_neg hmax.out, if_neg (by rw [hrc.out]; simpa using hc.out), if_pos hfull.out]) hbz.out
     ·have hfl : decide (300 ≤ (W.length : Int)) = false := by simp; omega
      replace hfull := Lib.hid hfull
      go_wp2_with fail
      have hs3 := hb3.size
      have hone := one_right hr0 hr1 h1T hT1m
      have hJ : ∀ W (hW : Below w.heap.size w W) (vb : Value) (hvb : VecIs W vb [⟨rep, T1⟩]), Calls Tryz.prog 34 #[.slice oh H.length ch, vb] W (JoinO (joined H [⟨rep, T1⟩]) W) := fun W hW vb hvb => vector_join_own _ _ H [⟨rep, T1⟩] W (hL.below hW) (hVec.out.below hW) hvb (by omega) (by simp) hH.out hone
      have hje : ∀ e, joined H [⟨rep, T1⟩] = .inl e → e = .no 4 := fun e he => by
       unfold joined at he
       rw [if_neg (by simp [hH.out]), if_neg (by simp [hone])] at he
       split at he
       ·injection he with he; exact he.symm
       ·cases he
      obtain ⟨jn, hjn⟩ : ∃ j, j = joined H [⟨rep, T1⟩] := ⟨_, rfl⟩
      rw [← hjn] at hJ hje
      replace hJ := Lib.hid hJ
      replace hje := Lib.hid hje
      replace hjn := Lib.hid hjn
      replace h3 := Lib.hid h3
      replace qW3 := Lib.hid qW3
      replace qI3 := Lib.hid qI3
      replace q3 := Lib.hid q3
      have hS0 : Below w3.heap.size w3 w3.drew ∧ w3.drew.cell? ⟨p, 0, none⟩ = some (.int .i64 rep) ∧ w3.drew.cell? ⟨p, 1, none⟩ = some (.slice oh H.length ch) := ⟨bdr (Below.refl _ _), c0, c1⟩
      clear c2
      (refine wp_region_held_drew (S := (fun W => Below w3.heap.size w3 W ∧ W.cell? ⟨p, 0, none⟩ = some (.int .i64 rep) ∧ W.cell? ⟨p, 1, none⟩ = some (.slice oh H.length ch))) (by kernel_rfl) ?_ (fun hHeld => ?_); ((try dsimp only); exact hS0))
      clear hS0
      (refine tkO 0 ?_; refine tkO 1 ?_; refine tkO 2 ?_; refine tkO 3 ?_; refine tkO 4 ?_; refine tkO 5 ?_; refine tkO 6 ?_; refine tkO 7 ?_; refine tkO 8 ?_; refine tkO 9 ?_; refine tkO 10 ?_)
      have hone1 : VecIs (w3.drew.alloc (Obj.cells #[.int .i64 rep, .int .i64 T1] 45)) (.slice (some ⟨w3.drew.heap.size, 0, none⟩) 1 1) [⟨rep, T1⟩] := ListIs.of_alloc (f := entCells) w3.drew 45 [⟨rep, T1⟩] _ rfl entCells_len (by simp [maxLen]) 1 rfl
      have hb3a : Below w3.heap.size w3 (w3.drew.alloc (Obj.cells #[.int .i64 rep, .int .i64 T1] 45)) := bal (bdr (Below.refl _ _)) _
      have hJ1 := Lib.hid (hJ.out _ (bch hb3 hb3a) _ hone1)
      clear hone1 hJ
      replace hb3a := Lib.hid hb3a
      (refine tdoO 11 (fun K hK => ?_); (go_simp; refine hK.out _ _ ?_ (fun hHeld => ?_); ((try dsimp only); exact ⟨bal hHeld.1 _, cell_alloc hHeld.2.1 _, cell_alloc hHeld.2.2 _⟩); clear hK K; (try clear hHeld0); (try rename_i hHeld0)))
      cases jn with
      | inl e =>
       have he := hje.out e rfl
       subst he
       (refine tdoO 12 (fun K hK => ?_); ((go_simp; refine hJ1.out.mono ?_; rintro _ w4 ⟨he4, hb4⟩; replace he4 : _ = Ending.returned (.tuple #[.slice none 0 0, .iface 67 (.int .i64 4)]) := he4; subst he4); refine hK.out _ _ ?_ (fun hHeld => ?_); ((try dsimp only); exact ⟨bch hHeld.1 hb4, cell_below hb4 hHeld.2.1, cell_below hb4 hHeld.2.2⟩); clear hK K; (try clear hHeld0); (try rename_i hHeld0)))
       (refine tkO 13 ?_; refine tkO 14 ?_; refine tkO 15 ?_; refine tkO 16 ?_; refine tkO 17 ?_)
       (refine wpAnyH_done (by kernel_rfl) ?_ _)
       have hb34 := hHeld.1
       have hb4' := bch hb3 hb34
       have qI4 := qI3.out.below hb34
       clear hHeld
       have qI9 := (qI4.set 0 (.int .i64 0)).set 1 (.int .i64 0)
       have hbz := Below.setCell (Below.setCell hb4' (p := ⟨gi, 0, none⟩) (show w.heap.size ≤ gi by have := hgi.out; omega) (.int .i64 0)) (p := ⟨gi, 1, none⟩) (show w.heap.size ≤ gi by have := hgi.out; omega) (.int .i64 0)
       simp only [List.set_cons_succ, List.set_cons_zero] at qI9
       replace qI9 := Lib.hid qI9
       replace hbz := Lib.hid hbz
       obtain ⟨b0, b1⟩ := qI4.c2
       (have z0 := qI4.frozen 0 (by simp); have z1 := qI4.frozen 1 (by simp))
       go_wp2
       (try simp only [Exit.inBlock, Exit.then])
       obtain ⟨fr, hg, -⟩ := qI9.out
       refine bodyPost_ret (v := .tuple #[.agg #[.int .i64 0, .int .i64 0], errV 4]) (results_row_tmp Tryz.results30 _ _ gi 31 _ fr _ _ rfl hg Tryz.underlying31 rfl hsz.out rfl) rfl ?_
       exact local_bad (Lg.local_join hmax.out (hrc.out.trans hc.out) hfull.out (hT1e.out.trans (by rw [hT.out])) hjn.out) hbz.out
      | inr H' =>
       (refine tdoO 12 (fun K hK => ?_); ((go_simp; refine hJ1.out.mono ?_; rintro _ w4 ⟨⟨v4, rfl, hO4⟩, hb4⟩); refine hK.out _ _ ?_ (fun hHeld => ?_); ((try dsimp only); exact ⟨bch hHeld.1 hb4, cell_below hb4 hHeld.2.1, cell_below hb4 hHeld.2.2⟩); clear hK K; (try clear hHeld0); (try rename_i hHeld0)))
       obtain ⟨o4, m4, rfl⟩ := owns_slice_ hO4
       (refine tkO 13 ?_; refine tkO 14 ?_; refine tkO 15 ?_; refine tkO 16 ?_; refine tkO 17 ?_)
       (refine wpAnyH_done (by kernel_rfl) ?_ _)
       have hb34 := hHeld.1
       have hb4' := bch hb3 hb34
       have hO4' := owns_base hO4 (Nat.le_trans hs3 hb3a.out.size)
       have qI4 := qI3.out.below hb34
       have qW4 := qW3.out.below hb34
       have h4 := h3.out.below hb34
       have q4 := h4.row
       have hpw4 := q4.lt
       have hpO : (Value.slice o4 H'.length m4).ownBlock ≠ some p := fun e => by have := (hO4'.lt p e).1; omega
       have hpW : (Value.slice ow W.length cw).ownBlock ≠ some p := row_ne_own q4 h4.wri (by decide)
       have hWlo : ∀ j, (Value.slice ow W.length cw).ownBlock = some j → j < w.heap.size := fun j hj => (h.out.wri.lt j hj).2
       have q5 := q4.set 1 (.slice o4 H'.length m4)
       have qW5 := qW4.other (p := ⟨p, 1, none⟩) (show p ≠ w.heap.size by omega) (.slice o4 H'.length m4)
       have qI5 := qI4.other (p := ⟨p, 1, none⟩) (show p ≠ gi by have := hgi.out; omega) (.slice o4 H'.length m4)
       have hO5 := owns_set_ hO4' (p := ⟨p, 1, none⟩) hpO (.slice o4 H'.length m4)
       have hW5 := owns_set_ h4.wri (p := ⟨p, 1, none⟩) hpW (.slice o4 H'.length m4)
       have ho5 : Only (fun j => j = p ∨ (Value.slice ow W.length cw).ownBlock = some j) w (w4.setCell ⟨p, 1, none⟩ (.slice o4 H'.length m4)) := (Only.of_below _ hb4').set (.inl (.inl rfl)) _
       have hs5 : w.heap.size ≤ (w4.setCell ⟨p, 1, none⟩ (.slice o4 H'.length m4)).heap.size := ho5.size
       simp only [List.set_cons_succ, List.set_cons_zero] at q5
       clear c0 c1 hHeld hO4 hO4' hJ1
       obtain ⟨c0, c1, c2⟩ := q4.c3
       (have f1 := q4.frozen 1 (by simp))
       replace q5 := Lib.hid q5
       replace qW5 := Lib.hid qW5
       replace qI5 := Lib.hid qI5
       replace hO5 := Lib.hid hO5
       replace hW5 := Lib.hid hW5
       replace ho5 := Lib.hid ho5
       replace hs5 := Lib.hid hs5
       clear qI4 qW4 q4 hb34 hb4'
       replace h4 := Lib.hid h4
       go_wp2_with fail
       replace q5 := q5.out
       replace qW5 := qW5.out
       replace qI5 := qI5.out
       replace hO5 := hO5.out
       replace hW5 := hW5.out
       replace ho5 := ho5.out
       replace hs5 := hs5.out
       clear c0 c1 c2 f1
       generalize w4.setCell ⟨p, 1, none⟩ (.slice o4 H'.length m4) = w5 at *
       obtain ⟨c0, c1, c2⟩ := q5.c3
       obtain ⟨a0, a1, a2, a3, a4, a5⟩ := qW5.c6
       have hS0 : LC p w.heap.size (.slice ow W.length cw) ⟨T1, rep, xk, xkey, xval, xn⟩ w5.drew := ⟨c2, a0, a1, a2, a3, a4, a5⟩
       have hWd := Lib.hid (show w5.drew.ownsRow base 33 6 (.slice ow W.length cw) W.length (W.flatMap wrBCells) from hW5)
       clear c0 c1 c2 a0 a1 a2 a3 a4 a5
       (refine last_start (LC p w.heap.size (.slice ow W.length cw) ⟨T1, rep, xk, xkey, xval, xn⟩) 10 (by kernel_rfl) ?_ (fun hHeld => ?_); ((try dsimp only); exact hS0))
       clear hS0
       (refine lkO 0 ?_; refine lkO 1 ?_; refine lkO 2 ?_; refine lkO 3 ?_; refine lkO 4 ?_; refine lkO 5 ?_)
       have hbase : base ≤ w5.drew.heap.size := Nat.le_trans (Nat.le_trans h.out.lo (Nat.le_of_lt hp)) hs5
       (refine last_ready (P := Tryz.prog) (rs := [6]) (by kernel_rfl) (by simp) ?_; refine last_cons rfl (by kernel_rfl) (fun K hK => ?_) ReadyL.nil; (go_simp; refine hK.out _ _ ?_ (fun hHeld => ?_); ((try dsimp only); exact LC.below hHeld (bal (Below.refl _ _) _)); clear hK K; (try clear hHeld0); (try rename_i hHeld0)))
       have hWne : ∀ j, (Value.slice ow W.length cw).ownBlock = some j → j ≠ w.heap.size := fun j hj e => by have := hWlo j hj; omega
       (refine last_ready (P := Tryz.prog) (rs := [7]) (by kernel_rfl) (by simp) ?_; refine last_cons rfl (by kernel_rfl) (fun K hK => ?_) ReadyL.nil; ((refine op_app_one (by rfl) _ _ 23 33 (by rfl) base (Value.agg #[.int .i64 0, .int .i64 0, .int .i64 0, .string ⟨#[]⟩, .string ⟨#[]⟩, .int .i64 0]) 6 64 Tryz.underlying23 (by kernel_rfl) rfl _ _ _ (by rfl) hWd.out _ _ rfl (by rfl) rfl ?_ (by omega) (by omega) hbase ?_; (focus (intro u hu; simp only [List.mem_cons, List.not_mem_nil, or_false] at hu; rcases hu with rfl | rfl | rfl | rfl | rfl | rfl <;> rfl)); intro v8 w8 hO8 hg8 hbk8 hne8 hb8; obtain ⟨g8, m8, rfl⟩ := owns_addr hO8 hne8); refine hK.out _ _ ?_ (fun hHeld => ?_); ((try dsimp only); exact LC.step hHeld0 (hg8.block p hHeld0.blocks.1 (fun e => hpW e.symm)) (hg8.block w.heap.size hHeld0.blocks.2 (fun e => hWne _ e.symm rfl))); clear hK K; (try clear hHeld0); (try rename_i hHeld0)))
       (refine last_ready (P := Tryz.prog) (rs := [8]) (by kernel_rfl) (by simp) ?_; refine last_cons rfl (by kernel_rfl) (fun K hK => ?_) ReadyL.nil; (go_simp; refine hK.out _ _ ?_ (fun hHeld => ?_); ((try dsimp only); exact hHeld); clear hK K; (try clear hHeld0); (try rename_i hHeld0)))
       (refine lkO 9 ?_)
       have q8 := (Row.drew q5).grown hg8 (show (Value.slice ow W.length cw).ownBlock ≠ some p from hpW)
       have qW8 := (Row.drew qW5).grown hg8 (fun e => hWne _ e rfl)
       have qI8 := (Row.drew qI5).grown hg8 (show (Value.slice ow W.length cw).ownBlock ≠ some gi from fun e => by have := hWlo _ e; have := hgi.out; omega)
       have hOe : ∀ j, (Value.slice o4 H'.length m4).ownBlock = some j → (Value.slice ow W.length cw).ownBlock ≠ some j := fun j hj e => by have := (hO5.lt j hj).1; have := hWlo j e; omega
       have hO8e := (show w5.drew.ownsRow w.heap.size 45 2 (.slice o4 H'.length m4) H'.length (H'.flatMap entCells) from hO5).kept hg8 (by
        cases ho : (Value.slice o4 H'.length m4).ownBlock with
        | none => exact .inl rfl
        | some g => exact .inr fun e => hOe g ho e.symm)
       have c2 := q8.cell 2
       have f2 := q8.frozen 2 (by simp)
       simp only [List.getElem?_cons_zero, List.getElem?_cons_succ] at c2
       (refine last_ready (P := Tryz.prog) (rs := [10]) (by kernel_rfl) (by simp) ?_; refine last_end rfl (by kernel_rfl) (fun K hK => ?_); go_simp; refine hK.out _ _ ?_; clear hK K; refine last_done (by kernel_rfl) ?_ _)
       have hp8 : (Value.slice (some ⟨g8, 0, none⟩) (W.length + 1) m8).ownBlock ≠ some p := row_ne_own q8 hO8 (by decide)
       have q9 := q8.set 2 (.slice (some ⟨g8, 0, none⟩) (W.length + 1) m8)
       have qW9 := qW8.other (p := ⟨p, 2, none⟩) (show p ≠ w.heap.size by omega) (.slice (some ⟨g8, 0, none⟩) (W.length + 1) m8)
       have qI9 := qI8.other (p := ⟨p, 2, none⟩) (show p ≠ gi by have := hgi.out; omega) (.slice (some ⟨g8, 0, none⟩) (W.length + 1) m8)
       have hO9 := owns_set_ hO8 (p := ⟨p, 2, none⟩) hp8 (.slice (some ⟨g8, 0, none⟩) (W.length + 1) m8)
       have hE9 := owns_set_ hO8e (p := ⟨p, 2, none⟩) (row_ne_own q8 hO8e (by decide)) (.slice (some ⟨g8, 0, none⟩) (W.length + 1) m8)
       have ho9 := ((Only.drew ho5).grown hg8 (fun j hj => .inl (.inr hj))).set (p := ⟨p, 2, none⟩) (.inl (.inl rfl)) (.slice (some ⟨g8, 0, none⟩) (W.length + 1) m8)
       simp only [List.set_cons_succ, List.set_cons_zero] at q9
       clear q8 qW8 qI8 hO8 hO8e hHeld hHeld0 hWd hO5 hW5 q5 qW5 qI5 hg8 hb8 hne8 c2 f2
       generalize w8.setCell ⟨p, 2, none⟩ (.slice (some ⟨g8, 0, none⟩) (W.length + 1) m8) = w9 at *
       have hgip : gi ≠ p := by have := hgi.out; omega
       have hgi1 : w.heap.size ≤ gi := by have := hgi.out; omega
       have nE := row_ne_own qI9 hE9 (by decide)
       have nO := row_ne_own qI9 hO9 (by decide)
       have q10 := (q9.other (p := ⟨gi, 0, none⟩) hgip (.int .i64 T1)).other (p := ⟨gi, 1, none⟩) hgip (.int .i64 rep)
       have hE10 := owns_base (owns_set_ (owns_set_ hE9 (p := ⟨gi, 0, none⟩) nE (.int .i64 T1)) (p := ⟨gi, 1, none⟩) nE (.int .i64 rep)) (Nat.le_trans h.out.lo (Nat.le_of_lt hp))
       have hO10 := owns_set_ (owns_set_ hO9 (p := ⟨gi, 0, none⟩) nO (.int .i64 T1)) (p := ⟨gi, 1, none⟩) nO (.int .i64 rep)
       have ho10 := (ho9.set (p := ⟨gi, 0, none⟩) (.inr hgi1) (.int .i64 T1)).set (p := ⟨gi, 1, none⟩) (.inr hgi1) (.int .i64 rep)
       have qI10 := (qI9.set 0 (.int .i64 T1)).set 1 (.int .i64 rep)
       simp only [List.set_cons_succ, List.set_cons_zero] at qI10
       have hElo := fun j hj => (hE9.lt j hj).1
       obtain ⟨a0, a1, a2, a3, a4, a5⟩ := qW9.c6
       obtain ⟨b0, b1⟩ := qI9.c2
       (have z0 := qI9.frozen 0 (by simp); have z1 := qI9.frozen 1 (by simp))
       replace q10 := Lib.hid q10
       replace hE10 := Lib.hid hE10
       replace hO10 := Lib.hid hO10
       replace ho10 := Lib.hid ho10
       replace qI10 := Lib.hid qI10
       replace hElo := Lib.hid hElo
       clear q9 qW9 qI9 hO9 hE9 ho9 nE nO
       go_wp2
       (try simp only [Exit.inBlock, Exit.then])
       obtain ⟨fr, hg, -⟩ := qI10.out
       refine bodyPost_ret (v := .tuple #[.agg #[.int .i64 T1, .int .i64 rep], .nilIface]) (results_row_tmp Tryz.results30 _ _ gi 31 _ fr _ _ rfl hg Tryz.underlying31 rfl hsz.out rfl) rfl ?_
       refine local_good (Lg.local_join hmax.out (hrc.out.trans hc.out) hfull.out (hT1e.out.trans (by rw [hT.out])) hjn.out) (hT1e.out.trans (by rw [hT.out])) (hv' := .slice o4 H'.length m4) (wv' := .slice (some ⟨g8, 0, none⟩) (W.length + 1) m8) ⟨q10.out, hE10.out, ?_, h.out.lo⟩ ho10.out ?_
       ·show World.ownsRow _ _ _ _ _ (W ++ [_]).length ((W ++ [_]).flatMap wrBCells)
        rw [hmx.out, List.length_append, List.flatMap_append, List.flatMap_singleton]
        exact hO10.out
       ·intro j hj
        rcases hj with rfl | hj | hj
        ·exact .inl (.inl rfl)
        ·exact .inr (hElo.out j hj)
        ·rcases hbk8 with e | e
         ·exact .inl (.inr (.inr (e.symm.trans hj)))
         ·rw [e] at hj
          injection hj with hj
          exact .inr (by rw [← hj]; exact Nat.le_trans hs5 (Nat.le_succ _))
    ·rw [errW_no hc]
     have hc' := Lib.hid hc
     clear hc
     have qI9 := (qI3.set 0 (.int .i64 0)).set 1 (.int .i64 0)
     have hbz := Below.setCell (Below.setCell hb3 (p := ⟨gi, 0, none⟩) (show w.heap.size ≤ gi by have := hgi.out; omega) (.int .i64 0)) (p := ⟨gi, 1, none⟩) (show w.heap.size ≤ gi by have := hgi.out; omega) (.int .i64 0)
     simp only [List.set_cons_succ, List.set_cons_zero] at qI9
     replace qI9 := Lib.hid qI9
     replace hbz := Lib.hid hbz
     obtain ⟨b0, b1⟩ := qI3.c2
     (have z0 := qI3.frozen 0 (by simp); have z1 := qI3.frozen 1 (by simp))
     go_wp2
     (try simp only [Exit.inBlock, Exit.then])
     obtain ⟨fr, hg, -⟩ := qI9.out
     refine bodyPost_ret (v := .tuple #[.agg #[.int .i64 0, .int .i64 0], errV (Lg.rightC ⟨T1, rep, xk, xkey, xval, xn⟩)]) (results_row_tmp Tryz.results30 _ _ gi 31 _ fr _ _ rfl hg Tryz.underlying31 rfl hsz.out rfl) rfl ?_
     exact local_bad (by unfold Lg.local_; rw [if_neg hmax.out, if_pos (by rw [hrc.out]; exact hc'.out), hrc.out]) hbz.out
end Go.Proofs.YtognjohloobliaaGreatDoor
/- Plain laws of what a log sends. -/
namespace Go.Proofs.YtognjohloobliaaGreatDoor
set_option linter.unusedVariables false
set_option linter.unusedSimpArgs false
namespace Lg
/-- A log as all walks leave it. -/
structure Ok (m : Lg) : Prop where
 have_ : Vec.right m.H = .ok
 len : m.W.length ≤ 300
 rep0 : 0 ≤ m.rep
 rep1 : m.rep ≤ 200
 right_ : ∀ x ∈ m.W, Right_ x
 known : ∀ x ∈ m.W, x.t ≤ Vec.of m.H x.r
def new_ (f : List Vec.Entry) (x : WrB) : Bool := decide (Vec.of f x.r < x.t)
def step_ (b : List Vec.Entry) (x : WrB) : List Vec.Entry := match joined b [⟨x.r, x.t⟩] with
 | .inl _ => []
 | .inr l => l
def told (f : List Vec.Entry) (l : List WrB) : List Vec.Entry := l.foldl step_ f
theorem told_snoc (f : List Vec.Entry) (l : List WrB) (x : WrB) : told f (l ++ [x]) = step_ (told f l) x := by
 unfold told; rw [List.foldl_append]; rfl
end Lg
namespace Vec
theorem of_ne {l : List Entry} {r : Int} (h : of l r ≠ 0) : ∃ y ∈ l, y.r = r := by
 by_cases hn : ∃ y ∈ l, y.r = r
 ·exact hn
 ·exact absurd (of_zero fun y hy e => hn ⟨y, hy, e⟩) h
end Vec
theorem right_one {x : WrB} (h : Right_ x) : 0 ≤ x.r ∧ x.r ≤ 200 ∧ 1 ≤ x.t ∧ x.t ≤ 1099511627776 := by
 obtain ⟨-, -, i1, i2, i3, i4, -⟩ := Wr.right_zero h
 simp only [wr] at i1 i2 i3 i4
 omega
namespace Lg
theorem step_ok {H b : List Vec.Entry} {x : WrB} (hH : Vec.Fine H) (hb : Vec.Fine b) (hc : Vec.Covers H b) (hx : Right_ x) (hk : x.t ≤ Vec.of H x.r) :
  joined b [⟨x.r, x.t⟩] = .inr (step_ b x) ∧ Vec.Fine (step_ b x) ∧ Vec.Covers H (step_ b x) := by
 obtain ⟨h1, h2, h3, h4⟩ := right_one hx
 have hone := one_right h1 h2 h3 h4
 have hof := (Vec.right_iff _).1 hone
 have hcx : Vec.Covers H [⟨x.r, x.t⟩] := (Vec.covers_iff hof.sorted hH.pos).1 fun y hy => by
  rw [List.mem_singleton] at hy; subst hy; exact hk
 have hcm := Vec.covers_least hb hof hc hcx
 have hm : (Vec.merge b [⟨x.r, x.t⟩]).length ≤ 16 := by
  have hs := Vec.merge_sorted b _ hb.sorted hof.sorted
  have hp := Vec.merge_pos hb.pos hof.pos
  have hn : ((Vec.merge b [⟨x.r, x.t⟩]).map (·.r)).Nodup := by
   rw [List.Nodup, List.pairwise_map]
   exact hs.imp fun hab e => by omega
  have hsub : ((Vec.merge b [⟨x.r, x.t⟩]).map (·.r)) ⊆ H.map (·.r) := fun r hr => by
   obtain ⟨y, hy, rfl⟩ := List.mem_map.1 hr
   have g1 := Vec.of_mem hs hy
   have g2 := hcm y.r
   have g3 := hp y hy
   obtain ⟨z, hz, e⟩ := Vec.of_ne (l := H) (r := y.r) (by omega)
   exact List.mem_map.2 ⟨z, hz, e⟩
  have := hn.length_le_of_subset hsub
  simp only [List.length_map] at this
  have := hH.len
  omega
 have hj : joined b [⟨x.r, x.t⟩] = .inr (Vec.merge b [⟨x.r, x.t⟩]) := by
  unfold joined
  rw [if_neg (by simp [(Vec.right_iff _).2 hb]), if_neg (by simp [hone]), if_neg (by omega)]
 have hs : step_ b x = Vec.merge b [⟨x.r, x.t⟩] := by unfold step_; rw [hj]
 rw [hs]
 exact ⟨hj, Vec.merge_fine hb hof hm, hcm⟩
theorem told_ok {H f : List Vec.Entry} (hH : Vec.Fine H) (hf : Vec.Fine f) (hc : Vec.Covers H f) : ∀ (l : List WrB), (∀ x ∈ l, Right_ x ∧ x.t ≤ Vec.of H x.r) → Vec.Fine (told f l) ∧ Vec.Covers H (told f l) := by
 intro l
 induction l generalizing f with
 | nil => exact fun _ => ⟨hf, hc⟩
 | cons x l ih =>
  intro h
  obtain ⟨-, h2, h3⟩ := step_ok hH hf hc (h x (by simp)).1 (h x (by simp)).2
  exact ih h2 h3 fun y hy => h y (List.mem_cons_of_mem _ hy)
theorem news_snoc {f : List Vec.Entry} {W : List WrB} {k : Nat} (hk : k < W.length) : (W.take (k + 1)).filter (new_ f) = if new_ f W[k] then (W.take k).filter (new_ f) ++ [W[k]] else (W.take k).filter (new_ f) := by
 rw [List.take_succ_eq_append_getElem hk, List.filter_append]
 by_cases h : new_ f W[k] = true
 ·rw [if_pos h, List.filter_cons_of_pos h]; rfl
 ·rw [if_neg h, List.filter_cons_of_neg h]; simp
/-- What is sent: of what is known behind a vector the earliest sixty; and what is told of. -/
def sent (m : Lg) (f : List Vec.Entry) : List WrB := (m.W.filter (new_ f)).take 60
def sentHave (m : Lg) (f : List Vec.Entry) : List Vec.Entry := if (m.W.filter (new_ f)).length ≤ 60 then m.H else told f (sent m f)
theorem sent_all {m : Lg} {f : List Vec.Entry} (h : (m.W.filter (new_ f)).length ≤ 60) : sent m f = m.W.filter (new_ f) ∧ sentHave m f = m.H := by
 unfold sent sentHave
 rw [if_pos h, List.take_of_length_le h]; exact ⟨rfl, rfl⟩
theorem sent_full {m : Lg} {f : List Vec.Entry} {k : Nat} (hk : k < m.W.length) (hn : new_ f m.W[k] = true) {N : List WrB} (hN : N = (m.W.take k).filter (new_ f)) (h : N.length = 60) : sent m f = N ∧ sentHave m f = told f N := by
 have e : m.W.filter (new_ f) = N ++ m.W[k] :: (m.W.drop (k + 1)).filter (new_ f) := by
  rw [hN]
  have e1 : m.W = m.W.take k ++ m.W[k] :: m.W.drop (k + 1) := by rw [← List.drop_eq_getElem_cons hk, List.take_append_drop]
  have e2 := congrArg (List.filter (new_ f)) e1
  rw [List.filter_append, List.filter_cons_of_pos hn] at e2
  exact e2
 have hs : sent m f = N := by
  unfold sent
  rw [e, List.take_append_of_le_length (by omega), List.take_of_length_le (by omega)]
 refine ⟨hs, ?_⟩
 unfold sentHave
 rw [hs, if_neg (by rw [e, List.length_append, List.length_cons]; omega)]
end Lg
end Go.Proofs.YtognjohloobliaaGreatDoor
