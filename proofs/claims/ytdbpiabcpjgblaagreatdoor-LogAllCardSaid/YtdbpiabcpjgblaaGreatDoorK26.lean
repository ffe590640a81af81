/- The walks of store.New and store.Of. -/
import Derived.Test.YtdbpiabcpjgblaaGreatDoorK18
import Derived.Test.YtdbpiabcpjgblaaGreatDoorK23
import Derived.Test.YtdbpiabcpjgblaaGreatDoorK27
import Derived.Test.YtdbpiabcpjgblaaGreatDoorK28
import Derived.Test.YtdbpiabcpjgblaaGreatDoorK02
namespace Go.Proofs.YtdbpiabcpjgblaaGreatDoor
open Go.RowKit
set_option linter.unusedVariables false
set_option linter.unusedSimpArgs false
def NewStore (w : World) (e : Ending) (w' : World) : Prop := ∃ p b, e = .returned (.pointer (some ⟨p, 0, none⟩)) ∧ StoreIs w' w.heap.size p b 0 (fun _ => none) ∧ w.heap.size ≤ p ∧ Below w.heap.size w w'
set_option maxHeartbeats 1000000 in
theorem store_new (w : World) : Calls Tryz.prog 58 #[] w (NewStore w) := by
 have hmm := @run_makeMap Tryz.prog
 go_enter Tryz.func58, Tryz.ntmps58
 go_wp2
 go_ret
 have hM : MapV Tryz.prog 9 (w.alloc (.map #[] 0)) w.heap.size 0 (ptrs fun _ => none) := MapV.made _ _ _
 refine ⟨w.heap.size + 1, w.heap.size, rfl, { row := ?_, map := hM.alloc _, key := (fun s x h => by cases h), cell := (fun s x h => by cases h), list := (fun s x h => by cases h), fits := (fun s x h => by cases h), lo := Nat.le_refl _, los := (fun s x h => by cases h), apart := (fun s x s' x' h => by cases h), apart2 := (fun s x s' x' i h => by cases h) }, by omega, by exact blw⟩
 exact row_at (w := w.alloc (.map #[] 0)) _ _ (by simp)
def CelsRet (w : World) (F : ByteArray → St.Val) (e : Ending) (w' : World) : Prop :=
 ∃ (v : Value) (L : List CelB), e = .returned (.tuple #[v, .nilIface]) ∧ w'.ownsRow w.heap.size 105 5 v L.length (L.flatMap celCells) ∧ (∀ x ∈ L, w'.ownsRow w.heap.size 9 1 (.slice x.la x.ln x.lc) x.cel.val.list.length (x.cel.val.list.flatMap strCells)) ∧ St.IsCells (L.map CelB.cel) F ∧ Below w.heap.size w w'
def Run (w : World) (l : List WrB) (p b k : Nat) (wr : World) : Prop := ∃ f, StoreIs wr w.heap.size p b k f ∧ (∀ s, vals f s = St.at_ ((l.take k).map WrB.sw) s) ∧ Below w.heap.size w wr
abbrev Right_ (x : WrB) : Prop := Wr.right (wr x.t x.r x.k x.key x.val x.n) = 0
theorem run_step {w : World} {l : List WrB} {p b k : Nat} {wr w' : World} {f : ByteArray → Option Slot} (hk : k < l.length) (hS : StoreIs wr w.heap.size p b k f) (hv : ∀ s, vals f s = St.at_ ((l.take k).map WrB.sw) s) (hb : Below w.heap.size w wr) (hd : Did l[k] wr w.heap.size p b k f w') : Run w l p b (k + 1) w' := by
 obtain ⟨f', h1, h2, h3, h4⟩ := hd
 refine ⟨f', h1, fun s => ?_, hb.trans (h3.below (fun j hj => hS.mine_lo hj) hb.size)⟩
 rw [h2, List.take_succ_eq_append_getElem hk, List.map_append, List.map_singleton, St.at_snoc, hv]
 rfl
set_option maxHeartbeats 4000000 in
set_option maxRecDepth 20000 in
theorem store_of (v : Value) (l : List WrB) (w : World) (hv : WrsIs w v l) (hr : ∀ x ∈ l, Right_ x) (hl : l.length ≤ 1000) : Calls Tryz.prog 38 #[v] w (CelsRet w (St.at_ (l.map WrB.sw))) := by
 obtain ⟨o, c, rfl, -, hcell⟩ := ListIs.at hv wrBCells_len
 clear hv
 replace hcell := Lib.hid hcell
 replace hr := Lib.hid hr
 have hN := Lib.hid store_new
 go_enter Tryz.func38, Tryz.ntmps38
 go_wp2_with (go_at_call 58; refine (hN.out _).mono ?_; rintro _ w1 ⟨p, b, rfl, hS0, hp, hb1⟩)
 replace hS0 := Lib.hid hS0
 clear hN
 go_loopw [11] (fun i wr => ∃ k : Nat, k ≤ l.length ∧ i = .int .i64 k ∧ Run w l p b k wr) (fun i _ => l.length - (intOf i).toNat)
 case atStart => exact ⟨0, by omega, rfl, _, hS0.out, fun s => rfl, hb1⟩
 case round =>
  obtain ⟨k, hk, rfl, f, hS, hvs, hb⟩ := hrel
  replace hvs := Lib.hid hvs
  by_cases hlt : k < l.length
  ·obtain ⟨b1, f1, rfl, hb1', hc1⟩ := hcell.out k hlt
   have hb1' := hb1' (by omega)
   have hcc : ∀ (j : Nat) (u : Value), (wrBCells l[k])[j]? = some u → wr.cell? ⟨b1, f1 + k * 6 + j, none⟩ = some u := fun j u hu => (hb.cell (p := ⟨b1, f1 + k * 6 + j, none⟩) hb1').trans (hc1 j u hu)
   have c0 : wr.cell? ⟨b1, f1 + k * 6, none⟩ = _ := hcc 0 _ rfl
   have c1 := hcc 1 _ rfl
   have c2 := hcc 2 _ rfl
   have c3 := hcc 3 _ rfl
   have c4 := hcc 4 _ rfl
   have c5 := hcc 5 _ rfl
   have hx := hr.out _ (List.getElem_mem hlt)
   obtain ⟨x, hxe⟩ : ∃ x, x = l[k] := ⟨_, rfl⟩
   rw [← hxe] at c0 c1 c2 c3 c4 c5 hx
   have hDo := Lib.hid (fun W (hW : StoreIs W w.heap.size p b k f) => store_do x W w.heap.size p b k f hW hx (by omega))
   clear hcc hc1
   replace hS := Lib.hid hS
   replace hxe := Lib.hid hxe
   replace hx := Lib.hid hx
   go_wp2_with (go_at_call 59; refine (hDo.out _ (hS.out.below (by exact blw))).mono ?_; rintro _ w3 ⟨rfl, hd⟩)
   go_roundw
   case rel =>
    refine ⟨k + 1, by omega, by go_num, ?_⟩
    rw [hxe.out] at hd
    exact run_step (wr := _) hlt (hS.out.below (by exact blw)) hvs.out (by exact blw) hd
   case measure => simp [intOf]; omega
  ·obtain rfl : k = l.length := by omega
   rw [List.take_length] at hvs
   have hC := Lib.hid (store_cells wr w.heap.size p b l.length f hS hl)
   clear hS
   go_wp2_with (go_at_call 60; refine hC.out.mono ?_; rintro _ w3 ⟨v3, L, rfl, hO, hS, hI, hb3⟩)
   go_ret2
   refine ⟨v3, L, rfl, owns_base hO hb.size, fun x hx => owns_base (hS x hx) hb.size, hI.congr hvs.out, bch hb hb3⟩
end Go.Proofs.YtdbpiabcpjgblaaGreatDoor
/- Logs in memory; the walks of log.New, Have, Writes, Cells. -/
namespace Go.Proofs.YtdbpiabcpjgblaaGreatDoor
open Go.RowKit
set_option linter.unusedVariables false
set_option linter.unusedSimpArgs false
/-- What a log holds. -/
structure Lg where
 rep : Int
 H : List Vec.Entry
 W : List WrB
/-- A log at p: its row, and two lists of its own. -/
structure LogIs (w : World) (base p : Nat) (m : Lg) (hv wv : Value) : Prop where
 row : Row w p 83 [.int .i64 m.rep, hv, wv]
 hav : w.ownsRow base 45 2 hv m.H.length (m.H.flatMap entCells)
 wri : w.ownsRow base 33 6 wv m.W.length (m.W.flatMap wrBCells)
 lo : base ≤ p
/-- The blocks that a log has. -/
def LMine (p : Nat) (hv wv : Value) (j : Nat) : Prop := j = p ∨ hv.ownBlock = some j ∨ wv.ownBlock = some j
theorem LogIs.only {S : Nat → Prop} {w w' : World} {base p : Nat} {m : Lg} {hv wv : Value} (h : LogIs w base p m hv wv) (ho : Only S w w') (hn : ∀ j, LMine p hv wv j → ¬ S j) : LogIs w' base p m hv wv :=
 ⟨h.row.only ho (hn p (.inl rfl)), owns_only h.hav ho fun j hj => hn j (.inr (.inl hj)), owns_only h.wri ho fun j hj => hn j (.inr (.inr hj)), h.lo⟩
theorem LogIs.below {w w' : World} {base p : Nat} {m : Lg} {hv wv : Value} (h : LogIs w base p m hv wv) (hb : Below w.heap.size w w') : LogIs w' base p m hv wv :=
 ⟨h.row.below hb, owns_below h.hav hb, owns_below h.wri hb, h.lo⟩
theorem LogIs.mine_lo {w : World} {base p : Nat} {m : Lg} {hv wv : Value} (h : LogIs w base p m hv wv) {j : Nat} (hj : LMine p hv wv j) : base ≤ j := by
 rcases hj with rfl | hj | hj
 ·exact h.lo
 ·exact (h.hav.lt j hj).1
 ·exact (h.wri.lt j hj).1
theorem LogIs.mine_lt {w : World} {base p : Nat} {m : Lg} {hv wv : Value} (h : LogIs w base p m hv wv) {j : Nat} (hj : LMine p hv wv j) : j < w.heap.size := by
 rcases hj with rfl | hj | hj
 ·exact h.row.lt
 ·exact (h.hav.lt j hj).2
 ·exact (h.wri.lt j hj).2
theorem LogIs.base_le {w : World} {base base' p : Nat} {m : Lg} {hv wv : Value} (h : LogIs w base p m hv wv) (hb : base' ≤ base) : LogIs w base' p m hv wv :=
 ⟨h.row, owns_base h.hav hb, owns_base h.wri hb, Nat.le_trans hb h.lo⟩
def NewLog (w : World) (r : Int) (e : Ending) (w' : World) : Prop := ∃ p, e = .returned (.tuple #[.pointer (some ⟨p, 0, none⟩), .nilIface]) ∧ LogIs w' w.heap.size p ⟨r, [], []⟩ (.slice none 0 0) (.slice none 0 0) ∧ Below w.heap.size w w'
set_option maxHeartbeats 1000000 in
theorem log_new (r : Int) (w : World) (h0 : 0 ≤ r) (h1 : r ≤ 200) : Calls Tryz.prog 20 #[.int .i64 r] w (NewLog w r) := by
 have d0 : decide (r < 0) = false := by simp; omega
 have d1 : decide (200 < r) = false := by simp; omega
 replace h0 := Lib.hid h0
 replace h1 := Lib.hid h1
 go_enter Tryz.func20, Tryz.ntmps20
 go_wp2
 go_ret2
 exact ⟨w.heap.size, rfl, ⟨row_at _ _ rfl, World.ownsRow_nil _ _ _ _, World.ownsRow_nil _ _ _ _, Nat.le_refl _⟩, by exact blw⟩
set_option maxHeartbeats 1000000 in
theorem log_have (base p : Nat) (m : Lg) (hv wv : Value) (w : World) (h : LogIs w base p m hv wv) (hl : m.H.length ≤ 1000) :
  Calls Tryz.prog 25 #[.pointer (some ⟨p, 0, none⟩)] w fun e w' => (∃ u, e = .returned u ∧ w'.ownsRow w.heap.size 45 2 u m.H.length (m.H.flatMap entCells)) ∧ Below w.heap.size w w' := by
 have hC := Lib.hid (clone_ents hv m.H w (ListIs.of_owns h.hav) (by omega))
 have q := h.row
 clear h
 obtain ⟨c0, c1, c2⟩ := q.c3
 go_enter Tryz.func25, Tryz.ntmps25
 go_wp2_with (go_at_call 50; refine hC.out.mono ?_; rintro _ w2 ⟨⟨u, rfl, hu⟩, hb⟩)
 go_ret
 exact ⟨⟨_, rfl, hu⟩, hb⟩
set_option maxHeartbeats 1000000 in
theorem log_writes (base p : Nat) (m : Lg) (hv wv : Value) (w : World) (h : LogIs w base p m hv wv) (hl : m.W.length ≤ 1000) :
  Calls Tryz.prog 23 #[.pointer (some ⟨p, 0, none⟩)] w fun e w' => (∃ u, e = .returned u ∧ w'.ownsRow w.heap.size 33 6 u m.W.length (m.W.flatMap wrBCells)) ∧ Below w.heap.size w w' := by
 have hC := Lib.hid (clone_wrs wv m.W w (ListIs.of_owns h.wri) (by omega))
 have q := h.row
 clear h
 obtain ⟨c0, c1, c2⟩ := q.c3
 go_enter Tryz.func23, Tryz.ntmps23
 go_wp2_with (go_at_call 46; refine hC.out.mono ?_; rintro _ w2 ⟨⟨u, rfl, hu⟩, hb⟩)
 go_ret
 exact ⟨⟨_, rfl, hu⟩, hb⟩
def CelsRet1 (w : World) (F : ByteArray → St.Val) (e : Ending) (w' : World) : Prop :=
 ∃ (v : Value) (L : List CelB), e = .returned v ∧ w'.ownsRow w.heap.size 105 5 v L.length (L.flatMap celCells) ∧ (∀ x ∈ L, w'.ownsRow w.heap.size 9 1 (.slice x.la x.ln x.lc) x.cel.val.list.length (x.cel.val.list.flatMap strCells)) ∧ St.IsCells (L.map CelB.cel) F ∧ Below w.heap.size w w'
set_option maxHeartbeats 1000000 in
theorem log_cells (base p : Nat) (m : Lg) (hv wv : Value) (w : World) (h : LogIs w base p m hv wv) (hr : ∀ x ∈ m.W, Right_ x) (hl : m.W.length ≤ 1000) :
  Calls Tryz.prog 40 #[.pointer (some ⟨p, 0, none⟩)] w (CelsRet1 w (St.at_ (m.W.map WrB.sw))) := by
 have hC := Lib.hid (store_of wv m.W w (ListIs.of_owns h.wri) hr hl)
 have q := h.row
 clear h
 obtain ⟨c0, c1, c2⟩ := q.c3
 go_enter Tryz.func40, Tryz.ntmps40
 go_wp2_with (go_at_call 38; refine hC.out.mono ?_; rintro _ w2 ⟨v2, L2, rfl, hO, hS, hI, hb⟩)
 go_ret
 exact ⟨v2, L2, rfl, hO, hS, hI, hb⟩
end Go.Proofs.YtdbpiabcpjgblaaGreatDoor
/- The walk of keep.sameCells (of lists that are one). -/
namespace Go.Proofs.YtdbpiabcpjgblaaGreatDoor
open Go.RowKit
set_option linter.unusedVariables false
set_option linter.unusedSimpArgs false
set_option maxHeartbeats 1000000 in
theorem same_cel (k : ByteArray) (h : Bool) (t : ByteArray) (s : Int) (l : List ByteArray) (la lb : Option Addr) (ln ln' lc lc' : Nat) (W : World) (hx : StrsIs W (.slice la ln lc) l) (hy : StrsIs W (.slice lb ln' lc') l) (hl : l.length ≤ 1000) :
  Calls Tryz.prog 62 #[.agg #[.string k, .bool h, .string t, .int .i64 s, .slice la ln lc], .agg #[.string k, .bool h, .string t, .int .i64 s, .slice lb ln' lc']] W fun e w' => e = .returned (.bool true) ∧ Below W.heap.size W w' := by
 have hE := Lib.hid (fun V (hV : Below W.heap.size W V) => eq_strs (.slice la ln lc) (.slice lb ln' lc') l l V (ListIs.below hx (by omega) hV) (ListIs.below hy (by omega) hV) (by omega) (by omega))
 clear hx hy
 have hd : decide (l = l) = true := by simp
 go_enter Tryz.func62, Tryz.ntmps62
 go_wp2_with (go_at_call 57; refine (hE.out _ (by exact blw)).mono ?_; rintro _ w2 ⟨rfl, hb2⟩; rw [hd])
 go_ret
 exact ⟨rfl, by exact blw⟩
/-- Lists of cells that a walk compares. -/
def CelL (w : World) (v : Value) (L : List CelB) : Prop := ListIs celCells 5 w v L ∧ ∀ x ∈ L, StrsIs w (.slice x.la x.ln x.lc) x.cel.val.list
theorem CelL.below {w w' : World} {v : Value} {L : List CelB} (h : CelL w v L) (hb : Below w.heap.size w w') : CelL w' v L := ⟨h.1.below (by omega) hb, fun x hx => (h.2 x hx).below (by omega) hb⟩
set_option maxHeartbeats 2000000 in
set_option maxRecDepth 20000 in
theorem equal_cells (va vb : Value) (A B : List CelB) (w : World) (ha : CelL w va A) (hb : CelL w vb B) (hAB : A.map CelB.cel = B.map CelB.cel) (hl : A.length ≤ 1000) (hll : ∀ x ∈ A, x.cel.val.list.length ≤ 1000) :
  Calls Tryz.prog 61 #[va, vb, .func (.func 62) #[] #[]] w fun e w' => e = .returned (.bool true) ∧ Below w.heap.size w w' := by
 have hlen : B.length = A.length := by have := congrArg List.length hAB; simpa using this.symm
 obtain ⟨oa, ca, rfl, -, hca⟩ := ha.1.at celCells_len
 obtain ⟨ob, cb, rfl, -, hcb⟩ := hb.1.at celCells_len
 rw [hlen]
 replace hca := Lib.hid hca
 replace hcb := Lib.hid hcb
 have hsa := Lib.hid ha.2
 have hsb := Lib.hid hb.2
 clear ha hb
 replace hAB := Lib.hid hAB
 replace hlen := Lib.hid hlen
 replace hll := Lib.hid hll
 go_enter Tryz.func61, Tryz.ntmps61
 go_wp2
 go_loopw [17] (fun i wr => ∃ k : Nat, k ≤ A.length ∧ i = .int .i64 k ∧ Below w.heap.size w wr) (fun i _ => A.length - (intOf i).toNat)
 case atStart => exact ⟨0, by omega, rfl, Below.refl _ _⟩
 case round =>
  obtain ⟨k, hk, rfl, hb⟩ := hrel
  by_cases hlt : k < A.length
  ·have hltb : k < B.length := by rw [hlen.out]; exact hlt
   obtain ⟨b1, f1, rfl, hb1, hc1⟩ := hca.out k hlt
   obtain ⟨b2, f2, rfl, hb2, hc2⟩ := hcb.out k hltb
   have hb1 := hb1 (by omega)
   have hb2 := hb2 (by omega)
   have hcel : B[k].cel = A[k].cel := by
    have := congrArg (fun l => l[k]?) hAB.out
    simp only [List.getElem?_map, List.getElem?_eq_getElem hlt, List.getElem?_eq_getElem hltb, Option.map_some, Option.some.injEq] at this
    exact this.symm
   have g1 : ∀ (j : Nat) (u : Value), (celCells A[k])[j]? = some u → wr.cell? ⟨b1, f1 + k * 5 + j, none⟩ = some u := fun j u hu => (hb.cell (p := ⟨b1, f1 + k * 5 + j, none⟩) hb1).trans (hc1 j u hu)
   have g2 : ∀ (j : Nat) (u : Value), (celCells B[k])[j]? = some u → wr.cell? ⟨b2, f2 + k * 5 + j, none⟩ = some u := fun j u hu => (hb.cell (p := ⟨b2, f2 + k * 5 + j, none⟩) hb2).trans (hc2 j u hu)
   have hS1 := (hsa.out _ (List.getElem_mem hlt)).below (by omega) hb
   have hS2 := (hsb.out _ (List.getElem_mem hltb)).below (by omega) hb
   have hn := hll.out _ (List.getElem_mem hlt)
   generalize A[k] = x at *
   generalize B[k] = y at *
   obtain ⟨⟨xk, xh, xt, xs, xl⟩, xa, xn, xc⟩ := x
   obtain ⟨yc, ya, yn, yd⟩ := y
   simp only at hcel
   subst hcel
   (try simp only at hS1 hS2 hn)
   have c0 : wr.cell? ⟨b1, f1 + k * 5, none⟩ = _ := g1 0 _ rfl
   have c1 := g1 1 _ rfl
   have c2 := g1 2 _ rfl
   have c3 := g1 3 _ rfl
   have c4 := g1 4 _ rfl
   have d0 : wr.cell? ⟨b2, f2 + k * 5, none⟩ = _ := g2 0 _ rfl
   have d1 := g2 1 _ rfl
   have d2 := g2 2 _ rfl
   have d3 := g2 3 _ rfl
   have d4 := g2 4 _ rfl
   (try simp only at c0 c1 c2 c3 c4 d0 d1 d2 d3 d4)
   have hb1w : b1 < wr.heap.size := Nat.lt_of_lt_of_le hb1 hb.size
   have hb2w : b2 < wr.heap.size := Nat.lt_of_lt_of_le hb2 hb.size
   have hcm := Lib.hid (fun V (hV : Below wr.heap.size wr V) => same_cel xk xh xt xs xl xa ya xn yn xc yd V (hS1.below (by omega) hV) (hS2.below (by omega) hV) hn)
   clear g1 g2 hc1 hc2 hS1 hS2 hn
   go_wp2_with (go_at_call 62; refine (hcm.out _ (by exact blw)).mono ?_; rintro _ w3 ⟨rfl, hb3⟩)
   go_roundw
   case rel => exact ⟨k + 1, by omega, by go_num, by exact blw⟩
   case measure => simp [intOf]; omega
  ·obtain rfl : k = A.length := by omega
   go_wp2
   go_ret
   exact ⟨rfl, hb⟩
theorem same_cells (va vb : Value) (A B : List CelB) (w : World) (ha : CelL w va A) (hb : CelL w vb B) (hAB : A.map CelB.cel = B.map CelB.cel) (hl : A.length ≤ 1000) (hll : ∀ x ∈ A, x.cel.val.list.length ≤ 1000) :
  Calls Tryz.prog 39 #[va, vb] w fun e w' => e = .returned (.bool true) ∧ Below w.heap.size w w' := by
 have hE := Lib.hid (equal_cells va vb A B w ha hb hAB hl hll)
 clear ha hb
 replace hAB := Lib.hid hAB
 replace hll := Lib.hid hll
 go_enter Tryz.func39, Tryz.ntmps39
 go_wp2_with (go_at_call 61; refine hE.out.mono ?_; rintro _ w2 ⟨rfl, hb2⟩)
 go_ret
 exact ⟨rfl, hb2⟩
theorem celL_of {w : World} {base base' : Nat} {v : Value} {L : List CelB} (h : w.ownsRow base 105 5 v L.length (L.flatMap celCells)) (hs : ∀ x ∈ L, w.ownsRow base' 9 1 (.slice x.la x.ln x.lc) x.cel.val.list.length (x.cel.val.list.flatMap strCells)) : CelL w v L :=
 ⟨ListIs.of_owns h, fun x hx => ListIs.of_owns (hs x hx)⟩
/-- How long lists of cells can be. -/
theorem cells_le {l : List St.W} {C : List St.Cel} (hl : ∀ x ∈ l, St.Good x) (h : St.IsCells C (St.at_ l)) : C.length ≤ l.length ∧ ∀ c ∈ C, c.val.list.length ≤ l.length := by
 constructor
 ·have hn : (C.map (·.key)).Nodup := by
   rw [List.Nodup, List.pairwise_map]
   exact h.1.imp fun hab e => by rw [e, St.lt_irrefl] at hab; cases hab
  have hs : (C.map (·.key)) ⊆ l.map (·.key) := fun k hk => by
   obtain ⟨c, hc, rfl⟩ := List.mem_map.1 hk
   obtain ⟨h1, h2⟩ := (h.2 c).1 hc
   rw [← h2] at h1
   obtain ⟨x, hx, e⟩ := St.at_mem h1
   exact List.mem_map.2 ⟨x, hx, e⟩
  have := hn.length_le_of_subset hs
  simpa using this
 ·intro c hc
  rw [← ((h.2 c).1 hc).2]
  exact (St.at_fits l hl c.key).len
theorem good_sws {l : List WrB} (h : ∀ x ∈ l, Right_ x) : ∀ x ∈ l.map WrB.sw, St.Good x := fun x hx => by
 obtain ⟨y, hy, rfl⟩ := List.mem_map.1 hx
 exact good_sw (h y hy)
theorem celB_le {l : List WrB} {L : List CelB} (hl : ∀ x ∈ l, Right_ x) (hn : l.length ≤ 1000) (h : St.IsCells (L.map CelB.cel) (St.at_ (l.map WrB.sw))) : L.length ≤ 1000 ∧ ∀ x ∈ L, x.cel.val.list.length ≤ 1000 := by
 obtain ⟨h1, h2⟩ := cells_le (good_sws hl) h
 rw [List.length_map, List.length_map] at h1
 refine ⟨by omega, fun x hx => ?_⟩
 have := h2 _ (List.mem_map.2 ⟨x, hx, rfl⟩)
 rw [List.length_map] at this
 omega
end Go.Proofs.YtdbpiabcpjgblaaGreatDoor
