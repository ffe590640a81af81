/- The walks of store.New and store.Of. -/
import Derived.Test.YtognjohloobliaaGreatDoorJ22
import Derived.Test.YtognjohloobliaaGreatDoorJ18
import Derived.Test.YtognjohloobliaaGreatDoorJ24
import Derived.Test.YtognjohloobliaaGreatDoorJ25
namespace Go.Proofs.YtognjohloobliaaGreatDoor
open Go.RowKit
set_option linter.unusedVariables false
set_option linter.unusedSimpArgs false
def NewStore (w : World) (e : Ending) (w' : World) : Prop := ∃ p b, e = .returned (.pointer (some ⟨p, 0, none⟩)) ∧ StoreIs w' w.heap.size p b 0 (fun _ => none) ∧ w.heap.size ≤ p ∧ Below w.heap.size w w'
set_option maxHeartbeats 1000000 in
theorem store_new (w : World) : Calls Tryz.prog 62 #[] w (NewStore w) := by
 have hmm := @run_makeMap Tryz.prog
 go_enter Tryz.func62, Tryz.ntmps62
 go_wp2
 go_ret
 have hM : MapV Tryz.prog 9 (w.alloc (.map #[] 0)) w.heap.size 0 (ptrs fun _ => none) := MapV.made _ _ _
 refine ⟨w.heap.size + 1, w.heap.size, rfl, { row := ?_, map := hM.alloc _, key := (fun s x h => by cases h), cell := (fun s x h => by cases h), list := (fun s x h => by cases h), fits := (fun s x h => by cases h), lo := Nat.le_refl _, los := (fun s x h => by cases h), apart := (fun s x s' x' h => by cases h), apart2 := (fun s x s' x' i h => by cases h) }, by omega, by exact blw⟩
 exact row_at (w := w.alloc (.map #[] 0)) _ _ (by simp)
def CelsRet (w : World) (F : ByteArray → St.Val) (e : Ending) (w' : World) : Prop :=
 ∃ (v : Value) (L : List CelB), e = .returned (.tuple #[v, .nilIface]) ∧ w'.ownsRow w.heap.size 147 5 v L.length (L.flatMap celCells) ∧ (∀ x ∈ L, w'.ownsRow w.heap.size 9 1 (.slice x.la x.ln x.lc) x.cel.val.list.length (x.cel.val.list.flatMap strCells)) ∧ St.IsCells (L.map CelB.cel) F ∧ Below w.heap.size w w'
def Run (w : World) (l : List WrB) (p b k : Nat) (wr : World) : Prop := ∃ f, StoreIs wr w.heap.size p b k f ∧ (∀ s, vals f s = St.at_ ((l.take k).map WrB.sw) s) ∧ Below w.heap.size w wr
abbrev Right_ (x : WrB) : Prop := Wr.right (wr x.t x.r x.k x.key x.val x.n) = 0
theorem run_step {w : World} {l : List WrB} {p b k : Nat} {wr w' : World} {f : ByteArray → Option Slot} (hk : k < l.length) (hS : StoreIs wr w.heap.size p b k f) (hv : ∀ s, vals f s = St.at_ ((l.take k).map WrB.sw) s) (hb : Below w.heap.size w wr) (hd : Did l[k] wr w.heap.size p b k f w') : Run w l p b (k + 1) w' := by
 obtain ⟨f', h1, h2, h3, h4⟩ := hd
 refine ⟨f', h1, fun s => ?_, hb.trans (h3.below (fun j hj => hS.mine_lo hj) hb.size)⟩
 rw [h2, List.take_succ_eq_append_getElem hk, List.map_append, List.map_singleton, St.at_snoc, hv]
 rfl
set_option maxHeartbeats 4000000 in
set_option maxRecDepth 20000 in
theorem store_of (v : Value) (l : List WrB) (w : World) (hv : WrsIs w v l) (hr : ∀ x ∈ l, Right_ x) (hl : l.length ≤ 1000) : Calls Tryz.prog 48 #[v] w (CelsRet w (St.at_ (l.map WrB.sw))) := by
 obtain ⟨o, c, rfl, -, hcell⟩ := ListIs.at hv wrBCells_len
 clear hv
 replace hcell := Lib.hid hcell
 replace hr := Lib.hid hr
 have hN := Lib.hid store_new
 go_enter Tryz.func48, Tryz.ntmps48
 go_wp2_with (go_at_call 62; refine (hN.out _).mono ?_; rintro _ w1 ⟨p, b, rfl, hS0, hp, hb1⟩)
 replace hS0 := Lib.hid hS0
 clear hN
 go_loopw [11] (fun i wr => ∃ k : Nat, k ≤ l.length ∧ i = .int .i64 k ∧ Run w l p b k wr) (fun i _ => l.length - (intOf i).toNat)
 case atStart => exact ⟨0, by omega, rfl, _, hS0.out, fun s => rfl, hb1⟩
 case round =>
  obtain ⟨k, hk, rfl, f, hS, hvs, hb⟩ := hrel
  replace hvs := Lib.hid hvs
  by_cases hlt : k < l.length
  ·obtain ⟨b1, f1, rfl, hb1', hc1⟩ := hcell.out k hlt
   have hb1' := hb1' (by omega)
   have hcc : ∀ (j : Nat) (u : Value), (wrBCells l[k])[j]? = some u → wr.cell? ⟨b1, f1 + k * 6 + j, none⟩ = some u := fun j u hu => (hb.cell (p := ⟨b1, f1 + k * 6 + j, none⟩) hb1').trans (hc1 j u hu)
   have c0 : wr.cell? ⟨b1, f1 + k * 6, none⟩ = _ := hcc 0 _ rfl
   have c1 := hcc 1 _ rfl
   have c2 := hcc 2 _ rfl
   have c3 := hcc 3 _ rfl
   have c4 := hcc 4 _ rfl
   have c5 := hcc 5 _ rfl
   have hx := hr.out _ (List.getElem_mem hlt)
   obtain ⟨x, hxe⟩ : ∃ x, x = l[k] := ⟨_, rfl⟩
   rw [← hxe] at c0 c1 c2 c3 c4 c5 hx
   have hDo := Lib.hid (fun W (hW : StoreIs W w.heap.size p b k f) => store_do x W w.heap.size p b k f hW hx (by omega))
   clear hcc hc1
   replace hS := Lib.hid hS
   replace hxe := Lib.hid hxe
   replace hx := Lib.hid hx
   go_wp2_with (go_at_call 63; refine (hDo.out _ (hS.out.below (by exact blw))).mono ?_; rintro _ w3 ⟨rfl, hd⟩)
   go_roundw
   case rel =>
    refine ⟨k + 1, by omega, by go_num, ?_⟩
    rw [hxe.out] at hd
    exact run_step (wr := _) hlt (hS.out.below (by exact blw)) hvs.out (by exact blw) hd
   case measure => simp [intOf]; omega
  ·obtain rfl : k = l.length := by omega
   rw [List.take_length] at hvs
   have hC := Lib.hid (store_cells wr w.heap.size p b l.length f hS hl)
   clear hS
   go_wp2_with (go_at_call 64; refine hC.out.mono ?_; rintro _ w3 ⟨v3, L, rfl, hO, hS, hI, hb3⟩)
   go_ret2
   refine ⟨v3, L, rfl, owns_base hO hb.size, fun x hx => owns_base (hS x hx) hb.size, hI.congr hvs.out, bch hb hb3⟩
end Go.Proofs.YtognjohloobliaaGreatDoor
/- Logs in memory; the walks of log.New, Have, Writes, Cells. -/
namespace Go.Proofs.YtognjohloobliaaGreatDoor
open Go.RowKit
set_option linter.unusedVariables false
set_option linter.unusedSimpArgs false
/-- What a log holds. -/
structure Lg where
 rep : Int
 H : List Vec.Entry
 W : List WrB
/-- A log at p: its row, and two lists of its own. -/
structure LogIs (w : World) (base p : Nat) (m : Lg) (hv wv : Value) : Prop where
 row : Row w p 77 [.int .i64 m.rep, hv, wv]
 hav : w.ownsRow base 45 2 hv m.H.length (m.H.flatMap entCells)
 wri : w.ownsRow base 33 6 wv m.W.length (m.W.flatMap wrBCells)
 lo : base ≤ p
/-- The blocks that a log has. -/
def LMine (p : Nat) (hv wv : Value) (j : Nat) : Prop := j = p ∨ hv.ownBlock = some j ∨ wv.ownBlock = some j
theorem LogIs.only {S : Nat → Prop} {w w' : World} {base p : Nat} {m : Lg} {hv wv : Value} (h : LogIs w base p m hv wv) (ho : Only S w w') (hn : ∀ j, LMine p hv wv j → ¬ S j) : LogIs w' base p m hv wv :=
 ⟨h.row.only ho (hn p (.inl rfl)), owns_only h.hav ho fun j hj => hn j (.inr (.inl hj)), owns_only h.wri ho fun j hj => hn j (.inr (.inr hj)), h.lo⟩
theorem LogIs.below {w w' : World} {base p : Nat} {m : Lg} {hv wv : Value} (h : LogIs w base p m hv wv) (hb : Below w.heap.size w w') : LogIs w' base p m hv wv :=
 ⟨h.row.below hb, owns_below h.hav hb, owns_below h.wri hb, h.lo⟩
theorem LogIs.mine_lo {w : World} {base p : Nat} {m : Lg} {hv wv : Value} (h : LogIs w base p m hv wv) {j : Nat} (hj : LMine p hv wv j) : base ≤ j := by
 rcases hj with rfl | hj | hj
 ·exact h.lo
 ·exact (h.hav.lt j hj).1
 ·exact (h.wri.lt j hj).1
theorem LogIs.mine_lt {w : World} {base p : Nat} {m : Lg} {hv wv : Value} (h : LogIs w base p m hv wv) {j : Nat} (hj : LMine p hv wv j) : j < w.heap.size := by
 rcases hj with rfl | hj | hj
 ·exact h.row.lt
 ·exact (h.hav.lt j hj).2
 ·exact (h.wri.lt j hj).2
theorem LogIs.base_le {w : World} {base base' p : Nat} {m : Lg} {hv wv : Value} (h : LogIs w base p m hv wv) (hb : base' ≤ base) : LogIs w base' p m hv wv :=
 ⟨h.row, owns_base h.hav hb, owns_base h.wri hb, Nat.le_trans hb h.lo⟩
def NewLog (w : World) (r : Int) (e : Ending) (w' : World) : Prop := ∃ p, e = .returned (.tuple #[.pointer (some ⟨p, 0, none⟩), .nilIface]) ∧ LogIs w' w.heap.size p ⟨r, [], []⟩ (.slice none 0 0) (.slice none 0 0) ∧ Below w.heap.size w w'
set_option maxHeartbeats 1000000 in
theorem log_new (r : Int) (w : World) (h0 : 0 ≤ r) (h1 : r ≤ 200) : Calls Tryz.prog 15 #[.int .i64 r] w (NewLog w r) := by
 have d0 : decide (r < 0) = false := by simp; omega
 have d1 : decide (200 < r) = false := by simp; omega
 replace h0 := Lib.hid h0
 replace h1 := Lib.hid h1
 go_enter Tryz.func15, Tryz.ntmps15
 go_wp2
 go_ret2
 exact ⟨w.heap.size, rfl, ⟨row_at _ _ rfl, World.ownsRow_nil _ _ _ _, World.ownsRow_nil _ _ _ _, Nat.le_refl _⟩, by exact blw⟩
set_option maxHeartbeats 1000000 in
theorem log_have (base p : Nat) (m : Lg) (hv wv : Value) (w : World) (h : LogIs w base p m hv wv) (hl : m.H.length ≤ 1000) :
  Calls Tryz.prog 20 #[.pointer (some ⟨p, 0, none⟩)] w fun e w' => (∃ u, e = .returned u ∧ w'.ownsRow w.heap.size 45 2 u m.H.length (m.H.flatMap entCells)) ∧ Below w.heap.size w w' := by
 have hC := Lib.hid (clone_ents hv m.H w (ListIs.of_owns h.hav) (by omega))
 have q := h.row
 clear h
 obtain ⟨c0, c1, c2⟩ := q.c3
 go_enter Tryz.func20, Tryz.ntmps20
 go_wp2_with (go_at_call 41; refine hC.out.mono ?_; rintro _ w2 ⟨⟨u, rfl, hu⟩, hb⟩)
 go_ret
 exact ⟨⟨_, rfl, hu⟩, hb⟩
set_option maxHeartbeats 1000000 in
theorem log_writes (base p : Nat) (m : Lg) (hv wv : Value) (w : World) (h : LogIs w base p m hv wv) (hl : m.W.length ≤ 1000) :
  Calls Tryz.prog 18 #[.pointer (some ⟨p, 0, none⟩)] w fun e w' => (∃ u, e = .returned u ∧ w'.ownsRow w.heap.size 33 6 u m.W.length (m.W.flatMap wrBCells)) ∧ Below w.heap.size w w' := by
 have hC := Lib.hid (clone_wrs wv m.W w (ListIs.of_owns h.wri) (by omega))
 have q := h.row
 clear h
 obtain ⟨c0, c1, c2⟩ := q.c3
 go_enter Tryz.func18, Tryz.ntmps18
 go_wp2_with (go_at_call 37; refine hC.out.mono ?_; rintro _ w2 ⟨⟨u, rfl, hu⟩, hb⟩)
 go_ret
 exact ⟨⟨_, rfl, hu⟩, hb⟩
def CelsRet1 (w : World) (F : ByteArray → St.Val) (e : Ending) (w' : World) : Prop :=
 ∃ (v : Value) (L : List CelB), e = .returned v ∧ w'.ownsRow w.heap.size 147 5 v L.length (L.flatMap celCells) ∧ (∀ x ∈ L, w'.ownsRow w.heap.size 9 1 (.slice x.la x.ln x.lc) x.cel.val.list.length (x.cel.val.list.flatMap strCells)) ∧ St.IsCells (L.map CelB.cel) F ∧ Below w.heap.size w w'
set_option maxHeartbeats 1000000 in
theorem log_cells (base p : Nat) (m : Lg) (hv wv : Value) (w : World) (h : LogIs w base p m hv wv) (hr : ∀ x ∈ m.W, Right_ x) (hl : m.W.length ≤ 1000) :
  Calls Tryz.prog 33 #[.pointer (some ⟨p, 0, none⟩)] w (CelsRet1 w (St.at_ (m.W.map WrB.sw))) := by
 have hC := Lib.hid (store_of wv m.W w (ListIs.of_owns h.wri) hr hl)
 have q := h.row
 clear h
 obtain ⟨c0, c1, c2⟩ := q.c3
 go_enter Tryz.func33, Tryz.ntmps33
 go_wp2_with (go_at_call 48; refine hC.out.mono ?_; rintro _ w2 ⟨v2, L2, rfl, hO, hS, hI, hb⟩)
 go_ret
 exact ⟨v2, L2, rfl, hO, hS, hI, hb⟩
end Go.Proofs.YtognjohloobliaaGreatDoor
