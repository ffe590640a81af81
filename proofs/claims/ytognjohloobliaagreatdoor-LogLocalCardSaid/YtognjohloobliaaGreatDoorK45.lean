/- Logs that write and send: the walks of logs, small, pass, party. -/
import Derived.Test.YtognjohloobliaaGreatDoorK34
import Derived.Test.YtognjohloobliaaGreatDoorK44
import Derived.Test.YtognjohloobliaaGreatDoorK02
namespace Go.Proofs.YtognjohloobliaaGreatDoor
open Go.RowKit
set_option linter.unusedVariables false
set_option linter.unusedSimpArgs false
def LgAt.ptr (a : LgAt) : Value := .pointer (some ⟨a.p, 0, none⟩)
/-- A slice of logs. -/
structure LogsV (w : World) (base : Nat) (v : Value) (l : List LgAt) : Prop where
 logs : Logs w base (fun j => v.ownBlock = some j) l
 at_ : w.ownsRow base 35 1 v l.length (l.map LgAt.ptr)
set_option maxHeartbeats 8000000 in
set_option maxRecDepth 20000 in
theorem keep_logs (n : Nat) (w : World) (hn : n ≤ 100) : Calls Tryz.prog 42 #[.int .i64 n] w fun e w' => (∃ v l, e = .returned v ∧ LogsV w' w.heap.size v l ∧ l.map LgAt.m = (List.range n).map fun (i : Nat) => (⟨(i : Int), [], []⟩ : Lg)) ∧ Below w.heap.size w w' := by
 go_enter Tryz.func42, Tryz.ntmps42
 go_wp2
 go_loopw [3, 8] (fun v i wr => ∃ (k : Nat) (l : List LgAt), k ≤ n ∧ i = .int .i64 k ∧ l.length = k ∧ LogsV wr w.heap.size v l ∧ (l.map LgAt.m = (List.range k).map fun (i : Nat) => (⟨(i : Int), [], []⟩ : Lg)) ∧ Below w.heap.size w wr) (fun _ i _ => n - (intOf i).toNat)
 case atStart => exact ⟨0, [], by omega, rfl, rfl, ⟨(Logs.nil w _).over (Only.refl _ _) (fun j hj => by cases hj) (fun j hj => by cases hj), World.ownsRow_nil _ _ _ _⟩, rfl, Below.refl _ _⟩
 case round =>
  obtain ⟨k, l, hk, rfl, hlen, hV, hm, hb⟩ := hrel
  by_cases hlt : k < n
  ·have hN := Lib.hid (log_new (k : Int) wr (by omega) (by omega))
   replace hV := Lib.hid hV
   replace hm := Lib.hid hm
   replace hlen := Lib.hid hlen
   have hsz := hb.size
   go_wp2_with fail
   refine hN.out.mono ?_
   rintro _ w2 ⟨p, rfl, hp, hb2⟩
   have hL2 := hV.out.logs.snoc (a := ⟨p, ⟨(k : Int), [], []⟩, .slice none 0 0, .slice none 0 0⟩) hb2 (hp.base_le hsz) (fun j hj => hp.mine_lo hj)
   have hO2 := owns_below hV.out.at_ hb2
   have hs2 : w.heap.size ≤ w2.heap.size := Nat.le_trans hsz hb2.size
   have hll : l.length ≤ 100 := by rw [hlen.out]; omega
   have hb2' := Lib.hid (hb.trans (hb2.mono hsz))
   replace hL2 := Lib.hid hL2
   clear hN hp hV hb hb2
   go_wp2_with ((at_builtin; go_must (refine app_one rfl _ _ 51 35 rfl (w.heap.size) (.pointer none) 1 8 Tryz.underlying51 (by kernel_rfl) rfl _ _ _ rfl hO2 _ rfl rfl ?_ (by omega) (by omega) hs2 ?_)); (focus (first | exact ⟨rfl, rfl⟩ | rfl | simp [Value.oneCell'])); intro v3 w3 hO3 hg3 hbk3 hne3 hb3)
   go_roundw
   case rel =>
    refine ⟨k + 1, l ++ [⟨p, ⟨(k : Int), [], []⟩, .slice none 0 0, .slice none 0 0⟩], by omega, by go_num, by rw [List.length_append, hlen.out]; rfl, ⟨hL2.out.over ((Only.refl _ w2).grown hg3 (fun j hj => .inl hj)) (fun j hj => ?_) (fun j hj => (hO3.lt j hj).2), ?_⟩, ?_, hb2'.out.trans hb3⟩
    ·rcases hbk3 with e | e
     ·exact .inl (e ▸ hj)
     ·rw [e] at hj; injection hj with hj; exact .inr (by omega)
    ·rw [List.length_append, List.map_append]; exact hO3
    ·rw [List.map_append, hm.out, List.range_succ, List.map_append]; rfl
   case measure => simp [intOf]; omega
  ·obtain rfl : k = n := by omega
   go_wp2
   go_ret
   exact ⟨⟨_, l, rfl, hV, hm⟩, hb⟩
/-- Something that logs do. -/
structure ActB where
 who : Int
 to : Int
 sends : Bool
 x : WrB
def actCells (a : ActB) : List Value := .int .i64 a.who :: .int .i64 a.to :: .bool a.sends :: wrBCells a.x
def ActOk (a : ActB) : Prop := WrBOk a.x
theorem actCells_len (a : ActB) : (actCells a).length = 9 := rfl
def smallB (l : List ActB) : Bool := l.all (fun a => decide (a.x.key.size + a.x.val.size ≤ 400)) && decide (l.length ≤ 60)
set_option maxHeartbeats 8000000 in
set_option maxRecDepth 20000 in
theorem keep_small (v : Value) (l : List ActB) (w : World) (hv : ListIs actCells 9 w v l) (hl : l.length ≤ 140737488351232) (hq : ∀ a ∈ l, a.x.key.size ≤ 140737488351232 ∧ a.x.val.size ≤ 140737488351232) :
  Calls Tryz.prog 21 #[v] w fun e w' => e = .returned (.bool (smallB l)) ∧ Below w.heap.size w w' := by
 obtain ⟨o, c, rfl, -, hcell⟩ := ListIs.at hv actCells_len
 clear hv
 replace hcell := Lib.hid hcell
 replace hq := Lib.hid hq
 go_enter Tryz.func21, Tryz.ntmps21
 go_wp2
 go_loopw [7] (fun i wr => ∃ k : Nat, k ≤ l.length ∧ i = .int .i64 k ∧ ((l.take k).all fun a => decide (a.x.key.size + a.x.val.size ≤ 400)) = true ∧ Below w.heap.size w wr) (fun i _ => l.length - (intOf i).toNat)
 case atStart => exact ⟨0, by omega, rfl, rfl, by exact blw⟩
 case round =>
  obtain ⟨k, hk, rfl, ha, hb⟩ := hrel
  replace ha := Lib.hid ha
  by_cases hlt : k < l.length
  ·obtain ⟨b1, f1, rfl, hb1, hc1⟩ := hcell.out k hlt
   have hb1 := hb1 (by omega)
   have hs := hb.size
   have g1 : ∀ (j : Nat) (u : Value), (actCells l[k])[j]? = some u → wr.cell? ⟨b1, f1 + k * 9 + j, none⟩ = some u := fun j u hu => (hb.cell (p := ⟨b1, f1 + k * 9 + j, none⟩) hb1).trans (hc1 j u hu)
   have hqk := hq.out _ (List.getElem_mem hlt)
   have hall : ∀ b : Bool, decide (l[k].x.key.size + l[k].x.val.size ≤ 400) = b → ((l.take (k + 1)).all fun a => decide (a.x.key.size + a.x.val.size ≤ 400)) = b := fun b e => by
    rw [List.take_succ_eq_append_getElem hlt, List.all_append, ha.out]; simp [e]
   have hsm : decide (l[k].x.key.size + l[k].x.val.size ≤ 400) = false → smallB l = false := fun e => by
    unfold smallB
    rw [show (l.all fun a => decide (a.x.key.size + a.x.val.size ≤ 400)) = false from List.all_eq_false.2 ⟨_, List.getElem_mem hlt, by simp [e]⟩]; rfl
   replace hall := Lib.hid hall
   replace hsm := Lib.hid hsm
   generalize l[k] = a at *
   obtain ⟨aw, at_, as_, ⟨t, r, kd, key, val, n⟩⟩ := a
   have d0 : wr.cell? ⟨b1, f1 + k * 9, none⟩ = _ := g1 0 _ rfl
   have d1 := g1 1 _ rfl
   have d2 := g1 2 _ rfl
   have d3 := g1 3 _ rfl
   have d4 := g1 4 _ rfl
   have d5 := g1 5 _ rfl
   have d6 := g1 6 _ rfl
   have d7 := g1 7 _ rfl
   have d8 := g1 8 _ rfl
   have hbw : b1 < wr.heap.size := by omega
   clear g1 hc1
   (try simp only at hqk)
   have hwr : IntKind.i64.wrap ((key.size : Int) + (val.size : Int)) = (key.size : Int) + (val.size : Int) := by rw [IntWalk.i64_in _ (by omega)]
   by_cases hbig : key.size + val.size ≤ 400
   ·have dd : decide ((400 : Int) < (key.size : Int) + (val.size : Int)) = false := by simp; omega
    have hn := hall.out true (decide_eq_true hbig)
    replace hn := Lib.hid hn
    go_wp2
    go_roundw
    case rel => exact ⟨k + 1, by omega, by go_num, hn.out, by exact blw⟩
    case measure => simp [intOf]; omega
   ·have dd : decide ((400 : Int) < (key.size : Int) + (val.size : Int)) = true := by simp; omega
    have hn := hsm.out (decide_eq_false hbig)
    replace hn := Lib.hid hn
    go_wp2
    go_ret
    exact ⟨ret_bool hn.out.symm, by exact blw⟩
  ·obtain rfl : k = l.length := by omega
   have hsm : smallB l = decide (l.length ≤ 60) := by
    have := ha.out
    rw [List.take_length] at this
    unfold smallB; rw [this]; rfl
   replace hsm := Lib.hid hsm
   go_wp2
   go_ret
   exact ⟨ret_bool (hsm.out ▸ decide_eq_decide.2 (by omega)), hb⟩
end Go.Proofs.YtognjohloobliaaGreatDoor
/- Logs that send to each other: the walk of pass. -/
namespace Go.Proofs.YtognjohloobliaaGreatDoor
open Go.RowKit
set_option linter.unusedVariables false
set_option linter.unusedSimpArgs false
theorem Logs.one {w : World} {base p : Nat} {m : Lg} {hv wv : Value} (h : LogIs w base p m hv wv) : Logs w base (fun _ => False) [⟨p, m, hv, wv⟩] :=
 ⟨fun i hi => by
  have : i = 0 := by simpa using hi
  subst this; exact h, fun i hi k hk hik => by simp at hi hk; omega, fun i hi j _ hf => hf, fun j hf => hf.elim⟩
/-- What becomes of logs: they lie where they lay, and are a party of as much or more. -/
structure Moved (w : World) (base : Nat) (T : Nat → Prop) (l : List LgAt) (G : List WrB) (w' : World) (l' : List LgAt) : Prop where
 logs : Logs w' base T l'
 ptrs : l'.map LgAt.p = l.map LgAt.p
 party : Lg.Party G (l'.map LgAt.m)
 only : Only (LgAll l) w w'
 all : ∀ j, LgAll l' j → LgAll l j ∨ w.heap.size ≤ j
theorem Moved.trans {w w1 w2 : World} {base : Nat} {T : Nat → Prop} {l l1 l2 : List LgAt} {G1 G2 : List WrB} (h : Moved w base T l G1 w1 l1) (k : Moved w1 base T l1 G2 w2 l2) : Moved w base T l G2 w2 l2 :=
 ⟨k.logs, k.ptrs.trans h.ptrs, k.party, h.only.step k.only h.all, fun j hj => by
  rcases k.all j hj with h1 | h1
  ·exact h.all j h1
  ·exact .inr (Nat.le_trans h.only.size h1)⟩
theorem Moved.same {w w' : World} {base : Nat} {T : Nat → Prop} {l : List LgAt} {G : List WrB} (h : Logs w base T l) (P : Lg.Party G (l.map LgAt.m)) (hb : Below w.heap.size w w') : Moved w base T l G w' l :=
 ⟨h.below hb, rfl, P, Only.of_below _ hb, fun j hj => .inl hj⟩
theorem Moved.after {w w1 w2 : World} {base : Nat} {T : Nat → Prop} {l l1 : List LgAt} {G : List WrB} (h : Moved w base T l G w1 l1) (hb : Below w1.heap.size w1 w2) : Moved w base T l G w2 l1 := h.trans (Moved.same h.logs h.party hb)
theorem Moved.before {w w1 w2 : World} {base : Nat} {T : Nat → Prop} {l l2 : List LgAt} {G : List WrB} (h : Logs w base T l) (hb : Below w.heap.size w w1) (k : Moved w1 base T l G w2 l2) : Moved w base T l G w2 l2 :=
 ⟨k.logs, k.ptrs, k.party, (Only.of_below _ hb).step k.only fun j hj => .inl hj, fun j hj => by
  rcases k.all j hj with h1 | h1
  ·exact .inl h1
  ·exact .inr (Nat.le_trans hb.size h1)⟩
theorem Moved.below {w w' : World} {base : Nat} {T : Nat → Prop} {l l' : List LgAt} {G : List WrB} (h : Moved w base T l G w' l') (hl : Logs w base T l) (hb : base ≤ w.heap.size) : Below base w w' := h.only.below (fun j ⟨i, hi, hj⟩ => hl.mine_lo hi hj) hb
/-- One took what another one sent. -/
theorem Moved.turned {w w' : World} {base : Nat} {T : Nat → Prop} {l : List LgAt} {G : List WrB} {j : Nat} (hj : j < l.length) {m' : Lg} (h : Turned w base T l j l[j].p m' w') (P : Lg.Party G ((l.map LgAt.m).set j m')) : ∃ l', Moved w base T l G w' l' ∧ l'.length = l.length ∧ ∀ k (hk : k < l.length), ∃ hk' : k < l'.length, l'[k].p = l[k].p ∧ l'[k].m = if j = k then m' else l[k].m := by
 obtain ⟨hv', wv', h1, h2, h3⟩ := h
 refine ⟨_, ⟨h1, ?_, ?_, h2.mono fun k _ ⟨hi, hk⟩ => ⟨j, hi, hk⟩, h3⟩, by simp, fun k hk => ⟨by simpa using hk, ?_, ?_⟩⟩
 ·rw [List.map_set]
  refine List.ext_getElem (by simp) fun i h1 h2 => ?_
  rw [List.getElem_set]
  split
  ·subst_vars; rw [List.getElem_map]
  ·rfl
 ·rw [List.map_set]; exact P
 ·rw [List.getElem_set]; split
  ·subst_vars; rfl
  ·rfl
 ·rw [List.getElem_set]; split <;> rfl
set_option maxHeartbeats 8000000 in
set_option maxRecDepth 20000 in
theorem keep_pass {w : World} {base : Nat} {T : Nat → Prop} {l : List LgAt} {G : List WrB} (hL : Laid w) (h : Logs w base T l) (P : Lg.Party G (l.map LgAt.m)) (hG : G.length ≤ 60) (hn : l.length ≤ 16) {i j : Nat} (hi : i < l.length) (hj : j < l.length) (pi pj : Nat) (hpi : l[i].p = pi) (hpj : l[j].p = pj) (version : Int) :
  Calls Tryz.prog 43 #[.pointer (some ⟨pi, 0, none⟩), .pointer (some ⟨pj, 0, none⟩), .int .i64 version] w fun e w' => e = .returned (.bool true) ∧ ∃ l', Moved w base T l G w' l' := by
 obtain ⟨mi, hmi'⟩ : ∃ m, l[i].m = m := ⟨_, rfl⟩
 obtain ⟨mj, hmj'⟩ : ∃ m, l[j].m = m := ⟨_, rfl⟩
 have hmi : (l.map LgAt.m)[i]'(by simpa using hi) = mi := by simpa using hmi'
 have hmj : (l.map LgAt.m)[j]'(by simpa using hj) = mj := by simpa using hmj'
 obtain ⟨oki, ai, -⟩ := P.ok i (by simpa using hi)
 obtain ⟨okj, aj, -⟩ := P.ok j (by simpa using hj)
 rw [hmi] at oki ai
 rw [hmj] at okj aj
 have hHi := ((Vec.right_iff _).1 oki.have_).len
 have hHj := ((Vec.right_iff _).1 okj.have_).len
 have hHv := log_have base l[j].p l[j].m l[j].hv l[j].wv w (h.each j hj) (by rw [hmj']; omega)
 rw [hpj, hmj'] at hHv
 replace hHv := Lib.hid hHv
 by_cases hc : Vec.Covers mi.H mj.H
 ·have hPA := Lg.Party.accept P hG (by simpa using hn) (i := i) (j := j) (by simpa using hi) (by simpa using hj) (f := mj.H) okj.have_ (by rw [hmi]; exact hc) (by rw [hmj]; exact Vec.covers_refl _)
  rw [hmi, hmj] at hPA
  obtain ⟨hs1, hs2, hbr, m', n, hacc, hmH, hmok, -, hof, -, hP'⟩ := hPA
  have hSi := fun W fv (hW : Below w.heap.size w W) (hf : VecIs W fv mj.H) => logs_since_ok (hL.below hW) (h.below hW) hi pi hpi mi hmi' oki hf (by omega) okj.have_ hc _ _ hs2 hs1
  have hlw : (mi.W.filter (Lg.new_ mj.H)).length ≤ 60 := by have := ((Bat.right_iff _ _ _).1 hbr).len; rwa [List.length_map] at this
  generalize mi.W.filter (Lg.new_ mj.H) = ws at *
  generalize hFe : mj.H = F at *
  generalize hHe : mi.H = H at *
  have hPk := fun W => keep_pick version 3 3 W rfl (by omega) (by omega)
  have hplt := pickN_lt version 3 (by omega)
  generalize pickN version 3 = pk at *
  have hCa : ∃ fn : FuncId, ((pk = 0 ∧ fn = 52) ∨ (pk = 1 ∧ fn = 53) ∨ (pk = 2 ∧ fn = 54)) ∧ ∀ W vf vh vw, Below w.heap.size w W → VecIs W vf F → VecIs W vh H → WrsIs W vw ws → Calls Tryz.prog fn #[.agg #[vf, vh, vw]] W (Carried F H ws W) := by
   rcases (show pk = 0 ∨ pk = 1 ∨ pk = 2 by omega) with e | e | e
   ·exact ⟨_, .inl ⟨e, rfl⟩, fun W vf vh vw hW hf hh hw => carry_frame vf vh vw _ _ _ W (hL.below hW) hf hh hw hbr (by omega) (by omega) (by omega)⟩
   ·exact ⟨_, .inr (.inl ⟨e, rfl⟩), fun W vf vh vw hW hf hh hw => carry_first vf vh vw _ _ _ W (hL.below hW) hf hh hw hbr (by omega) (by omega) (by omega)⟩
   ·exact ⟨_, .inr (.inr ⟨e, rfl⟩), fun W vf vh vw hW hf hh hw => carry_second vf vh vw _ _ _ W (hL.below hW) hf hh hw hbr (by omega) (by omega) (by omega)⟩
  obtain ⟨fn, hfn, hC⟩ := hCa
  have hTl := Lib.hid (fun W (hW : Below w.heap.size w W) => tell_errno 4 W (hL.below hW))
  have hAny := Lib.hid (fun S W (hW : Below w.heap.size w W) hl ha => carry_any S F H ws W (hL.below hW) hl ha)
  have hSm := Lib.hid (fun W f1 h1 w1 f2 h2 w2 a1 a2 a3 b1 b2 b3 => same_any f1 h1 w1 f2 h2 w2 F H ws F H ws W a1 a2 a3 b1 b2 b3 (by omega) (by omega) (by omega) (by omega) (by omega) (by omega))
  have hAc := Lib.hid (fun W vf vh vw (hW : Below w.heap.size w W) (hf : VecIs W vf F) (hh : VecIs W vh H) (hw : WrsIs W vw ws) => logs_accept_ok (hL.below hW) (h.below hW) hj pj hpj mj m' hmj' okj aj (vf := vf) (vh := vh) (vw := vw) hf hh hw (by omega) (by omega) (by omega) n hacc)
  have hSame := Lib.hid (fun W (hW : Below w.heap.size w W) => Moved.same h P hW)
  replace hSi := Lib.hid hSi
  replace hbr := Lib.hid hbr
  replace hacc := Lib.hid hacc
  replace hP' := Lib.hid hP'
  replace hof := Lib.hid hof
  replace hmok := Lib.hid hmok
  replace hmH := Lib.hid hmH
  replace hFe := Lib.hid hFe
  replace hHe := Lib.hid hHe
  replace hPk := Lib.hid hPk
  replace hC := Lib.hid hC
  generalize hlf : F.length = lf at *
  generalize hlh : H.length = lh at *
  generalize hlws : ws.length = lw at *
  replace hlf := Lib.hid hlf
  replace hlh := Lib.hid hlh
  replace hlws := Lib.hid hlws
  clear hs1 hs2 hmi hmj
  go_enter Tryz.func43, Tryz.ntmps43
  go_wp2
  refine wp_loop_rounds 1 ?_
  rw [rounds_succ]
  go_wp2_with fail
  refine hHv.out.mono ?_
  rintro _ w1 ⟨⟨u, rfl, hO⟩, hb1⟩
  clear hHv
  have hSi1 := Lib.hid (hSi.out _ _ hb1 (ListIs.of_owns (l := F) (by rw [hlf.out]; exact hO)))
  clear hSi hO
  go_wp2_with fail
  refine hSi1.out.mono ?_
  rintro _ w2 ⟨⟨vf, vh, vw, rfl, hf, hh, hw⟩, hb2⟩
  have hVf : VecIs w2 vf _ := ListIs.of_owns hf
  have hVh : VecIs w2 vh _ := ListIs.of_owns hh
  have hVw : WrsIs w2 vw _ := ListIs.of_owns hw
  rw [hlf.out] at hf
  rw [hlh.out] at hh
  rw [hlws.out] at hw
  obtain ⟨of, cf, rfl⟩ := owns_slice_ hf
  obtain ⟨oh, ch, rfl⟩ := owns_slice_ hh
  obtain ⟨ow, cw, rfl⟩ := owns_slice_ hw
  have hbw2 := Lib.hid (bch hb1 hb2)
  clear hSi1 hf hh hw hb1 hb2
  go_wp2_with fail
  have hb23 : Below w2.heap.size w2 (w2.alloc (Obj.cells #[.slice of lf cf, .slice oh lh ch, .slice ow lw cw] 25)) := by exact blw
  obtain ⟨g, hg⟩ : ∃ g, g = w2.heap.size := ⟨_, rfl⟩
  have q3 := row_at (w := w2) (g := g) #[.slice of lf cf, .slice oh lh ch, .slice ow lw cw] 25 hg
  rw [← hg]
  generalize w2.alloc (Obj.cells #[.slice of lf cf, .slice oh lh ch, .slice ow lw cw] 25) = w3 at *
  have hbw3 := bch hbw2.out hb23
  have hVf3 := hVf.below hb23
  have hVh3 := hVh.below hb23
  have hVw3 := WrsIs.below hVw hb23
  have hC3 := Lib.hid (hC.out w3 _ _ _ hbw3 hVf3 hVh3 hVw3)
  replace hg := Lib.hid hg
  clear hVf hVh hVw hb23 hbw2 hC
  obtain ⟨c0, c1, c2⟩ := q3.c3
  have hgl := q3.lt
  replace q3 := Lib.hid q3
  replace hbw3 := Lib.hid hbw3
  replace hVf3 := Lib.hid hVf3
  replace hVh3 := Lib.hid hVh3
  replace hVw3 := Lib.hid hVw3
  refine (hPk.out _).mono ?_
  rintro _ _ ⟨rfl, rfl⟩
  rcases hfn with ⟨rfl, rfl⟩ | ⟨rfl, rfl⟩ | ⟨rfl, rfl⟩ <;> (
   go_wp2_with fail
   refine hC3.out.mono ?_
   rintro _ w4 hr4
   rcases hr4 with ⟨⟨S, rfl, hSl, hSa⟩, hb4⟩ | ⟨rfl, hb4⟩
   ·have hbw4 := bch hbw3.out hb4
    have q4 := q3.out.below hb4
    have hAn := Lib.hid (hAny.out S w4 hbw4 hSl hSa)
    clear c0 c1 c2 hgl hC3 hTl
    replace hbw4 := Lib.hid hbw4
    replace q4 := Lib.hid q4
    replace hb4 := Lib.hid hb4
    go_wp2_with fail
    refine hAn.out.mono ?_
    rintro _ w5 ⟨⟨vf5, vh5, vw5, rfl, x1, x2, x3⟩, hb5⟩
    obtain ⟨o5, c5, rfl, -, -⟩ := x1.list.at entCells_len
    obtain ⟨o6, c6, rfl, -, -⟩ := x2.list.at entCells_len
    obtain ⟨o7, c7, rfl, -, -⟩ := ListIs.at x3 wrBCells_len
    rw [hlf.out] at x1 ⊢
    rw [hlh.out] at x2 ⊢
    rw [hlws.out] at x3 ⊢
    have hb35 := bch hb4.out hb5
    have hbw5 := bch hbw4.out hb5
    have q5 := q4.out.below hb5
    obtain ⟨c0, c1, c2⟩ := q5.c3
    have hgl := q5.lt
    replace hbw5 := Lib.hid hbw5
    replace hb35 := Lib.hid hb35
    clear hAn hb4 hb5 hbw4 q4 q5
    go_wp2_with fail
    obtain ⟨g2, hg2⟩ : ∃ g, g = w5.heap.size := ⟨_, rfl⟩
    have hb56 : Below w5.heap.size w5 (w5.alloc (Obj.cells #[.slice o5 lf c5, .slice o6 lh c6, .slice o7 lw c7] 25)) := by exact blw
    have q6 := row_at (w := w5) (g := g2) #[.slice o5 lf c5, .slice o6 lh c6, .slice o7 lw c7] 25 hg2
    rw [← hg2]
    generalize w5.alloc (Obj.cells #[.slice o5 lf c5, .slice o6 lh c6, .slice o7 lw c7] 25) = w6 at *
    have hb36 := bch hb35.out hb56
    have y1 := x1.below hb56
    have y2 := x2.below hb56
    have y3 := WrsIs.below x3 hb56
    have hSm6 := hSm.out w6 _ _ _ _ _ _ (hVf3.out.below hb36) (hVh3.out.below hb36) (WrsIs.below hVw3.out hb36) y1 y2 y3
    rw [sameB_self] at hSm6
    have hbw6 := bch hbw5.out hb56
    replace hg2 := Lib.hid hg2
    clear hSm x1 x2 x3 hb35 hb36 hb56 hbw5 c0 c1 c2 hgl
    refine hSm6.mono ?_
    rintro _ w7 ⟨rfl, hb7⟩
    have hbw7 := bch hbw6 hb7
    have q7 := q6.below hb7
    have hAc7 := Lib.hid (hAc.out w7 _ _ _ hbw7 (y1.below hb7) (y2.below hb7) (WrsIs.below y3 hb7))
    obtain ⟨c0, c1, c2⟩ := q7.c3
    have hgl := q7.lt
    replace hbw7 := Lib.hid hbw7
    clear hSm6 y1 y2 y3 hbw6 hb7 q6 q7 hAc
    go_wp2_with fail
    refine hAc7.out.mono ?_
    rintro _ w8 ⟨rfl, ht⟩
    obtain ⟨l', hM, hlen', hat'⟩ := Moved.turned hj (hpj ▸ ht) hP'.out
    have hM := Moved.before h hbw7.out hM
    obtain ⟨hjl, hjp, hjm⟩ := hat' j hj
    obtain ⟨hil, hip, him⟩ := hat' i hi
    rw [if_pos rfl] at hjm
    have hm'len := ((Vec.right_iff _).1 hmok.out.have_).len
    have hHr := hHe.out ▸ oki.have_
    have hem : ∃ e, e = (if j = i then m' else l[i].m) ∧ e.H.length ≤ 16 ∧ coversB m'.H e.H = true := by
     refine ⟨_, rfl, ?_⟩
     by_cases hji : j = i
     ·rw [if_pos hji]
      exact ⟨hm'len, (Lg.covB hmok.out.have_ hmok.out.have_).2 (Vec.covers_refl _)⟩
     ·rw [if_neg hji, hmi', hHe.out]
      refine ⟨((Vec.right_iff _).1 hHr).len, (Lg.covB hmok.out.have_ hHr).2 fun r => ?_⟩
      have := hof.out r
      omega
    obtain ⟨e, he, hel, hec⟩ := hem
    rw [← he] at him
    have hH1 := Lib.hid (fun W (hW : Below w8.heap.size w8 W) => log_have base pj m' _ _ W (by have := (hM.logs.below hW).each j hjl; rw [hjp, hpj, hjm] at this; exact this) (by omega))
    have hH2 := Lib.hid (fun W (hW : Below w8.heap.size w8 W) => log_have base pi e _ _ W (by have := (hM.logs.below hW).each i hil; rw [hip, hpi, him] at this; exact this) (by omega))
    replace hM := Lib.hid hM
    clear hAc7 ht hat' c0 c1 c2 hgl hbw7 he hjm him hjp hip
    go_wp2_with fail
    refine (hH1.out _ (Below.refl _ _)).mono ?_
    rintro _ w9 ⟨⟨u9, rfl, hO9⟩, hb9⟩
    have hV9 : VecIs w9 u9 _ := ListIs.of_owns hO9
    clear hH1 hO9
    go_wp2_with fail
    refine (hH2.out _ hb9).mono ?_
    rintro _ wa ⟨⟨ua, rfl, hOa⟩, hba⟩
    have hCv := vector_covers u9 ua m'.H e.H wa (hV9.below hba) (ListIs.of_owns hOa) (by omega) (by omega)
    rw [hec] at hCv
    have hb8a := Lib.hid (bch hb9 hba)
    replace hCv := Lib.hid hCv
    clear hH2 hOa hV9 hb9 hba
    go_wp2_with fail
    refine hCv.out.mono ?_
    rintro _ wb ⟨rfl, hbb⟩
    go_wp2
    go_ret
    exact ⟨rfl, l', hM.out.after (bch hb8a.out hbb)⟩
   ·have hbw4 := bch hbw3.out hb4
    clear hb4 c0 c1 c2 hgl hC3
    go_wp2_with fail
    refine (hTl.out _ hbw4).mono ?_
    rintro _ w5 ⟨rfl, hb5⟩
    go_wp2
    go_ret
    exact ⟨rfl, l, hSame.out _ (bch hbw4 hb5)⟩)
 ·have hSi := Lib.hid (fun W fv (hW : Below w.heap.size w W) (hf : VecIs W fv mj.H) => logs_since_no (hL.below hW) (h.below hW) hi pi hpi mi hmi' oki hf (by omega) (.inr hc))
  have hSame := Lib.hid (fun W (hW : Below w.heap.size w W) => Moved.same h P hW)
  go_enter Tryz.func43, Tryz.ntmps43
  go_wp2
  refine wp_loop_rounds 1 ?_
  rw [rounds_succ]
  go_wp2_with fail
  refine hHv.out.mono ?_
  rintro _ w1 ⟨⟨u, rfl, hO⟩, hb1⟩
  go_wp2_with fail
  refine (hSi.out _ _ hb1 (ListIs.of_owns hO)).mono ?_
  rintro _ w2 ⟨⟨c, rfl⟩, hb2⟩
  go_wp2
  go_ret
  exact ⟨rfl, l, hSame.out _ (bch (bch hb1 hb2) (by exact blw))⟩
end Go.Proofs.YtognjohloobliaaGreatDoor
/- Logs that write and send: the walk of party. -/
namespace Go.Proofs.YtognjohloobliaaGreatDoor
open Go.RowKit
set_option linter.unusedVariables false
set_option linter.unusedSimpArgs false
theorem map_ptr {l l' : List LgAt} (h : l'.map LgAt.p = l.map LgAt.p) : l'.map LgAt.ptr = l.map LgAt.ptr := by
 have e : ∀ l : List LgAt, l.map LgAt.ptr = (l.map LgAt.p).map fun p => .pointer (some ⟨p, 0, none⟩) := fun l => by rw [List.map_map]; rfl
 rw [e, e, h]
theorem LogsV.below {w w' : World} {base : Nat} {v : Value} {l : List LgAt} (h : LogsV w base v l) (hb : Below w.heap.size w w') : LogsV w' base v l := ⟨h.logs.below hb, owns_below h.at_ hb⟩
theorem LogsV.moved {w w' : World} {base : Nat} {v : Value} {l l' : List LgAt} {G : List WrB} (h : LogsV w base v l) (hM : Moved w base (fun j => v.ownBlock = some j) l G w' l') : LogsV w' base v l' := by
 refine ⟨hM.logs, ?_⟩
 have hl : l'.length = l.length := by have := congrArg List.length hM.ptrs; simpa using this
 rw [map_ptr hM.ptrs, hl]
 exact owns_only h.at_ hM.only fun k hk ⟨i, hi, hm⟩ => h.logs.free i hi k hm hk
/-- A party in memory: so many logs, of all that was written as much as that. -/
def PartyAt (w : World) (base : Nat) (v : Value) (n k : Nat) (w' : World) : Prop := ∃ l G, LogsV w' base v l ∧ l.length = n ∧ Lg.Party G (l.map LgAt.m) ∧ G.length ≤ k
theorem PartyAt.below {w w1 w2 : World} {base : Nat} {v : Value} {n k : Nat} (h : PartyAt w base v n k w1) (hb : Below w1.heap.size w1 w2) : PartyAt w base v n k w2 := by
 obtain ⟨l, G, h1, h2, h3, h4⟩ := h
 exact ⟨l, G, h1.below hb, h2, h3, h4⟩
set_option maxHeartbeats 8000000 in
set_option maxRecDepth 20000 in
theorem keep_party (n : Nat) (v : Value) (l : List ActB) (w : World) (hL : Laid w) (hn : 1 ≤ n) (hn5 : n ≤ 5) (hv : ListIs actCells 9 w v l) (hl : l.length ≤ 60) :
  Calls Tryz.prog 23 #[.int .i64 n, v] w fun e w' => (∃ u, e = .returned (.tuple #[u, .bool true]) ∧ PartyAt w w.heap.size u n l.length w') ∧ Below w.heap.size w w' := by
 obtain ⟨o, c, rfl, -, hcell⟩ := ListIs.at hv actCells_len
 clear hv
 replace hcell := Lib.hid hcell
 have hLo := Lib.hid (keep_logs n w (by omega))
 go_enter Tryz.func23, Tryz.ntmps23
 go_wp2_with fail
 refine hLo.out.mono ?_
 rintro _ w1 ⟨⟨u, l0, rfl, hV0, hm0⟩, hb1⟩
 have hlen0 : l0.length = n := by have := congrArg List.length hm0; simpa using this
 have hne : u ≠ .slice none 0 0 := fun e => by
  subst e
  rcases hV0.at_.2 with ⟨-, h0⟩ | ⟨g, cap, cur, h0, -⟩
  ·omega
  ·cases h0
 have hO0 := hV0.at_
 rw [hlen0] at hO0
 obtain ⟨g, cap, rfl⟩ := owns_addr hO0 hne
 have hP0 : PartyAt w w.heap.size (.slice (some ⟨g, 0, none⟩) n cap) n 0 w1 := ⟨l0, [], hV0, hlen0, by rw [hm0]; exact Lg.party_new n (by omega), by simp⟩
 replace hP0 := Lib.hid hP0
 replace hb1 := Lib.hid hb1
 clear hV0 hm0 hO0 hne hlen0 hLo
 have hnil : ∀ W, (binOp .eql 51 (.slice (some ⟨g, 0, none⟩) n cap) (.slice none 0 0)).run Tryz.prog W = .ok (.bool false) W := fun W => by rfl
 go_wp2
 go_loopw [17] (fun i wr => ∃ k : Nat, k ≤ l.length ∧ i = .int .i64 k ∧ PartyAt w w.heap.size (.slice (some ⟨g, 0, none⟩) n cap) n k wr ∧ Below w.heap.size w wr) (fun i _ => l.length - (intOf i).toNat)
 case atStart => exact ⟨0, by omega, rfl, hP0.out, hb1.out⟩
 case round =>
  obtain ⟨k, hk, rfl, hP, hb⟩ := hrel
  clear hP0 hb1
  by_cases hlt : k < l.length
  ·obtain ⟨b1, f1, rfl, hb1, hc1⟩ := hcell.out k hlt
   have hb1 := hb1 (by omega)
   have hs := hb.size
   have g1 : ∀ (j : Nat) (u : Value), (actCells l[k])[j]? = some u → wr.cell? ⟨b1, f1 + k * 9 + j, none⟩ = some u := fun j u hu => (hb.cell (p := ⟨b1, f1 + k * 9 + j, none⟩) hb1).trans (hc1 j u hu)
   generalize l[k] = a at *
   obtain ⟨aw, at_, as_, ⟨t, r, kd, key, val, nn⟩⟩ := a
   have d0 : wr.cell? ⟨b1, f1 + k * 9, none⟩ = _ := g1 0 _ rfl
   have d1 := g1 1 _ rfl
   have d2 := g1 2 _ rfl
   have d3 := g1 3 _ rfl
   have d4 := g1 4 _ rfl
   have d5 := g1 5 _ rfl
   have d6 := g1 6 _ rfl
   have d7 := g1 7 _ rfl
   have d8 := g1 8 _ rfl
   have hbw : b1 < wr.heap.size := by omega
   clear g1 hc1
   have hpk1 := Lib.hid (fun W => keep_pick aw n n W rfl (by omega) (by omega))
   have hpk2 := Lib.hid (fun W => keep_pick at_ n n W rfl (by omega) (by omega))
   have hi := pickN_lt aw n (by omega)
   have hj := pickN_lt at_ n (by omega)
   generalize pickN aw n = i at *
   generalize pickN at_ n = j at *
   have hb12 : Below wr.heap.size wr (wr.alloc (Obj.cells #[.int .i64 aw, .int .i64 at_, .bool as_, .int .i64 t, .int .i64 r, .int .i64 kd, .string key, .string val, .int .i64 nn] 88)) := by exact blw
   have hP2 := hP.below hb12
   have hbw2 := bch hb hb12
   have qa := row_at (w := wr) (g := wr.heap.size) #[.int .i64 aw, .int .i64 at_, .bool as_, .int .i64 t, .int .i64 r, .int .i64 kd, .string key, .string val, .int .i64 nn] 88 rfl
   replace hP2 := Lib.hid hP2
   replace hbw2 := Lib.hid hbw2
   replace qa := Lib.hid qa
   clear hP hb hb12
   go_wp2_with fail
   obtain ⟨ga, hga⟩ : ∃ g, g = wr.heap.size := ⟨_, rfl⟩
   rw [← hga] at qa ⊢
   generalize wr.alloc (Obj.cells #[.int .i64 aw, .int .i64 at_, .bool as_, .int .i64 t, .int .i64 r, .int .i64 kd, .string key, .string val, .int .i64 nn] 88) = w2 at *
   clear d0 d1 d2 d3 d4 d5 d6 d7 d8 hbw
   replace qa := qa.out
   obtain ⟨c0, c1, c2, c3, c4, c5, c6, c7, c8⟩ := qa.c9
   have hgl := qa.lt
   replace hga := Lib.hid hga
   replace qa := Lib.hid qa
   obtain ⟨ls, G, hV, hln, hPt, hGl⟩ := hP2.out
   have hO := hV.at_
   rw [hln] at hO
   have e1 : w2.cell? ⟨g, i, none⟩ = some (.pointer (some ⟨(ls[i]'(by omega)).p, 0, none⟩)) := by
    rw [hO.cellAt i (by omega), List.getElem?_map, List.getElem?_eq_getElem (by omega)]; rfl
   have e2 : w2.cell? ⟨g, j, none⟩ = some (.pointer (some ⟨(ls[j]'(by omega)).p, 0, none⟩)) := by
    rw [hO.cellAt j (by omega), List.getElem?_map, List.getElem?_eq_getElem (by omega)]; rfl
   have hgg := (hO.lt g rfl).2
   have hin : (i : Int) < (n : Int) := by omega
   have hjn : (j : Int) < (n : Int) := by omega
   replace hV := Lib.hid hV
   clear hO hP2
   go_quiet (first | (go_at_call 22; with_reducible exact quiet_same (hpk1.out _)) | (go_at_call 22; with_reducible exact quiet_same (hpk2.out _)))
   have hb23 : Below w2.heap.size w2 (w2.drewN nq) := bdn (Below.refl _ _) nq
   generalize w2.drewN nq = w3 at *
   have hV3 := hV.out.below hb23
   have hbw3 := bch hbw2.out hb23
   have qa3 := qa.out.below hb23
   have hil : i < ls.length := by omega
   have hjl : j < ls.length := by omega
   clear hb23 hbw2 qa hV c0 c1 c2 c3 c4 c5 c6 c7 c8 hgl e1 e2 hgg hin hjn hpk1 hpk2
   obtain ⟨c0, c1, c2, c3, c4, c5, c6, c7, c8⟩ := qa3.c9
   have hgl := qa3.lt
   clear qa3
   cases as_ with
   | true =>
    have hPa := Lib.hid (keep_pass (hL.below hbw3) hV3.logs hPt (by omega) (by omega) hil hjl ls[i].p ls[j].p rfl rfl at_)
    replace hV3 := Lib.hid hV3
    replace hbw3 := Lib.hid hbw3
    go_wp2_with fail
    refine hPa.out.mono ?_
    rintro _ w4 ⟨rfl, l', hM⟩
    have hbw4 := Lib.hid (hbw3.out.trans (hM.below hV3.out.logs hbw3.out.size))
    have hP4 : PartyAt w w.heap.size (.slice (some ⟨g, 0, none⟩) n cap) n (k + 1) w4 := ⟨l', G, hV3.out.moved hM, by have := congrArg List.length hM.ptrs; simp at this; omega, hM.party, by omega⟩
    replace hP4 := Lib.hid hP4
    clear hPa hM hV3 hbw3 hPt c0 c1 c2 c3 c4 c5 c6 c7 c8 hgl
    go_wp2
    go_roundw
    case rel => exact ⟨k + 1, by omega, by go_num, hP4.out, hbw4.out⟩
    case measure => simp [intOf]; omega
   | false =>
    have hmi : (ls.map LgAt.m)[i]'(by simpa using hil) = ls[i].m := by simp
    obtain ⟨oki, ai, -⟩ := hPt.ok i (by simpa using hil)
    rw [hmi] at oki ai
    have hLc := Lib.hid (logs_local (hL.below hbw3) hV3.logs hil oki ⟨t, r, kd, key, val, nn⟩)
    replace hV3 := Lib.hid hV3
    replace hbw3 := Lib.hid hbw3
    (try unfold wrBCells at hLc)
    go_wp2_with fail
    refine hLc.out.mono ?_
    intro e w4 hr
    have hr4 : (∃ va, e = .returned va) ∧ (∃ x0 x1, e = .returned (.tuple #[x0, x1])) ∧ PartyAt w w.heap.size (.slice (some ⟨g, 0, none⟩) n cap) n (k + 1) w4 ∧ Below w.heap.size w w4 := by
     unfold LocalTo at hr
     cases hlo : Lg.local_ ls[i].m ⟨t, r, kd, key, val, nn⟩ with
     | inl cc =>
      rw [hlo] at hr
      exact ⟨⟨_, hr.1⟩, ⟨_, _, hr.1⟩, ⟨ls, G, hV3.out.below hr.2, hln, hPt, by omega⟩, bch hbw3.out hr.2⟩
     | inr m' =>
      rw [hlo] at hr
      have hP' := Lg.Party.local_ hPt (i := i) (by simpa using hil) (x := ⟨t, r, kd, key, val, nn⟩) (m' := m') (by rw [hmi]; exact hlo)
      obtain ⟨l', hM, hll, -⟩ := Moved.turned hil hr.2 hP'
      exact ⟨⟨_, hr.1⟩, ⟨_, _, hr.1⟩, ⟨l', _, hV3.out.moved hM, by omega, hM.party, by simp; omega⟩, hbw3.out.trans (hM.below hV3.out.logs hbw3.out.size)⟩
    obtain ⟨-, ⟨x0, x1, rfl⟩, hP4, hbw4⟩ := hr4
    replace hP4 := Lib.hid hP4
    replace hbw4 := Lib.hid hbw4
    clear hr hLc hV3 hbw3 hPt c0 c1 c2 c3 c4 c5 c6 c7 c8 hgl oki ai hmi
    go_wp2
    go_roundw
    case rel => exact ⟨k + 1, by omega, by go_num, hP4.out, hbw4.out⟩
    case measure => simp [intOf]; omega
  ·obtain rfl : k = l.length := by omega
   go_wp2
   go_ret2
   exact ⟨⟨_, rfl, hP⟩, hb⟩
end Go.Proofs.YtognjohloobliaaGreatDoor
