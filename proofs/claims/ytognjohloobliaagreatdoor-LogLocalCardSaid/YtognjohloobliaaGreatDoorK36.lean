/- The walk of body.Write. -/
import Derived.Test.YtognjohloobliaaGreatDoorK24
import Derived.Test.YtognjohloobliaaGreatDoorK35
import Derived.Test.YtognjohloobliaaGreatDoorK22
import Derived.Test.YtognjohloobliaaGreatDoorK08
import Derived.Test.YtognjohloobliaaGreatDoorK25
import Derived.Deep.RegionHeldLaw
namespace Go.Proofs.YtognjohloobliaaGreatDoor
open Go.RowKit
set_option linter.unusedVariables false
set_option linter.unusedSimpArgs false
/-- An append of one element that has just been laid, behind another block. -/
theorem app_one_at {P : Program} {w0 : World} {ops : Array Oper} {rest : List Oper} {o : Oper} {a : Act} {Q : Exit → Act → World → Prop} (hgd : o.guard = none) (s x : Operand) (t e : TypeId)
  (ho : o.op = .call { callee := .builtin .append, args := #[s, x], argTypes := #[t, t] }) (base : Nat) (z : Value) (size bytes : Nat)
  (ht : P.underlying t = some (.slice e)) (hinfo : (P.info? e).map (fun i => (i.zero, i.size, i.bytes)) = some (some z, size, bytes)) (hzs : z.cells.size = size)
  (v : Value) (n : Nat) (xs : List Value) (hs : a.eval s = v) (hown : w0.ownsRow base e size v n xs)
  (us : Array Value) (g : Nat) (hg : g = w0.heap.size) (hx : a.eval x = .slice (some ⟨g, 0, none⟩) 1 1) (hus : us.size = size) (h1 : ∀ u ∈ us.toList, u.oneCell' = true)
  (h63 : n + 1 ≤ 1000000000) (hby : bytes ≤ 1000) (hbase : base ≤ w0.heap.size)
  (h : ∀ v' w', w'.ownsRow base e size v' (n + 1) (xs ++ us.toList) → w0.grownBy w' v.ownBlock → (v'.ownBlock = v.ownBlock ∨ v'.ownBlock = some (w0.heap.size + 1)) → v' ≠ .slice none 0 0 → Below base w0 w' → wpList P ops Q rest (a.put o.dst v') w') :
  wpList P ops Q (o :: rest) a (w0.alloc (.cells us e)) := by
 subst hg
 exact app_one hgd s x t e ho base z size bytes ht hinfo hzs v n xs hs hown us hx hus h1 h63 hby hbase h
theorem table_inj {α β : Type} [DecidableEq α] [DecidableEq β] (g : α → β) (inj : ∀ a b, g a = g b → a = b) (l : List α) : Keys.table (l.map g) = ((Keys.table l).1.map g, (Keys.table l).2) := by
 have hmem : ∀ (T : List α) (k : α), g k ∈ T.map g ↔ k ∈ T := fun T k => by
  rw [List.mem_map]
  exact ⟨fun ⟨x, hx, e⟩ => inj _ _ e ▸ hx, fun h => ⟨k, h, rfl⟩⟩
 have hidx : ∀ (T : List α) (k : α), (T.map g).idxOf (g k) = T.idxOf k := fun T k => by
  induction T with
  | nil => rfl
  | cons x T ih =>
   rw [List.map_cons, List.idxOf_cons, List.idxOf_cons, ih]
   have : (g x == g k) = (x == k) := by
    by_cases e : x = k
    ·subst e; simp
    ·have h1 : (x == k) = false := by simp [e]
     rw [h1]
     simp only [beq_eq_false_iff_ne]
     exact fun h => e (inj _ _ h)
   rw [this]
 have key : ∀ (l : List α) (T : List α) (A : List Nat), (l.map g).foldl Keys.step (T.map g, A) = ((l.foldl Keys.step (T, A)).1.map g, (l.foldl Keys.step (T, A)).2) := by
  intro l
  induction l with
  | nil => intro T A; rfl
  | cons k l ih =>
   intro T A
   rw [List.map_cons, List.foldl_cons, List.foldl_cons]
   have hs : Keys.step (T.map g, A) (g k) = ((Keys.step (T, A) k).1.map g, (Keys.step (T, A) k).2) := by
    unfold Keys.step
    by_cases hk : k ∈ T
    ·have := (hmem T k).2 hk
     simp only [this, hk, if_true, hidx]
    ·have : ¬ g k ∈ T.map g := fun h => hk ((hmem T k).1 h)
     simp only [this, hk, if_false, List.map_append, List.map_cons, List.map_nil, List.length_map]
   rw [hs]
   exact ih _ _
 exact key l [] []
theorem table_map (l : List ByteArray) : Keys.table (l.map (fun s => s.data.toList)) = ((Keys.table l).1.map (fun s => s.data.toList), (Keys.table l).2) := table_inj _ (fun a b h => ba_ext h) l
theorem wtail_len {x : Wr} (h : Wr.right x = 0) : (Wr.tail x).length ≤ 400 := by
 obtain ⟨k1, k2, -, -, -, -, -, h8, h9, h10, h11, h12⟩ := Wr.right_zero h
 have hs : (Span.put x.val).length ≤ 310 := by
  have := Vary.put_len x.val.length (by omega)
  unfold Span.put
  rw [List.length_append]; omega
 unfold Wr.tail
 by_cases c1 : x.k = 1
 ·rw [if_pos c1]; omega
 rw [if_neg c1]
 by_cases c3 : x.k = 3
 ·have := h11 c3
  have := Vary.put_len (Vary.zig x.n) (Vary.zig_lt _ (by omega) (by omega))
  rw [if_pos c3]; omega
 rw [if_neg c3]
 by_cases c4 : x.k = 4
 ·have := h12 c4
  have := Vary.put_len x.n.toNat (by omega)
  rw [if_pos c4, List.length_append]; omega
 rw [if_neg c4]; simp
theorem vec_write_len {l : List Vec.Entry} (h : Vec.right l = .ok) : (Vec.write l).length ≤ 490 := by
 have hF := (Vec.right_iff l).1 h
 have hl := hF.len
 obtain ⟨h1, h2⟩ := Vec.enc_len true 0 l (fun x hx => by have := hF.each x hx; omega) (by omega) (by omega)
 have h3 := Vary.put_len (Vec.enc true 0 l).1 (by omega)
 unfold Vec.write
 rw [List.length_append]
 omega
theorem keys_len (T : List ByteArray) (h : ∀ k ∈ T, k.size ≤ 40) : (T.flatMap (fun s => Span.put s.data.toList)).length ≤ 50 * T.length := by
 induction T with
 | nil => simp
 | cons k T ih =>
  have h1 := ih (fun x hx => h x (List.mem_cons_of_mem _ hx))
  have h2 := h k (List.mem_cons_self ..)
  have h3 : k.data.toList.length = k.size := Array.length_toList
  have h4 := Vary.put_len k.data.toList.length (by omega)
  rw [List.flatMap_cons, List.length_append, List.length_cons]
  unfold Span.put
  unfold Span.put at h1
  rw [List.length_append]
  omega
theorem plain_keys (ws : List WrB) : (ws.map WrB.plain).map (·.key) = (ws.map (·.key)).map (fun s : ByteArray => s.data.toList) := by
 rw [List.map_map, List.map_map]; rfl
/-- What the body is. -/
def bodyOf (f h : List Vec.Entry) (ws : List WrB) : List UInt8 := Body.write f h (ws.map WrB.plain)
theorem body_parts (f h : List Vec.Entry) (ws : List WrB) : bodyOf f h ws = (((Vec.write f ++ Vec.write h) ++ Vary.put (Keys.table (ws.map (·.key))).1.length) ++ (Keys.table (ws.map (·.key))).1.flatMap (fun s => Span.put s.data.toList)) ++ Vary.put ws.length ++ Body.encW h 0 (ws.map WrB.plain) (Keys.table (ws.map (·.key))).2 := by
 unfold bodyOf Body.write Body.enc
 rw [plain_keys, table_map]
 simp only [List.length_map, List.flatMap_map, List.append_assoc]
theorem ok_cons {h : List Vec.Entry} {T : List (List UInt8)} {prev : Int} {x : Wr} {ws : List Wr} {i : Nat} {A : List Nat} (ho : Body.Ok h T prev (x :: ws) (i :: A)) :
  Wr.right x = 0 ∧ Body.place h x.r < h.length ∧ (h[Body.place h x.r]?.map (·.r)) = some x.r ∧ prev ≤ x.t ∧ i < T.length ∧ Body.Ok h T x.t ws A := by
 obtain ⟨r1, r2, r3, r4⟩ := ho.right x (List.mem_cons_self ..)
 obtain ⟨k1, k2⟩ := ho.keys 0 x i rfl rfl
 obtain ⟨o1, o2⟩ := List.pairwise_cons.1 ho.order
 exact ⟨r1, r2, r3, r4, k1, by have := ho.len; simpa using this, fun y hy => ⟨(ho.right y (List.mem_cons_of_mem _ hy)).1, (ho.right y (List.mem_cons_of_mem _ hy)).2.1, (ho.right y (List.mem_cons_of_mem _ hy)).2.2.1, o1 y hy⟩, o2, fun j y a h1 h2 => ho.keys (j + 1) y a h1 h2⟩
abbrev wr_ (t r k : Int) (key val : ByteArray) (n : Int) : Wr := wr t r k key val n
/-- What the drawn region reads. -/
def BC (g bA oA q : Nat) (t r kd : Int) (a : Nat) (vh : Value) (W2 W : World) : Prop := Below W2.heap.size W2 W ∧ W.cell? ⟨g, 0, none⟩ = some (.int .i64 t) ∧ W.cell? ⟨g, 1, none⟩ = some (.int .i64 r) ∧ W.cell? ⟨g, 2, none⟩ = some (.int .i64 kd) ∧ W.cell? ⟨q, 1, none⟩ = some vh ∧ W.cell? ⟨bA, oA, none⟩ = some (.int .i64 a)
theorem BC.below {g bA oA q : Nat} {t r kd : Int} {a : Nat} {vh : Value} {W2 W W' : World} (h : BC g bA oA q t r kd a vh W2 W) (hb : Below W.heap.size W W') : BC g bA oA q t r kd a vh W2 W' :=
 ⟨bch h.1 hb, cell_below hb h.2.1, cell_below hb h.2.2.1, cell_below hb h.2.2.2.1, cell_below hb h.2.2.2.2.1, cell_below hb h.2.2.2.2.2⟩
theorem BC.alloc {g bA oA q : Nat} {t r kd : Int} {a : Nat} {vh : Value} {W2 W : World} (h : BC g bA oA q t r kd a vh W2 W) (o : Obj) : BC g bA oA q t r kd a vh W2 (W.alloc o) := h.below (bal (Below.refl _ _) o)
theorem str_one (W0 : World) (b : UInt8) (kn : Nat) (hb : b.toNat = kn) (g : Nat) (hg : g = W0.heap.size) (W : World) (hW : Below (W0.alloc (.cells #[.int .u8 kn] 5)).heap.size (W0.alloc (.cells #[.int .u8 kn] 5)) W) :
  Sem.run Tryz.prog (convert 121 9 (.slice (some ⟨g, 0, none⟩) 1 1)) W = .ok (.string ⟨#[b]⟩) W := by
 subst hg; subst hb
 exact str_of_row ((row_alloc W0 #[.int .u8 b.toNat] 5).below hW) (l := [b]) 121 9 Tryz.underlying121 Tryz.underlying5 Tryz.underlying9 1 1 rfl
set_option maxHeartbeats 4000000 in
set_option maxRecDepth 20000 in
theorem body_write_bad (vf vh vw : Value) (f h : List Vec.Entry) (ws : List WrB) (w : World) (hL : Laid w) (hf : VecIs w vf f) (hh : VecIs w vh h) (hw : WrsIs w vw ws) (hlf : f.length ≤ 140737488351232) (hlh : h.length ≤ 140737488351232) (hlw : ws.length ≤ 140737488351232) (hbad : Bat.right f h (ws.map WrB.plain) ≠ .ok) :
  Calls Tryz.prog 66 #[.agg #[vf, vh, vw]] w fun e w' => (∃ E, e = .returned (.tuple #[.string ⟨#[]⟩, E]) ∧ ErrRep w' E (Bat.right f h (ws.map WrB.plain))) ∧ Below w.heap.size w w' := by
 have hR := fun W (hW : Below w.heap.size w W) => batch_right vf vh vw f h ws W (hL.below hW) (hf.below hW) (hh.below hW) (hw.below hW) hlf hlh hlw
 obtain ⟨o1, n1, e1, -, -⟩ := hf.list.at entCells_len
 obtain ⟨o2, n2, e2, -, -⟩ := hh.list.at entCells_len
 obtain ⟨o3, n3, e3, -, -⟩ := ListIs.at hw wrBCells_len
 clear hf hh hw
 subst e1 e2 e3
 replace hR := Lib.hid hR
 go_enter Tryz.func66, Tryz.ntmps66
 go_wp2_with fail
 have hb1 := bal (Below.refl w.heap.size w) (Obj.cells #[.slice o1 f.length n1, .slice o2 h.length n2, .slice o3 ws.length n3] 25)
 generalize w.alloc (Obj.cells #[.slice o1 f.length n1, .slice o2 h.length n2, .slice o3 ws.length n3] 25) = w1 at *
 refine (hR.out _ hb1).mono ?_
 rintro _ w2 ⟨v, rfl, hv, hb2⟩
 obtain ⟨x, hx⟩ : ∃ x, x = Bat.right f h (ws.map WrB.plain) := ⟨_, rfl⟩
 rw [← hx] at hv hbad
 have key : ∀ t u, v = .iface t u → ErrRep w2 v x := fun _ _ _ => hv
 have hvi : ∃ t u, v = .iface t u := by
  cases x with
  | ok => exact absurd rfl hbad
  | no n => exact ⟨_, _, hv⟩
  | at_ n i => obtain ⟨g, h9, -⟩ := hv; exact ⟨_, _, h9⟩
 obtain ⟨t, u, rfl⟩ := hvi
 replace hv := Lib.hid hv
 replace hx := Lib.hid hx
 clear key hbad
 go_wp2
 go_ret2
 exact ⟨⟨_, rfl, by rw [← hx.out]; exact hv.out⟩, bch hb1 hb2⟩
theorem byWBodyW1 {p : Prop} (h : p := by
 (refine tdoO 28 (fun K hK => ?_); ((go_simp; refine (hP3.out _).mono ?_; rintro _ wn ⟨rfl, hbn⟩); refine hK.out _ _ ?_ (fun hHeld => ?_); ((try dsimp only); exact ⟨BC.below hHeld.1 hbn, bch hHeld.2 hbn⟩); clear hK K; (try clear hHeld0); (try rename_i hHeld0)))
 (refine tkO 29 ?_; refine tkO 31 ?_; refine tkO 32 ?_; refine tkO 33 ?_)
 (refine wpAnyH_done (by kernel_rfl) ?_ _)
 have hf1 := hHeld.1.1
 have hf2 := hHeld.1.2.1
 clear hHeld hs1 hs2 hs3 hs4 hs5 hcat2 hP1 hP2 hP3 hPc hstr hsub hdw hkw haw hplw
 go_wp2
 go_roundw
 case rel => exact ⟨k + 1, tn, X ++ on, by omega, by go_num, rfl, rfl, by rw [← hX.out, List.append_assoc], ho2.out, by rw [List.length_append]; omega, by omega, bch hbB hf1⟩
 case measure => simp [intOf]; omega) : p := h
theorem byWBodyW2 {p : Prop} (h : p := by
 (refine tkO 13 ?_)
 (refine tdoO 19 (fun K hK => ?_); ((go_simp; refine (hPc.out _ (by first | exact hHeld.1.1 | exact hHeld.1)).mono ?_; rintro _ wn ⟨rfl, hbn⟩); refine hK.out _ _ ?_ (fun hHeld => ?_); ((try dsimp only); exact ⟨BC.below hHeld.1 hbn, bch hHeld.2 hbn⟩); clear hK K; (try clear hHeld0); (try rename_i hHeld0)))
 (refine tkO 20 ?_)
 (refine tdoO 21 (fun K hK => ?_); ((go_simp; refine (hP2.out _).mono ?_; rintro _ wn ⟨rfl, hbn⟩); refine hK.out _ _ ?_ (fun hHeld => ?_); ((try dsimp only); exact ⟨BC.below hHeld.1 hbn, bch hHeld.2 hbn⟩); clear hK K; (try clear hHeld0); (try rename_i hHeld0)))
 (refine tkO 22 ?_)
 exact byWBodyW1) : p := h
set_option maxHeartbeats 8000000 in
set_option maxRecDepth 20000 in
theorem body_write_ok (vf vh vw : Value) (f h : List Vec.Entry) (ws : List WrB) (w : World) (hL : Laid w) (hf : VecIs w vf f) (hh : VecIs w vh h) (hw : WrsIs w vw ws) (hlf : f.length ≤ 140737488351232) (hlh : h.length ≤ 140737488351232) (hlw : ws.length ≤ 140737488351232) (hok : Bat.right f h (ws.map WrB.plain) = .ok) :
  Calls Tryz.prog 66 #[.agg #[vf, vh, vw]] w fun e w' => e = .returned (if 20000 < (bodyOf f h ws).length then .tuple #[.string ⟨#[]⟩, errV 4] else .tuple #[.string ⟨(bodyOf f h ws).toArray⟩, .nilIface]) ∧ Below w.heap.size w w' := by
 have hR := fun W (hW : Below w.heap.size w W) => batch_right vf vh vw f h ws W (hL.below hW) (hf.below hW) (hh.below hW) (hw.below hW) hlf hlh hlw
 rw [hok] at hR
 have hF := (Bat.right_iff _ _ _).1 hok
 have hl60 := hF.len
 rw [List.length_map] at hl60
 have hVf := fun W (hW : Below w.heap.size w W) => vector_write_ok vf f W (hf.below hW) hF.from_
 have hVh := fun W (hW : Below w.heap.size w W) => vector_write_ok vh h W (hh.below hW) hF.have_
 have hPl := fun r W (hW : Below w.heap.size w W) => body_place vh h r W (hh.below hW) hlh
 have hTb := fun v W hv => keys_table v (ws.map (·.key)) W hv (fun x hx => by
  obtain ⟨y, hy, rfl⟩ := List.mem_map.1 hx
  obtain ⟨-, -, -, -, -, -, h7, -⟩ := Wr.right_zero (hF.each y.plain (List.mem_map_of_mem hy)).1
  have : y.key.size = y.plain.key.length := (ba_len _).symm
  omega) (by rw [List.length_map]; omega)
 have hpar := body_parts f h ws
 have hvl1 := vec_write_len hF.from_
 have hvl2 := vec_write_len hF.have_
 have hkl : ∀ k ∈ (Keys.table (ws.map (·.key))).1, k.size ≤ 40 := fun k hk => by
  rw [Keys.mem_table] at hk
  obtain ⟨y, hy, rfl⟩ := List.mem_map.1 hk
  obtain ⟨-, -, -, -, -, -, h7, -⟩ := Wr.right_zero (hF.each y.plain (List.mem_map_of_mem hy)).1
  have : y.key.size = y.plain.key.length := (ba_len _).symm
  omega
 have hTl := Keys.table_len (ws.map (·.key))
 rw [List.length_map] at hTl
 have hAl := (Keys.is_table (ws.map (·.key))).len
 rw [List.length_map] at hAl
 have hAlt := (Keys.is_table (ws.map (·.key))).lt
 have hO := Body.ok_of hF
 rw [plain_keys, table_map] at hO
 simp only at hO
 obtain ⟨o1, n1, e1, -, -⟩ := hf.list.at entCells_len
 obtain ⟨o2, n2, e2, -, -⟩ := hh.list.at entCells_len
 obtain ⟨o3, n3, e3, -, hcell⟩ := ListIs.at hw wrBCells_len
 clear hf hh hw
 subst e1 e2 e3
 obtain ⟨BO, hBO⟩ : ∃ BO, BO = bodyOf f h ws := ⟨_, rfl⟩
 rw [← hBO] at hpar ⊢
 obtain ⟨RV, hRV⟩ : ∃ v, v = (if 20000 < BO.length then Value.tuple #[.string ⟨#[]⟩, errV 4] else Value.tuple #[.string ⟨BO.toArray⟩, .nilIface]) := ⟨_, rfl⟩
 rw [← hRV]
 replace hRV := Lib.hid hRV
 generalize hTT : (Keys.table (ws.map (·.key))).1 = T at *
 generalize hAA : (Keys.table (ws.map (·.key))).2 = A at *
 replace hcell := Lib.hid hcell
 replace hR := Lib.hid hR
 replace hVf := Lib.hid hVf
 replace hVh := Lib.hid hVh
 replace hPl := Lib.hid hPl
 replace hTb := Lib.hid hTb
 replace hpar := Lib.hid hpar
 replace hkl := Lib.hid hkl
 replace hAlt := Lib.hid hAlt
 replace hO := Lib.hid hO
 replace hF := Lib.hid hF
 replace hok := Lib.hid hok
 replace hAl := Lib.hid hAl
 clear hBO
 go_enter Tryz.func66, Tryz.ntmps66
 go_wp2_with fail
 have q0 := row_at #[.slice o1 f.length n1, .slice o2 h.length n2, .slice o3 ws.length n3] 25 (rfl : w.heap.size = w.heap.size)
 have hb1 := bal (Below.refl w.heap.size w) (Obj.cells #[.slice o1 f.length n1, .slice o2 h.length n2, .slice o3 ws.length n3] 25)
 have hs1 : (w.alloc (Obj.cells #[.slice o1 f.length n1, .slice o2 h.length n2, .slice o3 ws.length n3] 25)).heap.size = w.heap.size + 1 := by simp
 generalize w.alloc (Obj.cells #[.slice o1 f.length n1, .slice o2 h.length n2, .slice o3 ws.length n3] 25) = w1 at *
 refine (hR.out _ hb1).mono ?_
 rintro _ w2 ⟨v, rfl, hv, hb2⟩
 have hv : v = .nilIface := hv
 subst hv
 replace q0 := q0.below hb2
 replace hb1 := bch hb1 hb2
 replace hs1 : w.heap.size + 1 ≤ w2.heap.size := by have := hb2.size; omega
 clear hb2 hR
 obtain ⟨c0, c1, c2⟩ := q0.c3
 go_wp2_with fail
 refine (hVf.out _ hb1).mono ?_
 rintro _ w3 ⟨rfl, hb2⟩
 replace q0 := q0.below hb2
 replace hb1 := bch hb1 hb2
 replace hs1 : w.heap.size + 1 ≤ w3.heap.size := by have := hb2.size; omega
 clear hb2 hVf c0 c1 c2
 obtain ⟨c0, c1, c2⟩ := q0.c3
 go_wp2_with fail
 refine (hVh.out _ hb1).mono ?_
 rintro _ w4 ⟨rfl, hb2⟩
 replace q0 := q0.below hb2
 replace hb1 := bch hb1 hb2
 replace hs1 : w.heap.size + 1 ≤ w4.heap.size := by have := hb2.size; omega
 clear hb2 hVh c0 c1 c2
 obtain ⟨c0, c1, c2⟩ := q0.c3
 go_wp2_with fail
 have hb4 := hb1
 obtain ⟨base, hbase⟩ : ∃ b, b = w4.heap.size := ⟨_, rfl⟩
 have hB0 : Below base w4 w4 := Below.refl _ _
 go_loopw [9, 44] (fun s i wr => ∃ k : Nat, k ≤ ws.length ∧ i = .int .i64 k ∧ wr.ownsRow base 9 1 s k (((ws.take k).map (·.key)).flatMap strCells) ∧ Below base w4 wr) (fun _ i _ => ws.length - (intOf i).toNat)
 case atStart => exact ⟨0, by omega, rfl, by simpa using World.ownsRow_nil w4 base 9 1, hB0⟩
 case round =>
  obtain ⟨k, hk, rfl, hown, hbel⟩ := hrel
  have hszr := hbel.size
  have d0 : wr.cell? ⟨w.heap.size, 0, none⟩ = some (.slice o1 f.length n1) := (hbel.cell (p := ⟨w.heap.size, 0, none⟩) (by show w.heap.size < base; omega)).trans c0
  have d1 : wr.cell? ⟨w.heap.size, 1, none⟩ = some (.slice o2 h.length n2) := (hbel.cell (p := ⟨w.heap.size, 1, none⟩) (by show w.heap.size < base; omega)).trans c1
  have d2 : wr.cell? ⟨w.heap.size, 2, none⟩ = some (.slice o3 ws.length n3) := (hbel.cell (p := ⟨w.heap.size, 2, none⟩) (by show w.heap.size < base; omega)).trans c2
  have hbw : Below w.heap.size w wr := hb4.trans (hbel.mono (by omega))
  by_cases hlt : k < ws.length
  ·obtain ⟨b1, f1, rfl, hbl1, hx⟩ := hcell.out k hlt
   have x0 : wr.cell? ⟨b1, f1 + k * 6, none⟩ = some (.int .i64 ws[k].t) := cell_below hbw (hx 0 _ rfl)
   have x1 : wr.cell? ⟨b1, f1 + k * 6 + 1, none⟩ = some (.int .i64 ws[k].r) := cell_below hbw (hx 1 _ rfl)
   have x2 : wr.cell? ⟨b1, f1 + k * 6 + 2, none⟩ = some (.int .i64 ws[k].k) := cell_below hbw (hx 2 _ rfl)
   have x3 : wr.cell? ⟨b1, f1 + k * 6 + 3, none⟩ = some (.string ws[k].key) := cell_below hbw (hx 3 _ rfl)
   have x4 : wr.cell? ⟨b1, f1 + k * 6 + 4, none⟩ = some (.string ws[k].val) := cell_below hbw (hx 4 _ rfl)
   have x5 : wr.cell? ⟨b1, f1 + k * 6 + 5, none⟩ = some (.int .i64 ws[k].n) := cell_below hbw (hx 5 _ rfl)
   clear hx hbl1
   have hsn : Hid (((ws.take k).map (·.key)).flatMap strCells ++ [.string ws[k].key] = ((ws.take (k + 1)).map (·.key)).flatMap strCells) := Lib.hid (by rw [List.take_succ_eq_append_getElem hlt, List.map_append, List.flatMap_append]; rfl)
   generalize ws[k] = x at *
   have hal := row_alloc wr #[.int .i64 x.t, .int .i64 x.r, .int .i64 x.k, .string x.key, .string x.val, .int .i64 x.n] 33
   have hbA : Below wr.heap.size wr (wr.alloc (.cells #[.int .i64 x.t, .int .i64 x.r, .int .i64 x.k, .string x.key, .string x.val, .int .i64 x.n] 33)) := bal (Below.refl _ _) _
   have y3 : (wr.alloc (.cells #[.int .i64 x.t, .int .i64 x.r, .int .i64 x.k, .string x.key, .string x.val, .int .i64 x.n] 33)).cell? ⟨wr.heap.size, 3, none⟩ = some (.string x.key) := hal.cell 3
   have hownA := owns_below hown hbA
   have hbelA := hbel.trans (hbA.mono (by omega))
   have hsA := hbA.size
   have hsA2 : base ≤ (wr.alloc (.cells #[.int .i64 x.t, .int .i64 x.r, .int .i64 x.k, .string x.key, .string x.val, .int .i64 x.n] 33)).heap.size := by omega
   have hsA3 : Hid (wr.heap.size + 1 = (wr.alloc (.cells #[.int .i64 x.t, .int .i64 x.r, .int .i64 x.k, .string x.key, .string x.val, .int .i64 x.n] 33)).heap.size) := Lib.hid (by simp)
   clear hal hown
   go_wp2_with (first
    | (at_builtin; go_must (refine app_one_at rfl _ _ 145 9 rfl base (.string ⟨#[]⟩) 1 16 Tryz.underlying145 (by kernel_rfl) rfl _ _ _ rfl hownA _ _ hsA3.out rfl rfl ?_ (by omega) (by omega) hsA2 ?_); (focus (first | exact ⟨rfl, rfl⟩ | rfl | simp [Value.oneCell'])); intro v5 w5 hown5 hg5 hbk5 hne5 hb5; replace hown5 := Lib.hid hown5; replace hg5 := Lib.hid hg5; replace hb5 := Lib.hid hb5; replace hbk5 := Lib.hid hbk5))
   go_roundw
   case rel => exact ⟨k + 1, by omega, by go_num, by rw [← hsn.out]; exact hown5.out, hbelA.trans hb5.out⟩
   case measure => simp [intOf]; omega
  ·obtain rfl : k = ws.length := by omega
   rw [List.take_length] at hown
   have hvN : StrsIs wr _ (ws.map (·.key)) := ListIs.of_owns (by rw [List.length_map]; exact hown)
   have hT1 := Lib.hid (hTb.out _ wr hvN)
   obtain ⟨oN, cN, rfl, -, -⟩ := hvN.at strCells_len
   rw [List.length_map] at hT1
   clear hown hvN hTb c0 c1 c2
   go_wp2_with fail
   refine hT1.out.mono ?_
   rintro _ wt ⟨⟨vt, va, rfl, ht, ha⟩, hbt⟩
   have hBt := bch hbw hbt
   replace d0 := cell_below hbt d0
   replace d1 := cell_below hbt d1
   replace d2 := cell_below hbt d2
   obtain ⟨oT, cT, rfl, -, hct⟩ := ht.at strCells_len
   obtain ⟨oA, cA, rfl, -, hca⟩ := ha.at intCells_len
   have hil0 : (Keys.ints A).length = A.length := by unfold Keys.ints; rw [List.length_map]
   rw [hil0]
   clear hil0
   replace hct := Lib.hid hct
   replace hca := Lib.hid hca
   clear ht ha hT1
   have hpT := Vary.put_len T.length (by omega)
   have hwT : IntKind.u64.wrap (T.length : Int) = (T.length : Int) := by rw [IntKind.wrap_u64]; omega
   have hP1 := Lib.hid (fun W => vary_put T.length W (by omega))
   go_wp2_with fail
   refine (hP1.out _).mono ?_
   rintro _ wu ⟨rfl, hbu⟩
   have hBu := bch hBt hbu
   replace d0 := cell_below hbu d0
   replace d1 := cell_below hbu d1
   replace d2 := cell_below hbu d2
   obtain ⟨acc0, hacc0⟩ : ∃ l, l = (Vec.write f ++ Vec.write h) ++ Vary.put T.length := ⟨_, rfl⟩
   have hst0 : (⟨(Vec.write f).toArray⟩ ++ ⟨(Vec.write h).toArray⟩ ++ ⟨(Vary.put T.length).toArray⟩ : ByteArray) = ⟨acc0.toArray⟩ := by rw [bytes_cat, bytes_cat, hacc0]
   replace hacc0 := Lib.hid hacc0
   clear hP1
   go_wp2_with fail
   go_loopw [14, 69] (fun o i wz => ∃ k : Nat, k ≤ T.length ∧ i = .int .i64 k ∧ o = .string ⟨(acc0 ++ (T.take k).flatMap (fun s => Span.put s.data.toList)).toArray⟩ ∧ Below wu.heap.size wu wz) (fun _ i _ => T.length - (intOf i).toNat)
   case atStart => exact ⟨0, by omega, rfl, by simp, by exact blw⟩
   case round =>
    obtain ⟨k, hk, rfl, rfl, hbz⟩ := hrel
    have hl0 : acc0.length ≤ 1000 := by rw [hacc0.out, List.length_append, List.length_append]; omega
    have hkk := keys_len (T.take k) (fun x hx => hkl.out x (List.mem_of_mem_take hx))
    rw [List.length_take] at hkk
    by_cases hlt : k < T.length
    ·obtain ⟨b1, f1, rfl, -, hc1⟩ := hct.out k hlt
     have e0 : wr.cell? ⟨b1, f1 + k, none⟩ = some (.string T[k]) := cell_below hbz (cell_below hbu (by have := hc1 0 _ rfl; simpa using this))
     clear hc1
     have hsz := hkl.out T[k] (List.getElem_mem hlt)
     have hSp := Lib.hid (fun W => span_put T[k] W (by omega))
     have hpl : (Span.put T[k].data.toList).length ≤ 50 := by
      have h3 : T[k].data.toList.length = T[k].size := Array.length_toList
      have h4 := Vary.put_len T[k].data.toList.length (by omega)
      unfold Span.put
      rw [List.length_append]; omega
     have hsn : acc0 ++ (T.take (k + 1)).flatMap (fun s => Span.put s.data.toList) = (acc0 ++ (T.take k).flatMap (fun s => Span.put s.data.toList)) ++ Span.put T[k].data.toList := by
      rw [List.take_succ_eq_append_getElem hlt, List.flatMap_append, List.append_assoc]
      simp
     have hal : (acc0 ++ (T.take k).flatMap (fun s => Span.put s.data.toList)).length ≤ 5000 := by rw [List.length_append]; omega
     generalize acc0 ++ (T.take k).flatMap (fun s => Span.put s.data.toList) = ac at *
     generalize hac1 : acc0 ++ (T.take (k + 1)).flatMap (fun s => Span.put s.data.toList) = ac1 at *
     replace hac1 := Lib.hid hac1
     generalize Span.put T[k].data.toList = sp at *
     have hcat := bytes_cat ac sp
     rw [← hsn] at hcat
     replace hsn := Lib.hid hsn
     generalize T[k] = key at *
     go_wp2_with fail
     refine (hSp.out _).mono ?_
     rintro _ w9 ⟨rfl, hb9⟩
     go_wp2
     go_roundw
     case rel => exact ⟨k + 1, by omega, by go_num, by rw [hac1.out], bch hbz hb9⟩
     case measure => simp [intOf]; omega
    ·obtain rfl : k = T.length := by omega
     rw [List.take_length] at hkk ⊢
     generalize hac : acc0 ++ T.flatMap (fun s => Span.put s.data.toList) = ac at *
     have hacl : ac.length ≤ 5000 := by rw [← hac, List.length_append]; omega
     replace hac := Lib.hid hac
     have hBz := bch hBu hbz
     replace d0 := cell_below hbz d0
     replace d1 := cell_below hbz d1
     replace d2 := cell_below hbz d2
     have hwW : IntKind.u64.wrap (ws.length : Int) = (ws.length : Int) := by rw [IntKind.wrap_u64]; omega
     have hP2 := Lib.hid (fun W => vary_put ws.length W (by omega))
     have hpW := Vary.put_len ws.length (by omega)
     have hca2 := Lib.hid (fun k (hk : k < A.length) => (show ∃ b off, oA = some ⟨b, off, none⟩ ∧ wr.cell? ⟨b, off + k, none⟩ = some (.int .i64 A[k]) from by
      obtain ⟨b1, f1, e, -, hc1⟩ := hca.out k (by unfold Keys.ints; rw [List.length_map]; exact hk)
      refine ⟨b1, f1, e, cell_below hbz (cell_below hbu ?_)⟩
      have := hc1 0 _ rfl
      simpa [Keys.ints] using this))
     clear hca hct hbt hbu hkk
     go_wp2_with fail
     refine (hP2.out _).mono ?_
     rintro _ w9 ⟨rfl, hb9⟩
     have hB9 := bch hBz hb9
     replace d0 := cell_below hb9 d0
     replace d1 := cell_below hb9 d1
     replace d2 := cell_below hb9 d2
     have hca3 := Lib.hid (fun k (hk : k < A.length) => (show ∃ b off, oA = some ⟨b, off, none⟩ ∧ w9.cell? ⟨b, off + k, none⟩ = some (.int .i64 A[k]) from by
      obtain ⟨b1, f1, e, hc1⟩ := hca2.out k hk
      exact ⟨b1, f1, e, cell_below hb9 hc1⟩))
     have hcat := bytes_cat ac (Vary.put ws.length)
     generalize hag : ac ++ Vary.put ws.length = ag at *
     have hagl : ag.length ≤ 6000 := by rw [← hag, List.length_append]; omega
     replace hag := Lib.hid hag
     clear hca2 hP2
     go_wp2_with fail
     have hO0 := hO.out
     clear hb4
     have hb9w := hB9
     obtain ⟨tm0, htm0⟩ : ∃ z : Nat, z = 0 := ⟨0, rfl⟩
     go_loopw [14, 19, 92] (fun o tm i wr => ∃ (k pn : Nat) (X : List UInt8), k ≤ ws.length ∧ i = .int .i64 k ∧ tm = .int .i64 pn ∧ o = .string ⟨(ag ++ X).toArray⟩ ∧ X ++ Body.encW h pn ((ws.drop k).map WrB.plain) (A.drop k) = Body.encW h 0 (ws.map WrB.plain) A ∧ Body.Ok h (T.map (fun s => s.data.toList)) pn ((ws.drop k).map WrB.plain) (A.drop k) ∧ X.length ≤ 500 * k ∧ pn ≤ 1099511627776 ∧ Below w9.heap.size w9 wr) (fun _ _ i _ => ws.length - (intOf i).toNat)
     case atStart => exact ⟨0, 0, [], by omega, rfl, rfl, by simp, by simp, by simpa using hO0, by simp, by omega, by exact blw⟩
     case round =>
      obtain ⟨k, pn, X, hk, rfl, rfl, rfl, hX, ho, hXl, hpn, hbz⟩ := hrel
      have hBr := bch hB9 hbz
      replace d0 := cell_below hbz d0
      replace d1 := cell_below hbz d1
      replace d2 := cell_below hbz d2
      by_cases hlt : k < ws.length
      ·obtain ⟨b1, f1, rfl, hbl1, hx⟩ := hcell.out k hlt
       have x0 : wr.cell? ⟨b1, f1 + k * 6, none⟩ = some (.int .i64 ws[k].t) := cell_below hBr (hx 0 _ rfl)
       have x1 : wr.cell? ⟨b1, f1 + k * 6 + 1, none⟩ = some (.int .i64 ws[k].r) := cell_below hBr (hx 1 _ rfl)
       have x2 : wr.cell? ⟨b1, f1 + k * 6 + 2, none⟩ = some (.int .i64 ws[k].k) := cell_below hBr (hx 2 _ rfl)
       have x3 : wr.cell? ⟨b1, f1 + k * 6 + 3, none⟩ = some (.string ws[k].key) := cell_below hBr (hx 3 _ rfl)
       have x4 : wr.cell? ⟨b1, f1 + k * 6 + 4, none⟩ = some (.string ws[k].val) := cell_below hBr (hx 4 _ rfl)
       have x5 : wr.cell? ⟨b1, f1 + k * 6 + 5, none⟩ = some (.int .i64 ws[k].n) := cell_below hBr (hx 5 _ rfl)
       have hAk : k < A.length := by rw [hAl.out]; exact hlt
       obtain ⟨bA, fA, rfl, a0⟩ := hca3.out k hAk
       replace a0 := cell_below hbz a0
       clear hx hbl1
       rw [List.drop_eq_getElem_cons hlt, List.map_cons, List.drop_eq_getElem_cons hAk] at hX ho
       rw [Body.encW] at hX
       obtain ⟨g1, g2, g3, g4, g5, g6⟩ := ok_cons ho
       obtain ⟨k1, k2, t1, t2, -⟩ := Wr.right_zero g1
       have htl := Lib.hid (fun W => write_tail_ok ws[k].t ws[k].r ws[k].k ws[k].key ws[k].val ws[k].n W g1)
       have htll := wtail_len g1
       obtain ⟨av, hav⟩ : ∃ av, av = A[k] := ⟨_, rfl⟩
       rw [← hav] at a0 g5 hX
       replace hav := Lib.hid hav
       obtain ⟨tl, htl0⟩ : ∃ tl, tl = Wr.tail (ws[k].plain) := ⟨_, rfl⟩
       have htl1 : Wr.tail (wr_ ws[k].t ws[k].r ws[k].k ws[k].key ws[k].val ws[k].n) = tl := by rw [htl0]; rfl
       rw [htl1] at htl
       obtain ⟨on, hon⟩ : ∃ on, on = Body.one h pn ws[k].plain av := ⟨_, rfl⟩
       rw [← hon] at hX
       rw [← htl0] at htll
       clear htl1
       have hon2 : on = UInt8.ofNat ws[k].k.toNat :: (Vary.put (ws[k].t - pn).toNat ++ (Vary.put (Body.place h ws[k].r) ++ (Vary.put av ++ tl))) := by rw [hon, htl0]; rfl
       clear hon htl0 g1
       replace g4 : (pn : Int) ≤ ws[k].t := g4
       replace k1 : 1 ≤ ws[k].k := k1
       replace k2 : ws[k].k ≤ 4 := k2
       replace t1 : 1 ≤ ws[k].t := t1
       replace t2 : ws[k].t ≤ 1099511627776 := t2
       replace g2 : Body.place h ws[k].r < h.length := g2
       have hX' := hX
       have ho2' : Body.Ok h (T.map (fun s => s.data.toList)) ws[k].t ((ws.drop (k + 1)).map WrB.plain) (A.drop (k + 1)) := g6
       have hXt : X ++ (on ++ Body.encW h ws[k].t ((ws.drop (k + 1)).map WrB.plain) (A.drop (k + 1))) = Body.encW h 0 (ws.map WrB.plain) A := hX
       clear hX hX' ho g6 g3
       generalize ws[k] = x at *
       obtain ⟨xt, xr, xk, xkey, xval, xn⟩ := x
       dsimp only at x0 x1 x2 x3 x4 x5 k1 k2 t1 t2 g2 g4 htl hon2 ho2' hXt
       obtain ⟨tn, rfl⟩ : ∃ tn : Nat, xt = tn := ⟨xt.toNat, by omega⟩
       obtain ⟨kn, rfl⟩ : ∃ kn : Nat, xk = kn := ⟨xk.toNat, by omega⟩
       obtain ⟨dn, hdn⟩ : ∃ dn : Nat, dn = tn - pn := ⟨_, rfl⟩
       have hsub : IntKind.i64.wrap ((tn : Int) - (pn : Int)) = (dn : Int) := by rw [IntKind.wrap_i64]; omega
       have hdw : IntKind.u64.wrap (dn : Int) = (dn : Int) := by rw [IntKind.wrap_u64]; omega
       have hkw : IntKind.u8.wrap (kn : Int) = (kn : Int) := by rw [IntKind.wrap_u8]; omega
       have hz16 := ((Vec.right_iff h).1 hF.out.have_).len
       have hgT : av < 100 := by
        rw [List.length_map] at g5; omega
       have haw : IntKind.u64.wrap (av : Int) = (av : Int) := by rw [IntKind.wrap_u64]; omega
       rw [show (((tn : Int)) - (pn : Int)).toNat = dn by omega, show ((kn : Int)).toNat = kn by omega] at hon2
       have hPc := Lib.hid (fun W hW => hPl.out xr W hW)
       generalize hpl : Body.place h xr = pl at *
       replace hpl := Lib.hid hpl
       have hplw : IntKind.u64.wrap (pl : Int) = (pl : Int) := by rw [IntKind.wrap_u64]; omega
       have hP1 := Lib.hid (fun W => vary_put dn W (by omega))
       have hP2 := Lib.hid (fun W => vary_put pl W (by omega))
       have hP3 := Lib.hid (fun W => vary_put av W (by omega))
       have l1 := Vary.put_len dn (by omega)
       have l2 := Vary.put_len pl (by omega)
       have l3 := Vary.put_len av (by omega)
       have hbn8 : (UInt8.ofNat kn).toNat = kn := by rw [UInt8.toNat_ofNat_of_lt']; show kn < 256; omega
       have hstr := Lib.hid (fun W0 g hg W hW => str_one W0 (UInt8.ofNat kn) kn hbn8 g hg W hW)
       have honl : on.length ≤ 450 := by rw [hon2]; simp only [List.length_cons, List.length_append]; omega
       have hcat2 : (⟨(ag ++ X).toArray⟩ ++ (⟨#[UInt8.ofNat kn]⟩ ++ ⟨(Vary.put dn).toArray⟩ ++ ⟨(Vary.put pl).toArray⟩ ++ ⟨(Vary.put av).toArray⟩ ++ ⟨tl.toArray⟩) : ByteArray) = ⟨(ag ++ (X ++ on)).toArray⟩ := by
        rw [hon2]
        have e1 : (⟨#[UInt8.ofNat kn]⟩ : ByteArray) = ⟨[UInt8.ofNat kn].toArray⟩ := rfl
        rw [e1, bytes_cat, bytes_cat, bytes_cat, bytes_cat, bytes_cat]
        simp
       have hXl2 : (ag ++ X).length ≤ 40000 := by rw [List.length_append]; omega
       have hX := Lib.hid hXt
       have ho2 := Lib.hid ho2'
       clear hXt ho2'
       generalize Vary.put dn = p1 at *
       generalize Vary.put pl = p2 at *
       generalize Vary.put av = p3 at *
       generalize hagX : ag ++ X = aX at *
       replace hagX := Lib.hid hagX
       replace hon2 := Lib.hid hon2
       replace hdn := Lib.hid hdn
       replace hbn8 := Lib.hid hbn8
       have hs1 : ¬ 9223372036854775807 < 1 + p1.length := by omega
       have hs2 : ¬ 9223372036854775807 < 1 + p1.length + p2.length := by omega
       have hs3 : ¬ 9223372036854775807 < 1 + p1.length + p2.length + p3.length := by omega
       have hs4 : ¬ 9223372036854775807 < 1 + p1.length + p2.length + p3.length + tl.length := by omega
       have hs5 : ¬ 9223372036854775807 < aX.length + (1 + p1.length + p2.length + p3.length + tl.length) := by omega
       have hal := row_alloc wr #[.int .i64 tn, .int .i64 xr, .int .i64 kn, .string xkey, .string xval, .int .i64 xn] 33
       have hbA : Below wr.heap.size wr (wr.alloc (.cells #[.int .i64 tn, .int .i64 xr, .int .i64 kn, .string xkey, .string xval, .int .i64 xn] 33)) := bal (Below.refl _ _) _
       unfold wrV at htl
       go_wp2_with fail
       generalize wr.alloc (.cells #[.int .i64 tn, .int .i64 xr, .int .i64 kn, .string xkey, .string xval, .int .i64 xn] 33) = wA at *
       refine (htl.out wA).mono ?_
       rintro _ W5 ⟨rfl, hb5⟩
       have hbB := bch hbz (bch hbA hb5)
       have hBW := bch hB9 hbB
       replace hal := hal.below hb5
       have c0 : W5.cell? ⟨wr.heap.size, 0, none⟩ = some (.int .i64 tn) := hal.cell 0
       have c1 : W5.cell? ⟨wr.heap.size, 1, none⟩ = some (.int .i64 xr) := hal.cell 1
       have c2 : W5.cell? ⟨wr.heap.size, 2, none⟩ = some (.int .i64 kn) := hal.cell 2
       replace d1 := cell_below hb5 (cell_below hbA d1)
       replace d2 := cell_below hb5 (cell_below hbA d2)
       replace a0 := cell_below hb5 (cell_below hbA a0)
       have hPc := Lib.hid (fun W hW => hPc.out W (bch hBW hW))
       obtain ⟨g, hg⟩ : ∃ g, g = wr.heap.size := ⟨_, rfl⟩
       rw [← hg] at c0 c1 c2 ⊢
       replace hg := Lib.hid hg
       replace hal := Lib.hid hal
       clear x0 x1 x2 x3 x4 x5 d0 hbA
       go_wp2_with fail
       have hS0 : BC g bA (fA + k) w.heap.size tn xr kn av (.slice o2 h.length n2) W5 W5.drew := ⟨bdr (Below.refl _ _), c0, c1, c2, d1, a0⟩
       clear c0 c1 c2
       (refine wp_region_held_drew (S := (BC g bA (fA + k) w.heap.size tn xr kn av (.slice o2 h.length n2) W5)) (by kernel_rfl) ?_ (fun hHeld => ?_); ((try dsimp only); exact hS0))
       (refine tkO 0 ?_; refine tkO 1 ?_; refine tkO 2 ?_; refine tkO 3 ?_; refine tkO 6 ?_; refine tkO 7 ?_; refine tkO 8 ?_; refine tkO 9 ?_; refine tkO 10 ?_; refine tkO 11 ?_; refine tkO 14 ?_; refine tkO 15 ?_; refine tkO 16 ?_; refine tkO 17 ?_; refine tkO 18 ?_; refine tkO 23 ?_; refine tkO 24 ?_; refine tkO 25 ?_; refine tkO 26 ?_; refine tkO 27 ?_; refine tkO 30 ?_)
       clear hS0
       refine wpAnyH_ready (P := Tryz.prog) (md := .any) (rs := [4, 12]) (by kernel_rfl) (by simp) ?_
       refine held_cons rfl (by kernel_rfl) (fun K hK => ?_) (held_cons rfl (by kernel_rfl) (fun K hK => ?_) AllReadyH.nil)
       ·(go_simp; refine hK.out _ _ ?_ (fun hHeld => ?_); ((try dsimp only); exact BC.alloc hHeld _); clear hK K; (try clear hHeld0); (try rename_i hHeld0))
        refine held_mono (S' := fun W => BC g bA (fA + k) w.heap.size tn xr kn av (.slice o2 h.length n2) W5 W ∧ Below (W5.drew.alloc (Obj.cells #[.int .u8 kn] 5)).heap.size (W5.drew.alloc (Obj.cells #[.int .u8 kn] 5)) W) (fun _ h => h.1) _ _ _ _ ?_
        replace hHeld : BC g bA (fA + k) w.heap.size tn xr kn av (.slice o2 h.length n2) W5 (W5.drew.alloc (Obj.cells #[.int .u8 kn] 5)) ∧ Below (W5.drew.alloc (Obj.cells #[.int .u8 kn] 5)).heap.size (W5.drew.alloc (Obj.cells #[.int .u8 kn] 5)) (W5.drew.alloc (Obj.cells #[.int .u8 kn] 5)) := ⟨hHeld, Below.refl _ _⟩
        have hst := fun W (h : BC g bA (fA + k) w.heap.size tn xr kn av (.slice o2 h.length n2) W5 W ∧ Below (W5.drew.alloc (Obj.cells #[.int .u8 kn] 5)).heap.size (W5.drew.alloc (Obj.cells #[.int .u8 kn] 5)) W) => hstr.out W5.drew W5.heap.size rfl W h.2
        refine held_take (i := 5) (v := ?_) rfl (by kernel_rfl) (by kernel_rfl) (by kernel_rfl) (fun _ _ _ h => h) (by kernel_rfl) hHeld ?_ ?_; rotate_left; (focus (intro w hSw; have hx := hst w hSw; go_simp; (try with_reducible rfl); done)); (simp only [Act.put, List.setIfInBounds_toArray, List.set_cons_zero, List.set_cons_succ]); clear hst
        (refine tdoO 12 (fun K hK => ?_); ((go_simp; refine (hP1.out _).mono ?_; rintro _ wn ⟨rfl, hbn⟩); refine hK.out _ _ ?_ (fun hHeld => ?_); ((try dsimp only); exact ⟨BC.below hHeld.1 hbn, bch hHeld.2 hbn⟩); clear hK K; (try clear hHeld0); (try rename_i hHeld0)))
        exact byWBodyW2
       ·((go_simp; refine (hP1.out _).mono ?_; rintro _ v0 ⟨rfl, hbn⟩); refine hK.out _ _ ?_ (fun hHeld => ?_); ((try dsimp only); exact BC.below hHeld hbn); clear hK K; (try clear hHeld0); (try rename_i hHeld0))
        refine wpAnyH_ready (P := Tryz.prog) (md := .any) (rs := [4, 19]) (by kernel_rfl) (by simp) ?_
        refine held_cons rfl (by kernel_rfl) (fun K hK => ?_) (held_cons rfl (by kernel_rfl) (fun K hK => ?_) AllReadyH.nil)
        ·(go_simp; refine hK.out _ _ ?_ (fun hHeld => ?_); ((try dsimp only); exact BC.alloc hHeld _); clear hK K; (try clear hHeld0); (try rename_i hHeld0))
         refine held_mono (S' := fun W => BC g bA (fA + k) w.heap.size tn xr kn av (.slice o2 h.length n2) W5 W ∧ Below (v0.alloc (Obj.cells #[.int .u8 kn] 5)).heap.size (v0.alloc (Obj.cells #[.int .u8 kn] 5)) W) (fun _ h => h.1) _ _ _ _ ?_
         replace hHeld : BC g bA (fA + k) w.heap.size tn xr kn av (.slice o2 h.length n2) W5 (v0.alloc (Obj.cells #[.int .u8 kn] 5)) ∧ Below (v0.alloc (Obj.cells #[.int .u8 kn] 5)).heap.size (v0.alloc (Obj.cells #[.int .u8 kn] 5)) (v0.alloc (Obj.cells #[.int .u8 kn] 5)) := ⟨hHeld, Below.refl _ _⟩
         have hst := fun W (h : BC g bA (fA + k) w.heap.size tn xr kn av (.slice o2 h.length n2) W5 W ∧ Below (v0.alloc (Obj.cells #[.int .u8 kn] 5)).heap.size (v0.alloc (Obj.cells #[.int .u8 kn] 5)) W) => hstr.out v0 v0.heap.size rfl W h.2
         refine held_take (i := 5) (v := ?_) rfl (by kernel_rfl) (by kernel_rfl) (by kernel_rfl) (fun _ _ _ h => h) (by kernel_rfl) hHeld ?_ ?_; rotate_left; (focus (intro w hSw; have hx := hst w hSw; go_simp; (try with_reducible rfl); done)); (simp only [Act.put, List.setIfInBounds_toArray, List.set_cons_zero, List.set_cons_succ]); clear hst
         exact byWBodyW2
        ·((go_simp; refine (hPc.out _ (by first | exact hHeld.1.1 | exact hHeld.1)).mono ?_; rintro _ v1 ⟨rfl, hbn⟩); refine hK.out _ _ ?_ (fun hHeld => ?_); ((try dsimp only); exact BC.below hHeld hbn); clear hK K; (try clear hHeld0); (try rename_i hHeld0))
         (refine tkO 20 ?_)
         refine wpAnyH_ready (P := Tryz.prog) (md := .any) (rs := [4, 21]) (by kernel_rfl) (by simp) ?_
         refine held_cons rfl (by kernel_rfl) (fun K hK => ?_) (held_cons rfl (by kernel_rfl) (fun K hK => ?_) AllReadyH.nil)
         ·(go_simp; refine hK.out _ _ ?_ (fun hHeld => ?_); ((try dsimp only); exact BC.alloc hHeld _); clear hK K; (try clear hHeld0); (try rename_i hHeld0))
          refine held_mono (S' := fun W => BC g bA (fA + k) w.heap.size tn xr kn av (.slice o2 h.length n2) W5 W ∧ Below (v1.alloc (Obj.cells #[.int .u8 kn] 5)).heap.size (v1.alloc (Obj.cells #[.int .u8 kn] 5)) W) (fun _ h => h.1) _ _ _ _ ?_
          replace hHeld : BC g bA (fA + k) w.heap.size tn xr kn av (.slice o2 h.length n2) W5 (v1.alloc (Obj.cells #[.int .u8 kn] 5)) ∧ Below (v1.alloc (Obj.cells #[.int .u8 kn] 5)).heap.size (v1.alloc (Obj.cells #[.int .u8 kn] 5)) (v1.alloc (Obj.cells #[.int .u8 kn] 5)) := ⟨hHeld, Below.refl _ _⟩
          have hst := fun W (h : BC g bA (fA + k) w.heap.size tn xr kn av (.slice o2 h.length n2) W5 W ∧ Below (v1.alloc (Obj.cells #[.int .u8 kn] 5)).heap.size (v1.alloc (Obj.cells #[.int .u8 kn] 5)) W) => hstr.out v1 v1.heap.size rfl W h.2
          refine held_take (i := 5) (v := ?_) rfl (by kernel_rfl) (by kernel_rfl) (by kernel_rfl) (fun _ _ _ h => h) (by kernel_rfl) hHeld ?_ ?_; rotate_left; (focus (intro w hSw; have hx := hst w hSw; go_simp; (try with_reducible rfl); done)); (simp only [Act.put, List.setIfInBounds_toArray, List.set_cons_zero, List.set_cons_succ]); clear hst
          (refine tkO 13 ?_)
          (refine tdoO 21 (fun K hK => ?_); ((go_simp; refine (hP2.out _).mono ?_; rintro _ wn ⟨rfl, hbn⟩); refine hK.out _ _ ?_ (fun hHeld => ?_); ((try dsimp only); exact ⟨BC.below hHeld.1 hbn, bch hHeld.2 hbn⟩); clear hK K; (try clear hHeld0); (try rename_i hHeld0)))
          (refine tkO 22 ?_)
          exact byWBodyW1
         ·((go_simp; refine (hP2.out _).mono ?_; rintro _ v2 ⟨rfl, hbn⟩); refine hK.out _ _ ?_ (fun hHeld => ?_); ((try dsimp only); exact BC.below hHeld hbn); clear hK K; (try clear hHeld0); (try rename_i hHeld0))
          refine wpAnyH_ready (P := Tryz.prog) (md := .any) (rs := [4, 28]) (by kernel_rfl) (by simp) ?_
          refine held_cons rfl (by kernel_rfl) (fun K hK => ?_) (held_cons rfl (by kernel_rfl) (fun K hK => ?_) AllReadyH.nil)
          ·(go_simp; refine hK.out _ _ ?_ (fun hHeld => ?_); ((try dsimp only); exact BC.alloc hHeld _); clear hK K; (try clear hHeld0); (try rename_i hHeld0))
           refine held_mono (S' := fun W => BC g bA (fA + k) w.heap.size tn xr kn av (.slice o2 h.length n2) W5 W ∧ Below (v2.alloc (Obj.cells #[.int .u8 kn] 5)).heap.size (v2.alloc (Obj.cells #[.int .u8 kn] 5)) W) (fun _ h => h.1) _ _ _ _ ?_
           replace hHeld : BC g bA (fA + k) w.heap.size tn xr kn av (.slice o2 h.length n2) W5 (v2.alloc (Obj.cells #[.int .u8 kn] 5)) ∧ Below (v2.alloc (Obj.cells #[.int .u8 kn] 5)).heap.size (v2.alloc (Obj.cells #[.int .u8 kn] 5)) (v2.alloc (Obj.cells #[.int .u8 kn] 5)) := ⟨hHeld, Below.refl _ _⟩
           have hst := fun W (h : BC g bA (fA + k) w.heap.size tn xr kn av (.slice o2 h.length n2) W5 W ∧ Below (v2.alloc (Obj.cells #[.int .u8 kn] 5)).heap.size (v2.alloc (Obj.cells #[.int .u8 kn] 5)) W) => hstr.out v2 v2.heap.size rfl W h.2
           refine held_take (i := 5) (v := ?_) rfl (by kernel_rfl) (by kernel_rfl) (by kernel_rfl) (fun _ _ _ h => h) (by kernel_rfl) hHeld ?_ ?_; rotate_left; (focus (intro w hSw; have hx := hst w hSw; go_simp; (try with_reducible rfl); done)); (simp only [Act.put, List.setIfInBounds_toArray, List.set_cons_zero, List.set_cons_succ]); clear hst
           (refine tkO 13 ?_; refine tkO 22 ?_)
           exact byWBodyW1
          ·((go_simp; refine (hP3.out _).mono ?_; rintro _ v3 ⟨rfl, hbn⟩); refine hK.out _ _ ?_ (fun hHeld => ?_); ((try dsimp only); exact BC.below hHeld hbn); clear hK K; (try clear hHeld0); (try rename_i hHeld0))
           (refine tdoO 4 (fun K hK => ?_); (go_simp; refine hK.out _ _ ?_ (fun hHeld => ?_); ((try dsimp only); exact BC.alloc hHeld _); clear hK K; (try clear hHeld0); (try rename_i hHeld0)))
           refine held_mono (S' := fun W => BC g bA (fA + k) w.heap.size tn xr kn av (.slice o2 h.length n2) W5 W ∧ Below (v3.alloc (Obj.cells #[.int .u8 kn] 5)).heap.size (v3.alloc (Obj.cells #[.int .u8 kn] 5)) W) (fun _ h => h.1) _ _ _ _ ?_
           replace hHeld : BC g bA (fA + k) w.heap.size tn xr kn av (.slice o2 h.length n2) W5 (v3.alloc (Obj.cells #[.int .u8 kn] 5)) ∧ Below (v3.alloc (Obj.cells #[.int .u8 kn] 5)).heap.size (v3.alloc (Obj.cells #[.int .u8 kn] 5)) (v3.alloc (Obj.cells #[.int .u8 kn] 5)) := ⟨hHeld, Below.refl _ _⟩
           have hst := fun W (h : BC g bA (fA + k) w.heap.size tn xr kn av (.slice o2 h.length n2) W5 W ∧ Below (v3.alloc (Obj.cells #[.int .u8 kn] 5)).heap.size (v3.alloc (Obj.cells #[.int .u8 kn] 5)) W) => hstr.out v3 v3.heap.size rfl W h.2
           refine held_take (i := 5) (v := ?_) rfl (by kernel_rfl) (by kernel_rfl) (by kernel_rfl) (fun _ _ _ h => h) (by kernel_rfl) hHeld ?_ ?_; rotate_left; (focus (intro w hSw; have hx := hst w hSw; go_simp; (try with_reducible rfl); done)); (simp only [Act.put, List.setIfInBounds_toArray, List.set_cons_zero, List.set_cons_succ]); clear hst
           (refine tkO 13 ?_; refine tkO 22 ?_; refine tkO 29 ?_; refine tkO 31 ?_; refine tkO 32 ?_; refine tkO 33 ?_)
           (refine wpAnyH_done (by kernel_rfl) ?_ _)
           have hf1 := hHeld.1.1
           have hf2 := hHeld.1.2.1
           clear hHeld hs1 hs2 hs3 hs4 hs5 hcat2 hP1 hP2 hP3 hPc hstr hsub hdw hkw haw hplw
           go_wp2
           go_roundw
           case rel => exact ⟨k + 1, tn, X ++ on, by omega, by go_num, rfl, rfl, by rw [← hX.out, List.append_assoc], ho2.out, by rw [List.length_append]; omega, by omega, bch hbB hf1⟩
           case measure => simp [intOf]; omega
      ·obtain rfl : k = ws.length := by omega
       have hXe : Hid (ag ++ X = BO) := Lib.hid (by
        rw [List.drop_length, List.map_nil] at hX
        have hX : X ++ [] = _ := hX
        rw [List.append_nil] at hX
        rw [hpar.out, ← hag.out, ← hac.out, hacc0.out, hX])
       have hBl : (ag ++ X).length ≤ 40000 := by rw [List.length_append]; omega
       clear hX ho hXl hagl hag hac hacc0 hst0 hcat hca3 d0 d1 d2 hO0
       generalize ag ++ X = bo at *
       obtain rfl := hXe.out
       have hfin : Below w.heap.size w wr := hBr
       clear hXe
       by_cases hc : 20000 < bo.length
       ·have hr := hRV.out
        rw [if_pos hc] at hr
        replace hr := Lib.hid hr
        clear hRV
        go_wp2
        go_ret2
        exact ⟨by rw [hr.out]; rfl, hfin⟩
       ·have hr := hRV.out
        rw [if_neg hc] at hr
        replace hr := Lib.hid hr
        clear hRV
        go_wp2
        go_ret2
        exact ⟨by rw [hr.out]; rfl, hfin⟩
end Go.Proofs.YtognjohloobliaaGreatDoor
