/- Two logs meet: the walk of meet. -/
import Derived.Test.YtdbpiabcpjgblaaGreatDoorK45
namespace Go.Proofs.YtdbpiabcpjgblaaGreatDoor
open Go.RowKit
set_option linter.unusedVariables false
set_option linter.unusedSimpArgs false
theorem Moved.less {w w' : World} {base : Nat} {T T' : Nat → Prop} {l l' : List LgAt} {G : List WrB} (h : Moved w base T l G w' l') (hT : ∀ j, T' j → T j) : Moved w base T' l G w' l' := ⟨h.logs.less hT, h.ptrs, h.party, h.only, h.all⟩
/-- Log j knows what it knew, and what log i knew. -/
def Met (w : World) (base : Nat) (T : Nat → Prop) (l : List LgAt) (G : List WrB) (i j : Nat) (w' : World) : Prop := ∃ l', Moved w base T l G w' l' ∧ ∃ hl : l'.length = l.length, ∀ (hi : i < l.length) k (hk : k < l.length) r, Vec.of (l'[k]'(by omega)).m.H r = if j = k then max (Vec.of l[k].m.H r) (Vec.of l[i].m.H r) else Vec.of l[k].m.H r
set_option maxHeartbeats 8000000 in
set_option maxRecDepth 20000 in
theorem keep_meet {w : World} {base : Nat} {T : Nat → Prop} {l : List LgAt} {G : List WrB} (hL : Laid w) (h : Logs w base T l) (P : Lg.Party G (l.map LgAt.m)) (hG : G.length ≤ 60) (hn : l.length ≤ 16) {i j : Nat} (hi : i < l.length) (hj : j < l.length) (pi pj : Nat) (hpi : l[i].p = pi) (hpj : l[j].p = pj) :
  Calls Tryz.prog 41 #[.pointer (some ⟨pi, 0, none⟩), .pointer (some ⟨pj, 0, none⟩)] w fun e w' => e = .returned (.bool true) ∧ Met w base T l G i j w' := by
 obtain ⟨mi, hmi'⟩ : ∃ m, l[i].m = m := ⟨_, rfl⟩
 obtain ⟨mj, hmj'⟩ : ∃ m, l[j].m = m := ⟨_, rfl⟩
 have hmi : (l.map LgAt.m)[i]'(by simpa using hi) = mi := by simpa using hmi'
 have hmj : (l.map LgAt.m)[j]'(by simpa using hj) = mj := by simpa using hmj'
 obtain ⟨oki, ai, -⟩ := P.ok i (by simpa using hi)
 obtain ⟨okj, aj, -⟩ := P.ok j (by simpa using hj)
 rw [hmi] at oki ai
 rw [hmj] at okj aj
 have hHi := ((Vec.right_iff _).1 oki.have_).len
 have hHj := ((Vec.right_iff _).1 okj.have_).len
 have hHv := fun W (hW : Below w.heap.size w W) => log_have base l[j].p l[j].m l[j].hv l[j].wv W ((h.each j hj).below hW) (by rw [hmj']; omega)
 rw [hpj, hmj'] at hHv
 replace hHv := Lib.hid hHv
 have hHx := fun W (hW : Below w.heap.size w W) => log_have base l[i].p l[i].m l[i].hv l[i].wv W ((h.each i hi).below hW) (by rw [hmi']; omega)
 rw [hpi, hmi'] at hHx
 replace hHx := Lib.hid hHx
 obtain ⟨fb, hci, hcj⟩ := Lg.both_fine ((Vec.right_iff _).1 oki.have_) ((Vec.right_iff _).1 okj.have_)
 have hPA := Lg.Party.accept P hG (by simpa using hn) (i := i) (j := j) (by simpa using hi) (by simpa using hj) (f := Lg.both mi.H mj.H) ((Vec.right_iff _).2 fb) (by rw [hmi]; exact hci) (by rw [hmj]; exact hcj)
 rw [hmi, hmj] at hPA
 obtain ⟨hs1, hs2, hbr, m', n, hacc, hmH, hmok, -, hof, -, hP'⟩ := hPA
 have hbl := fb.len
 have hSi := fun W fv (hW : Below w.heap.size w W) (hf : VecIs W fv (Lg.both mi.H mj.H)) => logs_since_ok (hL.below hW) (h.below hW) hi pi hpi mi hmi' oki hf (by omega) ((Vec.right_iff _).2 fb) hci _ _ hs2 hs1
 have hlw : (mi.W.filter (Lg.new_ (Lg.both mi.H mj.H))).length ≤ 60 := by have := ((Bat.right_iff _ _ _).1 hbr).len; rwa [List.length_map] at this
 generalize mi.W.filter (Lg.new_ (Lg.both mi.H mj.H)) = ws at *
 have hAc := Lib.hid (fun W T' vf vh vw (hW : Below w.heap.size w W) (hlo : Logs W base T' l) (hf : VecIs W vf (Lg.both mi.H mj.H)) (hh : VecIs W vh mi.H) (hw : WrsIs W vw ws) => logs_accept_ok (hL.below hW) hlo hj pj hpj mj m' hmj' okj aj (vf := vf) (vh := vh) (vw := vw) hf hh hw (by omega) (by omega) (by omega) n hacc)
 have hbn := Lib.hid (fun k (hk : k < mi.H.length) => Lg.both_snoc (mi.H.take k) mj.H mi.H[k])
 have hbm := Lib.hid (fun k => show (Lg.both (mi.H.take k) mj.H).length ≤ 16 from Nat.le_trans (List.length_filterMap_le _ _) (by rw [List.length_take]; omega))
 have hpos := Lib.hid (fun x (hx : x ∈ mi.H) => ((Vec.right_iff _).1 oki.have_).each x hx)
 replace hSi := Lib.hid hSi
 replace hbr := Lib.hid hbr
 replace hacc := Lib.hid hacc
 replace hP' := Lib.hid hP'
 replace hof := Lib.hid hof
 replace hmok := Lib.hid hmok
 replace hmH := Lib.hid hmH
 clear hs1 hs2 hmi hmj hci hcj
 go_enter Tryz.func41, Tryz.ntmps41
 go_wp2_with fail
 refine (hHv.out _ (Below.refl _ _)).mono ?_
 rintro _ w1 ⟨⟨u, rfl, hO⟩, hb1⟩
 have hV1 : VecIs w1 u mj.H := ListIs.of_owns hO
 clear hHv hO
 have hHx1 := Lib.hid (hHx.out w1 hb1)
 go_wp2_with fail
 refine hHx1.out.mono ?_
 rintro _ w2 ⟨⟨u2, rfl, hO2⟩, hb2⟩
 have hV2 : VecIs w2 u2 mi.H := ListIs.of_owns hO2
 have hVj := Lib.hid (hV1.below hb2)
 have hbw2 := Lib.hid (bch hb1 hb2)
 obtain ⟨o2, m2, rfl, -, hcell⟩ := hV2.list.at entCells_len
 replace hcell := Lib.hid hcell
 clear hV1 hHx1 hO2 hb2 hb1 hV2
 go_wp2
 go_loopw [5, 19] (fun s i wr => ∃ k : Nat, k ≤ mi.H.length ∧ i = .int .i64 k ∧ wr.ownsRow w2.heap.size 45 2 s (Lg.both (mi.H.take k) mj.H).length ((Lg.both (mi.H.take k) mj.H).flatMap entCells) ∧ Below w2.heap.size w2 wr) (fun _ i _ => mi.H.length - (intOf i).toNat)
 case atStart => exact ⟨0, by omega, rfl, World.ownsRow_nil _ _ _ _, Below.refl _ _⟩
 case round =>
  obtain ⟨k, hk, rfl, hO, hb⟩ := hrel
  by_cases hlt : k < mi.H.length
  ·obtain ⟨b1, f1, rfl, hb1, hc1⟩ := hcell.out k hlt
   have hb1 := hb1 (by omega)
   have hs := hb.size
   have g1 : ∀ (j : Nat) (u : Value), (entCells mi.H[k])[j]? = some u → wr.cell? ⟨b1, f1 + k * 2 + j, none⟩ = some u := fun j u hu => (hb.cell (p := ⟨b1, f1 + k * 2 + j, none⟩) hb1).trans (hc1 j u hu)
   have hxp := hpos.out _ (List.getElem_mem hlt)
   have hbk := hbn.out k hlt
   rw [← List.take_succ_eq_append_getElem hlt] at hbk
   generalize mi.H[k] = x at *
   obtain ⟨xr, xt⟩ := x
   (try simp only at hxp hbk)
   have d0 : wr.cell? ⟨b1, f1 + k * 2, none⟩ = some (.int .i64 xr) := g1 0 _ rfl
   have d1 : wr.cell? ⟨b1, f1 + k * 2 + 1, none⟩ = some (.int .i64 xt) := g1 1 _ rfl
   have hbw : b1 < wr.heap.size := by omega
   clear g1 hc1
   have hOf := fun W (hW : Below w2.heap.size w2 W) => vector_of u mj.H xr W (hVj.out.below hW)
   have hop := Vec.of_pos ((Vec.right_iff _).1 okj.have_).pos xr
   have hot : Vec.of mj.H xr ≤ 1099511627776 := by
    rcases Lg.of_mem_or mj.H ((Vec.right_iff _).1 okj.have_).sorted xr with e | ⟨y, hy, -, e⟩
    ·omega
    ·have := ((Vec.right_iff _).1 okj.have_).each y hy; omega
   generalize Vec.of mj.H xr = ot at *
   replace hOf := Lib.hid hOf
   replace hbk := Lib.hid hbk
   have hln := hbm.out k
   have hbr3 : Below w2.heap.size w2 (wr.alloc (Obj.cells #[.int .i64 xr, .int .i64 xt] 45)) := bal hb _
   have qx := row_at (w := wr) (g := wr.heap.size) #[.int .i64 xr, .int .i64 xt] 45 rfl
   have hO3 := owns_below hO (show Below wr.heap.size wr (wr.alloc (Obj.cells #[.int .i64 xr, .int .i64 xt] 45)) from bal (Below.refl _ _) _)
   replace hbr3 := Lib.hid hbr3
   replace qx := Lib.hid qx
   replace hO3 := Lib.hid hO3
   clear hO hb
   go_wp2_with fail
   obtain ⟨gx, hgx⟩ : ∃ g, g = wr.heap.size := ⟨_, rfl⟩
   have hgxs : (wr.alloc (Obj.cells #[.int .i64 xr, .int .i64 xt] 45)).heap.size = gx + 1 := by simp; omega
   rw [← hgx] at qx ⊢
   generalize wr.alloc (Obj.cells #[.int .i64 xr, .int .i64 xt] 45) = w4 at *
   replace hgx := Lib.hid hgx
   clear d0 d1 hbw
   have qx4 := qx.out
   obtain ⟨c0, c1⟩ := qx4.c2
   have hS0 : Below w4.heap.size w4 w4.drew ∧ w4.drew.cell? ⟨gx, 0, none⟩ = some (.int .i64 xr) ∧ w4.drew.cell? ⟨gx, 1, none⟩ = some (.int .i64 xt) := ⟨bdr (Below.refl _ _), c0, c1⟩
   (refine wp_region_held_drew (S := (fun W => Below w4.heap.size w4 W ∧ W.cell? ⟨gx, 0, none⟩ = some (.int .i64 xr) ∧ W.cell? ⟨gx, 1, none⟩ = some (.int .i64 xt))) (by kernel_rfl) ?_ (fun hHeld => ?_); ((try dsimp only); exact hS0))
   clear hS0 c0 c1
   (refine tkO 0 ?_; refine tkO 1 ?_; refine tkO 2 ?_; refine tkO 3 ?_; refine tkO 4 ?_)
   (refine tdoO 5 (fun K hK => ?_); ((go_simp; refine (hOf.out _ (bch hbr3.out hHeld.1)).mono ?_; rintro _ w5 ⟨rfl, hb5⟩); refine hK.out _ _ ?_ (fun hHeld => ?_); ((try dsimp only); exact ⟨bch hHeld.1 hb5, cell_below hb5 hHeld.2.1, cell_below hb5 hHeld.2.2⟩); clear hK K; (try clear hHeld0); (try rename_i hHeld0)))
   clear hb5
   (refine tkO 6 ?_; refine tkO 7 ?_)
   (refine wpAnyH_done (by kernel_rfl) ?_ _)
   have hb45 := hHeld.1
   have qx5 := qx.out.below hb45
   have hO5 := owns_below hO3.out hb45
   have hb25 := bch hbr3.out hb45
   have hs5 := hb25.size
   clear hHeld hHeld0 hOf hgxs qx4
   obtain ⟨c0, c1⟩ := qx5.c2
   have hgl := qx5.lt
   obtain ⟨mt, hmt⟩ : ∃ m, m = min xt ot := ⟨_, rfl⟩
   have hbk' := hbk.out
   rw [← hmt] at hbk' ⊢
   replace hmt := Lib.hid hmt
   clear hbk
   by_cases hp : 0 < mt
   ·have hd : decide (0 < mt) = true := by simp; omega
    rw [if_pos hp] at hbk'
    have hbl' : (Lg.both (mi.H.take (k + 1)) mj.H).length = (Lg.both (mi.H.take k) mj.H).length + 1 := by rw [hbk']; simp
    replace hbk' := Lib.hid hbk'
    replace hbl' := Lib.hid hbl'
    replace hb25 := Lib.hid hb25
    go_wp2_with ((at_builtin; go_must (refine app_one rfl _ _ 22 45 rfl (w2.heap.size) (.agg #[.int .i64 0, .int .i64 0]) 2 16 Tryz.underlying22 (by kernel_rfl) rfl _ _ _ rfl hO5 _ rfl rfl ?_ (by omega) (by omega) hs5 ?_)); (focus (intro u hu; simp only [List.mem_cons, List.not_mem_nil, or_false] at hu; rcases hu with rfl | rfl <;> rfl)); intro v6 w6 hO6 hg6 hbk6 hne6 hb6)
    go_roundw
    case rel =>
     refine ⟨k + 1, by omega, by go_num, ?_, hb25.out.trans hb6⟩
     rw [hbl'.out, hbk'.out, List.flatMap_append]; exact hO6
    case measure => simp [intOf]; omega
   ·have hd : decide (0 < mt) = false := by simp; omega
    rw [if_neg hp, List.append_nil] at hbk'
    replace hbk' := Lib.hid hbk'
    replace hb25 := Lib.hid hb25
    replace hO5 := Lib.hid hO5
    go_wp2
    go_roundw
    case rel => exact ⟨k + 1, by omega, by go_num, by rw [hbk'.out]; exact hO5.out, hb25.out⟩
    case measure => simp [intOf]; omega
  ·obtain rfl : k = mi.H.length := by omega
   rw [List.take_length] at hO
   have hVb : VecIs wr _ (Lg.both mi.H mj.H) := ListIs.of_owns hO
   have hbw := Lib.hid (bch hbw2.out hb)
   have hSi1 := Lib.hid (hSi.out _ _ hbw.out hVb)
   clear hSi hVb hO hb hcell hVj hbn hbm hHx
   go_wp2
   refine wp_loop_rounds 1 ?_
   rw [rounds_succ]
   go_wp2_with fail
   refine hSi1.out.mono ?_
   rintro _ w3 ⟨⟨vf, vh, vw, rfl, hf, hh, hw⟩, hb3⟩
   have hVf : VecIs w3 vf _ := ListIs.of_owns hf
   have hVh : VecIs w3 vh _ := ListIs.of_owns hh
   have hVw : WrsIs w3 vw _ := ListIs.of_owns hw
   obtain ⟨of, cf, rfl⟩ := owns_slice_ hf
   obtain ⟨oh, ch, rfl⟩ := owns_slice_ hh
   obtain ⟨ow, cw, rfl⟩ := owns_slice_ hw
   have hbw3 := Lib.hid (bch hbw.out hb3)
   have hws := Lib.hid hbw.out.size
   replace hh := Lib.hid hh
   generalize hlf : (Lg.both mi.H mj.H).length = lf at *
   generalize hlh : mi.H.length = lh at *
   generalize hlws : ws.length = lw at *
   replace hlf := Lib.hid hlf
   replace hlh := Lib.hid hlh
   replace hlws := Lib.hid hlws
   clear hSi1 hf hw hb3 hbw
   go_wp2_with fail
   have hb34 : Below w3.heap.size w3 (w3.alloc (Obj.cells #[.slice of lf cf, .slice oh lh ch, .slice ow lw cw] 25)) := by exact blw
   obtain ⟨g, hg⟩ : ∃ g, g = w3.heap.size := ⟨_, rfl⟩
   have q4 := row_at (w := w3) (g := g) #[.slice of lf cf, .slice oh lh ch, .slice ow lw cw] 25 hg
   rw [← hg]
   generalize w3.alloc (Obj.cells #[.slice of lf cf, .slice oh lh ch, .slice ow lw cw] 25) = w4 at *
   have hbw4 := bch hbw3.out hb34
   have hgw : w.heap.size ≤ g := by rw [hg]; exact hbw3.out.size
   have hg4 := q4.lt
   have hlo4 := h.more hbw4 (T' := fun j => T j ∨ (w.heap.size ≤ j ∧ j < w4.heap.size)) (fun j hj => hj.imp id (fun a => a.1)) (fun j hj => by
    rcases hj with hj | hj
    ·have := h.old j hj; have := hbw4.size; omega
    ·exact hj.2)
   have hh4 := owns_below hh.out hb34
   have hAc4 := Lib.hid (hAc.out w4 _ _ _ _ hbw4 hlo4 (hVf.below hb34) (hVh.below hb34) (WrsIs.below hVw hb34))
   replace hg := Lib.hid hg
   clear hVf hVh hVw hb34 hbw3 hAc hh
   refine hAc4.out.mono ?_
   rintro _ w5 ⟨rfl, ht⟩
   obtain ⟨l', hM, hlen', hat'⟩ := Moved.turned hj (hpj ▸ ht) hP'.out
   have hMw := Moved.before h hbw4 (hM.less (T' := T) (fun j hj => .inl hj))
   have q5 := q4.only hM.only fun ⟨k, hk, hm⟩ => hlo4.free k hk g hm (.inr ⟨hgw, hg4⟩)
   have hh5 := owns_only hh4 hM.only fun k hk ⟨a, ha, hm⟩ => hlo4.free a ha k hm (.inr ⟨by have := (hh4.lt k hk).1; have := hws.out; omega, (hh4.lt k hk).2⟩)
   have hVh5 : VecIs w5 (.slice oh lh ch) mi.H := ListIs.of_owns (l := mi.H) (by rw [hlh.out]; exact hh5)
   obtain ⟨hil, hip, him⟩ := hat' i hi
   have hm'len := ((Vec.right_iff _).1 hmok.out.have_).len
   have hem : ∃ e, e = (if j = i then m' else l[i].m) ∧ e.H.length ≤ 16 ∧ coversB mi.H e.H = true := by
    refine ⟨_, rfl, ?_⟩
    by_cases hji : j = i
    ·rw [if_pos hji]
     refine ⟨hm'len, (Lg.covB oki.have_ hmok.out.have_).2 fun r => ?_⟩
     have := hof.out r
     have e2 : mi = mj := by subst hji; exact hmi'.symm.trans hmj'
     rw [← e2] at this
     omega
    ·rw [if_neg hji, hmi', hlh.out]
     exact ⟨by omega, (Lg.covB oki.have_ oki.have_).2 (Vec.covers_refl _)⟩
   obtain ⟨e, he, hel, hec⟩ := hem
   rw [← he] at him
   have hH2 := Lib.hid (fun W (hW : Below w5.heap.size w5 W) => log_have base pi e _ _ W (by have := (hM.logs.below hW).each i hil; rw [hip, hpi, him] at this; exact this) (by omega))
   have hmet : Met w base T l G i j w5 := ⟨l', hMw, hlen', fun hi' k hk r => by
    obtain ⟨hkl, -, hkm⟩ := hat' k hk
    rw [hkm]
    by_cases hjk : j = k
    ·subst hjk
     rw [if_pos rfl, if_pos rfl, hmi', hmj']
     exact hof.out r
    ·rw [if_neg hjk, if_neg hjk]⟩
   replace hmet := Lib.hid hmet
   replace hVh5 := Lib.hid hVh5
   clear hAc4 ht hat' hM hMw q4 hh4 hh5 hlo4 him hip
   obtain ⟨c0, c1, c2⟩ := q5.c3
   have hgl := q5.lt
   clear q5
   go_wp2_with fail
   have hS0 : Below w5.heap.size w5 w5.drew ∧ w5.drew.cell? ⟨g, 1, none⟩ = some (.slice oh lh ch) := ⟨bdr (Below.refl _ _), c1⟩
   (refine wp_region_held_drew (S := (fun W => Below w5.heap.size w5 W ∧ W.cell? ⟨g, 1, none⟩ = some (.slice oh lh ch))) (by kernel_rfl) ?_ (fun hHeld => ?_); ((try dsimp only); exact hS0))
   clear hS0 c0 c1 c2
   (refine tkO 0 ?_; refine tkO 1 ?_; refine tkO 2 ?_)
   (refine tdoO 3 (fun K hK => ?_); ((go_simp; refine (hH2.out _ hHeld.1).mono ?_; rintro _ w6 ⟨⟨u6, rfl, hO6⟩, hb6⟩); refine hK.out _ _ ?_ (fun hHeld => ?_); ((try dsimp only); exact ⟨bch hHeld.1 hb6, cell_below hb6 hHeld.2⟩); clear hK K; (try clear hHeld0); (try rename_i hHeld0)))
   have hCv := vector_covers _ u6 mi.H e.H w6 (hVh5.out.below hHeld.1) (ListIs.of_owns hO6) (by rw [hlh.out]; omega) (by omega)
   rw [hec] at hCv
   replace hCv := Lib.hid hCv
   clear hO6 hb6 hH2
   (refine tdoO 4 (fun K hK => ?_); ((go_simp; refine hCv.out.mono ?_; rintro _ w7 ⟨rfl, hb7⟩); refine hK.out _ _ ?_ (fun hHeld => ?_); ((try dsimp only); exact ⟨bch hHeld.1 hb7, cell_below hb7 hHeld.2⟩); clear hK K; (try clear hHeld0); (try rename_i hHeld0)))
   (refine wpAnyH_done (by kernel_rfl) ?_ _)
   have hfin := hHeld.1
   clear hHeld hHeld0 hb7 hCv
   go_wp2
   go_ret
   obtain ⟨l', hM, hll, hx⟩ := hmet.out
   exact ⟨rfl, l', hM.after hfin, hll, hx⟩
end Go.Proofs.YtdbpiabcpjgblaaGreatDoor
/- Plain laws of rounds in which each takes what the one ahead of it knows. -/
namespace Go.Proofs.YtdbpiabcpjgblaaGreatDoor
set_option linter.unusedVariables false
/-- How far number k knows replica r. -/
def knows (ls : List LgAt) (k : Nat) (r : Int) : Int := match ls[k]? with
 | some a => Vec.of a.m.H r
 | none => 0
theorem knows_at {ls : List LgAt} {k : Nat} (hk : k < ls.length) (r : Int) : knows ls k r = Vec.of ls[k].m.H r := by
 unfold knows; rw [List.getElem?_eq_getElem hk]
namespace Round
def next (N i : Nat) : Nat := if i + 1 = N then 0 else i + 1
def turn (N i : Nat) (h : Nat → Int) (k : Nat) : Int := if next N i = k then max (h k) (h i) else h k
/-- The first time round: so far nobody of those that were turned knows more than the last one. -/
def P0 (N i : Nat) (h : Nat → Int) : Prop := (i < N → ∀ k, k ≤ i → h k ≤ h i) ∧ (i = N → ∀ k, k < N → h k ≤ h 0)
/-- The second time: nobody knows more than the first one, and so far all know as much. -/
def P1 (N i : Nat) (h : Nat → Int) : Prop := (∀ k, k < N → h k ≤ h 0) ∧ ∀ k, k < N → k ≤ i → h k = h 0
theorem start (N : Nat) (hN : 0 < N) (h : Nat → Int) : P0 N 0 h := ⟨fun _ k hk => by
 obtain rfl : k = 0 := by omega
 exact Int.le_refl _, fun e => by omega⟩
theorem turn_eq (N i : Nat) (h : Nat → Int) (k : Nat) : turn N i h k = if next N i = k then max (h k) (h i) else h k := rfl
theorem next_lt {N i : Nat} (h : i + 1 < N) : next N i = i + 1 := if_neg (by omega)
theorem next_end {N i : Nat} (h : i + 1 = N) : next N i = 0 := if_pos h
theorem step0 {N i : Nat} {h : Nat → Int} (hi : i < N) (hp : P0 N i h) : P0 N (i + 1) (turn N i h) := by
 have hq := hp.1 hi
 refine ⟨fun hlt k hk => ?_, fun he k hk => ?_⟩
 ·rw [turn_eq, turn_eq, next_lt hlt, if_pos rfl]
  by_cases e : i + 1 = k
  ·subst e; rw [if_pos rfl]; exact Int.le_refl _
  ·rw [if_neg e]
   have := hq k (by omega)
   omega
 ·rw [turn_eq, turn_eq, next_end he, if_pos rfl]
  by_cases e : 0 = k
  ·subst e; rw [if_pos rfl]; exact Int.le_refl _
  ·rw [if_neg e]
   have := hq k (by omega)
   omega
theorem mid {N : Nat} (hN : 0 < N) {h : Nat → Int} (hp : P0 N N h) : P1 N 0 h := ⟨hp.2 rfl, fun k hk hk0 => by
 obtain rfl : k = 0 := by omega
 rfl⟩
theorem step1 {N i : Nat} {h : Nat → Int} (hi : i < N) (hp : P1 N i h) : P1 N (i + 1) (turn N i h) := by
 obtain ⟨h1, h2⟩ := hp
 have hi0 := h2 i hi (Nat.le_refl _)
 by_cases e : i + 1 = N
 ·have e0 : turn N i h 0 = h 0 := by rw [turn_eq, next_end e, if_pos rfl]; omega
  have ek : ∀ k, 0 ≠ k → turn N i h k = h k := fun k hk => by rw [turn_eq, next_end e, if_neg hk]
  refine ⟨fun k hk => ?_, fun k hk hki => ?_⟩
  ·by_cases hk0 : 0 = k
   ·subst hk0; exact Int.le_refl _
   ·rw [e0, ek k hk0]; exact h1 k hk
  ·by_cases hk0 : 0 = k
   ·subst hk0; rfl
   ·rw [e0, ek k hk0]; exact h2 k hk (by omega)
 ·have hn := next_lt (show i + 1 < N by omega)
  have e0 : turn N i h 0 = h 0 := by rw [turn_eq, hn, if_neg (by omega)]
  have e1 : turn N i h (i + 1) = h 0 := by
   have := h1 (i + 1) (by omega)
   rw [turn_eq, hn, if_pos rfl]; omega
  have ek : ∀ k, i + 1 ≠ k → turn N i h k = h k := fun k hk => by rw [turn_eq, hn, if_neg hk]
  refine ⟨fun k hk => ?_, fun k hk hki => ?_⟩
  ·by_cases hk0 : i + 1 = k
   ·subst hk0; rw [e0, e1]; exact Int.le_refl _
   ·rw [e0, ek k hk0]; exact h1 k hk
  ·by_cases hk0 : i + 1 = k
   ·subst hk0; rw [e0, e1]
   ·rw [e0, ek k hk0]; exact h2 k hk (by omega)
end Round
end Go.Proofs.YtdbpiabcpjgblaaGreatDoor
