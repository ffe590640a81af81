/- Two logs meet: the walk of meet. -/
import Derived.Test.YtdbpiabcpjgblaaGreatDoorK38
import Derived.Test.YtdbpiabcpjgblaaGreatDoorK01
import Derived.Test.YtdbpiabcpjgblaaGreatDoorK12
namespace Go.Proofs.YtdbpiabcpjgblaaGreatDoor
open Go.RowKit
set_option linter.unusedVariables false
set_option linter.unusedSimpArgs false
theorem Moved.less {w w' : World} {base : Nat} {T T' : Nat → Prop} {l l' : List LgAt} {G : List WrB} (h : Moved w base T l G w' l') (hT : ∀ j, T' j → T j) : Moved w base T' l G w' l' := ⟨h.logs.less hT, h.ptrs, h.party, h.only, h.all⟩
/-- Log j knows what it knew, and what log i knew. -/
def Met (w : World) (base : Nat) (T : Nat → Prop) (l : List LgAt) (G : List WrB) (i j : Nat) (w' : World) : Prop := ∃ l', Moved w base T l G w' l' ∧ ∃ hl : l'.length = l.length, ∀ (hi : i < l.length) k (hk : k < l.length) r, Vec.of (l'[k]'(by omega)).m.H r = if j = k then max (Vec.of l[k].m.H r) (Vec.of l[i].m.H r) else Vec.of l[k].m.H r
set_option maxHeartbeats 8000000 in
set_option maxRecDepth 20000 in
theorem keep_meet {w : World} {base : Nat} {T : Nat → Prop} {l : List LgAt} {G : List WrB} (hL : Laid w) (h : Logs w base T l) (P : Lg.Party G (l.map LgAt.m)) (hG : G.length ≤ 60) (hn : l.length ≤ 16) {i j : Nat} (hi : i < l.length) (hj : j < l.length) (pi pj : Nat) (hpi : l[i].p = pi) (hpj : l[j].p = pj) :
    Calls Tryz.prog 41 #[.pointer (some ⟨pi, 0, none⟩), .pointer (some ⟨pj, 0, none⟩)] w fun e w' => e = .returned (.bool true) ∧ Met w base T l G i j w' := by
  obtain ⟨mi, hmi'⟩ : ∃ m, l[i].m = m := ⟨_, rfl⟩
  obtain ⟨mj, hmj'⟩ : ∃ m, l[j].m = m := ⟨_, rfl⟩
  have hmi : (l.map LgAt.m)[i]'(by simpa using hi) = mi := by simpa using hmi'
  have hmj : (l.map LgAt.m)[j]'(by simpa using hj) = mj := by simpa using hmj'
  obtain ⟨oki, ai, -⟩ := P.ok i (by simpa using hi)
  obtain ⟨okj, aj, -⟩ := P.ok j (by simpa using hj)
  rw [hmi] at oki ai
  rw [hmj] at okj aj
  have hHi := ((Vec.right_iff _).1 oki.have_).len
  have hHj := ((Vec.right_iff _).1 okj.have_).len
  have hHv := fun W (hW : Below w.heap.size w W) => log_have base l[j].p l[j].m l[j].hv l[j].wv W ((h.each j hj).below hW) (by rw [hmj']; omega)
  rw [hpj, hmj'] at hHv
  replace hHv := Lib.hid hHv
  have hHx := fun W (hW : Below w.heap.size w W) => log_have base l[i].p l[i].m l[i].hv l[i].wv W ((h.each i hi).below hW) (by rw [hmi']; omega)
  rw [hpi, hmi'] at hHx
  replace hHx := Lib.hid hHx
  obtain ⟨fb, hci, hcj⟩ := Lg.both_fine ((Vec.right_iff _).1 oki.have_) ((Vec.right_iff _).1 okj.have_)
  have hPA := Lg.Party.accept P hG (by simpa using hn) (i := i) (j := j) (by simpa using hi) (by simpa using hj) (f := Lg.both mi.H mj.H) ((Vec.right_iff _).2 fb) (by rw [hmi]; exact hci) (by rw [hmj]; exact hcj)
  rw [hmi, hmj] at hPA
  obtain ⟨hs1, hs2, hbr, m', n, hacc, hmH, hmok, -, hof, -, hP'⟩ := hPA
  have hbl := fb.len
  have hSi := fun W fv (hW : Below w.heap.size w W) (hf : VecIs W fv (Lg.both mi.H mj.H)) => logs_since_ok (hL.below hW) (h.below hW) hi pi hpi mi hmi' oki hf (by omega) ((Vec.right_iff _).2 fb) hci _ _ hs2 hs1
  have hlw : (mi.W.filter (Lg.new_ (Lg.both mi.H mj.H))).length ≤ 60 := by have := ((Bat.right_iff _ _ _).1 hbr).len; rwa [List.length_map] at this
  generalize mi.W.filter (Lg.new_ (Lg.both mi.H mj.H)) = ws at *
  have hAc := Lib.hid (fun W T' vf vh vw (hW : Below w.heap.size w W) (hlo : Logs W base T' l) (hf : VecIs W vf (Lg.both mi.H mj.H)) (hh : VecIs W vh mi.H) (hw : WrsIs W vw ws) => logs_accept_ok (hL.below hW) hlo hj pj hpj mj m' hmj' okj aj (vf := vf) (vh := vh) (vw := vw) hf hh hw (by omega) (by omega) (by omega) n hacc)
  have hbn := Lib.hid (fun k (hk : k < mi.H.length) => Lg.both_snoc (mi.H.take k) mj.H mi.H[k])
  have hbm := Lib.hid (fun k => show (Lg.both (mi.H.take k) mj.H).length ≤ 16 from Nat.le_trans (List.length_filterMap_le _ _) (by rw [List.length_take]; omega))
  have hpos := Lib.hid (fun x (hx : x ∈ mi.H) => ((Vec.right_iff _).1 oki.have_).each x hx)
  replace hSi := Lib.hid hSi
  replace hbr := Lib.hid hbr
  replace hacc := Lib.hid hacc
  replace hP' := Lib.hid hP'
  replace hof := Lib.hid hof
  replace hmok := Lib.hid hmok
  replace hmH := Lib.hid hmH
  clear hs1 hs2 hmi hmj hci hcj
  go_enter Tryz.func41, Tryz.ntmps41
  go_wp2_with fail
  refine (hHv.out _ (Below.refl _ _)).mono ?_
  rintro _ w1 ⟨⟨u, rfl, hO⟩, hb1⟩
  have hV1 : VecIs w1 u mj.H := ListIs.of_owns hO
  clear hHv hO
  have hHx1 := Lib.hid (hHx.out w1 hb1)
  go_wp2_with fail
  refine hHx1.out.mono ?_
  rintro _ w2 ⟨⟨u2, rfl, hO2⟩, hb2⟩
  have hV2 : VecIs w2 u2 mi.H := ListIs.of_owns hO2
  have hVj := Lib.hid (hV1.below hb2)
  have hbw2 := Lib.hid (bch hb1 hb2)
  obtain ⟨o2, m2, rfl, -, hcell⟩ := hV2.list.at entCells_len
  replace hcell := Lib.hid hcell
  clear hV1 hHx1 hO2 hb2 hb1 hV2
  go_wp2
  go_loopw [5, 19] (fun s i wr => ∃ k : Nat, k ≤ mi.H.length ∧ i = .int .i64 k ∧ wr.ownsRow w2.heap.size 45 2 s (Lg.both (mi.H.take k) mj.H).length ((Lg.both (mi.H.take k) mj.H).flatMap entCells) ∧ Below w2.heap.size w2 wr) (fun _ i _ => mi.H.length - (intOf i).toNat)
  case atStart => exact ⟨0, by omega, rfl, World.ownsRow_nil _ _ _ _, Below.refl _ _⟩
  case round =>
    obtain ⟨k, hk, rfl, hO, hb⟩ := hrel
    by_cases hlt : k < mi.H.length
    · obtain ⟨b1, f1, rfl, hb1, hc1⟩ := hcell.out k hlt
      have hb1 := hb1 (by omega)
      have hs := hb.size
      have g1 : ∀ (j : Nat) (u : Value), (entCells mi.H[k])[j]? = some u → wr.cell? ⟨b1, f1 + k * 2 + j, none⟩ = some u := fun j u hu => (hb.cell (p := ⟨b1, f1 + k * 2 + j, none⟩) hb1).trans (hc1 j u hu)
      have hxp := hpos.out _ (List.getElem_mem hlt)
      have hbk := hbn.out k hlt
      rw [← List.take_succ_eq_append_getElem hlt] at hbk
      generalize mi.H[k] = x at *
      obtain ⟨xr, xt⟩ := x
      (try simp only at hxp hbk)
      have d0 : wr.cell? ⟨b1, f1 + k * 2, none⟩ = some (.int .i64 xr) := g1 0 _ rfl
      have d1 : wr.cell? ⟨b1, f1 + k * 2 + 1, none⟩ = some (.int .i64 xt) := g1 1 _ rfl
      have hbw : b1 < wr.heap.size := by omega
      clear g1 hc1
      have hOf := fun W (hW : Below w2.heap.size w2 W) => vector_of u mj.H xr W (hVj.out.below hW)
      have hop := Vec.of_pos ((Vec.right_iff _).1 okj.have_).pos xr
      have hot : Vec.of mj.H xr ≤ 1099511627776 := by
        rcases Lg.of_mem_or mj.H ((Vec.right_iff _).1 okj.have_).sorted xr with e | ⟨y, hy, -, e⟩
        · omega
        · have := ((Vec.right_iff _).1 okj.have_).each y hy; omega
      generalize Vec.of mj.H xr = ot at *
      replace hOf := Lib.hid hOf
      replace hbk := Lib.hid hbk
      have hln := hbm.out k
      have hbr3 : Below w2.heap.size w2 (wr.alloc (Obj.cells #[.int .i64 xr, .int .i64 xt] 45)) := bal hb _
      have qx := row_at (w := wr) (g := wr.heap.size) #[.int .i64 xr, .int .i64 xt] 45 rfl
      have hO3 := owns_below hO (show Below wr.heap.size wr (wr.alloc (Obj.cells #[.int .i64 xr, .int .i64 xt] 45)) from bal (Below.refl _ _) _)
      replace hbr3 := Lib.hid hbr3
      replace qx := Lib.hid qx
      replace hO3 := Lib.hid hO3
      clear hO hb
      go_wp2_with fail
      obtain ⟨gx, hgx⟩ : ∃ g, g = wr.heap.size := ⟨_, rfl⟩
      have hgxs : (wr.alloc (Obj.cells #[.int .i64 xr, .int .i64 xt] 45)).heap.size = gx + 1 := by simp; omega
      rw [← hgx] at qx ⊢
      generalize wr.alloc (Obj.cells #[.int .i64 xr, .int .i64 xt] 45) = w4 at *
      replace hgx := Lib.hid hgx
      clear d0 d1 hbw
      have qx4 := qx.out
      obtain ⟨c0, c1⟩ := qx4.c2
      have hS0 : Below w4.heap.size w4 w4.drew ∧ w4.drew.cell? ⟨gx, 0, none⟩ = some (.int .i64 xr) ∧ w4.drew.cell? ⟨gx, 1, none⟩ = some (.int .i64 xt) := ⟨bdr (Below.refl _ _), c0, c1⟩
      (refine wp_region_held_drew (S := (fun W => Below w4.heap.size w4 W ∧ W.cell? ⟨gx, 0, none⟩ = some (.int .i64 xr) ∧ W.cell? ⟨gx, 1, none⟩ = some (.int .i64 xt))) (by kernel_rfl) ?_ (fun hHeld => ?_); ((try dsimp only); exact hS0))
      clear hS0 c0 c1
      (refine tkO 0 ?_; refine tkO 1 ?_; refine tkO 2 ?_; refine tkO 3 ?_; refine tkO 4 ?_)
      (refine tdoO 5 (fun K hK => ?_); ((go_simp; refine (hOf.out _ (bch hbr3.out hHeld.1)).mono ?_; rintro _ w5 ⟨rfl, hb5⟩); refine hK.out _ _ ?_ (fun hHeld => ?_); ((try dsimp only); exact ⟨bch hHeld.1 hb5, cell_below hb5 hHeld.2.1, cell_below hb5 hHeld.2.2⟩); clear hK K; (try clear hHeld0); (try rename_i hHeld0)))
      clear hb5
      (refine tkO 6 ?_; refine tkO 7 ?_)
      (refine wpAnyH_done (by kernel_rfl) ?_ _)
      have hb45 := hHeld.1
      have qx5 := qx.out.below hb45
      have hO5 := owns_below hO3.out hb45
      have hb25 := bch hbr3.out hb45
      have hs5 := hb25.size
      clear hHeld hHeld0 hOf hgxs qx4
      obtain ⟨c0, c1⟩ := qx5.c2
      have hgl := qx5.lt
      obtain ⟨mt, hmt⟩ : ∃ m, m = min xt ot := ⟨_, rfl⟩
      have hbk' := hbk.out
      rw [← hmt] at hbk' ⊢
      replace hmt := Lib.hid hmt
      clear hbk
      by_cases hp : 0 < mt
      · have hd : decide (0 < mt) = true := by simp; omega
        rw [if_pos hp] at hbk'
        have hbl' : (Lg.both (mi.H.take (k + 1)) mj.H).length = (Lg.both (mi.H.take k) mj.H).length + 1 := by rw [hbk']; simp
        replace hbk' := Lib.hid hbk'
        replace hbl' := Lib.hid hbl'
        replace hb25 := Lib.hid hb25
        go_wp2_with ((at_builtin; go_must (refine app_one rfl _ _ 22 45 rfl (w2.heap.size) (.agg #[.int .i64 0, .int .i64 0]) 2 16 Tryz.underlying22 (by kernel_rfl) rfl _ _ _ rfl hO5 _ rfl rfl ?_ (by omega) (by omega) hs5 ?_)); (focus (intro u hu; simp only [List.mem_cons, List.not_mem_nil, or_false] at hu; rcases hu with rfl | rfl <;> rfl)); intro v6 w6 hO6 hg6 hbk6 hne6 hb6)
        go_roundw
        case rel =>
          refine ⟨k + 1, by omega, by go_num, ?_, hb25.out.trans hb6⟩
          rw [hbl'.out, hbk'.out, List.flatMap_append]; exact hO6
        case measure => simp [intOf]; omega
      · have hd : decide (0 < mt) = false := by simp; omega
        rw [if_neg hp, List.append_nil] at hbk'
        replace hbk' := Lib.hid hbk'
        replace hb25 := Lib.hid hb25
        replace hO5 := Lib.hid hO5
        go_wp2
        go_roundw
        case rel => exact ⟨k + 1, by omega, by go_num, by rw [hbk'.out]; exact hO5.out, hb25.out⟩
        case measure => simp [intOf]; omega
    · obtain rfl : k = mi.H.length := by omega
      rw [List.take_length] at hO
      have hVb : VecIs wr _ (Lg.both mi.H mj.H) := ListIs.of_owns hO
      have hbw := Lib.hid (bch hbw2.out hb)
      have hSi1 := Lib.hid (hSi.out _ _ hbw.out hVb)
      clear hSi hVb hO hb hcell hVj hbn hbm hHx
      go_wp2
      refine wp_loop_rounds 1 ?_
      rw [rounds_succ]
      go_wp2_with fail
      refine hSi1.out.mono ?_
      rintro _ w3 ⟨⟨vf, vh, vw, rfl, hf, hh, hw⟩, hb3⟩
      have hVf : VecIs w3 vf _ := ListIs.of_owns hf
      have hVh : VecIs w3 vh _ := ListIs.of_owns hh
      have hVw : WrsIs w3 vw _ := ListIs.of_owns hw
      obtain ⟨of, cf, rfl⟩ := owns_slice_ hf
      obtain ⟨oh, ch, rfl⟩ := owns_slice_ hh
      obtain ⟨ow, cw, rfl⟩ := owns_slice_ hw
      have hbw3 := Lib.hid (bch hbw.out hb3)
      have hws := Lib.hid hbw.out.size
      replace hh := Lib.hid hh
      generalize hlf : (Lg.both mi.H mj.H).length = lf at *
      generalize hlh : mi.H.length = lh at *
      generalize hlws : ws.length = lw at *
      replace hlf := Lib.hid hlf
      replace hlh := Lib.hid hlh
      replace hlws := Lib.hid hlws
      clear hSi1 hf hw hb3 hbw
      go_wp2_with fail
      have hb34 : Below w3.heap.size w3 (w3.alloc (Obj.cells #[.slice of lf cf, .slice oh lh ch, .slice ow lw cw] 25)) := by exact blw
      obtain ⟨g, hg⟩ : ∃ g, g = w3.heap.size := ⟨_, rfl⟩
      have q4 := row_at (w := w3) (g := g) #[.slice of lf cf, .slice oh lh ch, .slice ow lw cw] 25 hg
      rw [← hg]
      generalize w3.alloc (Obj.cells #[.slice of lf cf, .slice oh lh ch, .slice ow lw cw] 25) = w4 at *
      have hbw4 := bch hbw3.out hb34
      have hgw : w.heap.size ≤ g := by rw [hg]; exact hbw3.out.size
      have hg4 := q4.lt
      have hlo4 := h.more hbw4 (T' := fun j => T j ∨ (w.heap.size ≤ j ∧ j < w4.heap.size)) (fun j hj => hj.imp id (fun a => a.1)) (fun j hj => by
        rcases hj with hj | hj
        · have := h.old j hj; have := hbw4.size; omega
        · exact hj.2)
      have hh4 := owns_below hh.out hb34
      have hAc4 := Lib.hid (hAc.out w4 _ _ _ _ hbw4 hlo4 (hVf.below hb34) (hVh.below hb34) (WrsIs.below hVw hb34))
      replace hg := Lib.hid hg
      clear hVf hVh hVw hb34 hbw3 hAc hh
      refine hAc4.out.mono ?_
      rintro _ w5 ⟨rfl, ht⟩
      obtain ⟨l', hM, hlen', hat'⟩ := Moved.turned hj (hpj ▸ ht) hP'.out
      have hMw := Moved.before h hbw4 (hM.less (T' := T) (fun j hj => .inl hj))
      have q5 := q4.only hM.only fun ⟨k, hk, hm⟩ => hlo4.free k hk g hm (.inr ⟨hgw, hg4⟩)
      have hh5 := owns_only hh4 hM.only fun k hk ⟨a, ha, hm⟩ => hlo4.free a ha k hm (.inr ⟨by have := (hh4.lt k hk).1; have := hws.out; omega, (hh4.lt k hk).2⟩)
      have hVh5 : VecIs w5 (.slice oh lh ch) mi.H := ListIs.of_owns (l := mi.H) (by rw [hlh.out]; exact hh5)
      obtain ⟨hil, hip, him⟩ := hat' i hi
      have hm'len := ((Vec.right_iff _).1 hmok.out.have_).len
      have hem : ∃ e, e = (if j = i then m' else l[i].m) ∧ e.H.length ≤ 16 ∧ coversB mi.H e.H = true := by
        refine ⟨_, rfl, ?_⟩
        by_cases hji : j = i
        · rw [if_pos hji]
          refine ⟨hm'len, (Lg.covB oki.have_ hmok.out.have_).2 fun r => ?_⟩
          have := hof.out r
          have e2 : mi = mj := by subst hji; exact hmi'.symm.trans hmj'
          rw [← e2] at this
          omega
        · rw [if_neg hji, hmi', hlh.out]
          exact ⟨by omega, (Lg.covB oki.have_ oki.have_).2 (Vec.covers_refl _)⟩
      obtain ⟨e, he, hel, hec⟩ := hem
      rw [← he] at him
      have hH2 := Lib.hid (fun W (hW : Below w5.heap.size w5 W) => log_have base pi e _ _ W (by have := (hM.logs.below hW).each i hil; rw [hip, hpi, him] at this; exact this) (by omega))
      have hmet : Met w base T l G i j w5 := ⟨l', hMw, hlen', fun hi' k hk r => by
        obtain ⟨hkl, -, hkm⟩ := hat' k hk
        rw [hkm]
        by_cases hjk : j = k
        · subst hjk
          rw [if_pos rfl, if_pos rfl, hmi', hmj']
          exact hof.out r
        · rw [if_neg hjk, if_neg hjk]⟩
      replace hmet := Lib.hid hmet
      replace hVh5 := Lib.hid hVh5
      clear hAc4 ht hat' hM hMw q4 hh4 hh5 hlo4 him hip
      obtain ⟨c0, c1, c2⟩ := q5.c3
      have hgl := q5.lt
      clear q5
      go_wp2_with fail
      have hS0 : Below w5.heap.size w5 w5.drew ∧ w5.drew.cell? ⟨g, 1, none⟩ = some (.slice oh lh ch) := ⟨bdr (Below.refl _ _), c1⟩
      (refine wp_region_held_drew (S := (fun W => Below w5.heap.size w5 W ∧ W.cell? ⟨g, 1, none⟩ = some (.slice oh lh ch))) (by kernel_rfl) ?_ (fun hHeld => ?_); ((try dsimp only); exact hS0))
      clear hS0 c0 c1 c2
      (refine tkO 0 ?_; refine tkO 1 ?_; refine tkO 2 ?_)
      (refine tdoO 3 (fun K hK => ?_); ((go_simp; refine (hH2.out _ hHeld.1).mono ?_; rintro _ w6 ⟨⟨u6, rfl, hO6⟩, hb6⟩); refine hK.out _ _ ?_ (fun hHeld => ?_); ((try dsimp only); exact ⟨bch hHeld.1 hb6, cell_below hb6 hHeld.2⟩); clear hK K; (try clear hHeld0); (try rename_i hHeld0)))
      have hCv := vector_covers _ u6 mi.H e.H w6 (hVh5.out.below hHeld.1) (ListIs.of_owns hO6) (by rw [hlh.out]; omega) (by omega)
      rw [hec] at hCv
      replace hCv := Lib.hid hCv
      clear hO6 hb6 hH2
      (refine tdoO 4 (fun K hK => ?_); ((go_simp; refine hCv.out.mono ?_; rintro _ w7 ⟨rfl, hb7⟩); refine hK.out _ _ ?_ (fun hHeld => ?_); ((try dsimp only); exact ⟨bch hHeld.1 hb7, cell_below hb7 hHeld.2⟩); clear hK K; (try clear hHeld0); (try rename_i hHeld0)))
      (refine wpAnyH_done (by kernel_rfl) ?_ _)
      have hfin := hHeld.1
      clear hHeld hHeld0 hb7 hCv
      go_wp2
      go_ret
      obtain ⟨l', hM, hll, hx⟩ := hmet.out
      exact ⟨rfl, l', hM.after hfin, hll, hx⟩
end Go.Proofs.YtdbpiabcpjgblaaGreatDoor
/- The walk of slices.Equal over strings; lists of strings. -/
namespace Go.Proofs.YtdbpiabcpjgblaaGreatDoor
open Go.RowKit
set_option linter.unusedVariables false
theorem eqs_drop {a b : List ByteArray} {k : Nat} (ha : k < a.length) (hb : k < b.length) (he : a[k] = b[k]) : (a.drop k = b.drop k) ↔ (a.drop (k + 1) = b.drop (k + 1)) := by
  rw [List.drop_eq_getElem_cons ha, List.drop_eq_getElem_cons hb, he]; exact List.cons_inj_right _
theorem nes_drop {a b : List ByteArray} {k : Nat} (ha : k < a.length) (hb : k < b.length) (he : a[k] ≠ b[k]) : a.drop k ≠ b.drop k := by
  rw [List.drop_eq_getElem_cons ha, List.drop_eq_getElem_cons hb]; intro h; injection h with h _; exact he h
set_option maxHeartbeats 2000000 in
theorem eq_strs (va vb : Value) (a b : List ByteArray) (w : World) (ha : StrsIs w va a) (hb : StrsIs w vb b) (hla : a.length ≤ 140737488351232) (hlb : b.length ≤ 140737488351232) :
    Calls Tryz.prog 57 #[va, vb] w fun e w' => e = .returned (.bool (decide (a = b))) ∧ Below w.heap.size w w' := by
  obtain ⟨oa, ca, rfl, hca, hcella⟩ := ha.at strCells_len
  obtain ⟨ob, cb, rfl, hcb, hcellb⟩ := hb.at strCells_len
  clear ha hb hca hcb
  replace hcella := Lib.hid hcella
  replace hcellb := Lib.hid hcellb
  by_cases hl : a.length = b.length
  · have hl1 : a.length ≤ b.length := by omega
    have hl2 : b.length ≤ a.length := by omega
    have hle : ((a.length : Int) == (b.length : Int)) = true := by simp; omega
    have hle2 : ((a.length : Int) != (b.length : Int)) = false := by simp; omega
    replace hl := Lib.hid hl
    go_enter Tryz.func57, Tryz.ntmps57
    go_wp2
    go_loopw [13] (fun i wr => ∃ k : Nat, k ≤ a.length ∧ i = .int .i64 k ∧ (a.drop k = b.drop k ↔ a = b) ∧ Below w.heap.size w wr) (fun i _ => a.length - (intOf i).toNat)
    case atStart => exact ⟨0, by omega, rfl, by simp, by exact blw⟩
    case round =>
      obtain ⟨k, hk, rfl, heq, hbel⟩ := hrel
      have hsz := hbel.size
      by_cases hlt : k < a.length
      · have hlt2 : k < b.length := by omega
        obtain ⟨b1, f1, rfl, hb1, hc1⟩ := hcella.out k hlt
        obtain ⟨b2, f2, rfl, hb2, hc2⟩ := hcellb.out k hlt2
        have hb1 := hb1 (by omega)
        have hb2 := hb2 (by omega)
        have c0 : wr.cell? ⟨b1, f1 + k, none⟩ = some (.string a[k]) := (hbel.cell (p := ⟨b1, f1 + k, none⟩) hb1).trans (by have := hc1 0 _ rfl; simpa using this)
        have c2 : wr.cell? ⟨b2, f2 + k, none⟩ = some (.string b[k]) := (hbel.cell (p := ⟨b2, f2 + k, none⟩) hb2).trans (by have := hc2 0 _ rfl; simpa using this)
        clear hc1 hc2
        by_cases hxy : a[k] = b[k]
        · have hnx : Hid (a.drop (k + 1) = b.drop (k + 1) ↔ a = b) := Lib.hid ((eqs_drop hlt hlt2 hxy).symm.trans heq)
          rw [hxy] at c0
          replace hxy := Lib.hid hxy
          clear heq
          generalize b[k] = y at *
          have e1 : (y.toList == y.toList) = true := by simp
          go_wp2
          go_quiet (fail)
          go_wp2
          go_roundw
          case rel => exact ⟨k + 1, by omega, by go_num, hnx.out, by exact blw⟩
          case measure => simp [intOf]; omega
        · have hfin : Hid (decide (a = b) = false) := Lib.hid (decide_eq_false (fun h => nes_drop hlt hlt2 hxy (heq.2 h)))
          have hne := ba_list_ne hxy
          replace hxy := Lib.hid hxy
          clear heq
          generalize a[k] = x at *
          generalize b[k] = y at *
          go_wp2
          go_quiet (fail)
          go_wp2
          go_ret
          exact ⟨ret_bool hfin.out.symm, by exact blw⟩
      · have hfin : Hid (decide (a = b) = true) := Lib.hid (decide_eq_true (heq.1 (by rw [List.drop_of_length_le (by omega), List.drop_of_length_le (by omega)])))
        clear heq
        go_wp2
        go_ret
        exact ⟨ret_bool hfin.out.symm, by exact blw⟩
  · have hne : Hid (decide (a = b) = false) := Lib.hid (decide_eq_false (fun h => hl (by rw [h])))
    have hle : ((a.length : Int) == (b.length : Int)) = false := by simp; omega
    have hle2 : ((a.length : Int) != (b.length : Int)) = true := by simp; omega
    go_enter Tryz.func57, Tryz.ntmps57
    go_wp2
    go_ret
    exact ⟨ret_bool hne.out.symm, by exact blw⟩
end Go.Proofs.YtdbpiabcpjgblaaGreatDoor
/- The walk of keep.sameCells (of lists that are one). -/
namespace Go.Proofs.YtdbpiabcpjgblaaGreatDoor
open Go.RowKit
set_option linter.unusedVariables false
set_option linter.unusedSimpArgs false
set_option maxHeartbeats 1000000 in
theorem same_cel (k : ByteArray) (h : Bool) (t : ByteArray) (s : Int) (l : List ByteArray) (la lb : Option Addr) (ln ln' lc lc' : Nat) (W : World) (hx : StrsIs W (.slice la ln lc) l) (hy : StrsIs W (.slice lb ln' lc') l) (hl : l.length ≤ 1000) :
    Calls Tryz.prog 62 #[.agg #[.string k, .bool h, .string t, .int .i64 s, .slice la ln lc], .agg #[.string k, .bool h, .string t, .int .i64 s, .slice lb ln' lc']] W fun e w' => e = .returned (.bool true) ∧ Below W.heap.size W w' := by
  have hE := Lib.hid (fun V (hV : Below W.heap.size W V) => eq_strs (.slice la ln lc) (.slice lb ln' lc') l l V (ListIs.below hx (by omega) hV) (ListIs.below hy (by omega) hV) (by omega) (by omega))
  clear hx hy
  have hd : decide (l = l) = true := by simp
  go_enter Tryz.func62, Tryz.ntmps62
  go_wp2_with (go_at_call 57; refine (hE.out _ (by exact blw)).mono ?_; rintro _ w2 ⟨rfl, hb2⟩; rw [hd])
  go_ret
  exact ⟨rfl, by exact blw⟩
/-- Lists of cells that a walk compares. -/
def CelL (w : World) (v : Value) (L : List CelB) : Prop := ListIs celCells 5 w v L ∧ ∀ x ∈ L, StrsIs w (.slice x.la x.ln x.lc) x.cel.val.list
theorem CelL.below {w w' : World} {v : Value} {L : List CelB} (h : CelL w v L) (hb : Below w.heap.size w w') : CelL w' v L := ⟨h.1.below (by omega) hb, fun x hx => (h.2 x hx).below (by omega) hb⟩
set_option maxHeartbeats 2000000 in
set_option maxRecDepth 20000 in
theorem equal_cells (va vb : Value) (A B : List CelB) (w : World) (ha : CelL w va A) (hb : CelL w vb B) (hAB : A.map CelB.cel = B.map CelB.cel) (hl : A.length ≤ 1000) (hll : ∀ x ∈ A, x.cel.val.list.length ≤ 1000) :
    Calls Tryz.prog 61 #[va, vb, .func (.func 62) #[] #[]] w fun e w' => e = .returned (.bool true) ∧ Below w.heap.size w w' := by
  have hlen : B.length = A.length := by have := congrArg List.length hAB; simpa using this.symm
  obtain ⟨oa, ca, rfl, -, hca⟩ := ha.1.at celCells_len
  obtain ⟨ob, cb, rfl, -, hcb⟩ := hb.1.at celCells_len
  rw [hlen]
  replace hca := Lib.hid hca
  replace hcb := Lib.hid hcb
  have hsa := Lib.hid ha.2
  have hsb := Lib.hid hb.2
  clear ha hb
  replace hAB := Lib.hid hAB
  replace hlen := Lib.hid hlen
  replace hll := Lib.hid hll
  go_enter Tryz.func61, Tryz.ntmps61
  go_wp2
  go_loopw [17] (fun i wr => ∃ k : Nat, k ≤ A.length ∧ i = .int .i64 k ∧ Below w.heap.size w wr) (fun i _ => A.length - (intOf i).toNat)
  case atStart => exact ⟨0, by omega, rfl, Below.refl _ _⟩
  case round =>
    obtain ⟨k, hk, rfl, hb⟩ := hrel
    by_cases hlt : k < A.length
    · have hltb : k < B.length := by rw [hlen.out]; exact hlt
      obtain ⟨b1, f1, rfl, hb1, hc1⟩ := hca.out k hlt
      obtain ⟨b2, f2, rfl, hb2, hc2⟩ := hcb.out k hltb
      have hb1 := hb1 (by omega)
      have hb2 := hb2 (by omega)
      have hcel : B[k].cel = A[k].cel := by
        have := congrArg (fun l => l[k]?) hAB.out
        simp only [List.getElem?_map, List.getElem?_eq_getElem hlt, List.getElem?_eq_getElem hltb, Option.map_some, Option.some.injEq] at this
        exact this.symm
      have g1 : ∀ (j : Nat) (u : Value), (celCells A[k])[j]? = some u → wr.cell? ⟨b1, f1 + k * 5 + j, none⟩ = some u := fun j u hu => (hb.cell (p := ⟨b1, f1 + k * 5 + j, none⟩) hb1).trans (hc1 j u hu)
      have g2 : ∀ (j : Nat) (u : Value), (celCells B[k])[j]? = some u → wr.cell? ⟨b2, f2 + k * 5 + j, none⟩ = some u := fun j u hu => (hb.cell (p := ⟨b2, f2 + k * 5 + j, none⟩) hb2).trans (hc2 j u hu)
      have hS1 := (hsa.out _ (List.getElem_mem hlt)).below (by omega) hb
      have hS2 := (hsb.out _ (List.getElem_mem hltb)).below (by omega) hb
      have hn := hll.out _ (List.getElem_mem hlt)
      generalize A[k] = x at *
      generalize B[k] = y at *
      obtain ⟨⟨xk, xh, xt, xs, xl⟩, xa, xn, xc⟩ := x
      obtain ⟨yc, ya, yn, yd⟩ := y
      simp only at hcel
      subst hcel
      (try simp only at hS1 hS2 hn)
      have c0 : wr.cell? ⟨b1, f1 + k * 5, none⟩ = _ := g1 0 _ rfl
      have c1 := g1 1 _ rfl
      have c2 := g1 2 _ rfl
      have c3 := g1 3 _ rfl
      have c4 := g1 4 _ rfl
      have d0 : wr.cell? ⟨b2, f2 + k * 5, none⟩ = _ := g2 0 _ rfl
      have d1 := g2 1 _ rfl
      have d2 := g2 2 _ rfl
      have d3 := g2 3 _ rfl
      have d4 := g2 4 _ rfl
      (try simp only at c0 c1 c2 c3 c4 d0 d1 d2 d3 d4)
      have hb1w : b1 < wr.heap.size := Nat.lt_of_lt_of_le hb1 hb.size
      have hb2w : b2 < wr.heap.size := Nat.lt_of_lt_of_le hb2 hb.size
      have hcm := Lib.hid (fun V (hV : Below wr.heap.size wr V) => same_cel xk xh xt xs xl xa ya xn yn xc yd V (hS1.below (by omega) hV) (hS2.below (by omega) hV) hn)
      clear g1 g2 hc1 hc2 hS1 hS2 hn
      go_wp2_with (go_at_call 62; refine (hcm.out _ (by exact blw)).mono ?_; rintro _ w3 ⟨rfl, hb3⟩)
      go_roundw
      case rel => exact ⟨k + 1, by omega, by go_num, by exact blw⟩
      case measure => simp [intOf]; omega
    · obtain rfl : k = A.length := by omega
      go_wp2
      go_ret
      exact ⟨rfl, hb⟩
theorem same_cells (va vb : Value) (A B : List CelB) (w : World) (ha : CelL w va A) (hb : CelL w vb B) (hAB : A.map CelB.cel = B.map CelB.cel) (hl : A.length ≤ 1000) (hll : ∀ x ∈ A, x.cel.val.list.length ≤ 1000) :
    Calls Tryz.prog 39 #[va, vb] w fun e w' => e = .returned (.bool true) ∧ Below w.heap.size w w' := by
  have hE := Lib.hid (equal_cells va vb A B w ha hb hAB hl hll)
  clear ha hb
  replace hAB := Lib.hid hAB
  replace hll := Lib.hid hll
  go_enter Tryz.func39, Tryz.ntmps39
  go_wp2_with (go_at_call 61; refine hE.out.mono ?_; rintro _ w2 ⟨rfl, hb2⟩)
  go_ret
  exact ⟨rfl, hb2⟩
theorem celL_of {w : World} {base base' : Nat} {v : Value} {L : List CelB} (h : w.ownsRow base 105 5 v L.length (L.flatMap celCells)) (hs : ∀ x ∈ L, w.ownsRow base' 9 1 (.slice x.la x.ln x.lc) x.cel.val.list.length (x.cel.val.list.flatMap strCells)) : CelL w v L :=
  ⟨ListIs.of_owns h, fun x hx => ListIs.of_owns (hs x hx)⟩
/-- How long lists of cells can be. -/
theorem cells_le {l : List St.W} {C : List St.Cel} (hl : ∀ x ∈ l, St.Good x) (h : St.IsCells C (St.at_ l)) : C.length ≤ l.length ∧ ∀ c ∈ C, c.val.list.length ≤ l.length := by
  constructor
  · have hn : (C.map (·.key)).Nodup := by
      rw [List.Nodup, List.pairwise_map]
      exact h.1.imp fun hab e => by rw [e, St.lt_irrefl] at hab; cases hab
    have hs : (C.map (·.key)) ⊆ l.map (·.key) := fun k hk => by
      obtain ⟨c, hc, rfl⟩ := List.mem_map.1 hk
      obtain ⟨h1, h2⟩ := (h.2 c).1 hc
      rw [← h2] at h1
      obtain ⟨x, hx, e⟩ := St.at_mem h1
      exact List.mem_map.2 ⟨x, hx, e⟩
    have := hn.length_le_of_subset hs
    simpa using this
  · intro c hc
    rw [← ((h.2 c).1 hc).2]
    exact (St.at_fits l hl c.key).len
theorem good_sws {l : List WrB} (h : ∀ x ∈ l, Right_ x) : ∀ x ∈ l.map WrB.sw, St.Good x := fun x hx => by
  obtain ⟨y, hy, rfl⟩ := List.mem_map.1 hx
  exact good_sw (h y hy)
theorem celB_le {l : List WrB} {L : List CelB} (hl : ∀ x ∈ l, Right_ x) (hn : l.length ≤ 1000) (h : St.IsCells (L.map CelB.cel) (St.at_ (l.map WrB.sw))) : L.length ≤ 1000 ∧ ∀ x ∈ L, x.cel.val.list.length ≤ 1000 := by
  obtain ⟨h1, h2⟩ := cells_le (good_sws hl) h
  rw [List.length_map, List.length_map] at h1
  refine ⟨by omega, fun x hx => ?_⟩
  have := h2 _ (List.mem_map.2 ⟨x, hx, rfl⟩)
  rw [List.length_map] at this
  omega
end Go.Proofs.YtdbpiabcpjgblaaGreatDoor
