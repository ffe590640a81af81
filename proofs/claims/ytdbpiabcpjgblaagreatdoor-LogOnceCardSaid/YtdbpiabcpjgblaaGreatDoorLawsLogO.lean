/- The walk of the law LogOnce. -/
import Derived.Test.YtdbpiabcpjgblaaGreatDoorK45
import Derived.Test.YtdbpiabcpjgblaaGreatDoorK28
namespace Go.Proofs.YtdbpiabcpjgblaaGreatDoor
open Go.RowKit
set_option linter.unusedVariables false
set_option linter.unusedSimpArgs false
namespace Once
theorem all_new {m : Lg} (h : m.Ok) : m.W.filter (Lg.new_ []) = m.W := List.filter_eq_self.2 fun x hx => by
 have := (right_one (h.right_ x hx)).2.2.1
 exact decide_eq_true (show (0 : Int) < x.t by omega)
theorem sent_nil {m : Lg} (h : m.Ok) (hl : m.W.length ≤ 60) : Lg.sent m [] = m.W ∧ Lg.sentHave m [] = m.H := by
 have := Lg.sent_all (m := m) (f := []) (by rw [all_new h]; exact hl)
 rw [all_new h] at this
 exact this
theorem take {m t : Lg} (h : m.Ok) (ha : Lg.Asc m.W) (hl : m.W.length ≤ 60) (ht : t.Ok) (hta : Lg.Asc t.W) (hH : Vec.merge t.H m.H = m.H) (hsub : ∀ x ∈ t.W, x ∈ m.W) :
  ∃ n, Lg.accept t [] m.H m.W = .inr (⟨t.rep, m.H, m.W⟩, n) ∧ Lg.Ok ⟨t.rep, m.H, m.W⟩ ∧ m.W.length = t.W.length + n := by
 have hb := Lg.sent_fine h ha (f := []) (by rfl) (fun r => Vec.of_pos ((Vec.right_iff _).1 h.have_).pos r)
 rw [(sent_nil h hl).1, (sent_nil h hl).2] at hb
 obtain ⟨W', n, e, ok, ha', hw, hln, -, -, -⟩ := Lg.accept_good ht hta hb (fun r => Vec.of_pos ((Vec.right_iff _).1 ht.have_).pos r) (fun y hy x hx he => by
  rcases List.getElem_of_mem hy with ⟨i, hi, rfl⟩
  rcases List.getElem_of_mem (hsub x hx) with ⟨j, hj, hjx⟩
  subst hjx
  rcases Nat.lt_trichotomy i j with h1 | h1 | h1
  ·have := pair_lt ha hi hj h1
   rw [cmpW_zero] at he
   rw [cmpW_neg] at this
   omega
  ·subst h1; rfl
  ·have := pair_lt ha hj hi h1
   omega) (by rw [hH]; exact ((Vec.right_iff _).1 h.have_).len) (fun W' h1 h2 => by
  have := Lg.len_le h1 (b := m.W) fun x hx => by
   rcases (h2 x).1 hx with hx | hx
   ·exact hsub x hx
   ·exact hx
  omega)
 have hW : W' = m.W := Lg.asc_ext ha' ha fun x => (hw x).trans ⟨fun hx => by
  rcases hx with hx | hx
  ·exact hsub x hx
  ·exact hx, .inr⟩
 subst hW
 rw [hH] at e ok
 exact ⟨n, e, ok, hln⟩
end Once
set_option maxHeartbeats 8000000 in
set_option maxRecDepth 20000 in
theorem LogOnce_walk (a : Int) (v : Value) (l : List ActB) (w : World) (w0 : (Lit.int .i64 a).wf = true) (hv : ListIs actCells 9 w v l) (q : ∀ x ∈ l, ActOk x) (z : l.length ≤ 140737488351232) (hL : Laid w) :
  Calls Tryz.prog 5 #[.int .i64 a, v] w fun e w' => e = .returned (.bool true) ∧ Below w.heap.size w w' := by
 have hLg := Lib.hid (keep_logged w hL)
 have hSm := Lib.hid (fun W (hW : Below w.heap.size w W) => keep_small v l W (hv.below (by omega) hW) z (fun x hx => ⟨(q x hx).2.2.1, (q x hx).2.2.2.1⟩))
 have hPk := Lib.hid (fun W => keep_pick a 5 5 W rfl (by omega) (by omega))
 obtain ⟨N, hN⟩ : ∃ N, N = 1 + pickN a 5 := ⟨_, rfl⟩
 have hplt := pickN_lt a 5 (by omega)
 have wN : IntKind.i64.wrap (1 + (pickN a 5 : Int)) = (N : Int) := by rw [IntWalk.i64_in _ (by omega)]; omega
 have hN1 : 1 ≤ N := by omega
 have hN5 : N ≤ 5 := by omega
 have hPa := Lib.hid (fun W (hW : Below w.heap.size w W) (hs : smallB l = true) => keep_party N v l W (hL.below hW) hN1 hN5 (hv.below (by omega) hW) (by unfold smallB at hs; simp only [Bool.and_eq_true, decide_eq_true_eq] at hs; exact hs.2))
 generalize pickN a 5 = pk at *
 obtain ⟨ov, cv, rfl, -, -⟩ := ListIs.at hv actCells_len
 have hl60 : smallB l = true → l.length ≤ 60 := fun hs => by unfold smallB at hs; simp only [Bool.and_eq_true, decide_eq_true_eq] at hs; exact hs.2
 clear hN hplt w0 hv q
 generalize smallB l = sm at *
 go_enter Tryz.func5, Tryz.ntmps5
 go_wp2_with fail
 refine hLg.out.mono ?_
 rintro _ w1 ⟨rfl, hb1⟩
 clear hLg
 go_wp2_with fail
 refine (hSm.out _ hb1).mono ?_
 rintro _ w2 ⟨rfl, hb2⟩
 have hbw2 := bch hb1 hb2
 clear hSm hb1 hb2
 cases sm with
 | false =>
  go_wp2
  go_ret
  exact ⟨rfl, by exact blw⟩
 | true =>
 have hPa1 := Lib.hid (hPa.out w2 hbw2 rfl)
 replace hl60 := hl60 rfl
 clear hPa
 go_wp2_with fail
 refine (hPk.out _).mono ?_
 rintro _ _ ⟨rfl, rfl⟩
 clear hPk
 go_wp2_with fail
 refine hPa1.out.mono ?_
 rintro _ w3 ⟨⟨u, rfl, ls, G, hV, hln, hPt, hGl⟩, hb23⟩
 have hbase := hbw2.size
 have hbw3 := hbw2.trans (hb23.mono hbase)
 have hG : G.length ≤ 60 := by omega
 obtain ⟨B, hB⟩ : ∃ B, B = w2.heap.size := ⟨_, rfl⟩
 have hB3 : B ≤ w3.heap.size := hB ▸ hb23.size
 rw [← hB] at hV hbase
 obtain ⟨ou, cu, rfl⟩ := owns_slice_ hV.at_
 obtain ⟨g, rfl, -⟩ := owns_pos hV.at_ (by omega)
 rw [hln] at hV ⊢
 clear hPa1 hb23 hbw2 hB hGl
 have h0 : 0 < ls.length := by omega
 obtain ⟨ok0, a0, -⟩ := hPt.ok 0 (by simpa using h0)
 have hlen0 : ls[0].m.W.length ≤ 60 := Nat.le_trans (Lg.len_le (b := G) (by rwa [List.getElem_map] at a0) fun x hx => ((hPt.has 0 (by simpa using h0) x).1 (by rw [List.getElem_map]; exact hx)).1) hG
 rw [List.getElem_map] at ok0 a0
 have hlg0 := hV.logs.each 0 h0
 have e0 : w3.cell? ⟨g, 0, none⟩ = some (.pointer (some ⟨ls[0].p, 0, none⟩)) := by
  have hO := hV.at_
  rw [hln] at hO
  rw [hO.cellAt 0 (by omega), List.getElem?_map, List.getElem?_eq_getElem h0]; rfl
 have hgl := (hV.at_.lt g rfl).2
 clear hV hPt
 generalize ls[0] = A at *
 obtain ⟨p0, m0, hv0, wv0⟩ := A
 (try simp only at ok0 a0 hlg0 e0 hlen0)
 have hF0 := (Vec.right_iff _).1 ok0.have_
 obtain ⟨sn1, sn2⟩ := Once.sent_nil ok0 hlen0
 have ok9 := Logged.ok_new 9 (by omega) (by omega)
 obtain ⟨n1, acc1, ok1, k1⟩ := Once.take ok0 a0 hlen0 ok9 List.Pairwise.nil (Vec.merge_nil _) (fun x hx => by cases hx)
 obtain ⟨n2, acc2, -, k2⟩ := Once.take (t := ⟨9, m0.H, m0.W⟩) ok0 a0 hlen0 ok1 a0 (Vec.merge_self hF0.sorted hF0.pos) (fun x hx => hx)
 have hn1 : n1 = m0.W.length := by simpa using k1.symm
 have hn2 : n2 = 0 := by have : m0.W.length = m0.W.length + n2 := k2; omega
 clear k1 k2
 subst hn1 hn2
 have hH16 := hF0.len
 generalize hlw : m0.W.length = lw at *
 generalize hlh : m0.H.length = lh at *
 replace hlw := Lib.hid hlw
 replace hlh := Lib.hid hlh
 replace acc1 := Lib.hid acc1
 replace acc2 := Lib.hid acc2
 replace sn1 := Lib.hid sn1
 replace sn2 := Lib.hid sn2
 replace ok9 := Lib.hid ok9
 replace ok0 := Lib.hid ok0
 replace a0 := Lib.hid a0
 replace hF0 := Lib.hid hF0
 replace ok1 := Lib.hid ok1
 replace hlg0 := Lib.hid hlg0
 replace hbw3 := Lib.hid hbw3
 have hN := Lib.hid (log_new 9 w3 (by omega) (by omega))
 go_wp2_with fail
 refine hN.out.mono ?_
 rintro _ w4 ⟨p, rfl, hp, hb4⟩
 have hbw4 := bch hbw3.out hb4
 have hSi := Lib.hid (logs_since_ok (hL.below hbw4) (Logs.one (hlg0.out.below hb4)) (i := 0) (by simp) p0 rfl m0 rfl ok0.out (ListIs.nil _ _ w4) (by simp) (by rfl) (fun r => Vec.of_pos hF0.out.pos r) _ _ sn2.out sn1.out)
 have hs34 := Lib.hid hb4.size
 have hsw3 := Lib.hid hbw3.out.size
 replace e0 := cell_below hb4 e0
 have hgl4 : g < w4.heap.size := Nat.lt_of_lt_of_le hgl hb4.size
 have hNp : 0 < N := by omega
 replace hp := Lib.hid hp
 replace hbw4 := Lib.hid hbw4
 clear hN hlg0 hbw3 hb4 hgl
 go_wp2_with fail
 refine hSi.out.mono ?_
 rintro _ w5 ⟨⟨vf, vh, vw, rfl, hf, hh, hw⟩, hb5⟩
 have hVf : VecIs w5 vf [] := ListIs.of_owns hf
 have hVh : VecIs w5 vh m0.H := ListIs.of_owns hh
 rw [hlw.out] at hw
 rw [hlh.out] at hh
 obtain ⟨of, cf, rfl⟩ := owns_slice_ hf
 obtain ⟨oh, ch, rfl⟩ := owns_slice_ hh
 obtain ⟨ow, cw, rfl⟩ := owns_slice_ hw
 replace hw := Lib.hid hw
 replace hh := Lib.hid hh
 replace hf := Lib.hid hf
 replace hb5 := Lib.hid hb5
 clear hSi e0 hgl4
 go_wp2_with fail
 have hb56 : Below w5.heap.size w5 (w5.alloc (Obj.cells #[.slice of 0 cf, .slice oh lh ch, .slice ow lw cw] 25)) := by exact blw
 obtain ⟨gb, hgb⟩ : ∃ g, g = w5.heap.size := ⟨_, rfl⟩
 have q6 := row_at (w := w5) (g := gb) #[.slice of 0 cf, .slice oh lh ch, .slice ow lw cw] 25 hgb
 rw [← hgb]
 generalize w5.alloc (Obj.cells #[.slice of 0 cf, .slice oh lh ch, .slice ow lw cw] 25) = w6 at *
 have hb46 := bch hb5.out hb56
 have hl6 := (Logs.one hp.out).more hb46 (T' := fun j => w4.heap.size ≤ j ∧ j < w6.heap.size) (fun j hj => .inr hj.1) (fun j hj => hj.2)
 have hg45 : w4.heap.size ≤ gb := by rw [hgb]; exact hb5.out.size
 have hbw6 := bch hbw4.out hb46
 have hw36 : w3.heap.size ≤ w6.heap.size := by have := hb46.size; have := hs34.out; omega
 have hf6 := owns_below hf.out hb56
 have hh6 := owns_below hh.out hb56
 have hw6 := owns_below hw.out hb56
 replace hgb := Lib.hid hgb
 refine (logs_accept_ok (hL.below hbw6) hl6 (i := 0) (by simp) p rfl ⟨9, [], []⟩ ⟨9, m0.H, m0.W⟩ rfl ok9.out List.Pairwise.nil (ListIs.of_owns (l := []) hf6) (ListIs.of_owns (l := m0.H) (by rw [hlh.out]; exact hh6)) (ListIs.of_owns (l := m0.W) (by rw [hlw.out]; exact hw6)) (by simp) (by rw [hlh.out]; omega) (by rw [hlw.out]; omega) lw acc1.out).mono ?_
 rintro _ w7 ⟨rfl, ht7⟩
 have hb67 := ht7.below hl6 hw36
 have hbw7 := hbw6.trans (hb67.mono hsw3.out)
 obtain ⟨h7, v7, hl7, ho7, -⟩ := ht7
 have hT : ∀ j, w4.heap.size ≤ j → j < w6.heap.size → ¬ ∃ h : 0 < [(⟨p, ⟨9, [], []⟩, .slice none 0 0, .slice none 0 0⟩ : LgAt)].length, [(⟨p, ⟨9, [], []⟩, .slice none 0 0, .slice none 0 0⟩ : LgAt)][0].mine j := fun j h1 h2 ⟨hi, hm⟩ => hl6.free 0 hi j hm ⟨h1, h2⟩
 have hs6 := hb56.size
 have q7 := q6.only ho7 (hT _ hg45 q6.lt)
 have hf7 := owns_only hf6 ho7 fun k hk => hT k (hf6.lt k hk).1 (hf6.lt k hk).2
 have hh7 := owns_only hh6 ho7 fun k hk => hT k (hh6.lt k hk).1 (hh6.lt k hk).2
 have hw7 := owns_only hw6 ho7 fun k hk => hT k (hw6.lt k hk).1 (hw6.lt k hk).2
 have hw37 : w3.heap.size ≤ w7.heap.size := Nat.le_trans hw36 ho7.size
 have hs67 := ho7.size
 have hw7lt := fun k hk => show w4.heap.size ≤ k ∧ k < w6.heap.size from ⟨(hw6.lt k hk).1, (hw6.lt k hk).2⟩
 have hgb6 := q6.lt
 have hlw1 : m0.W.length ≤ 1000 := by rw [hlw.out]; omega
 have hWr := Lib.hid (log_writes w3.heap.size p ⟨9, m0.H, m0.W⟩ h7 v7 w7 (hl7.each 0 (by simp)) hlw1)
 replace hl7 := Lib.hid hl7
 replace q7 := Lib.hid q7
 replace hf7 := Lib.hid hf7
 replace hh7 := Lib.hid hh7
 replace hw7 := Lib.hid hw7
 replace hbw7 := Lib.hid hbw7
 clear hb67 ho7 hT hl6 hf6 hh6 hw6 q6 hb46 hb56 hbw6 hf hh hw hVf hVh hb5 hp
 go_wp2_with fail
 refine hWr.out.mono ?_
 rintro _ w8 ⟨⟨u8, rfl, hO8⟩, hb8⟩
 have hO8 : w8.ownsRow w7.heap.size 33 6 u8 m0.W.length (m0.W.flatMap wrBCells) := hO8
 rw [hlw.out] at hO8
 obtain ⟨o8, c8, rfl⟩ := owns_slice_ hO8
 have hl8 := hl7.out.more hb8 (T' := fun j => (w4.heap.size ≤ j ∧ j < w6.heap.size) ∨ (w7.heap.size ≤ j ∧ j < w8.heap.size)) (fun j hj => hj.imp id (fun h => h.1)) (fun j hj => by
  rcases hj with hj | hj
  ·have := hb8.size; omega
  ·exact hj.2)
 have hbw8 := bch hbw7.out hb8
 have q8 := q7.out.below hb8
 have hf8 := owns_below hf7.out hb8
 have hh8 := owns_below hh7.out hb8
 have hw8 := owns_below hw7.out hb8
 have hw38 : w3.heap.size ≤ w8.heap.size := Nat.le_trans hw37 hb8.size
 have hAc := Lib.hid (logs_accept_ok (hL.below hbw8) hl8 (i := 0) (by simp) p rfl ⟨9, m0.H, m0.W⟩ ⟨9, m0.H, m0.W⟩ rfl ok1.out a0.out (ListIs.of_owns (l := []) hf8) (ListIs.of_owns (l := m0.H) (by rw [hlh.out]; exact hh8)) (ListIs.of_owns (l := m0.W) (by rw [hlw.out]; exact hw8)) (by simp) (by rw [hlh.out]; omega) (by rw [hlw.out]; omega) 0 acc2.out)
 obtain ⟨c0, c1, c2⟩ := q8.c3
 have hgl8 := q8.lt
 replace hl8 := Lib.hid hl8
 replace hbw8 := Lib.hid hbw8
 replace q8 := Lib.hid q8
 replace hw8 := Lib.hid hw8
 replace hO8 := Lib.hid hO8
 clear hWr hl7 q7 hf7 hh7 hw7 hbw7 hb8 hf8 hh8
 go_wp2_with fail
 refine hAc.out.mono ?_
 rintro _ w9 ⟨rfl, ht9⟩
 have hb89 := ht9.below hl8.out hw38
 have hbw9 := hbw8.out.trans (hb89.mono hsw3.out)
 obtain ⟨h9, v9, hl9, ho9, -⟩ := ht9
 have hT : ∀ j, (w4.heap.size ≤ j ∧ j < w6.heap.size) ∨ (w7.heap.size ≤ j ∧ j < w8.heap.size) → ¬ ∃ h : 0 < ([(⟨p, ⟨9, [], []⟩, .slice none 0 0, .slice none 0 0⟩ : LgAt)].set 0 ⟨p, ⟨9, m0.H, m0.W⟩, h7, v7⟩).length, ([(⟨p, ⟨9, [], []⟩, .slice none 0 0, .slice none 0 0⟩ : LgAt)].set 0 ⟨p, ⟨9, m0.H, m0.W⟩, h7, v7⟩)[0].mine j := fun j h1 ⟨hi, hm⟩ => hl8.out.free 0 hi j hm h1
 have q8' := q8.out
 have hgb8 := q8'.lt
 have q9 := q8'.only ho9 (hT _ (.inl ⟨hg45, hgb6⟩))
 have hw9 := owns_only hw8.out ho9 fun k hk => hT k (.inl (hw7lt k hk))
 have hO9 := owns_only hO8.out ho9 fun k hk => hT k (.inr ⟨(hO8.out.lt k hk).1, (hO8.out.lt k hk).2⟩)
 have hWr9 := Lib.hid (fun W (hW : Below w9.heap.size w9 W) => log_writes w3.heap.size p ⟨9, m0.H, m0.W⟩ h9 v9 W ((hl9.below hW).each 0 (by simp)) hlw1)
 have hyw : WrsIs w9 (.slice ow lw cw) m0.W := ListIs.of_owns (l := m0.W) (by rw [hlw.out]; exact hw9)
 have hyO : WrsIs w9 (.slice o8 lw c8) m0.W := ListIs.of_owns (l := m0.W) (by rw [hlw.out]; exact hO9)
 have hlw2 : m0.W.length ≤ 140737488351232 := by omega
 have hE2 := Lib.hid (fun W (hW : Below w9.heap.size w9 W) => eq_wrs _ _ m0.W m0.W W (WrsIs.below hyO hW) (WrsIs.below hyw hW) hlw2 hlw2)
 replace hyO := Lib.hid hyO
 obtain ⟨c0, c1, c2⟩ := q9.c3
 have hgl9 := q9.lt
 replace hbw9 := Lib.hid hbw9
 clear hAc hl8 hbw8 q8 hw8 hO8 hb89 ho9 hl9 hT hw9 hO9 q9 hyw q8'
 go_wp2_with fail
 refine (hWr9.out _ (Below.refl _ _)).mono ?_
 rintro _ wa ⟨⟨ua, rfl, hOa⟩, hba⟩
 have hOa : wa.ownsRow w9.heap.size 33 6 ua m0.W.length (m0.W.flatMap wrBCells) := hOa
 have hE1 := eq_wrs _ ua m0.W m0.W wa (WrsIs.below hyO.out hba) (ListIs.of_owns hOa) hlw2 hlw2
 rw [show decide (m0.W = m0.W) = true from decide_eq_true rfl] at hE1
 have c0' := cell_below hba c0
 have c1' := cell_below hba c1
 have c2' := cell_below hba c2
 have hgla : gb < wa.heap.size := Nat.lt_of_lt_of_le hgl9 hba.size
 replace hE1 := Lib.hid hE1
 replace hba := Lib.hid hba
 clear hWr9 hOa c0 c1 c2
 go_wp2_with fail
 refine hE1.out.mono ?_
 rintro _ wb ⟨rfl, hbb⟩
 have hb9b := bch hba.out hbb
 have hE2b := hE2.out wb hb9b
 (first | rw [show decide (m0.W = m0.W) = true from decide_eq_true rfl] at hE2b | simp only [decide_true] at hE2b)
 replace hE2b := Lib.hid hE2b
 have c2'' := cell_below hbb c2'
 have hglb : gb < wb.heap.size := Nat.lt_of_lt_of_le hgla hbb.size
 replace hb9b := Lib.hid hb9b
 clear hE1 hE2 c0' c1' c2' hbb
 go_wp2_with fail
 refine hE2b.out.mono ?_
 rintro _ wc ⟨rfl, hbc⟩
 go_wp2
 go_ret
 exact ⟨rfl, hbw9.out.trans ((bch hb9b.out hbc).mono (by have := hbw9.out.size; omega))⟩
end Go.Proofs.YtdbpiabcpjgblaaGreatDoor
