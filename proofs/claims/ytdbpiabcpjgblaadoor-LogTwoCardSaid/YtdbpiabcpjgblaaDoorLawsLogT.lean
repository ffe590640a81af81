/- The walk of the law LogTwo. -/
import Derived.Test.YtdbpiabcpjgblaaDoorWLogged
import Derived.Test.YtdbpiabcpjgblaaDoorWUpd
namespace Go.Proofs.YtdbpiabcpjgblaaDoor
open Go.RowKit
set_option linter.unusedVariables false
set_option linter.unusedSimpArgs false
namespace LogT
def m0 : Lg := ⟨0, [], []⟩
def m1 (x : WrB) : Lg := ⟨0, [⟨x.r, x.t⟩], [x]⟩
def other (x : WrB) (key : ByteArray) : WrB := ⟨x.t, x.r, x.k, key, x.val, x.n⟩
theorem ok0 : m0.Ok := Logged.ok_new 0 (by omega) (by omega)
theorem right_other {x : WrB} {key : ByteArray} (h : Right_ x) (hk : key.size ≤ 40) : Right_ (other x key) := by
  obtain ⟨k1, k4, i1, i2, i3, i4, hkey, hval, hv0, hn0, hadd, hins⟩ := Wr.right_zero h
  simp only [wr] at k1 k4 i1 i2 i3 i4 hkey hval hv0 hn0 hadd hins
  exact Wr.right_of (x := wr x.t x.r x.k key x.val x.n) k1 k4 i1 i2 i3 i4 (by show key.data.toList.length ≤ 40; rw [ba_len]; exact hk) hval hv0 hn0 hadd hins
theorem one_ok {x : WrB} (h : Right_ x) : Vec.right [⟨x.r, x.t⟩] = .ok := by
  obtain ⟨h1, h2, h3, h4⟩ := right_one h
  exact one_right h1 h2 h3 h4
theorem bat {x y : WrB} (h : Right_ x) (ht : y.t = x.t) (hr : y.r = x.r) (hy : Right_ y) : Bat.right [] [⟨x.r, x.t⟩] ([y].map WrB.plain) = .ok := by
  have h1 := one_ok h
  have h2 := right_one h
  refine (Bat.right_iff _ _ _).2 ⟨by rfl, h1, Bat.covers_iff'.2 ⟨h1, by rfl, fun r => ?_⟩, by simp, fun z hz => ?_, by simp⟩
  · exact Vec.of_pos ((Vec.right_iff _).1 h1).pos r
  · simp only [List.map_cons, List.map_nil, List.mem_singleton] at hz
    subst hz
    refine ⟨hy, ?_⟩
    show (decide (Vec.of [] y.r < y.t) && decide (y.t ≤ Vec.of [⟨x.r, x.t⟩] y.r)) = true
    rw [Bool.and_eq_true, decide_eq_true_eq, decide_eq_true_eq, ht, hr]
    refine ⟨?_, ?_⟩
    · show (0 : Int) < x.t; omega
    · rw [Lg.of_one, if_pos rfl]; exact Int.le_refl _
theorem first {x : WrB} (h : Right_ x) : Lg.accept m0 [] [⟨x.r, x.t⟩] [x] = .inr (m1 x, 1) ∧ (m1 x).Ok := by
  obtain ⟨W', n, e, ok, ha, hm, -, -, -, hn⟩ := Lg.accept_good (m := m0) ok0 List.Pairwise.nil (bat h rfl rfl h) (fun r => Int.le_refl _) (fun y _ x hx => absurd hx (by simp [m0])) (by rw [show m0.H = [] from rfl, Vec.merge_nil]; simp) (fun W' h1 h2 => by
    have := Lg.len_le h1 (b := [x]) fun z hz => by
      rcases (h2 z).1 hz with h | h
      · exact absurd h (by simp [m0])
      · exact h
    have h3 : ([x] : List WrB).length = 1 := rfl
    omega)
  have hW : W' = [x] := Lg.asc_ext ha (List.pairwise_singleton _ _) fun z => by rw [hm]; simp [m0]
  have hn : n = 1 := hn fun y _ hy => absurd hy (by simp [m0])
  subst hW; subst hn
  rw [show m0.H = [] from rfl, Vec.merge_nil] at e ok
  exact ⟨e, ok⟩
theorem second {x y : WrB} (h : Right_ x) (ht : y.t = x.t) (hr : y.r = x.r) (hy : Right_ y) (hne : x ≠ y) : Lg.accept (m1 x) [] [⟨x.r, x.t⟩] [y] = .inl (.at_ 9 0) := by
  have hF := (Vec.right_iff _).1 (one_ok h)
  have hc : cmpW x y = 0 := cmpW_zero.2 ⟨ht.symm, hr.symm⟩
  have ha : Lg.at_ [x] y = 0 := by
    unfold Lg.at_
    rw [List.takeWhile_cons_of_neg (by simp [hc])]; rfl
  have hacc : Lg.acc [x] [y] 0 0 = .inl (.at_ 9 0) := by
    rw [Lg.acc, if_pos (by rw [ha]; exact ⟨by simp, hc⟩), if_neg (by rw [ha]; simp; exact hne)]
  unfold Lg.accept
  rw [if_neg (fun hn => hn (bat h ht hr hy)), if_neg (by simp [(Lg.covB (one_ok h) (b := []) (by rfl)).2 fun r => Vec.of_pos hF.pos r, m1]), show (m1 x).H = [⟨x.r, x.t⟩] from rfl, Lg.joined_of hF hF (by rw [Vec.merge_self hF.sorted hF.pos]; simp)]
  show (match Lg.acc [x] [y] 0 0 with | .inl e => _ | .inr (W', n) => _) = _
  rw [hacc]
end LogT
set_option maxHeartbeats 8000000 in
set_option maxRecDepth 20000 in
theorem logTwo_bad (x : WrB) (ky : ByteArray) (w : World) (q : WrBOk x) (hk : ky.size ≤ 140737488351232) (hL : Laid w) (hb : ¬ Right_ x ∨ 40 < ky.size ∨ ky = x.key) :
    Calls Tryd.prog 3 #[.agg (wrBCells x).toArray, .string ky] w fun e w' => e = .returned (.bool true) ∧ Below w.heap.size w w' := by
  have hLg := Lib.hid (fun W (hW : Below w.heap.size w W) => keep_logged W (hL.below hW))
  obtain ⟨t, r, k, key, val, n⟩ := x
  have hR := fun W => write_right t r k key val n W
  (try unfold wrBCells)
  go_enter Tryd.func3, Tryd.ntmps3
  go_wp2_with fail
  have qx := row_at (w := w) (g := w.heap.size) #[.int .i64 t, .int .i64 r, .int .i64 k, .string key, .string val, .int .i64 n] 25 rfl
  have hb1 : Below w.heap.size w (w.alloc (Obj.cells #[.int .i64 t, .int .i64 r, .int .i64 k, .string key, .string val, .int .i64 n] 25)) := by (repeat (first | exact Below.refl _ _ | assumption | refine bal ?_ _ | refine bdr ?_ | refine bdn ?_ _ | refine bst ?_ (by first | assumption | exact Nat.le_refl _ | omega) _ | refine bch ?_ (by assumption)))
  generalize w.alloc (Obj.cells #[.int .i64 t, .int .i64 r, .int .i64 k, .string key, .string val, .int .i64 n] 25) = w1 at *
  refine (hLg.out _ hb1).mono ?_
  rintro _ w2 ⟨rfl, hb2⟩
  have hbw2 := bch hb1 hb2
  have qx2 := qx.below hb2
  clear hLg hb1 hb2 qx
  (have c0 := qx2.cell 0; have c1 := qx2.cell 1; have c2 := qx2.cell 2; have c3 := qx2.cell 3; have c4 := qx2.cell 4; have c5 := qx2.cell 5; simp only [List.set_cons_succ, List.set_cons_zero, List.getElem?_cons_zero, List.getElem?_cons_succ] at c0 c1 c2 c3 c4 c5)
  replace hbw2 := Lib.hid hbw2
  clear qx2
  go_wp2_with fail
  refine (hR w2).mono ?_
  rintro _ w3 ⟨rfl, hb3⟩
  have hb3' := Lib.hid (bch hbw2.out hb3)
  have c3' := cell_below hb3 c3
  clear hR hb3 c0 c1 c2 c3 c4 c5 hbw2
  by_cases hr : Wr.right (wr t r k key val n) = 0
  · rw [hr, show errW 0 = .nilIface from rfl]
    by_cases hs : 40 < ky.size
    · have hd : decide ((40 : Int) < (ky.size : Int)) = true := by simp; omega
      clear hb
      go_wp2
      go_ret
      exact ⟨rfl, hb3'.out⟩
    · obtain rfl : ky = key := by
        rcases hb with h | h | h
        · exact absurd hr h
        · exact absurd h hs
        · exact h
      have hd : decide ((40 : Int) < (ky.size : Int)) = false := by simp; omega
      clear hb
      go_wp2
      go_ret
      exact ⟨rfl, hb3'.out⟩
  · rw [errW_no hr]
    clear hb
    go_wp2
    go_ret
    exact ⟨rfl, hb3'.out⟩
set_option maxHeartbeats 8000000 in
set_option maxRecDepth 20000 in
theorem logTwo_good (x : WrB) (ky : ByteArray) (w : World) (hk : ky.size ≤ 40) (hL : Laid w) (hr : Right_ x) (hne : ky ≠ x.key) :
    Calls Tryd.prog 3 #[.agg (wrBCells x).toArray, .string ky] w fun e w' => e = .returned (.bool true) ∧ Below w.heap.size w w' := by
  have hLg := Lib.hid (fun W (hW : Below w.heap.size w W) => keep_logged W (hL.below hW))
  have hN := Lib.hid (fun W => log_new 0 W (by omega) (by omega))
  obtain ⟨hA1, hok1⟩ := LogT.first hr
  have hA2 := LogT.second (y := LogT.other x ky) hr rfl rfl (LogT.right_other hr hk) (fun e => hne (congrArg WrB.key e).symm)
  obtain ⟨y, hy⟩ : ∃ y, y = LogT.other x ky := ⟨_, rfl⟩
  rw [← hy] at hA2
  obtain ⟨m1, hm1⟩ : ∃ m, m = LogT.m1 x := ⟨_, rfl⟩
  rw [← hm1] at hA1 hA2 hok1
  have hrx := Lib.hid hr
  obtain ⟨t, r, k, key, val, n⟩ := x
  have hR := fun W => write_right t r k key val n W
  (try simp only at hne)
  have hd : decide ((40 : Int) < (ky.size : Int)) = false := by simp; omega
  have hkk := ba_list_ne hne
  have hA1' := Lib.hid hA1
  have hA2' := Lib.hid hA2
  have hok1' := Lib.hid hok1
  have hy' := Lib.hid hy
  have hm1' := Lib.hid hm1
  clear hA1 hA2 hok1 hy hm1
  (try unfold wrBCells)
  go_enter Tryd.func3, Tryd.ntmps3
  go_wp2_with fail
  have qx := row_at (w := w) (g := w.heap.size) #[.int .i64 t, .int .i64 r, .int .i64 k, .string key, .string val, .int .i64 n] 25 rfl
  have hb1 : Below w.heap.size w (w.alloc (Obj.cells #[.int .i64 t, .int .i64 r, .int .i64 k, .string key, .string val, .int .i64 n] 25)) := by (repeat (first | exact Below.refl _ _ | assumption | refine bal ?_ _ | refine bdr ?_ | refine bdn ?_ _ | refine bst ?_ (by first | assumption | exact Nat.le_refl _ | omega) _ | refine bch ?_ (by assumption)))
  generalize w.alloc (Obj.cells #[.int .i64 t, .int .i64 r, .int .i64 k, .string key, .string val, .int .i64 n] 25) = w1 at *
  refine (hLg.out _ hb1).mono ?_
  rintro _ w2 ⟨rfl, hb2⟩
  have hbw2 := bch hb1 hb2
  have qx2 := qx.below hb2
  clear hLg hb1 hb2 qx
  (have c0 := qx2.cell 0; have c1 := qx2.cell 1; have c2 := qx2.cell 2; have c3 := qx2.cell 3; have c4 := qx2.cell 4; have c5 := qx2.cell 5; simp only [List.set_cons_succ, List.set_cons_zero, List.getElem?_cons_zero, List.getElem?_cons_succ] at c0 c1 c2 c3 c4 c5)
  replace hbw2 := Lib.hid hbw2
  replace qx2 := Lib.hid qx2
  go_wp2_with fail
  refine (hR w2).mono ?_
  rintro _ w3 ⟨rfl, hb3⟩
  have hbw3 := Lib.hid (bch hbw2.out hb3)
  have qx3 := qx2.out.below hb3
  clear hR hb3 c0 c1 c2 c3 c4 c5 hbw2 qx2
  rw [show Wr.right (wr t r k key val n) = 0 from hr, show errW 0 = .nilIface from rfl]
  (have c0 := qx3.cell 0; have c1 := qx3.cell 1; have c2 := qx3.cell 2; have c3 := qx3.cell 3; have c4 := qx3.cell 4; have c5 := qx3.cell 5; simp only [List.set_cons_succ, List.set_cons_zero, List.getElem?_cons_zero, List.getElem?_cons_succ] at c0 c1 c2 c3 c4 c5)
  replace qx3 := Lib.hid qx3
  clear hr
  go_wp2_with fail
  refine (hN.out _).mono ?_
  rintro _ w4 ⟨p, rfl, hp, hb4⟩
  have hbw4 := bch hbw3.out hb4
  have hl4 : Logs w4 w.heap.size (fun _ => False) [⟨p, LogT.m0, .slice none 0 0, .slice none 0 0⟩] := (Logs.nil w3 w.heap.size).snoc (a := ⟨p, LogT.m0, .slice none 0 0, .slice none 0 0⟩) hb4 (hp.base_le hbw3.out.size) (fun j hj => hp.mine_lo hj)
  have qx4 := qx3.out.below hb4
  clear hN hp hb4 hbw3 qx3 c0 c1 c2 c3 c4 c5
  (have c0 := qx4.cell 0; have c1 := qx4.cell 1; have c2 := qx4.cell 2; have c3 := qx4.cell 3; have c4 := qx4.cell 4; have c5 := qx4.cell 5; simp only [List.set_cons_succ, List.set_cons_zero, List.getElem?_cons_zero, List.getElem?_cons_succ] at c0 c1 c2 c3 c4 c5)
  have hgl := qx4.lt
  replace qx4 := Lib.hid qx4
  replace hl4 := Lib.hid hl4
  replace hbw4 := Lib.hid hbw4
  go_wp2_with fail
  obtain ⟨g, hg⟩ : ∃ g, g = w4.heap.size := ⟨_, rfl⟩
  rw [← hg]
  have hVh := ListIs.of_alloc (f := entCells) w4 34 [(⟨r, t⟩ : Vec.Entry)] #[.int .i64 r, .int .i64 t] rfl entCells_len (by simp [maxLen]) 1 rfl
  have sa : (w4.alloc (Obj.cells #[.int .i64 r, .int .i64 t] 34)).heap.size = g + 1 := by simp; omega
  have ba : Below w4.heap.size w4 (w4.alloc (Obj.cells #[.int .i64 r, .int .i64 t] 34)) := by (repeat (first | exact Below.refl _ _ | assumption | refine bal ?_ _ | refine bdr ?_ | refine bdn ?_ _ | refine bst ?_ (by first | assumption | exact Nat.le_refl _ | omega) _ | refine bch ?_ (by assumption)))
  rw [← hg] at hVh
  generalize w4.alloc (Obj.cells #[.int .i64 r, .int .i64 t] 34) = wa at *
  have hVw := ListIs.of_alloc (f := wrBCells) wa 25 [(⟨t, r, k, key, val, n⟩ : WrB)] #[.int .i64 t, .int .i64 r, .int .i64 k, .string key, .string val, .int .i64 n] rfl wrBCells_len (by simp [maxLen]) 1 rfl
  have sb : (wa.alloc (Obj.cells #[.int .i64 t, .int .i64 r, .int .i64 k, .string key, .string val, .int .i64 n] 25)).heap.size = g + 2 := by simp; omega
  have bb : Below wa.heap.size wa (wa.alloc (Obj.cells #[.int .i64 t, .int .i64 r, .int .i64 k, .string key, .string val, .int .i64 n] 25)) := by (repeat (first | exact Below.refl _ _ | assumption | refine bal ?_ _ | refine bdr ?_ | refine bdn ?_ _ | refine bst ?_ (by first | assumption | exact Nat.le_refl _ | omega) _ | refine bch ?_ (by assumption)))
  rw [sa] at hVw
  generalize wa.alloc (Obj.cells #[.int .i64 t, .int .i64 r, .int .i64 k, .string key, .string val, .int .i64 n] 25) = wb at *
  have qc := row_at (w := wb) (g := g + 2) #[.slice none 0 0, .slice (some ⟨g, 0, none⟩) 1 1, .slice (some ⟨g + 1, 0, none⟩) 1 1] 38 sb.symm
  have sc : (wb.alloc (Obj.cells #[.slice none 0 0, .slice (some ⟨g, 0, none⟩) 1 1, .slice (some ⟨g + 1, 0, none⟩) 1 1] 38)).heap.size = g + 3 := by simp; omega
  have bc : Below wb.heap.size wb (wb.alloc (Obj.cells #[.slice none 0 0, .slice (some ⟨g, 0, none⟩) 1 1, .slice (some ⟨g + 1, 0, none⟩) 1 1] 38)) := by (repeat (first | exact Below.refl _ _ | assumption | refine bal ?_ _ | refine bdr ?_ | refine bdn ?_ _ | refine bst ?_ (by first | assumption | exact Nat.le_refl _ | omega) _ | refine bch ?_ (by assumption)))
  generalize wb.alloc (Obj.cells #[.slice none 0 0, .slice (some ⟨g, 0, none⟩) 1 1, .slice (some ⟨g + 1, 0, none⟩) 1 1] 38) = wc at *
  have qd := row_at (w := wc) (g := g + 3) #[.slice none 0 0, .slice (some ⟨g, 0, none⟩) 1 1, .slice (some ⟨g + 1, 0, none⟩) 1 1] 38 sc.symm
  have sd : (wc.alloc (Obj.cells #[.slice none 0 0, .slice (some ⟨g, 0, none⟩) 1 1, .slice (some ⟨g + 1, 0, none⟩) 1 1] 38)).heap.size = g + 4 := by simp; omega
  have bd : Below wc.heap.size wc (wc.alloc (Obj.cells #[.slice none 0 0, .slice (some ⟨g, 0, none⟩) 1 1, .slice (some ⟨g + 1, 0, none⟩) 1 1] 38)) := by (repeat (first | exact Below.refl _ _ | assumption | refine bal ?_ _ | refine bdr ?_ | refine bdn ?_ _ | refine bst ?_ (by first | assumption | exact Nat.le_refl _ | omega) _ | refine bch ?_ (by assumption)))
  generalize wc.alloc (Obj.cells #[.slice none 0 0, .slice (some ⟨g, 0, none⟩) 1 1, .slice (some ⟨g + 1, 0, none⟩) 1 1] 38) = wd at *
  have b4d : Below w4.heap.size w4 wd := bch (bch (bch ba bb) bc) bd
  have hVw' : WrsIs wd (.slice (some ⟨g + 1, 0, none⟩) 1 1) [(⟨t, r, k, key, val, n⟩ : WrB)] := (hVw.below (by omega) bc).below (by omega) bd
  have qc' := qc.below bd
  have bbd := bch bc bd
  have hVhb : VecIs wb (.slice (some ⟨g, 0, none⟩) 1 1) [(⟨r, t⟩ : Vec.Entry)] := hVh.below (by omega) bb
  have hVwb : WrsIs wb (.slice (some ⟨g + 1, 0, none⟩) 1 1) [(⟨t, r, k, key, val, n⟩ : WrB)] := hVw
  clear hVh hVw qc ba bb bc bd sa sc hgl c0 c1 c2 c3 c4 c5
  refine (clone_wrs _ _ wd hVw' (by simp)).mono ?_
  rintro _ w6 ⟨⟨u, rfl, hO⟩, hb6⟩
  have b46 := bch b4d hb6
  have bb6 := bch bbd hb6
  have hl6 : Logs w6 w.heap.size (fun j => w4.heap.size ≤ j ∧ j < w6.heap.size) [⟨p, LogT.m0, .slice none 0 0, .slice none 0 0⟩] := hl4.out.more b46 (fun j hj => .inr hj.1) (fun j hj => hj.2)
  have qc6 := qc'.below hb6
  have qd6 := qd.below hb6
  have hbw6 := bch hbw4.out b46
  obtain ⟨ou, cu, rfl⟩ := owns_slice_ hO
  obtain ⟨gu, rfl, hgu⟩ := owns_pos hO (by simp)
  have hgu6 := (hO.lt gu rfl).2
  have x3 : w6.cell? ⟨gu, 3, none⟩ = some (.string key) := by rw [hO.cellAt 3 (by simp [wrBCells])]; rfl
  have z3 := hO.frozenAt 3
  (have d0 := qd6.cell 0; have d1 := qd6.cell 1; have d2 := qd6.cell 2; simp only [List.set_cons_succ, List.set_cons_zero, List.getElem?_cons_zero, List.getElem?_cons_succ] at d0 d1 d2)
  (have y2 := qd6.frozen 2 (by simp))
  (have c0 := qc6.cell 0; have c1 := qc6.cell 1; have c2 := qc6.cell 2; simp only [List.set_cons_succ, List.set_cons_zero, List.getElem?_cons_zero, List.getElem?_cons_succ] at c0 c1 c2)
  have hgd6 := qd6.lt
  have hgc6 := qc6.lt
  have hst := ((owns_set_ hO (p := ⟨g + 3, 2, none⟩) (fun e => by have : gu = g + 3 := Option.some.inj e; omega) (.slice (some ⟨gu, 0, none⟩) 1 cu)).stored 3 (.string ky)).1
  have qc7 := (qc6.other (p := ⟨g + 3, 2, none⟩) (by show g + 3 ≠ g + 2; omega) (.slice (some ⟨gu, 0, none⟩) 1 cu)).other (p := ⟨gu, 3, none⟩) (by show gu ≠ g + 2; omega) (.string ky)
  have qd7 := (qd6.set 2 (.slice (some ⟨gu, 0, none⟩) 1 cu)).other (p := ⟨gu, 3, none⟩) (by show gu ≠ g + 3; omega) (.string ky)
  simp only [List.set_cons_succ, List.set_cons_zero] at qd7
  have ho7 := ((Only.refl (fun j => j = g + 3 ∨ j = gu) w6).set (p := ⟨g + 3, 2, none⟩) (.inl (.inl rfl)) (.slice (some ⟨gu, 0, none⟩) 1 cu)).set (p := ⟨gu, 3, none⟩) (.inl (.inr rfl)) (.string ky)
  have hl7 := hl6.only ho7 fun i hi j hj hs => hl6.free i hi j hj (by rcases hs with rfl | rfl <;> (constructor <;> omega))
  have bb7 := bst (bst bb6 (p := ⟨g + 3, 2, none⟩) (by show _ ≤ g + 3; omega) (.slice (some ⟨gu, 0, none⟩) 1 cu)) (p := ⟨gu, 3, none⟩) (by show _ ≤ gu; omega) (.string ky)
  have b47 := bst (bst b46 (p := ⟨g + 3, 2, none⟩) (by show _ ≤ g + 3; omega) (.slice (some ⟨gu, 0, none⟩) 1 cu)) (p := ⟨gu, 3, none⟩) (by show _ ≤ gu; omega) (.string ky)
  have s67 : ((w6.setCell ⟨g + 3, 2, none⟩ (.slice (some ⟨gu, 0, none⟩) 1 cu)).setCell ⟨gu, 3, none⟩ (.string ky)).heap.size = w6.heap.size := by simp
  replace hst := Lib.hid hst
  replace qc7 := Lib.hid qc7
  replace qd7 := Lib.hid qd7
  replace hl7 := Lib.hid hl7
  replace bb7 := Lib.hid bb7
  replace b47 := Lib.hid b47
  replace s67 := Lib.hid s67
  replace ho7 := Lib.hid ho7
  replace hO := Lib.hid hO
  replace hg := Lib.hid hg
  clear qc6 qd6 hl6 hbw6 bb6 b46 hl4 bbd b4d qc' qd hVw' hb6
  go_wp2_with fail
  rw [show g + 1 + 1 + 1 = g + 3 from rfl]
  replace hst := hst.out
  replace qc7 := qc7.out
  replace qd7 := qd7.out
  replace hl7 := hl7.out
  replace bb7 := bb7.out
  replace b47 := b47.out
  replace s67 := s67.out
  clear ho7 hO d0 d1 d2 y2 c0 c1 c2 x3 z3
  generalize (w6.setCell ⟨g + 3, 2, none⟩ (.slice (some ⟨gu, 0, none⟩) 1 cu)).setCell ⟨gu, 3, none⟩ (.string ky) = w7 at *
  have hVh7 := hVhb.below bb7
  have hVw7 := WrsIs.below hVwb bb7
  have hbw7 := bch hbw4.out b47
  have hVy7 : WrsIs w7 (.slice (some ⟨gu, 0, none⟩) 1 cu) [y] := ListIs.of_owns (l := [y]) (base := wd.heap.size) (e := 25) (by rw [hy'.out]; exact hst)
  refine (logs_accept_ok (hL.below hbw7) hl7 (i := 0) (by simp) p rfl LogT.m0 m1 rfl LogT.ok0 List.Pairwise.nil (ListIs.nil _ _ _) hVh7 hVw7 (by simp) (by simp) (by simp) 1 hA1'.out).mono ?_
  rintro _ w8 ⟨rfl, ht8⟩
  have hb78 := ht8.below hl7 hbw7.size
  obtain ⟨h8, v8, hl8, ho8, -⟩ := ht8
  have hf7 : ∀ j, w4.heap.size ≤ j → j < w6.heap.size → ¬ ∃ h : 0 < [(⟨p, LogT.m0, .slice none 0 0, .slice none 0 0⟩ : LgAt)].length, [(⟨p, LogT.m0, .slice none 0 0, .slice none 0 0⟩ : LgAt)][0].mine j := fun j h1 h2 ⟨hi, hm⟩ => hl7.free 0 hi j hm ⟨h1, h2⟩
  have hl7' := Lib.hid hl7
  have s6g : g + 4 ≤ w6.heap.size := by omega
  have hgle : w4.heap.size ≤ g := by rw [hg.out]; exact Nat.le_refl _
  have qc8 := qc7.only ho8 (hf7 _ (by omega) (by omega))
  have qd8 := qd7.only ho8 (hf7 _ (by omega) (by omega))
  have hVh8 : VecIs w8 _ _ := ListIs.only hVh7 ho8 (hf7 _ (by omega) (by omega))
  have hVw8 : WrsIs w8 _ _ := ListIs.only hVw7 ho8 (hf7 _ (by omega) (by omega))
  have hVy8 : WrsIs w8 _ _ := ListIs.only hVy7 ho8 (hf7 _ (by omega) (by omega))
  have hbw8 := hbw7.trans hb78
  have hAc := Lib.hid (logs_accept (hL.below hbw8) hl8 (i := 0) (by simp) hok1'.out (by rw [show ([(⟨p, LogT.m0, .slice none 0 0, .slice none 0 0⟩ : LgAt)].set 0 ⟨p, m1, h8, v8⟩)[0].m = m1 from rfl, hm1'.out]; exact List.pairwise_singleton _ _) (ListIs.nil _ _ _) hVh8 hVy8 (by simp) (by simp) (by simp))
  (have d0 := qd8.cell 0; have d1 := qd8.cell 1; have d2 := qd8.cell 2; simp only [List.set_cons_succ, List.set_cons_zero, List.getElem?_cons_zero, List.getElem?_cons_succ] at d0 d1 d2)
  replace hl8 := Lib.hid hl8
  replace qc8 := Lib.hid qc8
  replace hVw8 := Lib.hid hVw8
  replace hbw8 := Lib.hid hbw8
  clear hl7 hVh7 hVw7 hVy7 hbw7 qd8 hVh8 hVy8 hb78 ho8 hf7 qc7 qd7 hst hVhb hVwb bb7 b47 sb hgu6 hgd6 hgc6
  go_wp2_with fail
  refine hAc.out.mono ?_
  rintro _ w9 hr9
  unfold AcceptTo at hr9
  rw [show ([(⟨p, LogT.m0, .slice none 0 0, .slice none 0 0⟩ : LgAt)].set 0 ⟨p, m1, h8, v8⟩)[0].m = m1 from rfl, hA2'.out] at hr9
  obtain ⟨⟨v9, rfl, hv9⟩, hb9⟩ := hr9
  have hbw9 := bch hbw8.out hb9
  have hl9 := hl8.out.below hb9
  have qc9 := qc8.out.below hb9
  have hVw9 := WrsIs.below hVw8.out hb9
  clear hAc d0 d1 d2 hl8 qc8 hVw8 hbw8 hb9
  have hTl := Lib.hid (fun W (hW : Below w9.heap.size w9 W) => tell_err v9 (.at_ 9 0) W (hL.below (bch hbw9 hW)) (hv9.below hW))
  have hWr := Lib.hid (fun W (hW : Below w9.heap.size w9 W) => log_writes w.heap.size p m1 h8 v8 W ((hl9.below hW).each 0 (by simp)) (by rw [hm1'.out]; simp [LogT.m1]))
  obtain ⟨gg, rfl, -⟩ := hv9
  (have c0 := qc9.cell 0; have c1 := qc9.cell 1; have c2 := qc9.cell 2; simp only [List.set_cons_succ, List.set_cons_zero, List.getElem?_cons_zero, List.getElem?_cons_succ] at c0 c1 c2)
  have hS0 : Below w9.heap.size w9 w9.drew ∧ w9.drew.cell? ⟨g + 2, 2, none⟩ = some (.slice (some ⟨g + 1, 0, none⟩) 1 1) := ⟨bdr (Below.refl _ _), c2⟩
  clear c0 c1 c2 qc9 hl9
  replace hbw9 := Lib.hid hbw9
  replace hVw9 := Lib.hid hVw9
  go_wp2_with fail
  (refine wp_region_held_drew (S := (fun W => Below w9.heap.size w9 W ∧ W.cell? ⟨g + 2, 2, none⟩ = some (.slice (some ⟨g + 1, 0, none⟩) 1 1))) (by kernel_rfl) ?_ (fun hHeld => ?_); ((try dsimp only); exact hS0))
  clear hS0
  (refine held_take (i := 0) (v := ?_) rfl (by kernel_rfl) (by kernel_rfl) (by kernel_rfl) (fun _ _ _ h => h) (by kernel_rfl) (by assumption) ?_ ?_; rotate_left; (focus (intro w hSw; (try unfold SC at hSw); (try unfold FC at hSw); (try unfold LC at hSw); (try unfold TC at hSw); (try unfold MC at hSw); (try unfold BC at hSw); (try unfold RC at hSw); (try unfold KC at hSw); (try unfold KD at hSw); (try dsimp only at hSw); go_simp; (try with_reducible rfl); done)); (simp only [Act.put, List.setIfInBounds_toArray, List.set_cons_zero, List.set_cons_succ]); refine held_take (i := 1) (v := ?_) rfl (by kernel_rfl) (by kernel_rfl) (by kernel_rfl) (fun _ _ _ h => h) (by kernel_rfl) (by assumption) ?_ ?_; rotate_left; (focus (intro w hSw; (try unfold SC at hSw); (try unfold FC at hSw); (try unfold LC at hSw); (try unfold TC at hSw); (try unfold MC at hSw); (try unfold BC at hSw); (try unfold RC at hSw); (try unfold KC at hSw); (try unfold KD at hSw); (try dsimp only at hSw); go_simp; (try with_reducible rfl); done)); (simp only [Act.put, List.setIfInBounds_toArray, List.set_cons_zero, List.set_cons_succ]); refine held_take (i := 2) (v := ?_) rfl (by kernel_rfl) (by kernel_rfl) (by kernel_rfl) (fun _ _ _ h => h) (by kernel_rfl) (by assumption) ?_ ?_; rotate_left; (focus (intro w hSw; (try unfold SC at hSw); (try unfold FC at hSw); (try unfold LC at hSw); (try unfold TC at hSw); (try unfold MC at hSw); (try unfold BC at hSw); (try unfold RC at hSw); (try unfold KC at hSw); (try unfold KD at hSw); (try dsimp only at hSw); go_simp; (try with_reducible rfl); done)); (simp only [Act.put, List.setIfInBounds_toArray, List.set_cons_zero, List.set_cons_succ]); refine held_take (i := 3) (v := ?_) rfl (by kernel_rfl) (by kernel_rfl) (by kernel_rfl) (fun _ _ _ h => h) (by kernel_rfl) (by assumption) ?_ ?_; rotate_left; (focus (intro w hSw; (try unfold SC at hSw); (try unfold FC at hSw); (try unfold LC at hSw); (try unfold TC at hSw); (try unfold MC at hSw); (try unfold BC at hSw); (try unfold RC at hSw); (try unfold KC at hSw); (try unfold KD at hSw); (try dsimp only at hSw); go_simp; (try with_reducible rfl); done)); (simp only [Act.put, List.setIfInBounds_toArray, List.set_cons_zero, List.set_cons_succ]); refine held_take (i := 4) (v := ?_) rfl (by kernel_rfl) (by kernel_rfl) (by kernel_rfl) (fun _ _ _ h => h) (by kernel_rfl) (by assumption) ?_ ?_; rotate_left; (focus (intro w hSw; (try unfold SC at hSw); (try unfold FC at hSw); (try unfold LC at hSw); (try unfold TC at hSw); (try unfold MC at hSw); (try unfold BC at hSw); (try unfold RC at hSw); (try unfold KC at hSw); (try unfold KD at hSw); (try dsimp only at hSw); go_simp; (try with_reducible rfl); done)); (simp only [Act.put, List.setIfInBounds_toArray, List.set_cons_zero, List.set_cons_succ]); refine held_take (i := 5) (v := ?_) rfl (by kernel_rfl) (by kernel_rfl) (by kernel_rfl) (fun _ _ _ h => h) (by kernel_rfl) (by assumption) ?_ ?_; rotate_left; (focus (intro w hSw; (try unfold SC at hSw); (try unfold FC at hSw); (try unfold LC at hSw); (try unfold TC at hSw); (try unfold MC at hSw); (try unfold BC at hSw); (try unfold RC at hSw); (try unfold KC at hSw); (try unfold KD at hSw); (try dsimp only at hSw); go_simp; (try with_reducible rfl); done)); (simp only [Act.put, List.setIfInBounds_toArray, List.set_cons_zero, List.set_cons_succ]); refine held_take (i := 6) (v := ?_) rfl (by kernel_rfl) (by kernel_rfl) (by kernel_rfl) (fun _ _ _ h => h) (by kernel_rfl) (by assumption) ?_ ?_; rotate_left; (focus (intro w hSw; (try unfold SC at hSw); (try unfold FC at hSw); (try unfold LC at hSw); (try unfold TC at hSw); (try unfold MC at hSw); (try unfold BC at hSw); (try unfold RC at hSw); (try unfold KC at hSw); (try unfold KD at hSw); (try dsimp only at hSw); go_simp; (try with_reducible rfl); done)); (simp only [Act.put, List.setIfInBounds_toArray, List.set_cons_zero, List.set_cons_succ]); refine held_take (i := 7) (v := ?_) rfl (by kernel_rfl) (by kernel_rfl) (by kernel_rfl) (fun _ _ _ h => h) (by kernel_rfl) (by assumption) ?_ ?_; rotate_left; (focus (intro w hSw; (try unfold SC at hSw); (try unfold FC at hSw); (try unfold LC at hSw); (try unfold TC at hSw); (try unfold MC at hSw); (try unfold BC at hSw); (try unfold RC at hSw); (try unfold KC at hSw); (try unfold KD at hSw); (try dsimp only at hSw); go_simp; (try with_reducible rfl); done)); (simp only [Act.put, List.setIfInBounds_toArray, List.set_cons_zero, List.set_cons_succ]))
  (refine wpAnyH_ready (P := Tryd.prog) (md := .any) (rs := [8]) (by kernel_rfl) (by simp) ?_; refine held_cons rfl (by kernel_rfl) (fun K hK => ?_) AllReadyH.nil; ((go_simp; refine (hTl.out _ hHeld.1).mono ?_; rintro _ wa ⟨rfl, hba⟩); refine hK.out _ _ ?_ (fun hHeld => ?_); ((try dsimp only); exact ⟨bch hHeld.1 hba, cell_below hba hHeld.2⟩); clear hK K; (try clear hHeld0); (try rename_i hHeld0)))
  clear hTl hba
  (refine held_take (i := 9) (v := ?_) rfl (by kernel_rfl) (by kernel_rfl) (by kernel_rfl) (fun _ _ _ h => h) (by kernel_rfl) (by assumption) ?_ ?_; rotate_left; (focus (intro w hSw; (try unfold SC at hSw); (try unfold FC at hSw); (try unfold LC at hSw); (try unfold TC at hSw); (try unfold MC at hSw); (try unfold BC at hSw); (try unfold RC at hSw); (try unfold KC at hSw); (try unfold KD at hSw); (try dsimp only at hSw); go_simp; (try with_reducible rfl); done)); (simp only [Act.put, List.setIfInBounds_toArray, List.set_cons_zero, List.set_cons_succ]); refine held_take (i := 10) (v := ?_) rfl (by kernel_rfl) (by kernel_rfl) (by kernel_rfl) (fun _ _ _ h => h) (by kernel_rfl) (by assumption) ?_ ?_; rotate_left; (focus (intro w hSw; (try unfold SC at hSw); (try unfold FC at hSw); (try unfold LC at hSw); (try unfold TC at hSw); (try unfold MC at hSw); (try unfold BC at hSw); (try unfold RC at hSw); (try unfold KC at hSw); (try unfold KD at hSw); (try dsimp only at hSw); go_simp; (try with_reducible rfl); done)); (simp only [Act.put, List.setIfInBounds_toArray, List.set_cons_zero, List.set_cons_succ]); refine held_take (i := 11) (v := ?_) rfl (by kernel_rfl) (by kernel_rfl) (by kernel_rfl) (fun _ _ _ h => h) (by kernel_rfl) (by assumption) ?_ ?_; rotate_left; (focus (intro w hSw; (try unfold SC at hSw); (try unfold FC at hSw); (try unfold LC at hSw); (try unfold TC at hSw); (try unfold MC at hSw); (try unfold BC at hSw); (try unfold RC at hSw); (try unfold KC at hSw); (try unfold KD at hSw); (try dsimp only at hSw); go_simp; (try with_reducible rfl); done)); (simp only [Act.put, List.setIfInBounds_toArray, List.set_cons_zero, List.set_cons_succ]); refine held_take (i := 12) (v := ?_) rfl (by kernel_rfl) (by kernel_rfl) (by kernel_rfl) (fun _ _ _ h => h) (by kernel_rfl) (by assumption) ?_ ?_; rotate_left; (focus (intro w hSw; (try unfold SC at hSw); (try unfold FC at hSw); (try unfold LC at hSw); (try unfold TC at hSw); (try unfold MC at hSw); (try unfold BC at hSw); (try unfold RC at hSw); (try unfold KC at hSw); (try unfold KD at hSw); (try dsimp only at hSw); go_simp; (try with_reducible rfl); done)); (simp only [Act.put, List.setIfInBounds_toArray, List.set_cons_zero, List.set_cons_succ]); refine held_take (i := 13) (v := ?_) rfl (by kernel_rfl) (by kernel_rfl) (by kernel_rfl) (fun _ _ _ h => h) (by kernel_rfl) (by assumption) ?_ ?_; rotate_left; (focus (intro w hSw; (try unfold SC at hSw); (try unfold FC at hSw); (try unfold LC at hSw); (try unfold TC at hSw); (try unfold MC at hSw); (try unfold BC at hSw); (try unfold RC at hSw); (try unfold KC at hSw); (try unfold KD at hSw); (try dsimp only at hSw); go_simp; (try with_reducible rfl); done)); (simp only [Act.put, List.setIfInBounds_toArray, List.set_cons_zero, List.set_cons_succ]); refine held_take (i := 14) (v := ?_) rfl (by kernel_rfl) (by kernel_rfl) (by kernel_rfl) (fun _ _ _ h => h) (by kernel_rfl) (by assumption) ?_ ?_; rotate_left; (focus (intro w hSw; (try unfold SC at hSw); (try unfold FC at hSw); (try unfold LC at hSw); (try unfold TC at hSw); (try unfold MC at hSw); (try unfold BC at hSw); (try unfold RC at hSw); (try unfold KC at hSw); (try unfold KD at hSw); (try dsimp only at hSw); go_simp; (try with_reducible rfl); done)); (simp only [Act.put, List.setIfInBounds_toArray, List.set_cons_zero, List.set_cons_succ]); refine held_take (i := 15) (v := ?_) rfl (by kernel_rfl) (by kernel_rfl) (by kernel_rfl) (fun _ _ _ h => h) (by kernel_rfl) (by assumption) ?_ ?_; rotate_left; (focus (intro w hSw; (try unfold SC at hSw); (try unfold FC at hSw); (try unfold LC at hSw); (try unfold TC at hSw); (try unfold MC at hSw); (try unfold BC at hSw); (try unfold RC at hSw); (try unfold KC at hSw); (try unfold KD at hSw); (try dsimp only at hSw); go_simp; (try with_reducible rfl); done)); (simp only [Act.put, List.setIfInBounds_toArray, List.set_cons_zero, List.set_cons_succ]); refine held_take (i := 16) (v := ?_) rfl (by kernel_rfl) (by kernel_rfl) (by kernel_rfl) (fun _ _ _ h => h) (by kernel_rfl) (by assumption) ?_ ?_; rotate_left; (focus (intro w hSw; (try unfold SC at hSw); (try unfold FC at hSw); (try unfold LC at hSw); (try unfold TC at hSw); (try unfold MC at hSw); (try unfold BC at hSw); (try unfold RC at hSw); (try unfold KC at hSw); (try unfold KD at hSw); (try dsimp only at hSw); go_simp; (try with_reducible rfl); done)); (simp only [Act.put, List.setIfInBounds_toArray, List.set_cons_zero, List.set_cons_succ]); refine held_take (i := 18) (v := ?_) rfl (by kernel_rfl) (by kernel_rfl) (by kernel_rfl) (fun _ _ _ h => h) (by kernel_rfl) (by assumption) ?_ ?_; rotate_left; (focus (intro w hSw; (try unfold SC at hSw); (try unfold FC at hSw); (try unfold LC at hSw); (try unfold TC at hSw); (try unfold MC at hSw); (try unfold BC at hSw); (try unfold RC at hSw); (try unfold KC at hSw); (try unfold KD at hSw); (try dsimp only at hSw); go_simp; (try with_reducible rfl); done)); (simp only [Act.put, List.setIfInBounds_toArray, List.set_cons_zero, List.set_cons_succ]); refine held_take (i := 19) (v := ?_) rfl (by kernel_rfl) (by kernel_rfl) (by kernel_rfl) (fun _ _ _ h => h) (by kernel_rfl) (by assumption) ?_ ?_; rotate_left; (focus (intro w hSw; (try unfold SC at hSw); (try unfold FC at hSw); (try unfold LC at hSw); (try unfold TC at hSw); (try unfold MC at hSw); (try unfold BC at hSw); (try unfold RC at hSw); (try unfold KC at hSw); (try unfold KD at hSw); (try dsimp only at hSw); go_simp; (try with_reducible rfl); done)); (simp only [Act.put, List.setIfInBounds_toArray, List.set_cons_zero, List.set_cons_succ]))
  (refine wpAnyH_ready (P := Tryd.prog) (md := .any) (rs := [17]) (by kernel_rfl) (by simp) ?_; refine held_cons rfl (by kernel_rfl) (fun K hK => ?_) AllReadyH.nil; ((go_simp; refine (hWr.out _ hHeld.1).mono ?_; rintro _ wb' ⟨⟨u1, rfl, hO1⟩, hbb⟩); refine hK.out _ _ ?_ (fun hHeld => ?_); ((try dsimp only); exact ⟨bch hHeld.1 hbb, cell_below hbb hHeld.2⟩); clear hK K; (try clear hHeld0); (try rename_i hHeld0)))
  have hO1' : WrsIs wb' u1 m1.W := ListIs.of_owns hO1
  have hEq := Lib.hid (eq_wrs u1 _ m1.W _ wb' hO1' (WrsIs.below hVw9.out hHeld.1) (by rw [hm1'.out]; simp [LogT.m1]) (by simp))
  rw [show decide (m1.W = [(⟨t, r, k, key, val, n⟩ : WrB)]) = true by rw [hm1'.out]; simp [LogT.m1]] at hEq
  clear hWr hO1 hO1' hbb
  (refine wpAnyH_ready (P := Tryd.prog) (md := .any) (rs := [20]) (by kernel_rfl) (by simp) ?_; refine held_cons rfl (by kernel_rfl) (fun K hK => ?_) AllReadyH.nil; ((go_simp; refine hEq.out.mono ?_; rintro _ wc' ⟨rfl, hbc⟩); refine hK.out _ _ ?_ (fun hHeld => ?_); ((try dsimp only); exact ⟨bch hHeld.1 hbc, cell_below hbc hHeld.2⟩); clear hK K; (try clear hHeld0); (try rename_i hHeld0)))
  (refine held_take (i := 21) (v := ?_) rfl (by kernel_rfl) (by kernel_rfl) (by kernel_rfl) (fun _ _ _ h => h) (by kernel_rfl) (by assumption) ?_ ?_; rotate_left; (focus (intro w hSw; (try unfold SC at hSw); (try unfold FC at hSw); (try unfold LC at hSw); (try unfold TC at hSw); (try unfold MC at hSw); (try unfold BC at hSw); (try unfold RC at hSw); (try unfold KC at hSw); (try unfold KD at hSw); (try dsimp only at hSw); go_simp; (try with_reducible rfl); done)); (simp only [Act.put, List.setIfInBounds_toArray, List.set_cons_zero, List.set_cons_succ]); refine held_take (i := 22) (v := ?_) rfl (by kernel_rfl) (by kernel_rfl) (by kernel_rfl) (fun _ _ _ h => h) (by kernel_rfl) (by assumption) ?_ ?_; rotate_left; (focus (intro w hSw; (try unfold SC at hSw); (try unfold FC at hSw); (try unfold LC at hSw); (try unfold TC at hSw); (try unfold MC at hSw); (try unfold BC at hSw); (try unfold RC at hSw); (try unfold KC at hSw); (try unfold KD at hSw); (try dsimp only at hSw); go_simp; (try with_reducible rfl); done)); (simp only [Act.put, List.setIfInBounds_toArray, List.set_cons_zero, List.set_cons_succ]))
  (refine wpAnyH_done (by kernel_rfl) ?_ _)
  have hfin := hHeld.1
  clear hHeld hHeld0 hEq hbc
  go_wp2
  go_ret
  exact ⟨rfl, bch hbw9.out hfin⟩
theorem LogTwo_walk (t r k : Int) (key val : ByteArray) (n : Int) (ky : ByteArray) (w : World) (q : WrBOk ⟨t, r, k, key, val, n⟩) (h : ky.size ≤ 140737488351232) (hL : Laid w) :
    Calls Tryd.prog 3 #[wrV t r k key val n, .string ky] w fun e w' => e = .returned (.bool true) ∧ Below w.heap.size w w' := by
  by_cases h1 : Right_ ⟨t, r, k, key, val, n⟩
  · by_cases h2 : 40 < ky.size
    · exact logTwo_bad ⟨t, r, k, key, val, n⟩ ky w q h hL (.inr (.inl h2))
    · by_cases h3 : ky = key
      · exact logTwo_bad ⟨t, r, k, key, val, n⟩ ky w q h hL (.inr (.inr h3))
      · exact logTwo_good ⟨t, r, k, key, val, n⟩ ky w (by omega) hL h1 h3
  · exact logTwo_bad ⟨t, r, k, key, val, n⟩ ky w q h hL (.inl h1)
end Go.Proofs.YtdbpiabcpjgblaaDoor
