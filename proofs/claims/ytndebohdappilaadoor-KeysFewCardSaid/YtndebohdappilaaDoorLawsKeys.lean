/- The fact on keys, and the walks of KeysBack and KeysOnly. -/
import Derived.Test.YtndebohdappilaaDoorWKeysL
import Derived.Test.YtndebohdappilaaDoorWEqStr
import Derived.Test.YtndebohdappilaaDoorWEqInt
import Derived.Test.YtndebohdappilaaDoorErr
import Derived.Test.YtndebohdappilaaDoorLaid
namespace Go.Proofs.YtndebohdappilaaDoor
open Go.RowKit
set_option linter.unusedVariables false
set_option linter.unusedSimpArgs false
def kyA : ByteArray := ⟨#[97]⟩
def kyB : ByteArray := ⟨#[98]⟩
theorem ky_table : Keys.table [kyB, kyA, kyB] = ([kyB, kyA], [0, 1, 0]) := by decide +kernel
theorem ky_list : Keys.lists [kyB, kyA] [0, 1, 0] = .ok := by decide +kernel
theorem ky_outs : Keys.outs [kyB, kyA] [0, 1, 0] = [kyB, kyA, kyB] := by decide +kernel
theorem ky_false : Keys.lists [kyB, kyA] [1, 0] = .at_ 13 0 := by decide +kernel
theorem two_lits (w : World) (cs ds : Array Value) (e f : TypeId) (T : List ByteArray) (A : List Int) (hcs : cs.toList = T.flatMap strCells) (hds : ds.toList = A.flatMap intCells) (hT : T.length ≤ maxLen) (hA : A.length ≤ maxLen) (n m g : Nat) (hn : n = T.length) (hm : m = A.length) (hg : g = w.heap.size + 1) :
    StrsIs ((w.alloc (.cells cs e)).alloc (.cells ds f)) (.slice (some ⟨w.heap.size, 0, none⟩) n n) T ∧ IntsIs ((w.alloc (.cells cs e)).alloc (.cells ds f)) (.slice (some ⟨g, 0, none⟩) m m) A := by
  subst hg
  refine ⟨(ListIs.of_alloc (f := strCells) (sz := 1) w e T cs hcs strCells_len hT n hn).below (by omega) ((Below.refl _ _).alloc (Nat.le_refl _) _), ?_⟩
  have h := ListIs.of_alloc (f := intCells) (sz := 1) (w.alloc (.cells cs e)) f A ds hds intCells_len hA m hm
  rw [show (w.alloc (.cells cs e)).heap.size = w.heap.size + 1 from by first | rfl | simp] at h
  exact h
/-- What is wrong is none or something, as a value. -/
theorem err_some' {w : World} {v : Value} {x : Err} (h : ErrRep w v x) (hx : x ≠ .ok) : ∃ t u, v = .iface t u := by
  cases x with
  | ok => exact absurd rfl hx
  | no n => exact ⟨_, _, h⟩
  | at_ n i => obtain ⟨g, h, -⟩ := h; exact ⟨_, _, h⟩
theorem keys_list_ok (v1 v2 : Value) (T : List ByteArray) (A : List Int) (w : World) (hv1 : StrsIs w v1 T) (hv2 : IntsIs w v2 A) (hq : ∀ x ∈ T, x.size ≤ 140737488351232) (hT : T.length ≤ 1000) (hA : A.length ≤ 1000) (hr : Keys.lists T A = .ok) :
    Calls Tryd.prog 18 #[v1, v2] w fun e w' => (∃ v, e = .returned (.tuple #[v, .nilIface]) ∧ StrsIs w' v (Keys.outs T A)) ∧ Below w.heap.size w w' := by
  refine (keys_list v1 v2 T A w hv1 hv2 hq hT hA).mono ?_
  rintro e w' ⟨⟨v, E, rfl, hE, hv, -⟩, hb⟩
  rw [hr] at hE
  have hE : E = .nilIface := hE
  subst hE
  exact ⟨⟨v, rfl, hv hr⟩, hb⟩
theorem keys_list_bad (v1 v2 : Value) (T : List ByteArray) (A : List Int) (w : World) (hv1 : StrsIs w v1 T) (hv2 : IntsIs w v2 A) (hq : ∀ x ∈ T, x.size ≤ 140737488351232) (hT : T.length ≤ 1000) (hA : A.length ≤ 1000) (hr : Keys.lists T A ≠ .ok) :
    Calls Tryd.prog 18 #[v1, v2] w fun e w' => (∃ E, e = .returned (.tuple #[.slice none 0 0, E]) ∧ ErrRep w' E (Keys.lists T A)) ∧ Below w.heap.size w w' := by
  refine (keys_list v1 v2 T A w hv1 hv2 hq hT hA).mono ?_
  rintro e w' ⟨⟨v, E, rfl, hE, -, hv⟩, hb⟩
  obtain rfl := hv hr
  exact ⟨⟨E, rfl, hE⟩, hb⟩
set_option maxHeartbeats 4000000 in
set_option maxRecDepth 20000 in
theorem keys_tabled (w : World) (hL : Laid w) :
    Calls Tryd.prog 16 #[] w fun e w' => e = .returned (.bool true) ∧ Below w.heap.size w w' := by
  have hq3 : ∀ x ∈ [kyB, kyA, kyB], x.size ≤ 140737488351232 := by decide
  have hq2 : ∀ x ∈ [kyB, kyA], x.size ≤ 140737488351232 := by decide
  go_enter Tryd.func16, Tryd.ntmps16
  go_wp2_with fail
  refine (keys_table _ [kyB, kyA, kyB] _ (ListIs.of_alloc (f := strCells) (sz := 1) w 9 [kyB, kyA, kyB] _ rfl strCells_len (by decide) 3 rfl) hq3 (by decide)).mono ?_
  rintro e w1 ⟨⟨t, a, rfl, ht, ha⟩, hb1⟩
  rw [ky_table] at ht ha
  have hB1 : Below w.heap.size w w1 := by (repeat (first | exact Below.refl _ _ | assumption | refine bal ?_ _ | refine bdr ?_ | refine bdn ?_ _ | refine bst ?_ (by first | assumption | exact Nat.le_refl _ | omega) _ | refine bch ?_ (by assumption)))
  replace ht := Lib.hid ht
  replace ha := Lib.hid ha
  clear hb1
  go_wp2_with fail
  have h2 := two_lits w1 #[.string kyB, .string kyA] #[.int .i64 0, .int .i64 1, .int .i64 0] 9 3 [kyB, kyA] [0, 1, 0] rfl rfl (by decide) (by decide) 2 3 _ rfl rfl rfl
  refine (keys_list_ok _ _ [kyB, kyA] [0, 1, 0] _ h2.1 h2.2 hq2 (by decide) (by decide) ky_list).mono ?_
  rintro e w2 ⟨⟨v, rfl, hv⟩, hb2⟩
  rw [ky_outs] at hv
  replace hv := Lib.hid hv
  have hB2 : Below w1.heap.size w1 w2 := by (repeat (first | exact Below.refl _ _ | assumption | refine bal ?_ _ | refine bdr ?_ | refine bdn ?_ _ | refine bst ?_ (by first | assumption | exact Nat.le_refl _ | omega) _ | refine bch ?_ (by assumption)))
  clear hb2 h2
  go_wp2_with fail
  have h2 := two_lits w2 #[.string kyB, .string kyA] #[.int .i64 1, .int .i64 0] 9 3 [kyB, kyA] [1, 0] rfl rfl (by decide) (by decide) 2 2 _ rfl rfl rfl
  refine (keys_list_bad _ _ [kyB, kyA] [1, 0] _ h2.1 h2.2 hq2 (by decide) (by decide) (by rw [ky_false]; exact fun h => by cases h)).mono ?_
  rintro e w3 ⟨⟨E, rfl, hE⟩, hb3⟩
  rw [ky_false] at hE
  replace hE := Lib.hid hE
  have hB3 : Below w2.heap.size w2 w3 := by (repeat (first | exact Below.refl _ _ | assumption | refine bal ?_ _ | refine bdr ?_ | refine bdn ?_ _ | refine bst ?_ (by first | assumption | exact Nat.le_refl _ | omega) _ | refine bch ?_ (by assumption)))
  clear hb3 h2
  have hL3 := (((hL.below hB1).below hB2).below hB3)
  go_wp2_with fail
  refine (tell_err _ _ _ hL3 hE.out).mono ?_
  rintro e w4 ⟨rfl, hb4⟩
  have t4 := ((((ht.out).below (by omega) hB2).below (by omega) hB3).below (by omega) hb4)
  have a4 := ((((ha.out).below (by omega) hB2).below (by omega) hB3).below (by omega) hb4)
  have v4 := (((hv.out).below (by omega) hB3).below (by omega) hb4)
  have hB4 : Below w.heap.size w w4 := bch (bch (bch hB1 hB2) hB3) hb4
  clear ht ha hv hE hB1 hB2 hB3 hb4 hL3
  replace t4 := Lib.hid t4
  replace a4 := Lib.hid a4
  replace v4 := Lib.hid v4
  go_wp2_with fail
  have hn4 : Below w4.heap.size w4 (w4.alloc (.cells #[.string kyB, .string kyA] 9)) := (Below.refl _ _).alloc (Nat.le_refl _) _
  refine (eq_strs _ _ [kyB, kyA] [kyB, kyA] _ (t4.out.below (by omega) hn4) (ListIs.of_alloc (f := strCells) (sz := 1) w4 9 [kyB, kyA] _ rfl strCells_len (by decide) 2 rfl) (by decide) (by decide)).mono ?_
  rintro e w5 ⟨rfl, hb5⟩
  rw [decide_eq_true rfl]
  have a5 := Lib.hid ((a4.out.below (by omega) hn4).below (by omega) hb5)
  have v5 := Lib.hid ((v4.out.below (by omega) hn4).below (by omega) hb5)
  have hB5 : Below w.heap.size w w5 := bch (bch hB4 hn4) hb5
  clear t4 a4 v4 hB4 hb5 hn4
  go_wp2_with fail
  have hn5 : Below w5.heap.size w5 (w5.alloc (.cells #[.int .i64 0, .int .i64 1, .int .i64 0] 3)) := (Below.refl _ _).alloc (Nat.le_refl _) _
  refine (eq_ints _ _ [0, 1, 0] [0, 1, 0] _ (a5.out.below (by omega) hn5) (ListIs.of_alloc (f := intCells) (sz := 1) w5 3 [0, 1, 0] _ rfl intCells_len (by decide) 3 rfl) (by decide) (by decide)).mono ?_
  rintro e w6 ⟨rfl, hb6⟩
  rw [decide_eq_true rfl]
  have v6 := Lib.hid ((v5.out.below (by omega) hn5).below (by omega) hb6)
  have hB6 : Below w.heap.size w w6 := bch (bch hB5 hn5) hb6
  clear a5 v5 hB5 hb6 hn5
  go_wp2_with fail
  have hn6 : Below w6.heap.size w6 (w6.alloc (.cells #[.string kyB, .string kyA, .string kyB] 9)) := (Below.refl _ _).alloc (Nat.le_refl _) _
  refine (eq_strs _ _ [kyB, kyA, kyB] [kyB, kyA, kyB] _ (v6.out.below (by omega) hn6) (ListIs.of_alloc (f := strCells) (sz := 1) w6 9 [kyB, kyA, kyB] _ rfl strCells_len (by decide) 3 rfl) (by decide) (by decide)).mono ?_
  rintro e w7 ⟨rfl, hb7⟩
  rw [decide_eq_true rfl]
  have hB7 : Below w.heap.size w w7 := bch (bch hB6 hn6) hb7
  go_wp2
  go_ret
  exact ⟨rfl, hB7⟩
set_option maxHeartbeats 4000000 in
set_option maxRecDepth 20000 in
theorem KeysBack_walk (v0 : Value) (l : List ByteArray) (w : World) (L0 : StrsIs w v0 l) (q0 : ∀ x ∈ l, x.size ≤ 140737488351232) (z0 : l.length ≤ 140737488351232) (hL : Laid w) :
    Calls Tryd.prog 3 #[v0] w fun e w' => e = .returned (.bool true) ∧ Below w.heap.size w w' := by
  have hK := keys_tabled w hL
  replace hK := Lib.hid hK
  obtain ⟨o, c, rfl, hcap, -⟩ := L0.at strCells_len
  clear hcap
  replace L0 := Lib.hid L0
  by_cases h100 : 100 < l.length
  · replace q0 := Lib.hid q0
    go_enter Tryd.func3, Tryd.ntmps3
    go_wp2_with fail
    refine hK.out.mono ?_
    rintro e w2 ⟨rfl, hb0⟩
    go_wp2
    go_ret
    exact ⟨rfl, hb0⟩
  · have hTab := fun v W hW => keys_table v l W hW q0 (by omega)
    have hq : ∀ x ∈ (Keys.table l).1, x.size ≤ 140737488351232 := fun x hx => q0 x ((Keys.mem_table l x).1 hx)
    have hA := (Keys.is_table l).len
    have hT := Keys.table_len l
    obtain ⟨b1, b2⟩ := Keys.back l
    have hAi : (Keys.ints (Keys.table l).2).length = l.length := by unfold Keys.ints; rw [List.length_map, hA]
    generalize hA2 : Keys.ints (Keys.table l).2 = A at *
    generalize hT2 : (Keys.table l).1 = T at *
    clear hA2 hA
    have hLi := fun v1 v2 W h1 h2 => keys_list_ok v1 v2 T A W h1 h2 hq (by omega) (by omega) b1
    rw [b2] at hLi
    have hEq := fun va vb W h1 h2 => eq_strs va vb l l W h1 h2 z0 z0
    rw [decide_eq_true rfl] at hEq
    have hq1 : ((A.length : Int) == (l.length : Int)) = true := by simp; omega
    replace hTab := Lib.hid hTab
    replace hLi := Lib.hid hLi
    replace hEq := Lib.hid hEq
    replace hAi := Lib.hid hAi
    replace q0 := Lib.hid q0
    replace hq := Lib.hid hq
    clear b1 b2 hT2
    go_enter Tryd.func3, Tryd.ntmps3
    go_wp2_with fail
    refine hK.out.mono ?_
    rintro e w2 ⟨rfl, hb0⟩
    go_wp2_with fail
    refine (hTab.out _ _ (L0.out.below (by omega) hb0)).mono ?_
    rintro e w3 ⟨⟨t, a, rfl, ht, ha⟩, hb3⟩
    obtain ⟨o2, c2, rfl, hcap2, -⟩ := ha.at intCells_len
    clear hcap2
    replace ht := Lib.hid ht
    replace ha := Lib.hid ha
    go_wp2_with fail
    refine (hLi.out _ _ _ ht.out ha.out).mono ?_
    rintro e w4 ⟨⟨v, rfl, hv⟩, hb4⟩
    replace hv := Lib.hid hv
    have L4 := Lib.hid (L0.out.below (by omega) (bch (bch hb0 hb3) hb4))
    go_wp2_with fail
    refine (hEq.out _ _ _ L4.out hv.out).mono ?_
    rintro e w5 ⟨rfl, hb5⟩
    go_wp2
    go_ret
    exact ⟨rfl, bch (bch (bch hb0 hb3) hb4) hb5⟩
set_option maxHeartbeats 4000000 in
set_option maxRecDepth 20000 in
theorem KeysOnly_walk (v0 : Value) (T : List ByteArray) (v1 : Value) (A : List Int) (w : World) (L0 : StrsIs w v0 T) (q0 : ∀ x ∈ T, x.size ≤ 140737488351232) (z0 : T.length ≤ 140737488351232) (L1 : IntsIs w v1 A) (q1 : ∀ x ∈ A, (Lit.int .i64 x).wf = true) (z1 : A.length ≤ 140737488351232) (hL : Laid w) :
    Calls Tryd.prog 4 #[v0, v1] w fun e w' => e = .returned (.bool true) ∧ Below w.heap.size w w' := by
  have hK := keys_tabled w hL
  replace hK := Lib.hid hK
  obtain ⟨o, c, rfl, hcap, -⟩ := L0.at strCells_len
  clear hcap
  obtain ⟨o1, c1, rfl, hcap, -⟩ := L1.at intCells_len
  clear hcap
  replace L0 := Lib.hid L0
  replace L1 := Lib.hid L1
  clear q1
  by_cases h100 : 100 < T.length + A.length
  · replace q0 := Lib.hid q0
    go_enter Tryd.func4, Tryd.ntmps4
    go_wp2_with fail
    refine hK.out.mono ?_
    rintro e w2 ⟨rfl, hb0⟩
    go_wp2
    go_ret
    exact ⟨rfl, hb0⟩
  · by_cases hr : Keys.lists T A = .ok
    · have ho := Keys.table_outs T A hr
      have hpos : Keys.ints (Keys.nats A) = A := by
        have h2 := ((Keys.lists_ok T A).1 hr).2.1
        unfold Keys.ints Keys.nats
        rw [List.map_map]
        refine (List.map_congr_left (g := id) fun a ha => ?_).trans (List.map_id A)
        have := (h2 a ha).1
        show Int.ofNat a.toNat = a
        simp only [Int.ofNat_eq_natCast]; omega
      have hoq : ∀ x ∈ Keys.outs T A, x.size ≤ 140737488351232 := fun x hx => by
        unfold Keys.outs at hx
        obtain ⟨a, -, ha⟩ := List.mem_filterMap.1 hx
        exact q0 x (List.mem_of_getElem? ha)
      have hol : (Keys.outs T A).length ≤ 1000 := by
        unfold Keys.outs
        exact Nat.le_trans (List.length_filterMap_le _ _) (by omega)
      have hTab := fun v W hW => keys_table v (Keys.outs T A) W hW hoq hol
      rw [ho] at hTab
      dsimp only at hTab
      rw [hpos] at hTab
      have hLi := fun v1 v2 W h1 h2 => keys_list_ok v1 v2 T A W h1 h2 q0 (by omega) (by omega) hr
      have hEq := fun va vb W h1 h2 => eq_strs va vb T T W h1 h2 z0 z0
      rw [decide_eq_true rfl] at hEq
      have hEq2 := fun va vb W h1 h2 => eq_ints va vb A A W h1 h2 z1 z1
      rw [decide_eq_true rfl] at hEq2
      generalize Keys.outs T A = O at *
      replace hTab := Lib.hid hTab
      replace hLi := Lib.hid hLi
      replace hEq := Lib.hid hEq
      replace hEq2 := Lib.hid hEq2
      replace q0 := Lib.hid q0
      clear hr ho hpos hoq hol
      go_enter Tryd.func4, Tryd.ntmps4
      go_wp2_with fail
      refine hK.out.mono ?_
      rintro e w2 ⟨rfl, hb0⟩
      go_wp2_with fail
      refine (hLi.out _ _ _ (L0.out.below (by omega) hb0) (L1.out.below (by omega) hb0)).mono ?_
      rintro e w3 ⟨⟨v, rfl, hv⟩, hb3⟩
      replace hv := Lib.hid hv
      go_wp2_with fail
      refine (hTab.out _ _ hv.out).mono ?_
      rintro e w4 ⟨⟨t, a, rfl, ht, ha⟩, hb4⟩
      have hB4 := bch (bch hb0 hb3) hb4
      clear hb3 hb4 hv
      replace ht := Lib.hid ht
      replace ha := Lib.hid ha
      go_wp2_with fail
      refine (hEq.out _ _ _ ht.out (L0.out.below (by omega) hB4)).mono ?_
      rintro e w5 ⟨rfl, hb5⟩
      go_wp2_with fail
      refine (hEq2.out _ _ _ (ha.out.below (by omega) hb5) (L1.out.below (by omega) (bch hB4 hb5))).mono ?_
      rintro e w6 ⟨rfl, hb6⟩
      go_wp2
      go_ret
      exact ⟨rfl, bch (bch hB4 hb5) hb6⟩
    · have hes := Lib.hid (fun W v (h : ErrRep W v (Keys.lists T A)) => err_some' h hr)
      have hLi := fun v1 v2 W h1 h2 => keys_list_bad v1 v2 T A W h1 h2 q0 (by omega) (by omega) hr
      replace hLi := Lib.hid hLi
      replace hr := Lib.hid hr
      replace q0 := Lib.hid q0
      go_enter Tryd.func4, Tryd.ntmps4
      go_wp2_with fail
      refine hK.out.mono ?_
      rintro e w2 ⟨rfl, hb0⟩
      go_wp2_with fail
      refine (hLi.out _ _ _ (L0.out.below (by omega) hb0) (L1.out.below (by omega) hb0)).mono ?_
      rintro e w3 ⟨⟨E, rfl, hE⟩, hb3⟩
      obtain ⟨t4, u4', rfl⟩ := hes.out _ _ hE
      clear hE
      go_wp2
      go_ret
      exact ⟨rfl, bch hb0 hb3⟩
end Go.Proofs.YtndebohdappilaaDoor
