/- The walks of keys.Table and keys.List. -/
import Derived.Test.YtognjohloobliaaGreatDoorK03
import Derived.Test.YtognjohloobliaaGreatDoorK06
import Derived.Test.YtognjohloobliaaGreatDoorK01
import Derived.Test.YtognjohloobliaaGreatDoorK10
namespace Go.Proofs.YtognjohloobliaaGreatDoor
open Go.RowKit
set_option linter.unusedVariables false
set_option linter.unusedSimpArgs false
theorem owns_slice {w : World} {base : Nat} {e : TypeId} {sz n : Nat} {v : Value} {xs : List Value} (h : w.ownsRow base e sz v n xs) : ∃ a c, v = .slice a n c := by
  rcases h.2 with ⟨rfl, h0⟩ | ⟨g, cap, cur, rfl, _⟩
  · exact ⟨none, 0, by rw [h0]⟩
  · exact ⟨_, _, rfl⟩
theorem int_snoc (out : List Nat) (x : Nat) : (Keys.ints out).flatMap intCells ++ [.int .i64 x] = (Keys.ints (out ++ [x])).flatMap intCells := by simp [Keys.ints, intCells]
theorem str_snoc' (out : List ByteArray) (x : ByteArray) : out.flatMap strCells ++ [.string x] = (out ++ [x]).flatMap strCells := by simp [strCells]
abbrev StrNat (w : World) (b n : Nat) (f : ByteArray → Option Nat) : Prop := MapIs Tryz.prog 9 3 (fun s : ByteArray => Lit.string s.data.toList) (fun n : Nat => Lit.int .i64 n) w b n f
abbrev StrBool (w : World) (b n : Nat) (f : ByteArray → Option Bool) : Prop := MapIs Tryz.prog 9 4 (fun s : ByteArray => Lit.string s.data.toList) Lit.bool w b n f
set_option maxHeartbeats 4000000 in
set_option maxRecDepth 20000 in
theorem keys_table (v : Value) (l : List ByteArray) (w : World) (hv : StrsIs w v l) (hq : ∀ x ∈ l, x.size ≤ 140737488351232) (hl : l.length ≤ 1000) :
    Calls Tryz.prog 84 #[v] w fun e w' => (∃ t a, e = .returned (.tuple #[t, a]) ∧ StrsIs w' t (Keys.table l).1 ∧ IntsIs w' a (Keys.ints (Keys.table l).2)) ∧ Below w.heap.size w w' := by
  have hmm := @run_makeMap Tryz.prog
  obtain ⟨oa, ca, rfl, hca, hcell⟩ := hv.at strCells_len
  clear hv hca
  replace hcell := Lib.hid hcell
  have K := Lib.hid (key_str (P := Tryz.prog) (k := 9) Tryz.underlying9)
  have E := Lib.hid (elem_int (P := Tryz.prog) (e := 3) Tryz.underlying3 (fun w => by kernel_rfl))
  replace hq : Hid (∀ x ∈ l, x.size ≤ maxLen) := Lib.hid (fun x hx => size_reach x (hq x hx))
  go_enter Tryz.func84, Tryz.ntmps84
  go_wp2
  go_loopw [2, 3, 12] (fun t a i wr => ∃ k : Nat, k ≤ l.length ∧ i = .int .i64 k ∧ StrNat wr w.heap.size k (Keys.idx (Keys.table (l.take k)).1) ∧ wr.ownsRow (w.heap.size + 1) 9 1 t (Keys.table (l.take k)).1.length ((Keys.table (l.take k)).1.flatMap strCells) ∧ wr.ownsRow (w.heap.size + 1) 3 1 a k ((Keys.ints (Keys.table (l.take k)).2).flatMap intCells) ∧ (∀ g, t.ownBlock = some g → a.ownBlock ≠ some g) ∧ Below w.heap.size w wr ∧ w.heap.size + 1 ≤ wr.heap.size) (fun _ _ i _ => l.length - (intOf i).toNat)
  case atStart =>
    refine ⟨0, by omega, rfl, ?_, World.ownsRow_nil _ _ _ _, World.ownsRow_nil _ _ _ _, (fun g h => by cases h), by exact blw, by simp⟩
    show StrNat _ _ _ (Keys.idx [])
    rw [Keys.idx_nil]
    exact MapIs.made _ _ _ _ _ _
  case round =>
    obtain ⟨k, hk, rfl, hM, hT, hA, hD, hbel, hws⟩ := hrel

    have hsz := hbel.size
    by_cases hlt : k < l.length
    · obtain ⟨b1, f1, rfl, hb1, hc1⟩ := hcell.out k hlt
      have hb1 := hb1 (by omega)
      have c0 : wr.cell? ⟨b1, f1 + k, none⟩ = some (.string l[k]) := (hbel.cell (p := ⟨b1, f1 + k, none⟩) hb1).trans (by have := hc1 0 _ rfl; simpa using this)
      clear hc1
      have hx := hq.out _ (List.getElem_mem hlt)
      have hst := Keys.table_take l k hlt
      have htl : (Keys.table (l.take k)).1.length ≤ k := by
        have := Keys.table_len (l.take k)
        rw [List.length_take] at this; omega
      generalize l[k] = x at *
      by_cases hin : x ∈ (Keys.table (l.take k)).1
      · obtain ⟨j, hf, hst2, hj⟩ := Keys.old_case hin
        have hst2 := Lib.hid (hst.trans hst2)
        replace hf := Lib.hid hf
        clear hst hin
        generalize Keys.table (l.take k) = p at *
        obtain ⟨T, A⟩ := p
        simp only at *
        have hM' := Lib.hid hM
        have hT' := Lib.hid hT
        have hA' := Lib.hid hA
        clear hM hT
        go_wp2_with (first
          | (at_lookup; go_must (refine wp_look_yes rfl _ _ _ rfl hM'.out K.out E.out Tryz.underlying173 x hx j hf.out rfl rfl ?_))
          | ((at_builtin; (refine app_one rfl _ _ 104 3 rfl (w.heap.size + 1) (.int .i64 0) 1 8 Tryz.underlying104 (by kernel_rfl) rfl _ _ _ rfl hA _ rfl rfl ?_ (by omega) (by omega) hws ?_)); (focus (first | exact ⟨rfl, rfl⟩ | rfl | simp [Value.oneCell'])); intro a2 w3 hA3 hg3 hbk3 _ hb3))
        go_roundw
        case rel =>
          have hlt3 := fun g h => (hA'.out.lt g h)
          refine ⟨k + 1, by omega, by go_num, ?_, ?_, ?_, ?_, hbel.trans (hb3.mono (by omega)), by have := hg3.size; omega⟩
          · rw [hst2.out]
            exact (hM'.out.grown hg3 (fun e => by have := (hlt3 _ e.symm).1; omega)).mono (by omega)
          · rw [hst2.out]
            refine owns_grown hT'.out hg3 ?_
            cases ht : Value.ownBlock u2 with
            | none => exact .inl rfl
            | some g => exact .inr fun e => hD g ht e.symm
          · rw [hst2.out]
            show World.ownsRow _ _ _ _ _ _ ((Keys.ints (A ++ [j])).flatMap intCells)
            rw [← int_snoc]
            exact hA3
          · intro g hg e
            rcases hbk3 with h | h
            · exact hD g hg (h ▸ e)
            · rw [h] at e
              have := (hT'.out.lt g hg).2
              injection e with e
              omega
        case measure => simp [intOf]; omega
      · have hf := Lib.hid (Keys.idx_no hin)
        have hst2 := Lib.hid (hst.trans (Keys.step_new hin))
        have hsn := Lib.hid (Keys.idx_snoc hin)
        clear hst hin
        generalize Keys.table (l.take k) = p at *
        obtain ⟨T, A⟩ := p
        simp only at *
        obtain ⟨ta, tc, rfl⟩ := owns_slice hT
        have hM' := Lib.hid hM
        have hT' := Lib.hid hT
        have hA' := Lib.hid hA
        clear hM hT hA
        generalize hn : T.length = n at *
        replace hn := Lib.hid hn
        go_wp2_with (first
          | (at_lookup; go_must (refine wp_look_no rfl _ _ _ rfl hM'.out K.out E.out Tryz.underlying173 x hx hf.out rfl rfl ?_))
          | (at_mapUpdate; go_must (refine wp_update rfl _ _ _ _ rfl hM'.out K.out E.out Tryz.underlying173 (by omega) x hx n (by unfold maxLen; omega) rfl rfl rfl ?_)
             intro w1 hM1 hg1
             have hs1 : w.heap.size + 1 ≤ w1.heap.size := by have := hg1.size; omega
             have hT1 := owns_grown hT'.out hg1 (.inr (fun e => by have := (hT'.out.lt _ e).1; omega))
             have hA1 := owns_grown hA'.out hg1 (.inr (fun e => by have := (hA'.out.lt _ e).1; omega))
             have hM1' := Lib.hid hM1
             clear hM1)
          | ((at_builtin; (refine app_one rfl _ _ 145 9 rfl (w.heap.size + 1) (.string ⟨#[]⟩) 1 16 Tryz.underlying145 (by kernel_rfl) rfl _ _ _ rfl hT1 _ rfl rfl ?_ (by omega) (by omega) hs1 ?_))
             (focus (first | exact ⟨rfl, rfl⟩ | rfl | simp [Value.oneCell']))
             intro t2 w2 hT2 hg2 hbk2 _ hb2
             have hA2 := owns_grown hA1 hg2 (by
               cases ha : Value.ownBlock u3 with
               | none => exact .inl rfl
               | some g => exact .inr fun e => hD g e.symm ha)
             have hs2 : w.heap.size + 1 ≤ w2.heap.size := by have := hg2.size; omega
             have hM2 := Lib.hid (hM1'.out.grown hg2 (fun e => by have := (hT1.lt _ e.symm).1; omega))
             have hT2' := Lib.hid hT2
             have hA2' := Lib.hid hA2
             clear hT2)
          | ((at_builtin; (refine app_one rfl _ _ 104 3 rfl (w.heap.size + 1) (.int .i64 0) 1 8 Tryz.underlying104 (by kernel_rfl) rfl _ _ _ rfl hA2 _ rfl rfl ?_ (by omega) (by omega) hs2 ?_)); (focus (first | exact ⟨rfl, rfl⟩ | rfl | simp [Value.oneCell'])); intro a3 w3 hA3 hg3 hbk3 _ hb3))
        go_roundw
        case rel =>
          have hl1 := (Below.refl w.heap.size wr).grown hg1 (by omega) (fun k hk => by cases hk; exact Nat.le_refl _)
          have hD2 : ∀ g, Value.ownBlock t2 = some g → Value.ownBlock u3 ≠ some g := fun g hg e => by
            rcases hbk2 with h | h
            · exact hD g (h ▸ hg) e
            · rw [h] at hg
              injection hg with hg
              have := (hA1.lt g e).2
              omega
          refine ⟨k + 1, by omega, by go_num, ?_, ?_, ?_, ?_, hbel.trans ((hl1.trans (hb2.mono (by omega))).trans (hb3.mono (by omega))), by have := hg3.size; omega⟩
          · rw [hst2.out]
            show StrNat _ _ _ (Keys.idx (T ++ [x]))
            rw [← hsn.out]
            exact hM2.out.grown hg3 (fun e => by have := (hA2'.out.lt _ e.symm).1; omega)
          · rw [hst2.out]
            show World.ownsRow _ _ _ _ _ (T ++ [x]).length ((T ++ [x]).flatMap strCells)
            rw [List.length_append, hn.out, ← str_snoc']
            refine owns_grown hT2'.out hg3 ?_
            cases ht : Value.ownBlock t2 with
            | none => exact .inl rfl
            | some g => exact .inr fun e => hD2 g ht e.symm
          · rw [hst2.out]
            show World.ownsRow _ _ _ _ _ _ ((Keys.ints (A ++ [n])).flatMap intCells)
            rw [← int_snoc]
            exact hA3
          · intro g hg e
            rcases hbk3 with h | h
            · exact hD2 g hg (h ▸ e)
            · rw [h] at e
              have := (hT2'.out.lt g hg).2
              injection e with e
              omega
        case measure => simp [intOf]; omega
    · obtain rfl : k = l.length := by omega
      rw [List.take_length] at *
      have hT' := Lib.hid hT
      have hA' := Lib.hid hA
      clear hT hA hM
      have hlen : (Keys.ints (Keys.table l).2).length = l.length := by unfold Keys.ints; rw [List.length_map]; exact (Keys.is_table l).len
      go_wp2
      go_ret2
      exact ⟨⟨_, _, rfl, ListIs.of_owns hT'.out, ListIs.of_owns (by rw [hlen]; exact hA'.out)⟩, hbel⟩
end Go.Proofs.YtognjohloobliaaGreatDoor
/- The walk of keys.List. -/
namespace Go.Proofs.YtognjohloobliaaGreatDoor
open Go.RowKit
set_option linter.unusedVariables false
set_option linter.unusedSimpArgs false
/-- What List tells: the list, or what is wrong. -/
def ListRet (T : List ByteArray) (A : List Int) (w' : World) (e : Ending) : Prop := ∃ v E, e = .returned (.tuple #[v, E]) ∧ ErrRep w' E (Keys.lists T A) ∧ (Keys.lists T A = .ok → StrsIs w' v (Keys.outs T A)) ∧ (Keys.lists T A ≠ .ok → v = .slice none 0 0)
theorem list_err (T : List ByteArray) (A : List Int) (w0 w : World) (hb : Below w0.heap.size w0 w) (x i g : Nat) (hg : g = w.heap.size) (hx : Keys.lists T A = .at_ x i) : ListRet T A (w.alloc (.cells #[.int .i64 x, .int .i64 i] 84)) (.returned (.tuple #[.slice none 0 0, .iface 82 (.pointer (some ⟨g, 0, none⟩))])) ∧ Below w0.heap.size w0 (w.alloc (.cells #[.int .i64 x, .int .i64 i] 84)) := by
  subst hg
  refine ⟨⟨_, _, rfl, ?_, fun h => ?_, fun _ => rfl⟩, bal hb _⟩
  · rw [hx]; exact ⟨w.heap.size, rfl, row_alloc w _ _⟩
  · rw [hx] at h; cases h
theorem lists_dup {T : List ByteArray} {A : List Int} {x i : Nat} (h : Keys.dups T [] 0 = .at_ x i) : Keys.lists T A = .at_ x i := by unfold Keys.lists; rw [h]
theorem lists_rng {T : List ByteArray} {A : List Int} (h : Keys.dups T [] 0 = .ok) : Keys.lists T A = Keys.rngs T.length A 0 0 := by unfold Keys.lists; rw [h]
set_option maxHeartbeats 8000000 in
set_option maxRecDepth 20000 in
theorem keys_list (v1 v2 : Value) (T : List ByteArray) (A : List Int) (w : World) (hv1 : StrsIs w v1 T) (hv2 : IntsIs w v2 A) (hq : ∀ x ∈ T, x.size ≤ 140737488351232) (hT : T.length ≤ 1000) (hA : A.length ≤ 1000) :
    Calls Tryz.prog 116 #[v1, v2] w fun e w' => ListRet T A w' e ∧ Below w.heap.size w w' := by
  have hmm := @run_makeMap Tryz.prog
  obtain ⟨oa, ca, rfl, hca, hcell⟩ := hv1.at strCells_len
  obtain ⟨ob, cb, rfl, hcb, hcellb⟩ := hv2.at intCells_len
  clear hv1 hca hv2 hcb
  replace hcell := Lib.hid hcell
  replace hcellb := Lib.hid hcellb
  have K := Lib.hid (key_str (P := Tryz.prog) (k := 9) Tryz.underlying9)
  have E := Lib.hid (elem_bool (P := Tryz.prog) (e := 4) Tryz.underlying4 (fun w => by kernel_rfl))
  replace hq : Hid (∀ x ∈ T, x.size ≤ maxLen) := Lib.hid (fun x hx => size_reach x (hq x hx))
  go_enter Tryz.func116, Tryz.ntmps116
  go_wp2
  go_loopw [16] (fun i wr => ∃ k : Nat, k ≤ T.length ∧ i = .int .i64 k ∧ StrBool wr w.heap.size k (Keys.was (T.take k)) ∧ Keys.dups (T.drop k) (T.take k) k = Keys.dups T [] 0 ∧ Below w.heap.size w wr) (fun i _ => T.length - (intOf i).toNat)
  case atStart =>
    refine ⟨0, by omega, rfl, ?_, rfl, by exact blw⟩
    show StrBool _ _ _ (Keys.was [])
    rw [Keys.was_nil]
    exact MapIs.made _ _ _ _ _ _
  case round =>
    obtain ⟨k, hk, rfl, hM, hdu, hbel⟩ := hrel
    have hsz := hbel.size
    by_cases hlt : k < T.length
    · obtain ⟨b1, f1, rfl, hb1, hc1⟩ := hcell.out k hlt
      have hb1 := hb1 (by omega)
      have c0 : wr.cell? ⟨b1, f1 + k, none⟩ = some (.string T[k]) := (hbel.cell (p := ⟨b1, f1 + k, none⟩) hb1).trans (by have := hc1 0 _ rfl; simpa using this)
      clear hc1
      have hx := hq.out _ (List.getElem_mem hlt)
      rw [Keys.dups_drop T k hlt] at hdu
      have htk : T.take (k + 1) = T.take k ++ [T[k]] := List.take_succ_eq_append_getElem hlt
      generalize T[k] = x at *
      by_cases hin : x ∈ T.take k
      · rw [if_pos hin] at hdu
        have hfin := Lib.hid (lists_dup (A := A) hdu.symm)
        have hr := Lib.hid (Keys.was_yes hin)
        clear hin hdu htk
        have hM' := Lib.hid hM
        clear hM
        go_wp2_with (first
          | (at_lookup; go_must (refine wp_look rfl _ _ _ rfl hM'.out K.out E.out Tryz.underlying213 x hx true hr.out rfl rfl ?_)))
        go_ret2
        exact list_err T A w _ hbel 9 k _ rfl hfin.out
      · rw [if_neg hin] at hdu
        have hr := Lib.hid (Keys.was_no hin)
        have hsn := Lib.hid (Keys.was_snoc (T.take k) x)
        replace htk := Lib.hid htk
        replace hdu := Lib.hid hdu
        have hM' := Lib.hid hM
        clear hM hin
        go_wp2_with (first
          | (at_lookup; go_must (refine wp_look rfl _ _ _ rfl hM'.out K.out E.out Tryz.underlying213 x hx false hr.out rfl rfl ?_))
          | (at_mapUpdate; go_must (refine wp_update rfl _ _ _ _ rfl hM'.out K.out E.out Tryz.underlying213 (by omega) x hx true trivial rfl rfl rfl ?_)
             intro w1 hM1 hg1))
        go_roundw
        case rel =>
          have hl1 := (Below.refl w.heap.size wr).grown hg1 (by omega) (fun k hk => by cases hk; exact Nat.le_refl _)
          refine ⟨k + 1, by omega, by go_num, ?_, hdu.out, hbel.trans hl1⟩
          rw [htk.out, ← hsn.out]
          exact hM1
        case measure => simp [intOf]; omega
    · obtain rfl : k = T.length := by omega
      rw [List.drop_of_length_le (Nat.le_refl _)] at hdu
      have hdu : Keys.dups T [] 0 = .ok := hdu.symm
      have hli := Lib.hid (lists_rng (A := A) hdu)
      clear hdu hM
      have hnl := hT
      go_wp2
      go_loopw [9, 10, 33] (fun o nx i wr' => ∃ (k n : Nat), k ≤ A.length ∧ n ≤ k ∧ n ≤ T.length ∧ i = .int .i64 k ∧ nx = .int .i64 n ∧ wr'.ownsRow w.heap.size 9 1 o (Keys.outs T (A.take k)).length ((Keys.outs T (A.take k)).flatMap strCells) ∧ Keys.rngs T.length (A.drop k) n k = Keys.rngs T.length A 0 0 ∧ (Keys.outs T (A.take k)).length = k ∧ Below w.heap.size w wr') (fun _ _ i _ => A.length - (intOf i).toNat)
      case atStart => exact ⟨0, 0, by omega, by omega, by omega, rfl, rfl, World.ownsRow_nil _ _ _ _, rfl, rfl, by exact blw⟩
      case round =>
        obtain ⟨k, n, hk, hnk, hnT, rfl, rfl, hO, hrn, hol, hbel⟩ := hrel
        have hsz2 := hbel.size
        by_cases hlt2 : k < A.length
        · obtain ⟨b1, f1, rfl, hb1, hc1⟩ := hcellb.out k hlt2
          have hb1 := hb1 (by omega)
          have c0 : wr.cell? ⟨b1, f1 + k, none⟩ = some (.int .i64 A[k]) := (hbel.cell (p := ⟨b1, f1 + k, none⟩) hb1).trans (by have := hc1 0 _ rfl; simpa using this)
          clear hc1
          rw [Keys.rngs_drop T.length A k n hlt2] at hrn
          have hot := fun m hm e => Keys.outs_take T A k hlt2 m hm e
          generalize A[k] = a at *
          by_cases h1 : a < 0 ∨ (T.length : Int) ≤ a
          · rw [if_pos h1] at hrn
            have hfin := Lib.hid (hli.out.trans hrn.symm)
            clear hrn hot
            by_cases h0 : a < 0
            · go_wp2
              go_ret2
              exact list_err T A w _ hbel 2 k _ rfl hfin.out
            · have h2 : (T.length : Int) ≤ a := by omega
              go_wp2
              go_ret2
              exact list_err T A w _ hbel 2 k _ rfl hfin.out
          · rw [if_neg h1] at hrn
            have h0 : ¬ a < 0 := by omega
            have h2 : ¬ (T.length : Int) ≤ a := by omega
            obtain ⟨m, rfl⟩ : ∃ m : Nat, a = m := ⟨a.toNat, by omega⟩
            have hm : m < T.length := by omega
            by_cases h3 : (n : Int) < (m : Int)
            · rw [if_pos h3] at hrn
              have hfin := Lib.hid (hli.out.trans hrn.symm)
              clear hrn hot
              go_wp2
              go_ret2
              exact list_err T A w _ hbel 13 k _ rfl hfin.out
            · rw [if_neg h3] at hrn
              have hot := Lib.hid (hot m hm rfl)
              obtain ⟨b2, f2, rfl, hb2, hc2⟩ := hcell.out m hm
              have hb2 := hb2 (by omega)
              have c2 : wr.cell? ⟨b2, f2 + m, none⟩ = some (.string T[m]) := (hbel.cell (p := ⟨b2, f2 + m, none⟩) hb2).trans (by have := hc2 0 _ rfl; simpa using this)
              clear hc2
              have hw0 := hsz2
              generalize T[m] = y at *
              have hO' := Lib.hid hO
              clear hO
              have hol' := Lib.hid hol
              by_cases h4 : m = n
              · subst h4
                have hrn := Lib.hid (show Keys.rngs T.length (A.drop (k + 1)) (m + 1) (k + 1) = Keys.rngs T.length A 0 0 by rw [if_pos rfl] at hrn; exact hrn)
                go_wp2_with (first
                  | ((at_builtin; go_must (refine app_one rfl _ _ 145 9 rfl (w.heap.size) (.string ⟨#[]⟩) 1 16 Tryz.underlying145 (by kernel_rfl) rfl _ _ _ rfl hO'.out _ rfl rfl ?_ (by omega) (by omega) hw0 ?_)); (focus (first | exact ⟨rfl, rfl⟩ | rfl | simp [Value.oneCell'])); intro a3 w3 hA3 hg3 hbk3 _ hb3))
                go_roundw
                case rel =>
                  refine ⟨k + 1, m + 1, by omega, by omega, by omega, by go_num, by go_num, ?_, hrn.out, ?_, hbel.trans (hb3.mono (by omega))⟩
                  · rw [hot.out, List.length_append, ← str_snoc']
                    exact hA3
                  · rw [hot.out, List.length_append, hol'.out]; rfl
                case measure => simp [intOf]; omega
              · have hmn : m < n := by omega
                have hrn := Lib.hid (show Keys.rngs T.length (A.drop (k + 1)) n (k + 1) = Keys.rngs T.length A 0 0 by rw [if_neg (by omega)] at hrn; exact hrn)
                go_wp2_with (first
                  | ((at_builtin; go_must (refine app_one rfl _ _ 145 9 rfl (w.heap.size) (.string ⟨#[]⟩) 1 16 Tryz.underlying145 (by kernel_rfl) rfl _ _ _ rfl hO'.out _ rfl rfl ?_ (by omega) (by omega) hw0 ?_)); (focus (first | exact ⟨rfl, rfl⟩ | rfl | simp [Value.oneCell'])); intro a3 w3 hA3 hg3 hbk3 _ hb3))
                go_roundw
                case rel =>
                  refine ⟨k + 1, n, by omega, by omega, by omega, by go_num, by go_num, ?_, hrn.out, ?_, hbel.trans (hb3.mono (by omega))⟩
                  · rw [hot.out, List.length_append, ← str_snoc']
                    exact hA3
                  · rw [hot.out, List.length_append, hol'.out]; rfl
                case measure => simp [intOf]; omega
        · obtain rfl : k = A.length := by omega
          rw [List.take_length] at hO hol
          rw [List.drop_of_length_le (Nat.le_refl _)] at hrn
          have hO' := Lib.hid hO
          clear hO
          by_cases hnl2 : n < T.length
          · have hfin := Lib.hid (show Keys.lists T A = .no 8 by rw [hli.out, ← hrn, Keys.rngs, if_pos hnl2])
            clear hrn
            go_wp2
            go_ret2
            exact ⟨⟨_, _, rfl, by rw [hfin.out]; rfl, fun h => (by rw [hfin.out] at h; cases h), fun _ => rfl⟩, hbel⟩
          · have hfin := Lib.hid (show Keys.lists T A = .ok by rw [hli.out, ← hrn, Keys.rngs, if_neg hnl2])
            clear hrn
            go_wp2
            go_ret2
            exact ⟨⟨_, _, rfl, by rw [hfin.out]; rfl, fun _ => ListIs.of_owns hO'.out, fun h => absurd hfin.out h⟩, hbel⟩
end Go.Proofs.YtognjohloobliaaGreatDoor
