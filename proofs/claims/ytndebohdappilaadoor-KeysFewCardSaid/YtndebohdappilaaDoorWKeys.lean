/- The walks of keys.Table and keys.List. -/
import Derived.Test.YtndebohdappilaaDoorMaps
import Derived.Test.YtndebohdappilaaDoorErr
import Derived.Test.YtndebohdappilaaDoorWEqStr
import Derived.Test.YtndebohdappilaaDoorWEqInt
import Derived.Test.YtndebohdappilaaDoorPlainKeys2
import Derived.Test.YtndebohdappilaaDoorLib3
namespace Go.Proofs.YtndebohdappilaaDoor
open Go.RowKit
set_option linter.unusedVariables false
set_option linter.unusedSimpArgs false
theorem owns_slice {w : World} {base : Nat} {e : TypeId} {sz n : Nat} {v : Value} {xs : List Value} (h : w.ownsRow base e sz v n xs) : ∃ a c, v = .slice a n c := by
  rcases h.2 with ⟨rfl, h0⟩ | ⟨g, cap, cur, rfl, _⟩
  · exact ⟨none, 0, by rw [h0]⟩
  · exact ⟨_, _, rfl⟩
theorem int_snoc (out : List Nat) (x : Nat) : (Keys.ints out).flatMap intCells ++ [.int .i64 x] = (Keys.ints (out ++ [x])).flatMap intCells := by simp [Keys.ints, intCells]
theorem str_snoc' (out : List ByteArray) (x : ByteArray) : out.flatMap strCells ++ [.string x] = (out ++ [x]).flatMap strCells := by simp [strCells]
abbrev StrNat (w : World) (b n : Nat) (f : ByteArray → Option Nat) : Prop := MapIs Tryd.prog 9 3 (fun s : ByteArray => Lit.string s.data.toList) (fun n : Nat => Lit.int .i64 n) w b n f
abbrev StrBool (w : World) (b n : Nat) (f : ByteArray → Option Bool) : Prop := MapIs Tryd.prog 9 4 (fun s : ByteArray => Lit.string s.data.toList) Lit.bool w b n f
set_option maxHeartbeats 4000000 in
set_option maxRecDepth 20000 in
theorem keys_table (v : Value) (l : List ByteArray) (w : World) (hv : StrsIs w v l) (hq : ∀ x ∈ l, x.size ≤ 140737488351232) (hl : l.length ≤ 1000) :
    Calls Tryd.prog 17 #[v] w fun e w' => (∃ t a, e = .returned (.tuple #[t, a]) ∧ StrsIs w' t (Keys.table l).1 ∧ IntsIs w' a (Keys.ints (Keys.table l).2)) ∧ Below w.heap.size w w' := by
  have hmm := @run_makeMap Tryd.prog
  obtain ⟨oa, ca, rfl, hca, hcell⟩ := hv.at strCells_len
  clear hv hca
  replace hcell := Lib.hid hcell
  have K := Lib.hid (key_str (P := Tryd.prog) (k := 9) Tryd.underlying9)
  have E := Lib.hid (elem_int (P := Tryd.prog) (e := 3) Tryd.underlying3 (fun w => by kernel_rfl))
  replace hq : Hid (∀ x ∈ l, x.size ≤ maxLen) := Lib.hid (fun x hx => size_reach x (hq x hx))
  go_enter Tryd.func17, Tryd.ntmps17
  go_wp2
  go_loopw [2, 3, 12] (fun t a i wr => ∃ k : Nat, k ≤ l.length ∧ i = .int .i64 k ∧ StrNat wr w.heap.size k (Keys.idx (Keys.table (l.take k)).1) ∧ wr.ownsRow (w.heap.size + 1) 9 1 t (Keys.table (l.take k)).1.length ((Keys.table (l.take k)).1.flatMap strCells) ∧ wr.ownsRow (w.heap.size + 1) 3 1 a k ((Keys.ints (Keys.table (l.take k)).2).flatMap intCells) ∧ (∀ g, t.ownBlock = some g → a.ownBlock ≠ some g) ∧ Below w.heap.size w wr ∧ w.heap.size + 1 ≤ wr.heap.size) (fun _ _ i _ => l.length - (intOf i).toNat)
  case atStart =>
    refine ⟨0, by omega, rfl, ?_, World.ownsRow_nil _ _ _ _, World.ownsRow_nil _ _ _ _, (fun g h => by cases h), by (repeat (first | exact Below.refl _ _ | assumption | refine bal ?_ _ | refine bdr ?_ | refine bdn ?_ _ | refine bst ?_ (by first | assumption | exact Nat.le_refl _ | omega) _ | refine bch ?_ (by assumption))), by simp⟩
    show StrNat _ _ _ (Keys.idx [])
    rw [Keys.idx_nil]
    exact MapIs.made _ _ _ _ _ _
  case round =>
    obtain ⟨k, hk, rfl, hM, hT, hA, hD, hbel, hws⟩ := hrel

    have hsz := hbel.size
    by_cases hlt : k < l.length
    · obtain ⟨b1, f1, rfl, hb1, hc1⟩ := hcell.out k hlt
      have hb1 := hb1 (by omega)
      have c0 : wr.cell? ⟨b1, f1 + k, none⟩ = some (.string l[k]) := (hbel.cell (p := ⟨b1, f1 + k, none⟩) hb1).trans (by have := hc1 0 _ rfl; simpa using this)
      clear hc1
      have hx := hq.out _ (List.getElem_mem hlt)
      have hst := Keys.table_take l k hlt
      have htl : (Keys.table (l.take k)).1.length ≤ k := by
        have := Keys.table_len (l.take k)
        rw [List.length_take] at this; omega
      generalize l[k] = x at *
      by_cases hin : x ∈ (Keys.table (l.take k)).1
      · obtain ⟨j, hf, hst2, hj⟩ := Keys.old_case hin
        have hst2 := Lib.hid (hst.trans hst2)
        replace hf := Lib.hid hf
        clear hst hin
        generalize Keys.table (l.take k) = p at *
        obtain ⟨T, A⟩ := p
        simp only at *
        have hM' := Lib.hid hM
        have hT' := Lib.hid hT
        have hA' := Lib.hid hA
        clear hM hT
        go_wp2_with (first
          | (at_lookup; go_must (refine wp_look_yes rfl _ _ _ rfl hM'.out K.out E.out Tryd.underlying95 x hx j hf.out rfl rfl ?_))
          | ((at_builtin; (refine app_one rfl _ _ 24 3 rfl (w.heap.size + 1) (.int .i64 0) 1 8 Tryd.underlying24 (by kernel_rfl) rfl _ _ _ rfl hA _ rfl rfl ?_ (by omega) (by omega) hws ?_)); (focus (first | exact ⟨rfl, rfl⟩ | rfl | simp [Value.oneCell'])); intro a2 w3 hA3 hg3 hbk3 _ hb3))
        go_roundw
        case rel =>
          have hlt3 := fun g h => (hA'.out.lt g h)
          refine ⟨k + 1, by omega, by go_num, ?_, ?_, ?_, ?_, hbel.trans (hb3.mono (by omega)), by have := hg3.size; omega⟩
          · rw [hst2.out]
            exact (hM'.out.grown hg3 (fun e => by have := (hlt3 _ e.symm).1; omega)).mono (by omega)
          · rw [hst2.out]
            refine owns_grown hT'.out hg3 ?_
            cases ht : Value.ownBlock u2 with
            | none => exact .inl rfl
            | some g => exact .inr fun e => hD g ht e.symm
          · rw [hst2.out]
            show World.ownsRow _ _ _ _ _ _ ((Keys.ints (A ++ [j])).flatMap intCells)
            rw [← int_snoc]
            exact hA3
          · intro g hg e
            rcases hbk3 with h | h
            · exact hD g hg (h ▸ e)
            · rw [h] at e
              have := (hT'.out.lt g hg).2
              injection e with e
              omega
        case measure => simp [intOf]; omega
      · have hf := Lib.hid (Keys.idx_no hin)
        have hst2 := Lib.hid (hst.trans (Keys.step_new hin))
        have hsn := Lib.hid (Keys.idx_snoc hin)
        clear hst hin
        generalize Keys.table (l.take k) = p at *
        obtain ⟨T, A⟩ := p
        simp only at *
        obtain ⟨ta, tc, rfl⟩ := owns_slice hT
        have hM' := Lib.hid hM
        have hT' := Lib.hid hT
        have hA' := Lib.hid hA
        clear hM hT hA
        generalize hn : T.length = n at *
        replace hn := Lib.hid hn
        go_wp2_with (first
          | (at_lookup; go_must (refine wp_look_no rfl _ _ _ rfl hM'.out K.out E.out Tryd.underlying95 x hx hf.out rfl rfl ?_))
          | (at_mapUpdate; go_must (refine wp_update rfl _ _ _ _ rfl hM'.out K.out E.out Tryd.underlying95 (by omega) x hx n (by unfold maxLen; omega) rfl rfl rfl ?_)
             intro w1 hM1 hg1
             have hs1 : w.heap.size + 1 ≤ w1.heap.size := by have := hg1.size; omega
             have hT1 := owns_grown hT'.out hg1 (.inr (fun e => by have := (hT'.out.lt _ e).1; omega))
             have hA1 := owns_grown hA'.out hg1 (.inr (fun e => by have := (hA'.out.lt _ e).1; omega))
             have hM1' := Lib.hid hM1
             clear hM1)
          | ((at_builtin; (refine app_one rfl _ _ 22 9 rfl (w.heap.size + 1) (.string ⟨#[]⟩) 1 16 Tryd.underlying22 (by kernel_rfl) rfl _ _ _ rfl hT1 _ rfl rfl ?_ (by omega) (by omega) hs1 ?_))
             (focus (first | exact ⟨rfl, rfl⟩ | rfl | simp [Value.oneCell']))
             intro t2 w2 hT2 hg2 hbk2 _ hb2
             have hA2 := owns_grown hA1 hg2 (by
               cases ha : Value.ownBlock u3 with
               | none => exact .inl rfl
               | some g => exact .inr fun e => hD g e.symm ha)
             have hs2 : w.heap.size + 1 ≤ w2.heap.size := by have := hg2.size; omega
             have hM2 := Lib.hid (hM1'.out.grown hg2 (fun e => by have := (hT1.lt _ e.symm).1; omega))
             have hT2' := Lib.hid hT2
             have hA2' := Lib.hid hA2
             clear hT2)
          | ((at_builtin; (refine app_one rfl _ _ 24 3 rfl (w.heap.size + 1) (.int .i64 0) 1 8 Tryd.underlying24 (by kernel_rfl) rfl _ _ _ rfl hA2 _ rfl rfl ?_ (by omega) (by omega) hs2 ?_)); (focus (first | exact ⟨rfl, rfl⟩ | rfl | simp [Value.oneCell'])); intro a3 w3 hA3 hg3 hbk3 _ hb3))
        go_roundw
        case rel =>
          have hl1 := (Below.refl w.heap.size wr).grown hg1 (by omega) (fun k hk => by cases hk; exact Nat.le_refl _)
          have hD2 : ∀ g, Value.ownBlock t2 = some g → Value.ownBlock u3 ≠ some g := fun g hg e => by
            rcases hbk2 with h | h
            · exact hD g (h ▸ hg) e
            · rw [h] at hg
              injection hg with hg
              have := (hA1.lt g e).2
              omega
          refine ⟨k + 1, by omega, by go_num, ?_, ?_, ?_, ?_, hbel.trans ((hl1.trans (hb2.mono (by omega))).trans (hb3.mono (by omega))), by have := hg3.size; omega⟩
          · rw [hst2.out]
            show StrNat _ _ _ (Keys.idx (T ++ [x]))
            rw [← hsn.out]
            exact hM2.out.grown hg3 (fun e => by have := (hA2'.out.lt _ e.symm).1; omega)
          · rw [hst2.out]
            show World.ownsRow _ _ _ _ _ (T ++ [x]).length ((T ++ [x]).flatMap strCells)
            rw [List.length_append, hn.out, ← str_snoc']
            refine owns_grown hT2'.out hg3 ?_
            cases ht : Value.ownBlock t2 with
            | none => exact .inl rfl
            | some g => exact .inr fun e => hD2 g ht e.symm
          · rw [hst2.out]
            show World.ownsRow _ _ _ _ _ _ ((Keys.ints (A ++ [n])).flatMap intCells)
            rw [← int_snoc]
            exact hA3
          · intro g hg e
            rcases hbk3 with h | h
            · exact hD2 g hg (h ▸ e)
            · rw [h] at e
              have := (hT2'.out.lt g hg).2
              injection e with e
              omega
        case measure => simp [intOf]; omega
    · obtain rfl : k = l.length := by omega
      rw [List.take_length] at *
      have hT' := Lib.hid hT
      have hA' := Lib.hid hA
      clear hT hA hM
      have hlen : (Keys.ints (Keys.table l).2).length = l.length := by unfold Keys.ints; rw [List.length_map]; exact (Keys.is_table l).len
      go_wp2
      go_ret2
      exact ⟨⟨_, _, rfl, ListIs.of_owns hT'.out, ListIs.of_owns (by rw [hlen]; exact hA'.out)⟩, hbel⟩
end Go.Proofs.YtndebohdappilaaDoor
