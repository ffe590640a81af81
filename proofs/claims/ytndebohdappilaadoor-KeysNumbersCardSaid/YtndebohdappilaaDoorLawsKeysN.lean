/- The walk of KeysNumbers. -/
import Derived.Test.YtndebohdappilaaDoorLawsKeys
namespace Go.Proofs.YtndebohdappilaaDoor
open Go.RowKit
set_option linter.unusedVariables false
set_option linter.unusedSimpArgs false
theorem chk_step {a n m : Nat} {r : List Nat} (h : Keys.chk (a :: r) n = some m) : ¬ n < a ∧ Keys.chk r (if a = n then n + 1 else n) = some m := by
  rw [Keys.chk] at h
  split at h
  · cases h
  · exact ⟨‹_›, h⟩
set_option maxHeartbeats 4000000 in
set_option maxRecDepth 20000 in
theorem KeysNumbers_walk (v0 : Value) (l : List ByteArray) (w : World) (L0 : StrsIs w v0 l) (q0 : ∀ x ∈ l, x.size ≤ 140737488351232) (z0 : l.length ≤ 140737488351232) (hL : Laid w) :
    Calls Tryd.prog 5 #[v0] w fun e w' => e = .returned (.bool true) ∧ Below w.heap.size w w' := by
  have hK := keys_tabled w hL
  replace hK := Lib.hid hK
  obtain ⟨o, c, rfl, hcap, hcell0⟩ := L0.at strCells_len
  clear hcap
  replace L0 := Lib.hid L0
  replace hcell0 := Lib.hid hcell0
  by_cases h100 : 100 < l.length
  · replace q0 := Lib.hid q0
    go_enter Tryd.func5, Tryd.ntmps5
    go_wp2_with fail
    refine hK.out.mono ?_
    rintro e w2 ⟨rfl, hb0⟩
    go_wp2
    go_ret
    exact ⟨rfl, hb0⟩
  · have hTab := fun v W hW => keys_table v l W hW q0 (by omega)
    have hI := Keys.is_table l
    have hTl := Keys.table_len l
    have hmap : ∀ k (hk : k < (Keys.table l).2.length) (hk2 : k < l.length), (Keys.table l).1[(Keys.table l).2[k]]? = some l[k] := fun k hk hk2 => by
      have h := congrArg (fun x => x[k]?) hI.map
      simp only [List.getElem?_map, List.getElem?_eq_getElem hk, List.getElem?_eq_getElem hk2, Option.map_some, Option.some.injEq] at h
      exact h
    have hlen := hI.len
    have hlt0 := hI.lt
    have hchk := hI.chk
    clear hI
    generalize (Keys.table l).2 = A at *
    generalize (Keys.table l).1 = T at *
    have hAi : (Keys.ints A).length = l.length := by unfold Keys.ints; rw [List.length_map, hlen]
    replace hTab := Lib.hid hTab
    replace q0 := Lib.hid q0
    replace hmap := Lib.hid hmap
    replace hlt0 := Lib.hid hlt0
    replace hchk := Lib.hid hchk
    go_enter Tryd.func5, Tryd.ntmps5
    go_wp2_with fail
    refine hK.out.mono ?_
    rintro e w2 ⟨rfl, hb0⟩
    go_wp2_with fail
    refine (hTab.out _ _ (L0.out.below (by omega) hb0)).mono ?_
    rintro e w3 ⟨⟨t, a, rfl, ht, ha⟩, hb3⟩
    obtain ⟨o1, c1, rfl, hcap, hcell1⟩ := ht.at strCells_len
    clear hcap
    obtain ⟨o2, c2, rfl, hcap, hcell2⟩ := ha.at intCells_len
    clear hcap ht ha
    have hb03 := bch hb0 hb3
    have hw3 := hb03.size
    replace hcell1 := Lib.hid hcell1
    replace hcell2 := Lib.hid hcell2
    rw [hAi]
    replace hAi := Lib.hid hAi
    go_wp2
    go_loopw [5, 20] (fun x i wr => ∃ k n : Nat, k ≤ l.length ∧ n ≤ T.length ∧ i = .int .i64 k ∧ x = .int .i64 n ∧ Keys.chk (A.drop k) n = some T.length ∧ Below w3.heap.size w3 wr) (fun _ i _ => l.length - (intOf i).toNat)
    case atStart => exact ⟨0, 0, by omega, by omega, rfl, rfl, hchk.out, by (repeat (first | exact Below.refl _ _ | assumption | refine bal ?_ _ | refine bdr ?_ | refine bdn ?_ _ | refine bst ?_ (by first | assumption | exact Nat.le_refl _ | omega) _ | refine bch ?_ (by assumption)))⟩
    case round =>
      obtain ⟨k, n, hk, hn, rfl, rfl, hck, hbel⟩ := hrel
      by_cases hlt : k < l.length
      · have hkA : k < A.length := by omega
        rw [List.drop_eq_getElem_cons hkA] at hck
        obtain ⟨hna, hck2⟩ := chk_step hck
        have haT := hlt0.out _ (List.getElem_mem hkA)
        have hm := hmap.out k hkA hlt
        obtain ⟨b0, f0, rfl, hb0', hc0⟩ := hcell0.out k hlt
        have hb0' := hb0' (by omega)
        have p0 : wr.cell? ⟨b0, f0 + k, none⟩ = some (.string l[k]) := (hbel.cell (p := ⟨b0, f0 + k, none⟩) (by show b0 < _; omega)).trans ((hb03.cell (p := ⟨b0, f0 + k, none⟩) hb0').trans (by have := hc0 0 _ rfl; simpa using this))
        obtain ⟨b2, f2, rfl, hb2', hc2⟩ := hcell2.out k (by rw [hAi.out]; exact hlt)
        have hb2' := hb2' (by omega)
        have p2 : wr.cell? ⟨b2, f2 + k, none⟩ = some (.int .i64 (A[k] : Nat)) := (hbel.cell (p := ⟨b2, f2 + k, none⟩) hb2').trans (by
          have h := hc2 0 _ rfl
          have e : (Keys.ints A)[k]'(by rw [hAi.out]; exact hlt) = ((A[k] : Nat) : Int) := by unfold Keys.ints; rw [List.getElem_map]; rfl
          rw [e] at h
          simpa using h)
        obtain ⟨b1, f1, rfl, hb1', hc1⟩ := hcell1.out A[k] haT
        have hb1' := hb1' (by omega)
        rw [List.getElem?_eq_getElem haT] at hm
        injection hm with hm
        have p1 : wr.cell? ⟨b1, f1 + A[k], none⟩ = some (.string l[k]) := (hbel.cell (p := ⟨b1, f1 + A[k], none⟩) hb1').trans (by have h := hc1 0 _ rfl; rw [hm] at h; simpa using h)
        clear hc0 hc1 hc2 hm hck
        generalize A[k] = a at *
        generalize l[k] = y at *
        have g1 : decide ((a : Int) < 0) = false := by simp
        have g2 : decide ((n : Int) < (a : Int)) = false := by simp; omega
        have g3 : decide ((T.length : Int) ≤ (a : Int)) = false := by simp; omega
        have g4 : decide ((l.length : Int) ≤ (k : Int)) = false := by simp; omega
        replace hck2 := Lib.hid hck2
        by_cases han : a = n
        · subst han
          have hck3 := Lib.hid (show Keys.chk (A.drop (k + 1)) (a + 1) = some T.length by have := hck2.out; rw [if_pos rfl] at this; exact this)
          go_wp2_with fail
          go_quiet (fail)
          go_wp2
          go_roundw
          case rel => exact ⟨k + 1, a + 1, by omega, by omega, by go_num, by go_num, hck3.out, by (repeat (first | exact Below.refl _ _ | assumption | refine bal ?_ _ | refine bdr ?_ | refine bdn ?_ _ | refine bst ?_ (by first | assumption | exact Nat.le_refl _ | omega) _ | refine bch ?_ (by assumption)))⟩
          case measure => simp [intOf]; omega
        · have hck3 := Lib.hid (show Keys.chk (A.drop (k + 1)) n = some T.length by have := hck2.out; rw [if_neg han] at this; exact this)
          have g5 : ((a : Int) == (n : Int)) = false := by simp; omega
          go_wp2_with fail
          go_quiet (fail)
          go_wp2
          go_roundw
          case rel => exact ⟨k + 1, n, by omega, by omega, by go_num, by go_num, hck3.out, by (repeat (first | exact Below.refl _ _ | assumption | refine bal ?_ _ | refine bdr ?_ | refine bdn ?_ _ | refine bst ?_ (by first | assumption | exact Nat.le_refl _ | omega) _ | refine bch ?_ (by assumption)))⟩
          case measure => simp [intOf]; omega
      · obtain rfl : k = l.length := by omega
        rw [List.drop_of_length_le (by omega)] at hck
        have hck : some n = some T.length := hck
        injection hck with hck
        subst hck
        go_wp2
        go_ret
        exact ⟨rfl, bch hb03 hbel⟩
end Go.Proofs.YtndebohdappilaaDoor
