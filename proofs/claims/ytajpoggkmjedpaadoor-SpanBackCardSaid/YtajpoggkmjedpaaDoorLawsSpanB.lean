/- Walk of the law SpanBack. -/
import Derived.Test.YtajpoggkmjedpaaDoorWSpanAll
import Derived.Test.YtajpoggkmjedpaaDoorLaid
namespace Go.Proofs.YtajpoggkmjedpaaDoor
open Go.RowKit
set_option linter.unusedVariables false
theorem put_two' : Vary.put 2 = [2] := by rw [Vary.put_small (by omega)]; rfl
theorem span1' : Span.put [97, 98] = [2, 97, 98] := by
  show Vary.put 2 ++ [97, 98] = _
  rw [put_two']; rfl
theorem span2' : Span.get [2, 97, 98, 99] = .ok [97, 98] 3 := by rfl
set_option maxHeartbeats 1000000 in
set_option maxRecDepth 20000 in
theorem spanned' (w : World) (hL : Laid w) :
    Calls Tryd.prog 9 #[] w fun e w' => e = .returned (.bool true) ∧ Below w.heap.size w w' := by
  have h1 := span1'
  have h2 := span2'
  have hv : spanVal (.ok [97, 98] 3) = .tuple #[.string ⟨#[97, 98]⟩, .int .i64 3, .nilIface] := rfl
  go_enter Tryd.func9, Tryd.ntmps9
  go_wp2_with (first
    | (go_at_call 10; go_must (refine (span_put _ _ (by decide)).mono ?_); rintro e w' ⟨rfl, hb⟩)
    | (go_at_call 25; go_must (refine (span_get _ _ (size_small _ (by decide)) (by exact hL.below (by (repeat (first | exact Below.refl _ _ | assumption | refine bal ?_ _ | refine bdr ?_ | refine bdn ?_ _ | refine bst ?_ (by first | assumption | exact Nat.le_refl _ | omega) _ | refine bch ?_ (by assumption)))))).mono ?_); rintro e w' ⟨rfl, hb⟩))
  go_ret
  exact ⟨rfl, by (repeat (first | exact Below.refl _ _ | assumption | refine bal ?_ _ | refine bdr ?_ | refine bdn ?_ _ | refine bst ?_ (by first | assumption | exact Nat.le_refl _ | omega) _ | refine bch ?_ (by assumption)))⟩
/-- Bytes of all together. -/
def sizes (l : List ByteArray) : Nat := (l.map ByteArray.size).sum
theorem sizes_take (l : List ByteArray) (k : Nat) (h : k < l.length) : sizes (l.take (k + 1)) = sizes (l.take k) + l[k].size := by
  unfold sizes; rw [List.take_succ_eq_append_getElem h, List.map_append, List.sum_append, List.map_singleton, List.sum_singleton]
theorem sizes_le (l : List ByteArray) (k b : Nat) (h : ∀ s ∈ l, s.size ≤ b) : sizes (l.take k) ≤ k * b := by
  induction k generalizing l with
  | zero => simp [sizes]
  | succ k ih =>
    cases l with
    | nil => simp [sizes]
    | cons x l =>
      have h1 := ih l fun s hs => h s (List.mem_cons_of_mem _ hs)
      have h2 := h x (List.mem_cons_self ..)
      unfold sizes at *
      rw [List.take_succ_cons, List.map_cons, List.sum_cons, Nat.succ_mul]; omega
theorem sizes_mem (l : List ByteArray) (s : ByteArray) (h : s ∈ l) : s.size ≤ sizes l := by
  induction l with
  | nil => cases h
  | cons x l ih =>
    unfold sizes at *
    rw [List.map_cons, List.sum_cons]
    rcases List.mem_cons.1 h with rfl | h
    · omega
    · have := ih h; omega
theorem puts_len (l : List ByteArray) (h : ∀ s ∈ l, s.size ≤ 2000) : (puts l).length ≤ sizes l + 10 * l.length := by
  induction l with
  | nil => simp [puts]
  | cons x l ih =>
    have h1 := ih fun s hs => h s (List.mem_cons_of_mem _ hs)
    have h2 := h x (List.mem_cons_self ..)
    have h3 := Vary.put_len x.size (by omega)
    have e : x.data.toList.length = x.size := Array.length_toList
    have h4 : (Span.put x.data.toList).length = (Vary.put x.size).length + x.size := by unfold Span.put; rw [List.length_append, e]
    unfold puts sizes at *
    rw [List.flatMap_cons, List.length_append, List.map_cons, List.sum_cons, List.length_cons]
    omega
set_option maxHeartbeats 4000000 in
set_option maxRecDepth 20000 in
theorem SpanBack_walk (v0 : Value) (l : List ByteArray) (a1 : ByteArray) (w : World) (L0 : StrsIs w v0 l) (q0 : ∀ x ∈ l, x.size ≤ 140737488351232) (z0 : l.length ≤ 140737488351232) (w1 : a1.size ≤ 140737488351232) (hL : Laid w) :
    Calls Tryd.prog 3 #[v0, .string a1] w fun e w' => e = .returned (.bool true) ∧ Below w.heap.size w w' := by
  have hsp := fun W hW => spanned' W hW
  have hL0 := Lib.hid L0
  obtain ⟨o, c, rfl, hcap, hcell⟩ := L0.at strCells_len
  clear hcap
  replace hcell := Lib.hid hcell
  replace hsp := Lib.hid hsp
  by_cases h30 : 30 < l.length
  · replace q0 := Lib.hid q0
    go_enter Tryd.func3, Tryd.ntmps3
    go_wp2_with fail
    refine (hsp.out _ hL).mono ?_
    rintro e w2 ⟨rfl, hb0⟩
    go_wp2
    go_loopw [5, 22] (fun s i wr => ∃ (k : Nat) (x : Int), k ≤ l.length ∧ i = .int .i64 k ∧ s = .int .i64 x ∧ Below w.heap.size w wr) (fun _ i _ => l.length - (intOf i).toNat)
    case atStart => exact ⟨0, _, by omega, rfl, rfl, by (repeat (first | exact Below.refl _ _ | assumption | refine bal ?_ _ | refine bdr ?_ | refine bdn ?_ _ | refine bst ?_ (by first | assumption | exact Nat.le_refl _ | omega) _ | refine bch ?_ (by assumption)))⟩
    case round =>
      obtain ⟨k, x, hk, rfl, rfl, hbel⟩ := hrel
      by_cases hlt : k < l.length
      · obtain ⟨b1, f1, rfl, hb1, hc1⟩ := hcell.out k hlt
        have hb1 := hb1 (by omega)
        have c0 : wr.cell? ⟨b1, f1 + k, none⟩ = some (.string l[k]) := (hbel.cell (p := ⟨b1, f1 + k, none⟩) hb1).trans (by have := hc1 0 _ rfl; simpa using this)
        clear hc1
        generalize l[k] = y at *
        go_wp2
        go_roundw
        case rel => exact ⟨k + 1, _, by omega, by go_num, rfl, by (repeat (first | exact Below.refl _ _ | assumption | refine bal ?_ _ | refine bdr ?_ | refine bdn ?_ _ | refine bst ?_ (by first | assumption | exact Nat.le_refl _ | omega) _ | refine bch ?_ (by assumption)))⟩
        case measure => simp [intOf]; omega
      · have hd : decide ((30 : Int) < (l.length : Int)) = true := by simp; omega
        go_wp2
        go_ret
        exact ⟨rfl, hbel⟩
  · have hq : ∀ k, k ≤ l.length → sizes (l.take k) ≤ 30 * 140737488351232 := fun k hk => Nat.le_trans (sizes_le l k _ q0) (Nat.mul_le_mul (by omega) (Nat.le_refl _))
    have hst := fun k (h : k < l.length) => sizes_take l k h
    have hd30 : decide ((30 : Int) < (l.length : Int)) = false := by simp; omega
    replace hq := Lib.hid hq
    replace hst := Lib.hid hst
    go_enter Tryd.func3, Tryd.ntmps3
    go_wp2_with fail
    refine (hsp.out _ hL).mono ?_
    rintro e w2 ⟨rfl, hb0⟩
    go_wp2
    go_loopw [5, 22] (fun s i wr => ∃ k : Nat, k ≤ l.length ∧ i = .int .i64 k ∧ s = .int .i64 (a1.size + sizes (l.take k) : Nat) ∧ Below w.heap.size w wr) (fun _ i _ => l.length - (intOf i).toNat)
    case atStart => exact ⟨0, by omega, rfl, by simp [sizes], by (repeat (first | exact Below.refl _ _ | assumption | refine bal ?_ _ | refine bdr ?_ | refine bdn ?_ _ | refine bst ?_ (by first | assumption | exact Nat.le_refl _ | omega) _ | refine bch ?_ (by assumption)))⟩
    case round =>
      obtain ⟨k, hk, rfl, rfl, hbel⟩ := hrel
      by_cases hlt : k < l.length
      · obtain ⟨b1, f1, rfl, hb1, hc1⟩ := hcell.out k hlt
        have hb1 := hb1 (by omega)
        have c0 : wr.cell? ⟨b1, f1 + k, none⟩ = some (.string l[k]) := (hbel.cell (p := ⟨b1, f1 + k, none⟩) hb1).trans (by have := hc1 0 _ rfl; simpa using this)
        clear hc1
        have h1 := hst.out k hlt
        have h2 := hq.out (k + 1) (by omega)
        generalize hx : sizes (l.take k) = x at *
        generalize hy : sizes (l.take (k + 1)) = x2 at *
        generalize l[k] = y at *
        replace hx := Lib.hid hx
        replace hy := Lib.hid hy
        go_wp2
        go_roundw
        case rel => exact ⟨k + 1, by omega, by go_num, by rw [hy.out]; go_num, by (repeat (first | exact Below.refl _ _ | assumption | refine bal ?_ _ | refine bdr ?_ | refine bdn ?_ _ | refine bst ?_ (by first | assumption | exact Nat.le_refl _ | omega) _ | refine bch ?_ (by assumption)))⟩
        case measure => simp [intOf]; omega
      · obtain rfl : k = l.length := by omega
        rw [List.take_length] at *
        by_cases h15 : 1500 < a1.size + sizes l
        · have hd15 : decide ((1500 : Int) < ((a1.size + sizes l : Nat) : Int)) = true := by simp; omega
          generalize a1.size + sizes l = x at *
          go_wp2
          go_ret
          exact ⟨rfl, hbel⟩
        · have hd15 : decide ((1500 : Int) < ((a1.size + sizes l : Nat) : Int)) = false := by simp; omega
          have hmem : ∀ t ∈ l, t.size ≤ 1500 := fun t ht => by have := sizes_mem l t ht; omega
          have hpl := puts_len l (fun t ht => by have := hmem t ht; omega)
          have hpk : ∀ k, k < l.length → (puts (l.take (k + 1))).length ≤ (puts l).length := fun k hk => by
            have := congrArg List.length (puts_split l k hk)
            rw [puts_take l k hk]
            simp only [List.length_append] at this ⊢
            omega
          have ha1 : a1.size ≤ 1500 := by omega
          have hpl2 : (puts l).length ≤ 2000 := by omega
          have hbz := ba_size (puts l)
          have hfin := span_all l a1.data.toList (⟨(puts l).toArray⟩ ++ a1) (by rw [ba_app]) (fun t ht => by have := hmem t ht; omega) (by
            have e : (⟨(puts l).toArray⟩ ++ a1 : ByteArray).size = (puts l).length + a1.size := by rw [ByteArray.size_append, hbz]
            rw [e]; omega) (by omega)
          replace hfin := Lib.hid hfin
          replace hmem := Lib.hid hmem
          replace hpk := Lib.hid hpk
          clear hpl
          generalize a1.size + sizes l = x at *
          have hz := ba_size (puts l)
          go_wp2
          go_loopw [8, 40] (fun s i wr => ∃ k : Nat, k ≤ l.length ∧ i = .int .i64 k ∧ s = .string ⟨(puts (l.take k)).toArray⟩ ∧ Below w.heap.size w wr) (fun _ i _ => l.length - (intOf i).toNat)
          case atStart => exact ⟨0, by omega, rfl, rfl, by (repeat (first | exact Below.refl _ _ | assumption | refine bal ?_ _ | refine bdr ?_ | refine bdn ?_ _ | refine bst ?_ (by first | assumption | exact Nat.le_refl _ | omega) _ | refine bch ?_ (by assumption)))⟩
          case round =>
            rename_i wr'
            obtain ⟨k, hk, rfl, rfl, hbel⟩ := hrel
            by_cases hlt : k < l.length
            · obtain ⟨b1, f1, rfl, hb1, hc1⟩ := hcell.out k hlt
              have hb1 := hb1 (by omega)
              have c0 := (hbel.cell (p := ⟨b1, f1 + k, none⟩) hb1).trans (show w.cell? ⟨b1, f1 + k, none⟩ = some (.string l[k]) by have := hc1 0 _ rfl; simpa using this)
              clear hc1
              have hput := fun W => span_put l[k] W (by have := hmem.out _ (List.getElem_mem hlt); omega)
              have htk := puts_take l k hlt
              have hle := hpk.out k hlt
              rw [htk, List.length_append] at hle
              have hz1 : (ByteArray.mk (puts (l.take k)).toArray).size = (puts (l.take k)).length := ba_size _
              have hz2 : (ByteArray.mk (Span.put l[k].data.toList).toArray).size = (Span.put l[k].data.toList).length := ba_size _
              have hap : (⟨(puts (l.take k)).toArray⟩ ++ ⟨(Span.put l[k].data.toList).toArray⟩ : ByteArray) = ⟨(puts (l.take (k + 1))).toArray⟩ := ba_ext (by rw [ba_app, htk])
              replace hput := Lib.hid hput
              replace hap := Lib.hid hap
              replace htk := Lib.hid htk
              generalize Span.put l[k].data.toList = P at *
              generalize l[k] = y at *
              generalize puts (l.take k) = Q at *
              generalize hR : puts (l.take (k + 1)) = R at *
              replace hR := Lib.hid hR
              go_wp2_with fail
              refine (hput.out _).mono ?_
              rintro e w3 ⟨rfl, hb3⟩
              go_wp2
              go_roundw
              case rel => exact ⟨k + 1, by omega, by go_num, by rw [hR.out, ← hap.out], by (repeat (first | exact Below.refl _ _ | assumption | refine bal ?_ _ | refine bdr ?_ | refine bdn ?_ _ | refine bst ?_ (by first | assumption | exact Nat.le_refl _ | omega) _ | refine bch ?_ (by assumption)))⟩
              case measure => simp [intOf]; omega
            · obtain rfl : k = l.length := by omega
              rw [List.take_length] at *
              generalize hP : puts l = P at *
              replace hP := Lib.hid hP
              have hq1 : ((P.length : Int) == (P.length : Int)) = true := by simp
              go_wp2_with fail
              refine (hfin.out _ (hL.below hbel)).mono ?_
              rintro e w3 ⟨⟨v, rfl, hv⟩, hb3⟩
              have hll : l.length ≤ 140737488351232 := z0
              have heq := fun W (hW : Below w.heap.size w W ∧ StrsIs W v l) => eq_strs (.slice o l.length c) v l l W (hL0.out.below (by omega) hW.1) hW.2 hll hll
              rw [decide_eq_true rfl] at heq
              have h4 := heq w3 ⟨bch hbel hb3, hv⟩
              replace h4 := Lib.hid h4
              clear heq
              go_wp2_with fail
              refine h4.out.mono ?_
              rintro e w4 ⟨rfl, hb4⟩
              go_wp2
              go_ret
              exact ⟨rfl, by (repeat (first | exact Below.refl _ _ | assumption | refine bal ?_ _ | refine bdr ?_ | refine bdn ?_ _ | refine bst ?_ (by first | assumption | exact Nat.le_refl _ | omega) _ | refine bch ?_ (by assumption)))⟩
end Go.Proofs.YtajpoggkmjedpaaDoor
