/- Walks of the laws over span, and of VaryMost. -/
import Derived.Test.YtnfdcdnoipbjkaaDoorWSpan
import Derived.Test.YtnfdcdnoipbjkaaDoorLawsVary
namespace Go.Proofs.YtnfdcdnoipbjkaaDoor
open Go.RowKit
set_option linter.unusedVariables false
theorem int_put (n : Nat) (m : Int) (h : n < 18446744073709551616) (h0 : ¬ (m < 0 ∨ m < (n : Int))) : Vary.int (Vary.put n) m = .ok n (Vary.put n).length := by
  have := Vary.get_put n [] h
  rw [List.append_nil] at this
  exact Vary.int_ok this h0
theorem int_put_range (n : Nat) (m : Int) (h : n < 18446744073709551616) (h0 : m < 0 ∨ m < (n : Int)) : Vary.int (Vary.put n) m = .bad 2 := by
  have := Vary.get_put n [] h
  rw [List.append_nil] at this
  exact Vary.int_range this h0
set_option maxHeartbeats 1000000 in
set_option maxRecDepth 20000 in
theorem VaryMost_walk (a0 a1 : Int) (w : World) (w0 : (Lit.int .u64 a0).wf = true) (w1 : (Lit.int .i64 a1).wf = true) (hL : Laid w) :
    Calls Tryd.prog 9 #[.int .u64 a0, .int .i64 a1] w fun e w' => e = .returned (.bool true) ∧ Below w.heap.size w w' := by
  obtain ⟨n, rfl, hn⟩ := nat_u64 w0
  obtain ⟨hm1, hm2⟩ := int_i64 w1
  clear w0 w1
  have hlen := Vary.put_len n hn
  have hsz : Hid ((ByteArray.mk (Vary.put n).toArray).size ≤ maxLen) := Lib.hid (size_mk_le _ (by omega))
  by_cases h0 : a1 < 0
  · have hr := int_put_range n a1 hn (Or.inl h0)
    have hv : intVal (.bad 2) = .tuple #[.int .i64 0, .int .i64 0, .iface 34 (.int .i64 2)] := rfl
    replace hn := Lib.hid hn
    replace hm1 := Lib.hid hm1
    replace hm2 := Lib.hid hm2
    go_enter Tryd.func9, Tryd.ntmps9
    go_wp2_with (first
      | (go_at_call 14; go_must (refine (counted _ hL).mono ?_); rintro e w' ⟨rfl, hb⟩)
      | (go_at_call 15; go_must (refine (vary_put n _ hn.out).mono ?_); rintro e w' ⟨rfl, hb⟩)
      | (go_at_call 21; go_must (refine (vary_int _ _ _ hsz.out hm2.out).mono ?_); rintro e w' ⟨rfl, rfl⟩)
      | (go_at_call 18; go_must (refine (tell_errno _ _ (by exact hL.below (by (repeat (first | exact Below.refl _ _ | assumption | refine bal ?_ _ | refine bdr ?_ | refine bdn ?_ _ | refine bst ?_ (by first | assumption | exact Nat.le_refl _ | omega) _ | refine bch ?_ (by assumption)))))).mono ?_); rintro e w' ⟨rfl, hb⟩))
    go_ret
    exact ⟨rfl, by (repeat (first | exact Below.refl _ _ | assumption | refine bal ?_ _ | refine bdr ?_ | refine bdn ?_ _ | refine bst ?_ (by first | assumption | exact Nat.le_refl _ | omega) _ | refine bch ?_ (by assumption)))⟩
  · have hw := u64_of_nonneg (by omega : 0 ≤ a1) hm2
    by_cases h1 : a1 < (n : Int)
    · have hr := int_put_range n a1 hn (Or.inr h1)
      have hv : intVal (.bad 2) = .tuple #[.int .i64 0, .int .i64 0, .iface 34 (.int .i64 2)] := rfl
      replace hn := Lib.hid hn
      replace hm1 := Lib.hid hm1
      replace hm2 := Lib.hid hm2
      go_enter Tryd.func9, Tryd.ntmps9
      go_wp2_with (first
        | (go_at_call 14; go_must (refine (counted _ hL).mono ?_); rintro e w' ⟨rfl, hb⟩)
        | (go_at_call 15; go_must (refine (vary_put n _ hn.out).mono ?_); rintro e w' ⟨rfl, hb⟩)
        | (go_at_call 21; go_must (refine (vary_int _ _ _ hsz.out hm2.out).mono ?_); rintro e w' ⟨rfl, rfl⟩)
        | (go_at_call 18; go_must (refine (tell_errno _ _ (by exact hL.below (by (repeat (first | exact Below.refl _ _ | assumption | refine bal ?_ _ | refine bdr ?_ | refine bdn ?_ _ | refine bst ?_ (by first | assumption | exact Nat.le_refl _ | omega) _ | refine bch ?_ (by assumption)))))).mono ?_); rintro e w' ⟨rfl, hb⟩))
      go_ret
      exact ⟨rfl, by (repeat (first | exact Below.refl _ _ | assumption | refine bal ?_ _ | refine bdr ?_ | refine bdn ?_ _ | refine bst ?_ (by first | assumption | exact Nat.le_refl _ | omega) _ | refine bch ?_ (by assumption)))⟩
    · have hr := int_put n a1 hn (by omega)
      have hv : intVal (.ok n (Vary.put n).length) = .tuple #[.int .i64 n, .int .i64 (Vary.put n).length, .nilIface] := rfl
      have hwn : IntKind.u64.wrap (n : Int) = n := u64_of_nonneg (by omega) (by omega)
      replace hn := Lib.hid hn
      replace hm1 := Lib.hid hm1
      replace hm2 := Lib.hid hm2
      go_enter Tryd.func9, Tryd.ntmps9
      go_wp2_with (first
        | (go_at_call 14; go_must (refine (counted _ hL).mono ?_); rintro e w' ⟨rfl, hb⟩)
        | (go_at_call 15; go_must (refine (vary_put n _ hn.out).mono ?_); rintro e w' ⟨rfl, hb⟩)
        | (go_at_call 21; go_must (refine (vary_int _ _ _ hsz.out hm2.out).mono ?_); rintro e w' ⟨rfl, rfl⟩))
      go_ret
      exact ⟨ret_bool (by simp), by (repeat (first | exact Below.refl _ _ | assumption | refine bal ?_ _ | refine bdr ?_ | refine bdn ?_ _ | refine bst ?_ (by first | assumption | exact Nat.le_refl _ | omega) _ | refine bch ?_ (by assumption)))⟩
theorem put_two : Vary.put 2 = [2] := by rw [Vary.put_small (by omega)]; rfl
theorem span1 : Span.put [97, 98] = [2, 97, 98] := by
  show Vary.put 2 ++ [97, 98] = _
  rw [put_two]; rfl
theorem span2 : Span.get [2, 97, 98, 99] = .ok [97, 98] 3 := by rfl
set_option maxHeartbeats 1000000 in
set_option maxRecDepth 20000 in
theorem spanned (w : World) (hL : Laid w) :
    Calls Tryd.prog 22 #[] w fun e w' => e = .returned (.bool true) ∧ Below w.heap.size w w' := by
  have h1 := span1
  have h2 := span2
  have hv : spanVal (.ok [97, 98] 3) = .tuple #[.string ⟨#[97, 98]⟩, .int .i64 3, .nilIface] := rfl
  go_enter Tryd.func22, Tryd.ntmps22
  go_wp2_with (first
    | (go_at_call 24; go_must (refine (span_put _ _ (by decide)).mono ?_); rintro e w' ⟨rfl, hb⟩)
    | (go_at_call 23; go_must (refine (span_get _ _ (size_small _ (by decide)) (by exact hL.below (by (repeat (first | exact Below.refl _ _ | assumption | refine bal ?_ _ | refine bdr ?_ | refine bdn ?_ _ | refine bst ?_ (by first | assumption | exact Nat.le_refl _ | omega) _ | refine bch ?_ (by assumption)))))).mono ?_); rintro e w' ⟨rfl, hb⟩))
  go_ret
  exact ⟨rfl, by (repeat (first | exact Below.refl _ _ | assumption | refine bal ?_ _ | refine bdr ?_ | refine bdn ?_ _ | refine bst ?_ (by first | assumption | exact Nat.le_refl _ | omega) _ | refine bch ?_ (by assumption)))⟩
set_option maxHeartbeats 1000000 in
set_option maxRecDepth 20000 in
theorem SpanOnly_walk (a0 : ByteArray) (w : World) (w0 : a0.size ≤ 140737488351232) (hL : Laid w) :
    Calls Tryd.prog 10 #[.string a0] w fun e w' => e = .returned (.bool true) ∧ Below w.heap.size w w' := by
  by_cases h : 1500 < a0.size
  · go_enter Tryd.func10, Tryd.ntmps10
    go_wp2_with (go_at_call 22; go_must (refine (spanned _ hL).mono ?_); rintro e w' ⟨rfl, hb⟩)
    go_ret
    exact ⟨rfl, by (repeat (first | exact Below.refl _ _ | assumption | refine bal ?_ _ | refine bdr ?_ | refine bdn ?_ _ | refine bst ?_ (by first | assumption | exact Nat.le_refl _ | omega) _ | refine bch ?_ (by assumption)))⟩
  · cases hg : Span.get a0.data.toList with
    | bad x =>
      have hv : spanVal (.bad x) = .tuple #[.string ⟨#[]⟩, .int .i64 0, .iface 34 (.int .i64 x)] := rfl
      go_enter Tryd.func10, Tryd.ntmps10
      go_wp2_with (first
        | (go_at_call 22; go_must (refine (spanned _ hL).mono ?_); rintro e w' ⟨rfl, hb⟩)
        | (go_at_call 23; go_must (refine (span_get _ _ (size_reach _ w0) (by exact hL.below (by (repeat (first | exact Below.refl _ _ | assumption | refine bal ?_ _ | refine bdr ?_ | refine bdn ?_ _ | refine bst ?_ (by first | assumption | exact Nat.le_refl _ | omega) _ | refine bch ?_ (by assumption)))))).mono ?_); rintro e w' ⟨rfl, hb⟩))
      go_ret
      exact ⟨rfl, by (repeat (first | exact Below.refl _ _ | assumption | refine bal ?_ _ | refine bdr ?_ | refine bdn ?_ _ | refine bst ?_ (by first | assumption | exact Nat.le_refl _ | omega) _ | refine bch ?_ (by assumption)))⟩
    | ok t k =>
      have hv : spanVal (.ok t k) = .tuple #[.string ⟨t.toArray⟩, .int .i64 k, .nilIface] := rfl
      obtain ⟨h1, h2, h3, h4, h5⟩ := Span.get_ok hg
      have h3' : k ≤ a0.size := by rw [Array.length_toList] at h3; exact h3
      have he : (Span.put t == (a0.extract 0 k).toList) = true := by rw [h4, ByteArray.toList_eq]; simp
      have hb1 : decide (1 ≤ (k : Int)) = true := by simp; omega
      have hb2 : decide ((k : Int) ≤ (a0.size : Int)) = true := by simp; omega
      have htz : Hid ((ByteArray.mk t.toArray).size ≤ 2000) := Lib.hid (by rw [ba_size]; exact h1)
      clear h3 h4 h5
      go_enter Tryd.func10, Tryd.ntmps10
      go_wp2_with (first
        | (go_at_call 22; go_must (refine (spanned _ hL).mono ?_); rintro e w' ⟨rfl, hb⟩)
        | (go_at_call 23; go_must (refine (span_get _ _ (size_reach _ w0) (by exact hL.below (by (repeat (first | exact Below.refl _ _ | assumption | refine bal ?_ _ | refine bdr ?_ | refine bdn ?_ _ | refine bst ?_ (by first | assumption | exact Nat.le_refl _ | omega) _ | refine bch ?_ (by assumption)))))).mono ?_); rintro e w' ⟨rfl, hb⟩)
        | (go_at_call 24; go_must (refine (span_put _ _ htz.out).mono ?_); rintro e w' ⟨rfl, hb⟩))
      go_ret
      exact ⟨rfl, by (repeat (first | exact Below.refl _ _ | assumption | refine bal ?_ _ | refine bdr ?_ | refine bdn ?_ _ | refine bst ?_ (by first | assumption | exact Nat.le_refl _ | omega) _ | refine bch ?_ (by assumption)))⟩
theorem span_len (s : ByteArray) (h : s.size ≤ 2000) : (Span.put s.data.toList).length = (Vary.put s.size).length + s.size ∧ (Span.put s.data.toList).length ≤ 2010 ∧ 1 ≤ (Span.put s.data.toList).length := by
  have h1 := Vary.put_len s.size (by omega)
  have h2 := Vary.put_pos s.size
  have e : s.data.toList.length = s.size := Array.length_toList
  unfold Span.put
  rw [List.length_append, e]
  omega
set_option maxHeartbeats 1000000 in
set_option maxRecDepth 20000 in
theorem SpanCut_walk (a0 : ByteArray) (a1 : Int) (w : World) (w0 : a0.size ≤ 140737488351232) (w1 : (Lit.int .i64 a1).wf = true) (hL : Laid w) :
    Calls Tryd.prog 11 #[.string a0, .int .i64 a1] w fun e w' => e = .returned (.bool true) ∧ Below w.heap.size w w' := by
  clear w1
  by_cases h : 500 < a0.size
  · go_enter Tryd.func11, Tryd.ntmps11
    go_wp2_with (go_at_call 22; go_must (refine (spanned _ hL).mono ?_); rintro e w' ⟨rfl, hb⟩)
    go_ret
    exact ⟨rfl, by (repeat (first | exact Below.refl _ _ | assumption | refine bal ?_ _ | refine bdr ?_ | refine bdn ?_ _ | refine bst ?_ (by first | assumption | exact Nat.le_refl _ | omega) _ | refine bch ?_ (by assumption)))⟩
  · obtain ⟨hl1, hl2, hl3⟩ := span_len a0 (by omega)
    have hp := pickN_lt a1 (Span.put a0.data.toList).length (by omega)
    have hg := Span.get_cut a0.data.toList (pickN a1 (Span.put a0.data.toList).length) (by rw [Array.length_toList]; show a0.size ≤ 2000; omega) hp
    have hne : (Span.put a0.data.toList).isEmpty = false := by rw [List.isEmpty_eq_false_iff]; intro e; rw [e] at hl3; simp at hl3
    have hv : spanVal (.bad 7) = .tuple #[.string ⟨#[]⟩, .int .i64 0, .iface 34 (.int .i64 7)] := rfl
    replace hl1 := Lib.hid hl1
    go_enter Tryd.func11, Tryd.ntmps11
    go_wp2_with (first
      | (go_at_call 22; go_must (refine (spanned _ hL).mono ?_); rintro e w' ⟨rfl, hb⟩)
      | (go_at_call 24; go_must (refine (span_put _ _ (by omega)).mono ?_); rintro e w' ⟨rfl, hb⟩)
      | (go_at_call 17; go_must (refine (keep_pick _ _ (Span.put a0.data.toList).length _ rfl (by omega) (by omega)).mono ?_); rintro e w' ⟨rfl, rfl⟩)
      | (go_at_call 23; go_must (refine (span_get _ _ (size_small _ (by simp [ByteArray.size]; omega)) (by exact hL.below (by (repeat (first | exact Below.refl _ _ | assumption | refine bal ?_ _ | refine bdr ?_ | refine bdn ?_ _ | refine bst ?_ (by first | assumption | exact Nat.le_refl _ | omega) _ | refine bch ?_ (by assumption)))))).mono ?_); rintro e w' ⟨rfl, hb⟩)
      | (go_at_call 18; go_must (refine (tell_errno _ _ (by exact hL.below (by (repeat (first | exact Below.refl _ _ | assumption | refine bal ?_ _ | refine bdr ?_ | refine bdn ?_ _ | refine bst ?_ (by first | assumption | exact Nat.le_refl _ | omega) _ | refine bch ?_ (by assumption)))))).mono ?_); rintro e w' ⟨rfl, hb⟩))
    go_ret
    exact ⟨rfl, by (repeat (first | exact Below.refl _ _ | assumption | refine bal ?_ _ | refine bdr ?_ | refine bdn ?_ _ | refine bst ?_ (by first | assumption | exact Nat.le_refl _ | omega) _ | refine bch ?_ (by assumption)))⟩
theorem span_suf (s : ByteArray) (b : Nat) (hb : (Vary.put s.size).length + s.size ≤ b) : ((ByteArray.mk (Span.put s.data.toList).toArray).extract (Vary.put s.size).length b).toList = s.toList := by
  have e : s.data.toList.length = s.size := Array.length_toList
  rw [ByteArray.toList_eq, ByteArray.toList_eq]
  unfold Span.put
  rw [e, ByteArray.data_extract, Array.toList_extract]
  show List.extract (Vary.put s.size ++ s.data.toList) _ _ = _
  rw [List.extract_eq_take_drop, List.drop_left, List.take_of_length_le (by omega)]
set_option maxHeartbeats 1000000 in
set_option maxRecDepth 20000 in
theorem SpanLong_walk (a0 : ByteArray) (w : World) (w0 : a0.size ≤ 140737488351232) (hL : Laid w) :
    Calls Tryd.prog 12 #[.string a0] w fun e w' => e = .returned (.bool true) ∧ Below w.heap.size w w' := by
  by_cases h : 2100 < a0.size
  · go_enter Tryd.func12, Tryd.ntmps12
    go_wp2_with (first
      | (go_at_call 22; go_must (refine (spanned _ hL).mono ?_); rintro e w' ⟨rfl, hb⟩)
      | (go_at_call 14; go_must (refine (counted _ (by exact hL.below (by (repeat (first | exact Below.refl _ _ | assumption | refine bal ?_ _ | refine bdr ?_ | refine bdn ?_ _ | refine bst ?_ (by first | assumption | exact Nat.le_refl _ | omega) _ | refine bch ?_ (by assumption)))))).mono ?_); rintro e w' ⟨rfl, hb⟩))
    go_ret
    exact ⟨rfl, by (repeat (first | exact Below.refl _ _ | assumption | refine bal ?_ _ | refine bdr ?_ | refine bdn ?_ _ | refine bst ?_ (by first | assumption | exact Nat.le_refl _ | omega) _ | refine bch ?_ (by assumption)))⟩
  · by_cases h2 : 2000 < a0.size
    · go_enter Tryd.func12, Tryd.ntmps12
      go_wp2_with (first
        | (go_at_call 22; go_must (refine (spanned _ hL).mono ?_); rintro e w' ⟨rfl, hb⟩)
        | (go_at_call 14; go_must (refine (counted _ (by exact hL.below (by (repeat (first | exact Below.refl _ _ | assumption | refine bal ?_ _ | refine bdr ?_ | refine bdn ?_ _ | refine bst ?_ (by first | assumption | exact Nat.le_refl _ | omega) _ | refine bch ?_ (by assumption)))))).mono ?_); rintro e w' ⟨rfl, hb⟩)
        | (go_at_call 24; go_must (refine (span_put_long _ _ (by omega)).mono ?_); rintro e w' ⟨rfl, rfl⟩)
        | (go_at_call 18; go_must (refine (tell_errno _ _ (by exact hL.below (by (repeat (first | exact Below.refl _ _ | assumption | refine bal ?_ _ | refine bdr ?_ | refine bdn ?_ _ | refine bst ?_ (by first | assumption | exact Nat.le_refl _ | omega) _ | refine bch ?_ (by assumption)))))).mono ?_); rintro e w' ⟨rfl, hb⟩))
      go_ret
      exact ⟨rfl, by (repeat (first | exact Below.refl _ _ | assumption | refine bal ?_ _ | refine bdr ?_ | refine bdn ?_ _ | refine bst ?_ (by first | assumption | exact Nat.le_refl _ | omega) _ | refine bch ?_ (by assumption)))⟩
    · obtain ⟨hl1, hl2, hl3⟩ := span_len a0 (by omega)
      have hvl := Vary.put_len a0.size (by omega)
      go_enter Tryd.func12, Tryd.ntmps12
      go_wp2_with (first
        | (go_at_call 22; go_must (refine (spanned _ hL).mono ?_); rintro e w' ⟨rfl, hb⟩)
        | (go_at_call 14; go_must (refine (counted _ (by exact hL.below (by (repeat (first | exact Below.refl _ _ | assumption | refine bal ?_ _ | refine bdr ?_ | refine bdn ?_ _ | refine bst ?_ (by first | assumption | exact Nat.le_refl _ | omega) _ | refine bch ?_ (by assumption)))))).mono ?_); rintro e w' ⟨rfl, hb⟩)
        | (go_at_call 24; go_must (refine (span_put _ _ (by omega)).mono ?_); rintro e w' ⟨rfl, hb⟩)
        | (go_at_call 15; go_must (refine (vary_put a0.size _ (by omega)).mono ?_); rintro e w' ⟨rfl, hb⟩)
        | go_in)
      go_ret
      refine ⟨ret_bool ?_, by (repeat (first | exact Below.refl _ _ | assumption | refine bal ?_ _ | refine bdr ?_ | refine bdn ?_ _ | refine bst ?_ (by first | assumption | exact Nat.le_refl _ | omega) _ | refine bch ?_ (by assumption)))⟩
      rw [beq_iff_eq]
      exact span_suf a0 _ (by omega)
end Go.Proofs.YtnfdcdnoipbjkaaDoor
