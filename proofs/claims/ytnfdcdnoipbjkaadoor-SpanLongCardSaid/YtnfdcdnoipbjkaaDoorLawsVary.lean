/- Walks of the laws over vary. -/
import Derived.Test.YtnfdcdnoipbjkaaDoorWVary
import Derived.Test.YtnfdcdnoipbjkaaDoorWTell2
import Derived.Test.YtnfdcdnoipbjkaaDoorWPick
import Derived.Deep.RegionHeld3
namespace Go.Proofs.YtnfdcdnoipbjkaaDoor
open Go.RowKit
set_option linter.unusedVariables false
theorem count1 : Vary.get [172, 2, 120] = .ok 300 2 := by decide
theorem count2 : Vary.get [128, 0] = .bad 3 := by decide
theorem count3 : Vary.put 300 = [172, 2] := by
  rw [Vary.put_big (by omega), Vary.put_small (by omega)]; rfl
set_option maxHeartbeats 1000000 in
set_option maxRecDepth 20000 in
theorem counted (w : World) (hL : Laid w) :
    Calls Tryd.prog 14 #[] w fun e w' => e = .returned (.bool true) ∧ Below w.heap.size w w' := by
  have h1 := count1
  have h2 := count2
  have h3 := count3
  have g1 : gotVal (.ok 300 2) = .tuple #[.int .u64 300, .int .i64 2, .nilIface] := rfl
  have g2 : gotVal (.bad 3) = .tuple #[.int .u64 0, .int .i64 0, .iface 34 (.int .i64 3)] := rfl
  have z1 : Vary.zig (-3) = 5 := by decide
  have z2 : Vary.zag 6 = 3 := by decide
  go_enter Tryd.func14, Tryd.ntmps14
  go_wp2_with (first
    | (go_at_call 16; go_must (refine (vary_get _ _ (by decide)).mono ?_); rintro e w' ⟨rfl, rfl⟩)
    | (go_at_call 18; go_must (refine (tell_errno _ _ hL).mono ?_); rintro e w' ⟨rfl, hb⟩)
    | (go_at_call 15; go_must (refine (vary_put 300 _ (by omega)).mono ?_); rintro e w' ⟨rfl, hb⟩)
    | (go_at_call 19; go_must (refine (vary_zig (-3) _ (by omega) (by omega)).mono ?_); rintro e w' ⟨rfl, rfl⟩)
    | (go_at_call 20; go_must (refine (vary_zag 6 _ (by omega)).mono ?_); rintro e w' ⟨rfl, rfl⟩))
  go_ret
  exact ⟨rfl, by (repeat (first | exact Below.refl _ _ | assumption | refine bal ?_ _ | refine bdr ?_ | refine bdn ?_ _ | refine bst ?_ (by first | assumption | exact Nat.le_refl _ | omega) _ | refine bch ?_ (by assumption)))⟩
set_option maxHeartbeats 1000000 in
set_option maxRecDepth 20000 in
theorem VaryBack_walk (a0 : Int) (a1 : ByteArray) (w : World) (w0 : (Lit.int .u64 a0).wf = true) (w1 : a1.size ≤ 140737488351232) (hL : Laid w) :
    Calls Tryd.prog 3 #[.int .u64 a0, .string a1] w fun e w' => e = .returned (.bool true) ∧ Below w.heap.size w w' := by
  obtain ⟨n, rfl, hn⟩ := nat_u64 w0
  clear w0
  have hlen := Vary.put_len n hn
  have hpos := Vary.put_pos n
  have hg := Vary.get_put n a1.data.toList hn
  replace hn := Lib.hid hn
  have hv : gotVal (.ok n (Vary.put n).length) = .tuple #[.int .u64 n, .int .i64 (Vary.put n).length, .nilIface] := rfl
  by_cases h : 50 < a1.size
  · go_enter Tryd.func3, Tryd.ntmps3
    go_wp2_with (go_at_call 14; go_must (refine (counted _ hL).mono ?_); rintro e w' ⟨rfl, hb⟩)
    go_ret
    exact ⟨rfl, by (repeat (first | exact Below.refl _ _ | assumption | refine bal ?_ _ | refine bdr ?_ | refine bdn ?_ _ | refine bst ?_ (by first | assumption | exact Nat.le_refl _ | omega) _ | refine bch ?_ (by assumption)))⟩
  · have hsz : Hid ((ByteArray.mk (Vary.put n).toArray ++ a1).size ≤ maxLen) := Lib.hid (size_small _ (by
      rw [ByteArray.size_append, ba_size]; omega))
    have hdt : (ByteArray.mk (Vary.put n).toArray ++ a1).data.toList = Vary.put n ++ a1.data.toList := by rw [ba_app]
    go_enter Tryd.func3, Tryd.ntmps3
    go_wp2_with (first
      | (go_at_call 14; go_must (refine (counted _ hL).mono ?_); rintro e w' ⟨rfl, hb⟩)
      | (go_at_call 15; go_must (refine (vary_put n _ hn.out).mono ?_); rintro e w' ⟨rfl, hb⟩)
      | (go_at_call 16; go_must (refine (vary_get _ _ hsz.out).mono ?_); rintro e w' ⟨rfl, rfl⟩))
    go_ret
    exact ⟨ret_bool (by simp; omega), by (repeat (first | exact Below.refl _ _ | assumption | refine bal ?_ _ | refine bdr ?_ | refine bdn ?_ _ | refine bst ?_ (by first | assumption | exact Nat.le_refl _ | omega) _ | refine bch ?_ (by assumption)))⟩
set_option maxHeartbeats 1000000 in
set_option maxRecDepth 20000 in
theorem VaryOnly_walk (a0 : ByteArray) (w : World) (w0 : a0.size ≤ 140737488351232) (hL : Laid w) :
    Calls Tryd.prog 4 #[.string a0] w fun e w' => e = .returned (.bool true) ∧ Below w.heap.size w w' := by
  by_cases h : 50 < a0.size
  · go_enter Tryd.func4, Tryd.ntmps4
    go_wp2_with (go_at_call 14; go_must (refine (counted _ hL).mono ?_); rintro e w' ⟨rfl, hb⟩)
    go_ret
    exact ⟨rfl, by (repeat (first | exact Below.refl _ _ | assumption | refine bal ?_ _ | refine bdr ?_ | refine bdn ?_ _ | refine bst ?_ (by first | assumption | exact Nat.le_refl _ | omega) _ | refine bch ?_ (by assumption)))⟩
  · cases hg : Vary.get a0.data.toList with
    | bad x =>
      have hv : gotVal (.bad x) = .tuple #[.int .u64 0, .int .i64 0, .iface 34 (.int .i64 x)] := rfl
      go_enter Tryd.func4, Tryd.ntmps4
      go_wp2_with (first
        | (go_at_call 14; go_must (refine (counted _ hL).mono ?_); rintro e w' ⟨rfl, hb⟩)
        | (go_at_call 16; go_must (refine (vary_get _ _ (size_reach _ w0)).mono ?_); rintro e w' ⟨rfl, rfl⟩))
      go_ret
      exact ⟨rfl, by (repeat (first | exact Below.refl _ _ | assumption | refine bal ?_ _ | refine bdr ?_ | refine bdn ?_ _ | refine bst ?_ (by first | assumption | exact Nat.le_refl _ | omega) _ | refine bch ?_ (by assumption)))⟩
    | ok n k =>
      have hv : gotVal (.ok n k) = .tuple #[.int .u64 n, .int .i64 k, .nilIface] := rfl
      obtain ⟨h1, h2, h3, h4⟩ := Vary.get_ok _ _ _ hg
      have h2' : k ≤ a0.size := by rw [Array.length_toList] at h2; exact h2
      have he : (Vary.put n == (a0.extract 0 k).toList) = true := by rw [h3, ByteArray.toList_eq]; simp
      have hb1 : decide (1 ≤ (k : Int)) = true := by simp; omega
      have hb2 : decide ((k : Int) ≤ (a0.size : Int)) = true := by simp; omega
      replace h4 := Lib.hid h4
      clear h3 h2
      go_enter Tryd.func4, Tryd.ntmps4
      go_wp2_with (first
        | (go_at_call 14; go_must (refine (counted _ hL).mono ?_); rintro e w' ⟨rfl, hb⟩)
        | (go_at_call 16; go_must (refine (vary_get _ _ (size_reach _ w0)).mono ?_); rintro e w' ⟨rfl, rfl⟩))
      go_region_held3 (fun w' => True) (trivial) (first | (go_at_call 15; refine (vary_put n _ h4.out).mono ?_; rintro e w' ⟨rfl, hb⟩))
      go_wp2
      go_ret
      exact ⟨rfl, by (repeat (first | exact Below.refl _ _ | assumption | refine bal ?_ _ | refine bdr ?_ | refine bdn ?_ _ | refine bst ?_ (by first | assumption | exact Nat.le_refl _ | omega) _ | refine bch ?_ (by assumption)))⟩
theorem long_step {n m j : Nat} (h : (Vary.put n).length = j + (if m = 0 then 0 else (Vary.put m).length)) (hm : m ≠ 0) : (Vary.put n).length = (j + 1) + (if m / 128 = 0 then 0 else (Vary.put (m / 128)).length) := by
  rw [h, if_neg hm]
  by_cases h1 : m < 128
  · rw [Vary.put_small h1, if_pos (by omega)]; rfl
  · rw [Vary.put_big (n := m) h1, if_neg (by omega), List.length_cons]; omega
theorem long_start (n : Nat) : (Vary.put n).length = 1 + (if n / 128 = 0 then 0 else (Vary.put (n / 128)).length) := by
  by_cases h1 : n < 128
  · rw [Vary.put_small h1, if_pos (by omega)]; rfl
  · rw [Vary.put_big (n := n) h1, if_neg (by omega), List.length_cons]; omega
set_option maxHeartbeats 1000000 in
set_option maxRecDepth 20000 in
theorem VaryLong_walk (a0 : Int) (w : World) (w0 : (Lit.int .u64 a0).wf = true) (hL : Laid w) :
    Calls Tryd.prog 5 #[.int .u64 a0] w fun e w' => e = .returned (.bool true) ∧ Below w.heap.size w w' := by
  obtain ⟨n, rfl, hn⟩ := nat_u64 w0
  clear w0
  have hlen := Vary.put_len n hn
  replace hn := Lib.hid hn
  go_enter Tryd.func5, Tryd.ntmps5
  go_wp2_with (go_at_call 14; go_must (refine (counted _ hL).mono ?_); rintro e w' ⟨rfl, hb⟩)
  rename_i wc hbc
  go_loop [3, 4] (fun k x => ∃ m j : Nat, x = .int .u64 m ∧ k = .int .i64 j ∧ m ≤ n ∧ (Vary.put n).length = j + (if m = 0 then 0 else (Vary.put m).length)) (fun _ x => (intOf x).toNat)
  case atStart => exact ⟨n / 128, 1, rfl, rfl, by omega, long_start n⟩
  case round =>
    obtain ⟨m, j, rfl, rfl, hm, hj⟩ := hrel
    have hjl : j ≤ 10 := by omega
    by_cases h0 : m = 0
    · have hfin : Hid ((Vary.put n).length = j) := Lib.hid (by rw [hj, if_pos h0]; rfl)
      have hn0 : ¬ 0 < m := by omega
      clear hj h0
      go_wp2_with (go_at_call 15; go_must (refine (vary_put n _ hn.out).mono ?_); rintro e w' ⟨rfl, hb⟩)
      go_ret
      exact ⟨ret_bool (by rw [hfin.out]; simp), by (repeat (first | exact Below.refl _ _ | assumption | refine bal ?_ _ | refine bdr ?_ | refine bdn ?_ _ | refine bst ?_ (by first | assumption | exact Nat.le_refl _ | omega) _ | refine bch ?_ (by assumption)))⟩
    · have hfin := Lib.hid (long_step hj h0)
      have hn0 : 0 < m := by omega
      clear hj h0
      go_wp2
      go_round
      case rel => exact ⟨m / 128, j + 1, rfl, by go_num, by omega, hfin.out⟩
      case measure => simp [intOf]; omega
set_option maxHeartbeats 1000000 in
set_option maxRecDepth 20000 in
theorem VaryCut_walk (a0 a1 : Int) (w : World) (w0 : (Lit.int .u64 a0).wf = true) (w1 : (Lit.int .i64 a1).wf = true) (hL : Laid w) :
    Calls Tryd.prog 6 #[.int .u64 a0, .int .i64 a1] w fun e w' => e = .returned (.bool true) ∧ Below w.heap.size w w' := by
  obtain ⟨n, rfl, hn⟩ := nat_u64 w0
  clear w0 w1
  have hlen := Vary.put_len n hn
  have hpos := Vary.put_pos n
  have hp := pickN_lt a1 (Vary.put n).length (by omega)
  have hg := Vary.get_cut n (pickN a1 (Vary.put n).length) hn hp
  have hne : (Vary.put n).isEmpty = false := by rw [List.isEmpty_eq_false_iff]; exact Vary.put_ne n
  have hv : gotVal (.bad 7) = .tuple #[.int .u64 0, .int .i64 0, .iface 34 (.int .i64 7)] := rfl
  replace hn := Lib.hid hn
  go_enter Tryd.func6, Tryd.ntmps6
  go_wp2_with (first
    | (go_at_call 14; go_must (refine (counted _ hL).mono ?_); rintro e w' ⟨rfl, hb⟩)
    | (go_at_call 15; go_must (refine (vary_put n _ hn.out).mono ?_); rintro e w' ⟨rfl, hb⟩)
    | (go_at_call 17; go_must (refine (keep_pick _ _ (Vary.put n).length _ rfl (by omega) (by omega)).mono ?_); rintro e w' ⟨rfl, rfl⟩)
    | (go_at_call 16; go_must (refine (vary_get _ _ (size_small _ (by simp [ByteArray.size]; omega))).mono ?_); rintro e w' ⟨rfl, rfl⟩)
    | (go_at_call 18; go_must (refine (tell_errno _ _ (by first | exact hL | exact hL.below (by assumption) | exact hL.below (by (repeat (first | exact Below.refl _ _ | assumption | refine bal ?_ _ | refine bdr ?_ | refine bdn ?_ _ | refine bst ?_ (by first | assumption | exact Nat.le_refl _ | omega) _ | refine bch ?_ (by assumption)))))).mono ?_); rintro e w' ⟨rfl, hb⟩))
  go_ret
  exact ⟨rfl, by (repeat (first | exact Below.refl _ _ | assumption | refine bal ?_ _ | refine bdr ?_ | refine bdn ?_ _ | refine bst ?_ (by first | assumption | exact Nat.le_refl _ | omega) _ | refine bch ?_ (by assumption)))⟩
theorem both_1 (n : Int) (h1 : -9223372036854775808 ≤ n) (h2 : n ≤ 9223372036854775807) : bits .and .u64 ((Vary.zig n : Nat) : Int) 1 = IntKind.u64.wrap n / 9223372036854775808 := by
  have hz := Vary.zig_lt n h1 h2
  have ha := u64_and_nat (Vary.zig n) 1 hz (by omega)
  rw [Nat.and_one_is_mod] at ha
  have ha2 : bits .and .u64 ((Vary.zig n : Nat) : Int) 1 = ((Vary.zig n % 2 : Nat) : Int) := ha
  rw [ha2, IntKind.wrap_u64]
  unfold Vary.zig
  split <;> omega
theorem both_2 (n : Int) (h1 : -9223372036854775808 ≤ n) (h2 : n ≤ 9223372036854775807) (h : 0 ≤ n) : ((Vary.zig n : Nat) : Int) = IntKind.u64.wrap (2 * IntKind.u64.wrap n) := by
  simp only [IntKind.wrap_u64]
  unfold Vary.zig
  rw [if_pos h]; omega
theorem both_3 (n : Int) (h1 : -9223372036854775808 ≤ n) (h2 : n ≤ 9223372036854775807) (h : n < 0) :
    ((Vary.zig n : Nat) : Int) = IntKind.u64.wrap (IntKind.u64.wrap (2 * IntKind.u64.wrap (wrap64 (-wrap64 (n + 1)))) + 1) := by
  rw [IntWalk.wrap64_in (n + 1) ⟨by omega, by omega⟩, IntWalk.wrap64_in _ ⟨by omega, by omega⟩]
  simp only [IntKind.wrap_u64]
  unfold Vary.zig
  rw [if_neg (by omega)]; omega
set_option maxHeartbeats 1000000 in
set_option maxRecDepth 20000 in
theorem VaryBoth_walk (a0 a1 : Int) (w : World) (w0 : (Lit.int .i64 a0).wf = true) (w1 : (Lit.int .u64 a1).wf = true) (hL : Laid w) :
    Calls Tryd.prog 7 #[.int .i64 a0, .int .u64 a1] w fun e w' => e = .returned (.bool true) ∧ Below w.heap.size w w' := by
  obtain ⟨u, rfl, hu⟩ := nat_u64 w1
  obtain ⟨h1, h2⟩ := int_i64 w0
  clear w0 w1
  have z1 := Vary.zag_zig a0
  have z2 := Vary.zig_zag u
  have z3 := both_1 a0 h1 h2
  have hz := Lib.hid (Vary.zig_lt a0 h1 h2)
  have hz2 := Lib.hid (Vary.zag_lt u hu)
  replace hu := Lib.hid hu
  replace h1 := Lib.hid h1
  replace h2 := Lib.hid h2
  by_cases h : a0 < 0
  · have z4 := Lib.hid (both_3 a0 h1.out h2.out h)
    go_enter Tryd.func7, Tryd.ntmps7
    go_wp2_with (first
      | (go_at_call 14; go_must (refine (counted _ hL).mono ?_); rintro e w' ⟨rfl, hb⟩)
      | (go_at_call 19; go_must (refine (vary_zig _ _ (by first | exact h1.out | exact hz2.out.1) (by first | exact h2.out | exact hz2.out.2)).mono ?_); rintro e w' ⟨rfl, rfl⟩)
      | (go_at_call 20; go_must (refine (vary_zag _ _ (by first | exact hz.out | exact hu.out)).mono ?_); rintro e w' ⟨rfl, rfl⟩))
    go_ret
    refine ⟨ret_bool ?_, by (repeat (first | exact Below.refl _ _ | assumption | refine bal ?_ _ | refine bdr ?_ | refine bdn ?_ _ | refine bst ?_ (by first | assumption | exact Nat.le_refl _ | omega) _ | refine bch ?_ (by assumption)))⟩
    rw [← z4.out]; simp
  · have z4 := Lib.hid (both_2 a0 h1.out h2.out (by omega))
    go_enter Tryd.func7, Tryd.ntmps7
    go_wp2_with (first
      | (go_at_call 14; go_must (refine (counted _ hL).mono ?_); rintro e w' ⟨rfl, hb⟩)
      | (go_at_call 19; go_must (refine (vary_zig _ _ (by first | exact h1.out | exact hz2.out.1) (by first | exact h2.out | exact hz2.out.2)).mono ?_); rintro e w' ⟨rfl, rfl⟩)
      | (go_at_call 20; go_must (refine (vary_zag _ _ (by first | exact hz.out | exact hu.out)).mono ?_); rintro e w' ⟨rfl, rfl⟩))
    all_goals first
      | (exfalso; rename_i hh; exact hh (Or.inr z4.out))
      | (go_ret
         refine ⟨ret_bool ?_, by (repeat (first | exact Below.refl _ _ | assumption | refine bal ?_ _ | refine bdr ?_ | refine bdn ?_ _ | refine bst ?_ (by first | assumption | exact Nat.le_refl _ | omega) _ | refine bch ?_ (by assumption)))⟩
         rw [← z4.out]; simp)
set_option maxHeartbeats 1000000 in
set_option maxRecDepth 20000 in
theorem VaryOrder_walk (a0 a1 : Int) (w : World) (w0 : (Lit.int .u64 a0).wf = true) (w1 : (Lit.int .u64 a1).wf = true) (hL : Laid w) :
    Calls Tryd.prog 8 #[.int .u64 a0, .int .u64 a1] w fun e w' => e = .returned (.bool true) ∧ Below w.heap.size w w' := by
  obtain ⟨n, rfl, hn⟩ := nat_u64 w0
  obtain ⟨m, rfl, hm⟩ := nat_u64 w1
  clear w0 w1
  have hl1 := Vary.put_len n hn
  have hl2 := Vary.put_len m hm
  replace hn := Lib.hid hn
  replace hm := Lib.hid hm
  by_cases h : m < n
  · go_enter Tryd.func8, Tryd.ntmps8
    go_wp2_with (go_at_call 14; go_must (refine (counted _ hL).mono ?_); rintro e w' ⟨rfl, hb⟩)
    go_ret
    exact ⟨rfl, by (repeat (first | exact Below.refl _ _ | assumption | refine bal ?_ _ | refine bdr ?_ | refine bdn ?_ _ | refine bst ?_ (by first | assumption | exact Nat.le_refl _ | omega) _ | refine bch ?_ (by assumption)))⟩
  · have hmo := Vary.put_mono n m (by omega)
    go_enter Tryd.func8, Tryd.ntmps8
    go_wp2_with (first
      | (go_at_call 14; go_must (refine (counted _ hL).mono ?_); rintro e w' ⟨rfl, hb⟩)
      | (go_at_call 15; go_must (refine (vary_put _ _ (by first | exact hn.out | exact hm.out)).mono ?_); rintro e w' ⟨rfl, hb⟩))
    go_ret
    exact ⟨ret_bool (by simp), by (repeat (first | exact Below.refl _ _ | assumption | refine bal ?_ _ | refine bdr ?_ | refine bdn ?_ _ | refine bst ?_ (by first | assumption | exact Nat.le_refl _ | omega) _ | refine bch ?_ (by assumption)))⟩
end Go.Proofs.YtnfdcdnoipbjkaaDoor
