/- Walks of vary. -/
import Derived.Test.YtognjohloobliaaGreatDoorRows
import Derived.Test.YtognjohloobliaaGreatDoorK01
import Derived.Test.YtognjohloobliaaGreatDoorK09
import Derived.Test.YtognjohloobliaaGreatDoorK06
import Derived.Test.YtognjohloobliaaGreatDoorK07
namespace Go.Proofs.YtognjohloobliaaGreatDoor
open Go.RowKit
set_option linter.unusedVariables false
theorem u8_or128b (n : Nat) : bits .or .u8 ((n : Int) % 256) 128 = ((n % 128 + 128 : Nat) : Int) := by
 have h := u8_or_nat (n % 256) 128 (by omega) (by omega)
 have e : (n % 256) ||| 128 = n % 128 + 128 := by
  have : ∀ m : Fin 256, m.val ||| 128 = m.val % 128 + 128 := by decide +kernel
  have h2 := this ⟨n % 256, by omega⟩
  simp only at h2
  rw [h2]; omega
 rw [e] at h
 exact h
theorem put_step {l : List UInt8} {m n : Nat} (h : l ++ Vary.put m = Vary.put n) (hm : 128 ≤ m) : l ++ [UInt8.ofNat (m % 128 + 128)] ++ Vary.put (m / 128) = Vary.put n := by
 rw [← h, Vary.put_big (n := m) (by omega), List.append_assoc, List.singleton_append]
theorem vals_step (l : List UInt8) (m : Nat) : byteVals l ++ [Value.int .u8 ((m : Int) % 128 + 128)] = byteVals (l ++ [UInt8.ofNat (m % 128 + 128)]) := by
 unfold byteVals
 rw [List.map_append, List.map_singleton, Vary.u8_small (by omega)]; rfl
theorem put_last {l : List UInt8} {m n : Nat} (h : l ++ Vary.put m = Vary.put n) (hm : m < 128) : byteVals l ++ [Value.int .u8 (m : Int)] = byteVals (Vary.put n) ∧ l.length + 1 = (Vary.put n).length := by
 rw [← h, Vary.put_small hm]
 unfold byteVals
 rw [List.map_append, List.map_singleton, Vary.u8_small (by omega)]
 exact ⟨rfl, by simp⟩
set_option maxHeartbeats 1000000 in
set_option maxRecDepth 20000 in
theorem vary_put (n : Nat) (w : World) (hn : n < 18446744073709551616) :
  Calls Tryz.prog 49 #[.int .u64 n] w fun e w' => e = .returned (.string ⟨(Vary.put n).toArray⟩) ∧ Below w.heap.size w w' := by
 have hlen := Vary.put_len n hn
 replace hn := Lib.hid hn
 go_enter Tryz.func49, Tryz.ntmps49
 go_wp2
 go_loopw [0, 3] (fun x v wr => ∃ (m : Nat) (l : List UInt8), x = .int .u64 m ∧ m ≤ n ∧ l ++ Vary.put m = Vary.put n ∧ wr.ownsRow w.heap.size 5 1 v l.length (byteVals l) ∧ Below w.heap.size w wr) (fun x _ _ => (intOf x).toNat)
 case atStart => exact ⟨n, [], rfl, Nat.le_refl _, rfl, World.ownsRow_nil _ _ _ _, Below.refl _ _⟩
 case round =>
  obtain ⟨m, l, rfl, hm, hl, hown, hbel⟩ := hrel
  have hsz := hbel.size
  have hll : l.length ≤ 10 := by
   have := congrArg List.length hl
   rw [List.length_append] at this; omega
  replace hl := Lib.hid hl
  by_cases hlt : 128 ≤ m
  ·have hor := u8_or128b m
   go_wp2_with (at_builtin; go_must (refine app_new rfl _ _ 121 5 rfl w.heap.size (.int .u8 0) 1 1 Tryz.underlying121 (by kernel_rfl) rfl (by omega) _ _ _ rfl hown _ rfl rfl ?c1 (by omega) (by omega) hsz ?_))
   case c1 => rfl
   intro v' w1 hown1 hb1 _
   have hs1 := Lib.hid (put_step hl.out hlt)
   have hv1 := Lib.hid (vals_step l m)
   rw [hv1.out] at hown1
   have hown1 := Lib.hid hown1
   clear hown hor
   go_wp2
   go_roundw
   case rel =>
    refine ⟨m / 128, l ++ [UInt8.ofNat (m % 128 + 128)], by go_num, by omega, hs1.out, ?_, hbel.trans hb1⟩
    rw [List.length_append]; exact hown1.out
   case measure => simp [intOf]; omega
  ·have hfin := Lib.hid (put_last hl.out (by omega))
   go_wp2_with (at_builtin; go_must (refine app_new rfl _ _ 121 5 rfl w.heap.size (.int .u8 0) 1 1 Tryz.underlying121 (by kernel_rfl) rfl (by omega) _ _ _ rfl hown _ rfl rfl ?c2 (by omega) (by omega) hsz ?_))
   case c2 => rfl
   intro v' w1 hown1 hb1 hnn
   rw [hfin.out.1, hfin.out.2] at hown1
   obtain ⟨g, cap, hv⟩ := owns_addr hown1 hnn
   rw [hv] at hown1 ⊢
   have hrow := prow_of_owns hown1
   have hcv := str_of_prow (P := Tryz.prog) hrow.1 121 9 Tryz.underlying121 Tryz.underlying5 Tryz.underlying9 (Vary.put n).length cap rfl
   clear hown1 hrow hown hv hnn
   go_wp2
   go_ret
   exact ⟨rfl, hbel.trans hb1⟩
/-- An error that is its number. -/
def errno (e : Nat) : Value := .iface 67 (.int .i64 e)
def gotVal : Vary.Got → Value
 | .ok n k => .tuple #[.int .u64 n, .int .i64 k, .nilIface]
 | .bad e => .tuple #[.int .u64 0, .int .i64 0, errno e]
theorem go_drop (l : List UInt8) (k : Nat) (h : k < l.length) (acc : Nat) : Vary.go (l.drop k) k acc = Vary.go (l[k] :: l.drop (k + 1)) k acc := by
 rw [List.drop_eq_getElem_cons h]
theorem get_bits (acc k : Nat) (c : UInt8) (hk : k ≤ 9) (h9 : k = 9 → c.toNat ≤ 1) (ha : acc < 2 ^ (7 * k)) :
  bits .or .u64 (acc : Int) (IntKind.u64.wrap (bits .and .u64 (c.toNat : Int) 127 * 2 ^ (7 * k))) = ((acc + c.toNat % 128 * 2 ^ (7 * k) : Nat) : Int) := by
 have hc := c.toNat_lt
 have h1 := u64_and_nat c.toNat 127 (by omega) (by omega)
 rw [show (127 : Nat) = 2 ^ 7 - 1 from rfl, Nat.and_two_pow_sub_one_eq_mod] at h1
 have h2 : bits .and .u64 (c.toNat : Int) 127 = ((c.toNat % 128 : Nat) : Int) := h1
 have hx : c.toNat % 128 * 2 ^ (7 * k) < 18446744073709551616 := by
  rcases Nat.lt_or_ge k 9 with h | h
  ·have hp : 2 ^ (7 * k) ≤ 2 ^ 56 := Nat.pow_le_pow_right (by omega) (by omega)
   have := Nat.mul_le_mul (show c.toNat % 128 ≤ 127 by omega) hp
   exact Nat.lt_of_le_of_lt this (by decide)
  ·have hk9 : k = 9 := by omega
   have := h9 hk9
   subst hk9
   have := Nat.mul_le_mul (show c.toNat % 128 ≤ 1 by omega) (Nat.le_refl (2 ^ (7 * 9)))
   exact Nat.lt_of_le_of_lt this (by decide)
 have ha2 : acc < 18446744073709551616 := Nat.lt_of_lt_of_le ha (by
  have : 2 ^ (7 * k) ≤ 2 ^ 63 := Nat.pow_le_pow_right (by omega) (by omega)
  exact Nat.le_trans this (by decide))
 have h3 : ((c.toNat % 128 : Nat) : Int) * 2 ^ (7 * k) = ((c.toNat % 128 * 2 ^ (7 * k) : Nat) : Int) := by
  rw [Int.natCast_mul, Int.natCast_pow]; rfl
 have e : ((c.toNat % 128 * 2 ^ (7 * k) : Nat) : Int) % 18446744073709551616 = ((c.toNat % 128 * 2 ^ (7 * k) : Nat) : Int) := Int.emod_eq_of_lt (Int.natCast_nonneg _) (Int.ofNat_lt.2 hx)
 rw [h2, h3, IntKind.wrap_u64, e, u64_or_nat _ _ ha2 hx, Nat.or_comm, nat_join (7 * k) _ _ (Nat.mul_mod_left _ _) ha, Nat.add_comm]
set_option maxHeartbeats 1000000 in
set_option maxRecDepth 20000 in
theorem vary_get (s : ByteArray) (w : World) (hs : s.size ≤ maxLen) :
  Calls Tryz.prog 106 #[.string s] w fun e w' => e = .returned (gotVal (Vary.get s.data.toList)) ∧ w = w' := by
 unfold maxLen at hs
 go_enter Tryz.func106, Tryz.ntmps106
 go_wp2
 go_loop [5, 10] (fun a i => ∃ k acc : Nat, k ≤ s.size ∧ k ≤ 9 ∧ i = .int .i64 k ∧ a = .int .u64 acc ∧ acc < 2 ^ (7 * k) ∧ Vary.go (s.data.toList.drop k) k acc = Vary.get s.data.toList) (fun _ i => s.size - (intOf i).toNat)
 case atStart => exact ⟨0, 0, by omega, by omega, rfl, rfl, by simp, rfl⟩
 case round =>
  obtain ⟨k, acc, hk, hk9, rfl, rfl, hacc, hgo⟩ := hrel
  replace hgo := Lib.hid hgo
  replace hacc := Lib.hid hacc
  by_cases hlt : k < s.size
  ·have hc := s[k].toNat_lt
   have hlen : k < s.data.toList.length := by rw [Array.length_toList]; exact hlt
   have hgk : s.data.toList[k] = s[k] := rfl
   replace hgk := Lib.hid hgk
   by_cases hA : k = 9 ∧ 1 < s[k].toNat
   ·have hv : Hid (Vary.get s.data.toList = .bad 4) := Lib.hid (by
     rw [← hgo.out, go_drop _ _ hlen, hgk.out]; simp only [Vary.go]; rw [if_pos hA])
    obtain ⟨rfl, hA⟩ := hA
    go_wp2
    go_ret3
    rw [hv.out]
    exact ⟨rfl, rfl⟩
   ·have h9 : Hid (k = 9 → s[k].toNat ≤ 1) := Lib.hid (by omega)
    have hbit := get_bits acc k s[k] hk9 h9.out hacc.out
    by_cases hB : s[k].toNat < 128
    ·by_cases hC : s[k].toNat = 0 ∧ 0 < k
     ·have hv : Hid (Vary.get s.data.toList = .bad 3) := Lib.hid (by
       rw [← hgo.out, go_drop _ _ hlen, hgk.out]; simp only [Vary.go]; rw [if_neg hA, if_pos hB, if_pos hC])
      obtain ⟨hC1, hC2⟩ := hC
      by_cases hk9' : k = 9
      ·subst hk9'
       go_wp2
       go_ret3
       rw [hv.out]
       exact ⟨rfl, rfl⟩
      ·clear hA
       go_wp2
       go_ret3
       rw [hv.out]
       exact ⟨rfl, rfl⟩
     ·have hv : Hid (Vary.get s.data.toList = .ok (acc + s[k].toNat % 128 * 2 ^ (7 * k)) (k + 1)) := Lib.hid (by
       rw [← hgo.out, go_drop _ _ hlen, hgk.out]; simp only [Vary.go]; rw [if_neg hA, if_pos hB, if_neg hC])
      by_cases hk9' : k = 9
      ·have hC1 : ¬ s[k].toNat = 0 := by omega
       have hA1 : ¬ 1 < s[k].toNat := by omega
       have hb9 : ((k : Int) == 9) = true := by simp; omega
       have hb0 : ((s[k].toNat : Int) == 0) = false := by simp; omega
       clear hC hA hC1
       replace hk9' := Lib.hid hk9'
       go_wp2
       go_ret3
       rw [hv.out]
       exact ⟨rfl, rfl⟩
      ·clear hA
       by_cases h0 : s[k].toNat = 0
       ·have hk0 : ¬ 0 < k := by omega
        have hb0 : ((s[k].toNat : Int) == 0) = true := by simp; omega
        have hb9 : ((k : Int) == 9) = false := by simp; omega
        have hlt128 : s[k].toNat < 128 := hB
        clear hC
        replace h0 := Lib.hid h0
        go_wp2
        go_ret3
        rw [hv.out]
        exact ⟨rfl, rfl⟩
       ·clear hC
        go_wp2
        go_ret3
        rw [hv.out]
        exact ⟨rfl, rfl⟩
    ·have hA' : k < 9 := by omega
     have hv : Hid (Vary.go (s.data.toList.drop (k + 1)) (k + 1) (acc + s[k].toNat % 128 * 2 ^ (7 * k)) = Vary.get s.data.toList) := Lib.hid (by
      rw [← hgo.out, go_drop _ _ hlen, hgk.out]; simp only [Vary.go]; rw [if_neg hA, if_neg hB])
     have hlt2 : Hid (acc + s[k].toNat % 128 * 2 ^ (7 * k) < 2 ^ (7 * (k + 1))) := Lib.hid (by
      rw [Nat.mul_add, Nat.pow_add, Nat.mul_comm (2 ^ (7 * k))]
      have h1 := hacc.out
      have h2 := Nat.mul_le_mul (show s[k].toNat % 128 ≤ 127 by omega) (Nat.le_refl (2 ^ (7 * k)))
      have h3 : (2 : Nat) ^ (7 * 1) = 128 := rfl
      rw [h3]; omega)
     clear hA
     go_wp2
     go_round
     case rel => exact ⟨k + 1, acc + s[k].toNat % 128 * 2 ^ (7 * k), by omega, by omega, by go_num, rfl, hlt2.out, hv.out⟩
     case measure => simp [intOf]; omega
  ·have hv : Hid (Vary.get s.data.toList = .bad 7) := Lib.hid (by
    rw [← hgo.out, List.drop_of_length_le (by rw [Array.length_toList]; show s.size ≤ k; omega)]; rfl)
   go_wp2
   go_ret3
   rw [hv.out]
   exact ⟨rfl, rfl⟩
def intVal : Vary.Got → Value
 | .ok n k => .tuple #[.int .i64 n, .int .i64 k, .nilIface]
 | .bad e => .tuple #[.int .i64 0, .int .i64 0, errno e]
theorem u64_of_nonneg {m : Int} (h : 0 ≤ m) (h2 : m ≤ 9223372036854775807) : IntKind.u64.wrap m = m := by
 rw [IntKind.wrap_u64]; omega
theorem i64_of_nat {n : Nat} {m : Int} (h : (n : Int) ≤ m) (h2 : m ≤ 9223372036854775807) : wrap64 (n : Int) = n :=
 IntWalk.wrap64_in _ ⟨by omega, by omega⟩
set_option maxHeartbeats 1000000 in
set_option maxRecDepth 20000 in
theorem vary_int (s : ByteArray) (m : Int) (w : World) (hs : s.size ≤ maxLen) (hm : m ≤ 9223372036854775807) :
  Calls Tryz.prog 91 #[.string s, .int .i64 m] w fun e w' => e = .returned (intVal (Vary.int s.data.toList m)) ∧ w = w' := by
 cases hg : Vary.get s.data.toList with
 | bad x =>
  have hv := Lib.hid (Vary.int_bad (most := m) hg)
  have hgv : gotVal (Vary.Got.bad x) = .tuple #[.int .u64 0, .int .i64 0, errno x] := rfl
  have he : errno x = .iface 67 (.int .i64 x) := rfl
  replace hm := Lib.hid hm
  go_enter Tryz.func91, Tryz.ntmps91
  go_wp2_with (go_at_call 106; go_must (refine (vary_get _ _ hs).mono ?_); rintro e w' ⟨rfl, rfl⟩)
  go_ret3
  rw [hv.out]
  exact ⟨rfl, rfl⟩
 | ok n k =>
  have hgv : gotVal (Vary.Got.ok n k) = .tuple #[.int .u64 n, .int .i64 k, .nilIface] := rfl
  by_cases h0 : m < 0
  ·have hv := Lib.hid (Vary.int_range (most := m) hg (Or.inl h0))
   replace hm := Lib.hid hm
   go_enter Tryz.func91, Tryz.ntmps91
   go_wp2_with (go_at_call 106; go_must (refine (vary_get _ _ hs).mono ?_); rintro e w' ⟨rfl, rfl⟩)
   go_ret3
   rw [hv.out]
   exact ⟨rfl, rfl⟩
  ·have hw := u64_of_nonneg (by omega : 0 ≤ m) hm
   by_cases hn : m < (n : Int)
   ·have hv := Lib.hid (Vary.int_range (most := m) hg (Or.inr hn))
    replace hm := Lib.hid hm
    go_enter Tryz.func91, Tryz.ntmps91
    go_wp2_with (go_at_call 106; go_must (refine (vary_get _ _ hs).mono ?_); rintro e w' ⟨rfl, rfl⟩)
    go_ret3
    rw [hv.out]
    exact ⟨rfl, rfl⟩
   ·have hv := Lib.hid (Vary.int_ok (most := m) hg (by omega))
    have hw2 := i64_of_nat (by omega : (n : Int) ≤ m) hm
    replace hm := Lib.hid hm
    go_enter Tryz.func91, Tryz.ntmps91
    go_wp2_with (go_at_call 106; go_must (refine (vary_get _ _ hs).mono ?_); rintro e w' ⟨rfl, rfl⟩)
    go_ret3
    rw [hv.out]
    show Ending.returned (.tuple #[.int .i64 (wrap64 (n : Int)), .int .i64 k, .nilIface]) = _ ∧ _
    rw [hw2]
    exact ⟨rfl, rfl⟩
end Go.Proofs.YtognjohloobliaaGreatDoor
/- Walks of span. -/
namespace Go.Proofs.YtognjohloobliaaGreatDoor
open Go.RowKit
set_option linter.unusedVariables false
def spanVal : Span.Got → Value
 | .ok t k => .tuple #[.string ⟨t.toArray⟩, .int .i64 k, .nilIface]
 | .bad e => .tuple #[.string ⟨#[]⟩, .int .i64 0, errno e]
set_option maxHeartbeats 1000000 in
set_option maxRecDepth 20000 in
theorem span_put (s : ByteArray) (w : World) (hs : s.size ≤ 2000) :
  Calls Tryz.prog 70 #[.string s] w fun e w' => e = .returned (.tuple #[.string ⟨(Span.put s.data.toList).toArray⟩, .nilIface]) ∧ Below w.heap.size w w' := by
 have hlen := Vary.put_len s.size (by omega)
 have he : Hid (ByteArray.mk (Vary.put s.size).toArray ++ s = ⟨(Span.put s.data.toList).toArray⟩) := Lib.hid (ba_ext (by
  rw [ba_app]; unfold Span.put; rw [Array.length_toList]; rfl))
 go_enter Tryz.func70, Tryz.ntmps70
 go_wp2_with (go_at_call 49; go_must (refine (vary_put s.size _ (by omega)).mono ?_); rintro e w' ⟨rfl, hb⟩)
 go_ret2
 exact ⟨by rw [← he.out]; rfl, by exact blw⟩
set_option maxHeartbeats 1000000 in
set_option maxRecDepth 20000 in
theorem span_get (s : ByteArray) (w : World) (hs : s.size ≤ maxLen) (hL : Laid w) :
  Calls Tryz.prog 112 #[.string s] w fun e w' => e = .returned (spanVal (Span.get s.data.toList)) ∧ Below w.heap.size w w' := by
 cases hg : Vary.int s.data.toList 2000 with
 | bad x =>
  have hgv : intVal (Vary.Got.bad x) = .tuple #[.int .i64 0, .int .i64 0, .iface 67 (.int .i64 x)] := rfl
  by_cases h2 : x = 2
  ·subst h2
   have hv : Hid (Span.get s.data.toList = .bad 4) := Lib.hid (by rw [Span.get_bad hg]; rfl)
   replace hs := Lib.hid hs
   go_enter Tryz.func112, Tryz.ntmps112
   go_wp2_with (first
    | (go_at_call 91; go_must (refine (vary_int _ _ _ hs.out (by omega)).mono ?_); rintro e w' ⟨rfl, rfl⟩)
    | (go_at_call 32; go_must (refine (tell_errno _ _ hL).mono ?_); rintro e w' ⟨rfl, hb⟩))
   go_ret3
   rw [hv.out]
   exact ⟨rfl, by exact blw⟩
  ·have hv : Hid (Span.get s.data.toList = .bad x) := Lib.hid (by rw [Span.get_bad hg, if_neg h2])
   have hb2 : ((x : Int) == 2) = false := by simp; omega
   replace hs := Lib.hid hs
   go_enter Tryz.func112, Tryz.ntmps112
   go_wp2_with (first
    | (go_at_call 91; go_must (refine (vary_int _ _ _ hs.out (by omega)).mono ?_); rintro e w' ⟨rfl, rfl⟩)
    | (go_at_call 32; go_must (refine (tell_errno _ _ hL).mono ?_); rintro e w' ⟨rfl, hb⟩))
   go_ret3
   rw [hv.out]
   exact ⟨rfl, by exact blw⟩
 | ok n k =>
  have hgv : intVal (Vary.Got.ok n k) = .tuple #[.int .i64 n, .int .i64 k, .nilIface] := rfl
  obtain ⟨hi, hn⟩ := Span.int_inv hg
  obtain ⟨h1, h2, _, _⟩ := Vary.get_ok _ _ _ hi
  have h2' : k ≤ s.size := by rw [Array.length_toList] at h2; exact h2
  have hll : s.data.toList.length = s.size := Array.length_toList
  clear h2 hi
  by_cases hsh : s.size < k + n
  ·have hv : Hid (Span.get s.data.toList = .bad 7) := Lib.hid (Span.get_short hg (by omega))
   have hs2 := hs
   unfold maxLen at hs2
   replace hs := Lib.hid hs
   clear hll
   go_enter Tryz.func112, Tryz.ntmps112
   go_wp2_with (first
    | (go_at_call 91; go_must (refine (vary_int _ _ _ hs.out (by omega)).mono ?_); rintro e w' ⟨rfl, rfl⟩)
    | (go_at_call 32; go_must (refine (tell_nil _).mono ?_); rintro e w' ⟨rfl, rfl⟩))
   go_ret3
   rw [hv.out]
   exact ⟨rfl, by exact blw⟩
  ·have hv : Hid (Span.get s.data.toList = .ok ((s.data.toList.drop k).take n) (k + n)) := Lib.hid (Span.get_full hg (by omega))
   have hs2 := hs
   unfold maxLen at hs2
   replace hs := Lib.hid hs
   clear hll
   have he : Hid (s.extract k (k + n) = ⟨((s.data.toList.drop k).take n).toArray⟩) := Lib.hid (ba_ext (by simp))
   go_enter Tryz.func112, Tryz.ntmps112
   go_wp2_with (first
    | (go_at_call 91; go_must (refine (vary_int _ _ _ hs.out (by omega)).mono ?_); rintro e w' ⟨rfl, rfl⟩)
    | (go_at_call 32; go_must (refine (tell_nil _).mono ?_); rintro e w' ⟨rfl, rfl⟩))
   go_ret3
   rw [hv.out]
   show _ = Ending.returned (.tuple #[.string ⟨((s.data.toList.drop k).take n).toArray⟩, .int .i64 ((k + n : Nat) : Int), .nilIface]) ∧ _
   rw [← he.out]
   exact ⟨rfl, by exact blw⟩
end Go.Proofs.YtognjohloobliaaGreatDoor
/- Walks of vary: Zig and Zag. -/
namespace Go.Proofs.YtognjohloobliaaGreatDoor
open Go.RowKit
set_option linter.unusedVariables false
theorem xor_ones {x : Nat} (h : x < 18446744073709551616) : x ^^^ 18446744073709551615 = 18446744073709551615 - x := by
 apply Nat.eq_of_testBit_eq
 intro i
 rw [show 18446744073709551615 - x = 2 ^ 64 - (x + 1) from by omega, Nat.testBit_two_pow_sub_succ h, Nat.testBit_xor, show (18446744073709551615 : Nat) = 2 ^ 64 - 1 from rfl, Nat.testBit_two_pow_sub_one]
 by_cases hi : i < 64 <;> simp [hi]
 exact Nat.testBit_lt_two_pow (Nat.lt_of_lt_of_le h (Nat.pow_le_pow_right (n := 2) (by omega) (by omega : 64 ≤ i)))
theorem zig_eq (n : Int) (h1 : -9223372036854775808 ≤ n) (h2 : n ≤ 9223372036854775807) :
  bits .xor .u64 (IntKind.u64.wrap (IntKind.u64.wrap n * 2)) (IntKind.u64.wrap (n / 9223372036854775808)) = ((Vary.zig n : Nat) : Int) := by
 simp only [IntKind.wrap_u64]
 unfold Vary.zig
 by_cases h : 0 ≤ n
 ·rw [if_pos h]
  have e1 : n % 18446744073709551616 * 2 % 18446744073709551616 = (((2 * n).toNat : Nat) : Int) := by omega
  have e2 : n / 9223372036854775808 % 18446744073709551616 = ((0 : Nat) : Int) := by omega
  rw [e1, e2, u64_xor_nat _ _ (by omega) (by omega), Nat.xor_zero]
 ·rw [if_neg h]
  have e1 : n % 18446744073709551616 * 2 % 18446744073709551616 = (((2 * n + 18446744073709551616).toNat : Nat) : Int) := by omega
  have e2 : n / 9223372036854775808 % 18446744073709551616 = ((18446744073709551615 : Nat) : Int) := by omega
  rw [e1, e2, u64_xor_nat _ _ (by omega) (by omega), xor_ones (by omega)]
  omega
set_option maxHeartbeats 1000000 in
set_option maxRecDepth 20000 in
theorem vary_zig (n : Int) (w : World) (h1 : -9223372036854775808 ≤ n) (h2 : n ≤ 9223372036854775807) :
  Calls Tryz.prog 89 #[.int .i64 n] w fun e w' => e = .returned (.int .u64 (Vary.zig n)) ∧ w = w' := by
 have he := Lib.hid (zig_eq n h1 h2)
 replace h1 := Lib.hid h1
 replace h2 := Lib.hid h2
 go_enter Tryz.func89, Tryz.ntmps89
 go_wp2
 go_ret
 exact ⟨ret_int he.out, rfl⟩
end Go.Proofs.YtognjohloobliaaGreatDoor
/- The walk of vary.Zag. -/
namespace Go.Proofs.YtognjohloobliaaGreatDoor
open Go.RowKit
set_option linter.unusedVariables false
theorem i64_xor_zero (a : Nat) (h : a < 9223372036854775808) : bits .xor .i64 (a : Int) 0 = (a : Int) := by
 show IntKind.i64.wrap ((BitVec.ofInt 64 (a : Int) ^^^ BitVec.ofInt 64 (0 : Int)).toNat : Int) = _
 rw [BitVec.toNat_xor, ofInt_u64 a (by omega), show (BitVec.ofInt 64 (0 : Int)).toNat = 0 from by decide, Nat.xor_zero, IntKind.wrap_i64]
 omega
theorem i64_xor_ones (a : Nat) (h : a < 9223372036854775808) : bits .xor .i64 (a : Int) (-1) = -(a : Int) - 1 := by
 show IntKind.i64.wrap ((BitVec.ofInt 64 (a : Int) ^^^ BitVec.ofInt 64 (-1 : Int)).toNat : Int) = _
 rw [BitVec.toNat_xor, ofInt_u64 a (by omega), show (BitVec.ofInt 64 (-1 : Int)).toNat = 18446744073709551615 from by decide, xor_ones (by omega), IntKind.wrap_i64]
 omega
theorem zag_eq (n : Nat) (h1 : n < 18446744073709551616) :
  bits .xor .i64 (wrap64 ((n : Int) / 2)) (wrap64 (-wrap64 (bits .and .u64 (n : Int) 1))) = Vary.zag n := by
 have ha := u64_and_nat n 1 h1 (by omega)
 rw [Nat.and_one_is_mod] at ha
 have ha2 : bits .and .u64 (n : Int) 1 = ((n % 2 : Nat) : Int) := ha
 have hh : wrap64 ((n : Int) / 2) = ((n / 2 : Nat) : Int) := by rw [IntWalk.wrap64_in _ ⟨by omega, by omega⟩]; rfl
 rw [ha2, hh]
 unfold Vary.zag
 by_cases h : n % 2 = 0
 ·rw [if_pos h, h]
  have e : wrap64 (-wrap64 ((0 : Nat) : Int)) = 0 := by
   rw [IntWalk.wrap64_in ((0 : Nat) : Int) ⟨by omega, by omega⟩, IntWalk.wrap64_in _ ⟨by omega, by omega⟩]; rfl
  rw [e]
  have := i64_xor_zero (n / 2) (by omega)
  exact this
 ·rw [if_neg h, show n % 2 = 1 by omega]
  have e : wrap64 (-wrap64 ((1 : Nat) : Int)) = -1 := by
   rw [IntWalk.wrap64_in ((1 : Nat) : Int) ⟨by omega, by omega⟩, IntWalk.wrap64_in _ ⟨by omega, by omega⟩]; rfl
  rw [e]
  exact i64_xor_ones (n / 2) (by omega)
set_option maxHeartbeats 1000000 in
set_option maxRecDepth 20000 in
theorem vary_zag (n : Nat) (w : World) (h1 : n < 18446744073709551616) :
  Calls Tryz.prog 133 #[.int .u64 n] w fun e w' => e = .returned (.int .i64 (Vary.zag n)) ∧ w = w' := by
 have he := Lib.hid (zag_eq n h1)
 replace h1 := Lib.hid h1
 go_enter Tryz.func133, Tryz.ntmps133
 go_wp2
 go_ret
 exact ⟨ret_int he.out, rfl⟩
end Go.Proofs.YtognjohloobliaaGreatDoor
/- The walk of write.Tail. -/
namespace Go.Proofs.YtognjohloobliaaGreatDoor
open Go.RowKit
set_option linter.unusedVariables false
set_option maxHeartbeats 2000000 in
set_option maxRecDepth 100000 in
theorem write_tail_ok (t r k : Int) (key val : ByteArray) (n : Int) (w : World) (h : Wr.right (wr t r k key val n) = 0) :
  Calls Tryz.prog 71 #[wrV t r k key val n] w fun e w' => e = .returned (.tuple #[.string ⟨(Wr.tail (wr t r k key val n)).toArray⟩, .nilIface]) ∧ Below w.heap.size w w' := by
 have hR := fun W => write_right t r k key val n W
 rw [h, errW_ok] at hR
 obtain ⟨k1, k4, -, -, -, -, -, hval, -, -, hadd, hins⟩ := Wr.right_zero h
 simp only [wr] at k1 k4 hval hadd hins
 rw [ba_len] at hval
 have hp := fun W => span_put val W (by omega)
 replace hR := Lib.hid hR
 replace hp := Lib.hid hp
 clear h
 unfold wrV at *
 have hk : k = 1 ∨ k = 2 ∨ k = 3 ∨ k = 4 := by omega
 clear k1 k4
 have hT : ∀ y, Wr.tail (wr t r k key val n) = y → Hid (Wr.tail (wr t r k key val n) = y) := fun y h => Lib.hid h
 rcases hk with rfl | rfl | rfl | rfl
 ·have hT := hT (Span.put val.data.toList) (by unfold Wr.tail wr; rw [if_pos rfl])
  go_enter Tryz.func71, Tryz.ntmps71
  go_wp2_with fail
  have q0 := row_at #[.int .i64 t, .int .i64 r, .int .i64 1, .string key, .string val, .int .i64 n] 33 (rfl : w.heap.size = w.heap.size)
  have qb : Below w.heap.size w (w.alloc (Obj.cells #[.int .i64 t, .int .i64 r, .int .i64 1, .string key, .string val, .int .i64 n] 33)) := by exact blw
  generalize w.alloc (Obj.cells #[.int .i64 t, .int .i64 r, .int .i64 1, .string key, .string val, .int .i64 n] 33) = w1 at *
  refine (hR.out _).mono ?_
  rintro e w2 ⟨rfl, hb⟩
  have q1 := q0.below hb
  have c2 := q1.cell 2
  have c4 := q1.cell 4
  simp only [List.getElem?_cons_zero, List.getElem?_cons_succ] at c2 c4
  clear q0 q1
  go_wp2_with fail
  refine (hp.out _).mono ?_
  rintro e w3 ⟨rfl, hb3⟩
  go_wp2
  go_ret2
  rw [hT.out]
  exact ⟨rfl, by exact blw⟩
 ·have hT := hT [] (by unfold Wr.tail wr; simp)
  go_enter Tryz.func71, Tryz.ntmps71
  go_wp2_with fail
  have q0 := row_at #[.int .i64 t, .int .i64 r, .int .i64 2, .string key, .string val, .int .i64 n] 33 (rfl : w.heap.size = w.heap.size)
  have qb : Below w.heap.size w (w.alloc (Obj.cells #[.int .i64 t, .int .i64 r, .int .i64 2, .string key, .string val, .int .i64 n] 33)) := by exact blw
  generalize w.alloc (Obj.cells #[.int .i64 t, .int .i64 r, .int .i64 2, .string key, .string val, .int .i64 n] 33) = w1 at *
  refine (hR.out _).mono ?_
  rintro e w2 ⟨rfl, hb⟩
  have q1 := q0.below hb
  have c2 := q1.cell 2
  simp only [List.getElem?_cons_zero, List.getElem?_cons_succ] at c2
  clear q0 q1
  go_wp2
  go_ret2
  rw [hT.out]
  exact ⟨rfl, by exact blw⟩
 ·have hT := hT (Vary.put (Vary.zig n)) (by unfold Wr.tail wr; simp)
  have hn := hadd rfl
  have hz := Lib.hid (fun W => vary_zig n W (by omega) (by omega))
  have hz2 := Lib.hid (fun W => vary_put (Vary.zig n) W (Vary.zig_lt n (by omega) (by omega)))
  replace hn := Lib.hid hn
  go_enter Tryz.func71, Tryz.ntmps71
  go_wp2_with fail
  have q0 := row_at #[.int .i64 t, .int .i64 r, .int .i64 3, .string key, .string val, .int .i64 n] 33 (rfl : w.heap.size = w.heap.size)
  have qb : Below w.heap.size w (w.alloc (Obj.cells #[.int .i64 t, .int .i64 r, .int .i64 3, .string key, .string val, .int .i64 n] 33)) := by exact blw
  generalize w.alloc (Obj.cells #[.int .i64 t, .int .i64 r, .int .i64 3, .string key, .string val, .int .i64 n] 33) = w1 at *
  refine (hR.out _).mono ?_
  rintro e w2 ⟨rfl, hb⟩
  have q1 := q0.below hb
  have c2 := q1.cell 2
  have c5 := q1.cell 5
  simp only [List.getElem?_cons_zero, List.getElem?_cons_succ] at c2 c5
  clear q0 q1
  go_wp2_with fail
  refine (hz.out _).mono ?_
  rintro e w3 ⟨rfl, rfl⟩
  go_wp2_with fail
  refine (hz2.out _).mono ?_
  rintro e w4 ⟨rfl, hb4⟩
  go_wp2
  go_ret2
  rw [hT.out]
  exact ⟨rfl, by exact blw⟩
 ·have hT := hT (Vary.put n.toNat ++ Span.put val.data.toList) (by unfold Wr.tail wr; simp)
  obtain ⟨hn1, hn2⟩ := hins rfl
  obtain ⟨m, rfl⟩ := Int.eq_ofNat_of_zero_le hn1
  rw [Int.toNat_natCast] at hT
  have hz := Lib.hid (fun W => vary_put m W (by omega))
  have hw := u64_of_nonneg hn1 (by omega)
  have l1 := Vary.put_len m (by omega)
  have l2 : (Span.put val.data.toList).length ≤ 400 := by
   have := Vary.put_len val.size (by omega)
   unfold Span.put
   rw [List.length_append, ba_len]; omega
  have hcat : Hid ((⟨(Vary.put m).toArray⟩ : ByteArray) ++ ⟨(Span.put val.data.toList).toArray⟩ = ⟨(Vary.put m ++ Span.put val.data.toList).toArray⟩) := Lib.hid (ByteArray.ext (by simp))
  go_enter Tryz.func71, Tryz.ntmps71
  go_wp2_with fail
  have q0 := row_at #[.int .i64 t, .int .i64 r, .int .i64 4, .string key, .string val, .int .i64 m] 33 (rfl : w.heap.size = w.heap.size)
  have qb : Below w.heap.size w (w.alloc (Obj.cells #[.int .i64 t, .int .i64 r, .int .i64 4, .string key, .string val, .int .i64 m] 33)) := by exact blw
  generalize w.alloc (Obj.cells #[.int .i64 t, .int .i64 r, .int .i64 4, .string key, .string val, .int .i64 m] 33) = w1 at *
  refine (hR.out _).mono ?_
  rintro e w2 ⟨rfl, hb⟩
  have q1 := q0.below hb
  have c2 := q1.cell 2
  have c4 := q1.cell 4
  have c5 := q1.cell 5
  simp only [List.getElem?_cons_zero, List.getElem?_cons_succ] at c2 c4 c5
  have q2 := Lib.hid q1
  clear q0 q1
  go_wp2_with fail
  refine (hp.out _).mono ?_
  rintro e w3 ⟨rfl, hb3⟩
  have c5 := (q2.out.below hb3).cell 5
  simp only [List.getElem?_cons_zero, List.getElem?_cons_succ] at c5
  clear q2 c2 c4
  go_wp2_with fail
  refine (hz.out _).mono ?_
  rintro e w4 ⟨rfl, hb4⟩
  go_wp2
  go_ret2
  rw [hT.out]
  exact ⟨by rw [← hcat.out]; rfl, by exact blw⟩
end Go.Proofs.YtognjohloobliaaGreatDoor
