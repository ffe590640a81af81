/- Walks of match: how long two places are alike, the longest repetition. -/
import Derived.Test.YtdeepahaggkipaaDoorLib4
import Derived.Test.YtdeepahaggkipaaDoorRows
import Derived.Test.YtdeepahaggkipaaDoorPlainLz
import Derived.IntWalk
namespace Go.Proofs.YtdeepahaggkipaaDoor
open Go.RowKit
set_option linter.unusedVariables false
theorem getQ (s : ByteArray) (k : Nat) (h : k < s.size) : s.data.toList[k]? = some s[k] := by
  rw [List.getElem?_eq_getElem (by rw [Array.length_toList]; exact h)]; rfl
set_option maxHeartbeats 1000000 in
theorem match_alike (s : ByteArray) (a b m : Nat) (w : World) (hs : s.size ≤ 140737488351232) (hab : a ≤ b) (hb : b ≤ s.size) (hm : m ≤ 1000) :
    Calls Tryd.prog 90 #[.string s, .int .i64 a, .int .i64 b, .int .i64 m] w fun e w' => e = .returned (.int .i64 (Match.alike s.data.toList a b m)) ∧ Below w.heap.size w w' := by

  go_enter Tryd.func90, Tryd.ntmps90
  go_wp2
  go_loopw [9] (fun n wr => ∃ k : Nat, k ≤ m ∧ n = .int .i64 k ∧ Match.alike s.data.toList a b m = k + Match.alike s.data.toList (a + k) (b + k) (m - k) ∧ Below w.heap.size w wr) (fun n _ => m - (intOf n).toNat)
  case atStart => exact ⟨0, by omega, rfl, by simp, by (repeat (first | exact Below.refl _ _ | assumption | refine bal ?_ _ | refine bdr ?_ | refine bdn ?_ _ | refine bst ?_ (by first | assumption | exact Nat.le_refl _ | omega) _ | refine bch ?_ (by assumption)))⟩
  case round =>
    obtain ⟨k, hk, rfl, hal, hbel⟩ := hrel
    have hsz := hbel.size
    by_cases hlt : k < m
    · by_cases hbk : b + k < s.size
      · have hla := getQ s (a + k) (by omega)
        have hlb := getQ s (b + k) hbk
        have hd : decide ((k : Int) < (m : Int)) = true := by simp; omega
        have hd2 : decide ((b : Int) + (k : Int) < (s.size : Int)) = true := by simp; omega
        have w1 : IntKind.i64.wrap ((a : Int) + (k : Int)) = (a : Int) + k := IntWalk.i64_in _ (by omega)
        have w2 : IntKind.i64.wrap ((b : Int) + (k : Int)) = (b : Int) + k := IntWalk.i64_in _ (by omega)
        have z1 : 0 ≤ (a : Int) + (k : Int) := by omega
        have z2 : 0 ≤ (b : Int) + (k : Int) := by omega
        have t1 : ((a : Int) + (k : Int)).toNat = a + k := by omega
        have t2 : ((b : Int) + (k : Int)).toNat = b + k := by omega
        have l1 : (a : Int) + (k : Int) < (s.size : Int) := by omega
        have l2 : (b : Int) + (k : Int) < (s.size : Int) := by omega
        have n1 : a + k < s.size := by omega
        by_cases he : s[a + k] = s[b + k]
        · have hE := Lib.hid he
          replace hal := Lib.hid hal
          have hv : (((s[a + k]).toNat : Int) == ((s[b + k]).toNat : Int)) = true := by simp [he]
          clear he hla hlb
          go_wp2
          go_quiet (fail)
          go_wp2
          go_roundw
          case rel =>
            refine ⟨k + 1, by omega, by go_num, ?_, by (repeat (first | exact Below.refl _ _ | assumption | refine bal ?_ _ | refine bdr ?_ | refine bdn ?_ _ | refine bst ?_ (by first | assumption | exact Nat.le_refl _ | omega) _ | refine bch ?_ (by assumption)))⟩
            rw [hal.out, show m - k = m - (k + 1) + 1 by omega, Match.alike_yes (by rw [Array.length_toList]; exact hbk) (by rw [getQ s (a + k) n1, getQ s (b + k) hbk, hE.out])]
            rw [show a + k + 1 = a + (k + 1) by omega, show b + k + 1 = b + (k + 1) by omega]; omega
          case measure => simp [intOf]; omega
        · have hfin : Hid (Match.alike s.data.toList a b m = k) := Lib.hid (by
            rw [hal, Match.alike_no (by rw [hla, hlb]; simp [he])]; rfl)
          have hv : (((s[a + k]).toNat : Int) == ((s[b + k]).toNat : Int)) = false := by
            rw [beq_eq_false_iff_ne]; intro e; exact he (UInt8.toNat_inj.1 (by omega))
          clear he hla hlb hal
          go_wp2
          go_quiet (fail)
          go_wp2
          go_ret
          exact ⟨ret_int (by rw [hfin.out]), by (repeat (first | exact Below.refl _ _ | assumption | refine bal ?_ _ | refine bdr ?_ | refine bdn ?_ _ | refine bst ?_ (by first | assumption | exact Nat.le_refl _ | omega) _ | refine bch ?_ (by assumption)))⟩
      · have hfin : Hid (Match.alike s.data.toList a b m = k) := Lib.hid (by
          rw [hal, Match.alike_no (by rw [Array.length_toList]; intro h; exact hbk h.1)]; rfl)
        have hd : decide ((k : Int) < (m : Int)) = true := by simp; omega
        have hd2 : decide ((b : Int) + (k : Int) < (s.size : Int)) = false := by simp; omega
        have w2 : IntKind.i64.wrap ((b : Int) + (k : Int)) = (b : Int) + k := IntWalk.i64_in _ (by omega)
        clear hal
        go_wp2
        go_quiet (fail)
        go_wp2
        go_ret
        exact ⟨ret_int (by rw [hfin.out]), by (repeat (first | exact Below.refl _ _ | assumption | refine bal ?_ _ | refine bdr ?_ | refine bdn ?_ _ | refine bst ?_ (by first | assumption | exact Nat.le_refl _ | omega) _ | refine bch ?_ (by assumption)))⟩
    · have hfin : Hid (Match.alike s.data.toList a b m = k) := Lib.hid (by
        rw [hal, show m - k = 0 by omega]; rfl)
      have hd : decide ((k : Int) < (m : Int)) = false := by simp; omega
      clear hal
      go_wp2
      go_quiet (fail)
      go_wp2
      go_ret
      exact ⟨ret_int (by rw [hfin.out]), by (repeat (first | exact Below.refl _ _ | assumption | refine bal ?_ _ | refine bdr ?_ | refine bdn ?_ _ | refine bst ?_ (by first | assumption | exact Nat.le_refl _ | omega) _ | refine bch ?_ (by assumption)))⟩
set_option maxHeartbeats 1000000 in
theorem match_find (s : ByteArray) (p : Nat) (w : World) (hs : s.size ≤ 140737488351232) (hp : p < s.size) :
    Calls Tryd.prog 78 #[.string s, .int .i64 p] w fun e w' => e = .returned (.tuple #[.int .i64 (Match.find s.data.toList p).1, .int .i64 (Match.find s.data.toList p).2]) ∧ Below w.heap.size w w' := by
  have hK : Hid (Match.find s.data.toList p = Match.findTo s.data.toList p (min p 1024)) := Lib.hid rfl
  obtain ⟨K, hKe⟩ : ∃ K, K = min p 1024 := ⟨_, rfl⟩
  have hK1 : K ≤ p := by omega
  have hK2 : K ≤ 1024 := by omega
  have hmin : (if (1024 : Int) < (p : Int) then (1024 : Int) else (p : Int)) = (K : Int) := by split <;> omega
  rw [← hKe] at hK
  clear hKe
  have hd1 : decide ((p : Int) < 0) = false := by simp
  have hd2 : decide (s.size ≤ p) = false := by simp; omega
  have hd3 : decide ((s.size : Int) ≤ (p : Int)) = false := by simp; omega
  go_enter Tryd.func78, Tryd.ntmps78
  go_wp2
  go_loopw [4, 5, 6] (fun b n i wr => ∃ j : Nat, j ≤ K ∧ b = .int .i64 (Match.findTo s.data.toList p j).1 ∧ n = .int .i64 (Match.findTo s.data.toList p j).2 ∧ i = .int .i64 (j + 1 : Nat) ∧ Below w.heap.size w wr) (fun _ _ i _ => K + 1 - (intOf i).toNat)
  case atStart => exact ⟨0, by omega, rfl, rfl, rfl, by (repeat (first | exact Below.refl _ _ | assumption | refine bal ?_ _ | refine bdr ?_ | refine bdn ?_ _ | refine bst ?_ (by first | assumption | exact Nat.le_refl _ | omega) _ | refine bch ?_ (by assumption)))⟩
  case round =>
    obtain ⟨j, hj, rfl, rfl, rfl, hbel⟩ := hrel
    have hsz := hbel.size
    by_cases hlt : j < K
    · have hf : Hid (Match.findTo s.data.toList p (j + 1) = if 4 ≤ Match.alike s.data.toList (p - (j + 1)) p 67 ∧ (Match.findTo s.data.toList p j).2 < Match.alike s.data.toList (p - (j + 1)) p 67 then (j + 1, Match.alike s.data.toList (p - (j + 1)) p 67) else Match.findTo s.data.toList p j) := Lib.hid rfl
      have hsub : ((p : Int) - ((j + 1 : Nat) : Int)) = ((p - (j + 1) : Nat) : Int) := by omega
      have hn := Match.alike_le s.data.toList (p - (j + 1)) p 67
      have hn2 := Match.findTo_le s.data.toList p j
      obtain ⟨hn2, hn3⟩ := hn2
      have hc := fun W => match_alike s (p - (j + 1)) p 67 W hs (by omega) (by omega) (by omega)
      replace hc := Lib.hid hc
      generalize Match.alike s.data.toList (p - (j + 1)) p 67 = n at *
      go_wp2_with fail
      rw [show ((p : Int) - ((j : Int) + 1)) = ((p - (j + 1) : Nat) : Int) by omega]
      refine (hc.out _).mono ?_
      rintro e w1 ⟨rfl, hb1⟩
      by_cases h4 : 4 ≤ n
      · by_cases h5 : (Match.findTo s.data.toList p j).2 < n
        · have hf' : Hid (Match.findTo s.data.toList p (j + 1) = (j + 1, n)) := Lib.hid (by rw [hf.out, if_pos ⟨h4, h5⟩])
          go_wp2
          go_roundw
          case rel => exact ⟨j + 1, by omega, by rw [hf'.out]; go_num, by rw [hf'.out], by go_num, by (repeat (first | exact Below.refl _ _ | assumption | refine bal ?_ _ | refine bdr ?_ | refine bdn ?_ _ | refine bst ?_ (by first | assumption | exact Nat.le_refl _ | omega) _ | refine bch ?_ (by assumption)))⟩
          case measure => simp [intOf]; omega
        · have hf' : Hid (Match.findTo s.data.toList p (j + 1) = Match.findTo s.data.toList p j) := Lib.hid (by rw [hf.out, if_neg (fun h => h5 h.2)])
          go_wp2
          go_roundw
          case rel => exact ⟨j + 1, by omega, by rw [hf'.out], by rw [hf'.out], by go_num, by (repeat (first | exact Below.refl _ _ | assumption | refine bal ?_ _ | refine bdr ?_ | refine bdn ?_ _ | refine bst ?_ (by first | assumption | exact Nat.le_refl _ | omega) _ | refine bch ?_ (by assumption)))⟩
          case measure => simp [intOf]; omega
      · have hf' : Hid (Match.findTo s.data.toList p (j + 1) = Match.findTo s.data.toList p j) := Lib.hid (by rw [hf.out, if_neg (fun h => h4 h.1)])
        go_wp2
        go_roundw
        case rel => exact ⟨j + 1, by omega, by rw [hf'.out], by rw [hf'.out], by go_num, by (repeat (first | exact Below.refl _ _ | assumption | refine bal ?_ _ | refine bdr ?_ | refine bdn ?_ _ | refine bst ?_ (by first | assumption | exact Nat.le_refl _ | omega) _ | refine bch ?_ (by assumption)))⟩
        case measure => simp [intOf]; omega
    · obtain rfl : j = K := by omega
      go_wp2
      go_ret2
      rw [hK.out]
      exact ⟨rfl, by (repeat (first | exact Below.refl _ _ | assumption | refine bal ?_ _ | refine bdr ?_ | refine bdn ?_ _ | refine bst ?_ (by first | assumption | exact Nat.le_refl _ | omega) _ | refine bch ?_ (by assumption)))⟩
end Go.Proofs.YtdeepahaggkipaaDoor
