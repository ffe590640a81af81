/- The walk of the law MatchFar. -/
import Derived.Test.YthoaglemjleipaaLawsMatch3
namespace Go.Proofs.Ythoaglemjleipaa
open Go.RowKit
set_option linter.unusedVariables false
theorem repeat_one (c : UInt8) (n : Nat) : Lib.repeatL [c] n = List.replicate n c := by
  have := Lib.repeatL_replicate c 1 n
  simpa using this
theorem str_byte (c : Nat) (h : c < 256) : strOfNums [(c : Int)] = ⟨#[UInt8.ofNat c]⟩ := ba_ext (by rw [strOfNums_data]; simp)
def farWord (c d : UInt8) : List UInt8 := [c, d, c, c, d, d]
theorem str_six (c d : Nat) (hc : c < 256) (hd : d < 256) : strOfNums [(c : Int), (d : Int), (c : Int), (c : Int), (d : Int), (d : Int)] = ⟨(farWord (UInt8.ofNat c) (UInt8.ofNat d)).toArray⟩ := ba_ext (by rw [strOfNums_data]; simp [farWord])
set_option maxHeartbeats 1000000 in
set_option maxRecDepth 100000 in
theorem MatchFar_walk (a0 a1 a2 : Int) (w : World) (w0 : (Lit.int .u8 a0).wf = true) (w1 : (Lit.int .u8 a1).wf = true) (w2 : (Lit.int .i64 a2).wf = true) :
    Calls Try.prog 8 #[.int .u8 a0, .int .u8 a1, .int .i64 a2] w fun e w' => e = .returned (.bool true) ∧ Below w.heap.size w w' := by
  clear w2
  obtain ⟨c0, rfl, hc0⟩ := nat_u8 w0
  obtain ⟨d0, rfl, hd0⟩ := nat_u8 w1
  clear w0 w1
  by_cases hcd : c0 = d0
  · subst hcd
    have hb : ((c0 : Int) == (c0 : Int)) = true := by simp
    go_enter Try.func8, Try.ntmps8
    go_wp2_with (first | (go_at_call 9; go_must (refine (found _).mono ?_); rintro e w' ⟨rfl, hb⟩))
    go_ret
    exact ⟨rfl, by (repeat (first | exact Below.refl _ _ | assumption | refine bal ?_ _ | refine bdr ?_ | refine bdn ?_ _ | refine bst ?_ (by first | assumption | exact Nat.le_refl _ | omega) _ | refine bch ?_ (by assumption)))⟩
  · have hb : ((c0 : Int) == (d0 : Int)) = false := by simp; omega
    have hq := pickN_lt a2 300 (by omega)
    have hpk := fun W => keep_pick a2 300 300 W rfl (by omega) (by omega)
    generalize pickN a2 300 = q at *
    obtain ⟨n, hn⟩ : ∃ n, n = 900 + q := ⟨_, rfl⟩
    have hni : 900 + (q : Int) = (n : Int) := by omega
    have hn1 : 900 ≤ n := by omega
    have hn2 : n < 1200 := by omega
    replace hn := Lib.hid hn
    have hcv : ∀ (W : World) (g : Nat), g = W.heap.size → Sem.run Try.prog (convert 41 9 (.slice (some ⟨g, 0, none⟩) 1 1)) (W.alloc (.cells #[.int .u8 (d0 : Int)] 5)) = .ok (.string (strOfNums [(d0 : Int)])) (W.alloc (.cells #[.int .u8 (d0 : Int)] 5)) := fun W g hg => hg ▸ str1 (P := Try.prog) 41 5 9 Try.underlying41 Try.underlying5 Try.underlying9 W (d0 : Int)
    rw [str_byte d0 hd0] at hcv
    have hcw : ∀ W : World, Sem.run Try.prog (convert 41 9 (.slice (some ⟨W.heap.size, 0, none⟩) 6 6)) (W.alloc (.cells #[.int .u8 (c0 : Int), .int .u8 (d0 : Int), .int .u8 (c0 : Int), .int .u8 (c0 : Int), .int .u8 (d0 : Int), .int .u8 (d0 : Int)] 5)) = .ok (.string (strOfNums [(c0 : Int), (d0 : Int), (c0 : Int), (c0 : Int), (d0 : Int), (d0 : Int)])) (W.alloc (.cells #[.int .u8 (c0 : Int), .int .u8 (d0 : Int), .int .u8 (c0 : Int), .int .u8 (c0 : Int), .int .u8 (d0 : Int), .int .u8 (d0 : Int)] 5)) := fun W => str_of_new (P := Try.prog) W 41 5 9 Try.underlying41 Try.underlying5 Try.underlying9 [(c0 : Int), (d0 : Int), (c0 : Int), (c0 : Int), (d0 : Int), (d0 : Int)] 6 rfl
    rw [str_six c0 d0 hc0 hd0] at hcw
    generalize UInt8.ofNat d0 = d at *
    generalize UInt8.ofNat c0 = c at *
    have hrp := fun W => Try.strings_Repeat ⟨#[d]⟩ n W (by omega) (by show 1 * n ≤ _; omega)
    have hrl : Lib.repeatL (ByteArray.data ⟨#[d]⟩).toList n = List.replicate n d := repeat_one d n
    rw [hrl] at hrp
    obtain ⟨s, hs⟩ : ∃ s, s = farWord c d ++ List.replicate n d ++ farWord c d := ⟨_, rfl⟩
    have hwl : (farWord c d).length = 6 := rfl
    have hsl : s.length = n + 12 := by rw [hs]; simp only [List.length_append, hwl, List.length_replicate]; omega
    have hst : Hid ((ByteArray.mk (farWord c d).toArray ++ ByteArray.mk (Array.replicate n d) ++ ByteArray.mk (farWord c d).toArray : ByteArray) = ⟨s.toArray⟩) := Lib.hid (ba_ext (by rw [ba_app, ba_app, hs]; simp))
    have hfd := fun W => match_find ⟨s.toArray⟩ (n + 6) W (by rw [ba_size]; omega) (by rw [ba_size]; omega)
    have hsd : (ByteArray.data ⟨s.toArray⟩).toList = s := rfl
    rw [hsd] at hfd
    have hle := Match.find_le s (n + 6)
    have hfar : n + 6 ≤ 1024 → 1 ≤ (Match.find s (n + 6)).1 ∧ 6 ≤ (Match.find s (n + 6)).2 := fun h => by
      have hl : (farWord c d ++ List.replicate n d).length = n + 6 := by simp only [List.length_append, hwl, List.length_replicate]; omega
      have := Match.find_far (farWord c d) (List.replicate n d) (by rw [hl]; exact h) hwl
      rw [hl, ← hs] at this; exact this
    generalize Match.find s (n + 6) = f at *
    obtain ⟨fb, fn⟩ := f
    simp only at hfd hle hfar
    obtain ⟨hle1, hle2⟩ := hle
    replace hpk := Lib.hid hpk
    replace hrp := Lib.hid hrp
    replace hfd := Lib.hid hfd
    replace hs := Lib.hid hs
    replace hsl := Lib.hid hsl
    replace hfar := Lib.hid hfar
    clear hrl hsd
    go_enter Try.func8, Try.ntmps8
    go_wp2_with (first | (go_at_call 9; go_must (refine (found _).mono ?_); rintro e w' ⟨rfl, hb⟩))
    refine (hpk.out _).mono ?_
    rintro e w1 ⟨rfl, rfl⟩
    go_wp2_with fail
    refine (hrp.out _).mono ?_
    rintro e w2 ⟨rfl, hb2⟩
    go_wp2_with fail
    rw [hst.out, show (6 : Int) + (n : Int) = ((n + 6 : Nat) : Int) by omega]
    refine (hfd.out _).mono ?_
    rintro e w3 ⟨rfl, hb3⟩
    by_cases h1 : n + 6 ≤ 1024
    · obtain ⟨g1, g2⟩ := hfar.out h1
      go_wp2
      go_ret
      exact ⟨ret_bool (by (try simp) <;> omega), by (repeat (first | exact Below.refl _ _ | assumption | refine bal ?_ _ | refine bdr ?_ | refine bdn ?_ _ | refine bst ?_ (by first | assumption | exact Nat.le_refl _ | omega) _ | refine bch ?_ (by assumption)))⟩
    · by_cases h2 : fn < 6
      · go_wp2
        go_ret
        exact ⟨ret_bool (by (try simp) <;> omega), by (repeat (first | exact Below.refl _ _ | assumption | refine bal ?_ _ | refine bdr ?_ | refine bdn ?_ _ | refine bst ?_ (by first | assumption | exact Nat.le_refl _ | omega) _ | refine bch ?_ (by assumption)))⟩
      · go_wp2
        go_ret
        exact ⟨ret_bool (by (try simp) <;> omega), by (repeat (first | exact Below.refl _ _ | assumption | refine bal ?_ _ | refine bdr ?_ | refine bdn ?_ _ | refine bst ?_ (by first | assumption | exact Nat.le_refl _ | omega) _ | refine bch ?_ (by assumption)))⟩
end Go.Proofs.Ythoaglemjleipaa
