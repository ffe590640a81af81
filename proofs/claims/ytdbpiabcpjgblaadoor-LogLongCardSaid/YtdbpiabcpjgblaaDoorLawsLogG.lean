/- The walk of the law LogLong. -/
import Derived.Test.YtdbpiabcpjgblaaDoorWLogged
import Derived.Test.YtdbpiabcpjgblaaDoorPlainLine
import Derived.Test.YtdbpiabcpjgblaaDoorWPick
namespace Go.Proofs.YtdbpiabcpjgblaaDoor
open Go.RowKit
set_option linter.unusedVariables false
set_option linter.unusedSimpArgs false
namespace Long
def x (A : Int) : WrB := ⟨0, 0, 3, Logged.kk, Logged.e0, A⟩
theorem good {A : Int} (h0 : 1 ≤ A) (h1 : A ≤ 9) : Line.Good 1 (x A) := ⟨by omega, by omega, fun j hj => Wr.right_of (x := wr ((j : Int) + 1) 1 3 Logged.kk Logged.e0 A) (show (1 : Int) ≤ 3 by omega) (show (3 : Int) ≤ 4 by omega) (show 1 ≤ (j : Int) + 1 by omega) (show (j : Int) + 1 ≤ 1099511627776 by omega) (show (0 : Int) ≤ 1 by omega) (show (1 : Int) ≤ 200 by omega) (show Logged.kk.data.toList.length ≤ 40 by decide) (show Logged.e0.data.toList.length ≤ 300 by decide) (fun _ => rfl) (fun h => by
    rcases h with h | h
    · exact absurd (show (3 : Int) = 1 from h) (by omega)
    · exact absurd (show (3 : Int) = 2 from h) (by omega)) (fun _ => ⟨show -1125899906842624 ≤ A by omega, show A ≤ 1125899906842624 by omega⟩) (fun h => absurd (show (3 : Int) = 4 from h) (by omega))⟩
theorem sum (A : Int) (n : Nat) : St.sumAt ((Line.W 1 (x A) n).map WrB.sw) Logged.kk = n * A := by
  induction n with
  | zero => show (0 : Int) = _; simp
  | succ n ih =>
    rw [Line.W_snoc, List.map_append, List.map_singleton, St.sumAt_snoc, if_pos (show (Line.w_ 1 (x A) n).sw.key = Logged.kk from rfl), ih]
    show (n : Int) * A + A = _
    rw [show ((n + 1 : Nat) : Int) = (n : Int) + 1 by omega, Int.add_mul, Int.one_mul]
theorem kinds (A : Int) (n : Nat) : ∀ y ∈ (Line.W 1 (x A) n).map WrB.sw, y.k = 3 ∧ y.key = Logged.kk := fun y hy => by
  obtain ⟨z, hz, rfl⟩ := List.mem_map.1 hy
  obtain ⟨j, -, rfl⟩ := Line.mem_W.1 hz
  exact ⟨rfl, rfl⟩
theorem at_k (A : Int) (n : Nat) : St.at_ ((Line.W 1 (x A) n).map WrB.sw) Logged.kk = ⟨false, ⟨#[]⟩, n * A, []⟩ := by
  rw [St.at_adds _ (fun y hy => (kinds A n y hy).1), sum]; rfl
theorem at_o (A : Int) (n : Nat) {s : ByteArray} (h : s ≠ Logged.kk) : St.at_ ((Line.W 1 (x A) n).map WrB.sw) s = St.no := St.at_none _ _ fun y hy e => h (e ▸ (kinds A n y hy).2)
theorem cells0 {A : Int} {L : List St.Cel} (h : St.IsCells L (St.at_ ((Line.W 1 (x A) 0).map WrB.sw))) : L.length = 0 := by
  have : L = [] := h.unique ⟨List.Pairwise.nil, fun c => by
    constructor
    · intro hc; cases hc
    · rintro ⟨h1, h2⟩
      rw [show St.at_ ((Line.W 1 (x A) 0).map WrB.sw) c.key = St.no from rfl] at h2
      rw [← h2] at h1; cases h1⟩
  rw [this]; rfl
theorem cells1 {A : Int} {n : Nat} (hn : 0 < n) (hA : 1 ≤ A) {L : List St.Cel} (h : St.IsCells L (St.at_ ((Line.W 1 (x A) n).map WrB.sw))) : L = [⟨Logged.kk, ⟨false, ⟨#[]⟩, n * A, []⟩⟩] := by
  have hp : (0 : Int) < n * A := Int.mul_pos (by omega) (by omega)
  have hs : (⟨false, ⟨#[]⟩, n * A, []⟩ : St.Val).some_ = true := by
    unfold St.Val.some_
    rw [decide_eq_true (show (n : Int) * A ≠ 0 by omega)]; rfl
  refine h.unique ⟨List.pairwise_singleton _ _, fun c => ?_⟩
  constructor
  · intro hc; rw [List.mem_singleton] at hc; subst hc; exact ⟨hs, at_k A n⟩
  · rintro ⟨h1, h2⟩
    by_cases hc : c.key = Logged.kk
    · rw [hc, at_k] at h2
      obtain ⟨k, v⟩ := c
      simp only at hc h2
      subst hc; subst h2; simp
    · rw [at_o A n hc] at h2
      rw [← h2] at h1; cases h1
theorem cov (c n : Nat) (hc : c ≤ 1000) (hn : n ≤ 1000) : coversB (Line.H 1 c) (Line.H 1 n) = decide (n ≤ c) := by
  have fc := (Vec.right_iff _).2 (Line.H_fine (r := 1) (i := c) (by omega) (by omega) hc)
  have fn := (Vec.right_iff _).2 (Line.H_fine (r := 1) (i := n) (by omega) (by omega) hn)
  by_cases h : n ≤ c
  · rw [decide_eq_true h]
    exact (Lg.covB fc fn).2 fun r => by rw [Line.of_H, Line.of_H]; split <;> omega
  · rw [decide_eq_false h, Bool.eq_false_iff]
    intro he
    have := (Lg.covB fc fn).1 he 1
    rw [Line.of_H, Line.of_H, if_pos rfl, if_pos rfl] at this
    omega
end Long
def LongAt (w : World) (p q : Nat) (A : Int) (n c : Nat) (wr : World) : Prop := (∃ hv wv hv2 wv2, Logs wr w.heap.size (fun _ => False) [⟨p, Line.lg 1 1 (Long.x A) n, hv, wv⟩, ⟨q, Line.lg 2 1 (Long.x A) c, hv2, wv2⟩]) ∧ Below w.heap.size w wr
set_option maxHeartbeats 8000000 in
set_option maxRecDepth 20000 in
theorem LogLong_walk (n : Int) (add : Int) (w : World) (w0 : (Lit.int .i64 n).wf = true) (w1 : (Lit.int .i64 add).wf = true) (hL : Laid w) :
    Calls Tryd.prog 5 #[.int .i64 n, .int .i64 add] w fun e w' => e = .returned (.bool true) ∧ Below w.heap.size w w' := by
  have hLg := Lib.hid (keep_logged w hL)
  have hN1 := Lib.hid (fun W => log_new 1 W (by omega) (by omega))
  have hN2 := Lib.hid (fun W => log_new 2 W (by omega) (by omega))
  have hP := fun W => keep_pick n 200 200 W rfl (by omega) (by omega)
  have hP2 := fun W => keep_pick add 9 9 W rfl (by omega) (by omega)
  have hlt := pickN_lt n 200 (by omega)
  have hlt2 := pickN_lt add 9 (by omega)
  obtain ⟨A, hA⟩ : ∃ A : Int, A = 1 + (pickN add 9 : Int) := ⟨_, rfl⟩
  have wA : IntKind.i64.wrap (1 + (pickN add 9 : Int)) = A := by rw [IntWalk.i64_in _ (by omega)]; omega
  have hA0 : 1 ≤ A := by omega
  have hA9 : A ≤ 9 := by omega
  obtain ⟨N, hN⟩ : ∃ N, N = pickN n 200 := ⟨_, rfl⟩
  rw [← hN] at hP hlt
  have hG := Lib.hid (Long.good hA0 hA9)
  generalize pickN add 9 = q2 at *
  clear hN hA hlt2 w0 w1
  replace hP := Lib.hid hP
  replace hP2 := Lib.hid hP2
  go_enter Tryd.func5, Tryd.ntmps5
  go_wp2_with fail
  refine hLg.out.mono ?_
  rintro _ w1 ⟨rfl, hb1⟩
  clear hLg
  go_wp2_with fail
  refine (hP.out _).mono ?_
  rintro _ _ ⟨rfl, rfl⟩
  clear hP
  go_wp2_with fail
  refine (hP2.out _).mono ?_
  rintro _ _ ⟨rfl, rfl⟩
  clear hP2
  go_wp2_with fail
  refine (hN1.out _).mono ?_
  rintro _ w2 ⟨p, rfl, hp, hb2⟩
  go_wp2_with fail
  refine (hN2.out _).mono ?_
  rintro _ w3 ⟨q, rfl, hq, hb3⟩
  have hl2 := (Logs.nil w1 w.heap.size).snoc (a := ⟨p, Line.lg 1 1 (Long.x A) 0, .slice none 0 0, .slice none 0 0⟩) hb2 (hp.base_le hb1.size) (fun j hj => hp.mine_lo hj)
  have hbw2 := bch hb1 hb2
  have hl3 : LongAt w p q A 0 0 w3 := ⟨⟨_, _, _, _, hl2.snoc (a := ⟨q, Line.lg 2 1 (Long.x A) 0, .slice none 0 0, .slice none 0 0⟩) hb3 (hq.base_le hbw2.size) (fun j hj => hq.mine_lo hj)⟩, bch hbw2 hb3⟩
  replace hl3 := Lib.hid hl3
  clear hN1 hN2 hp hq hb1 hb2 hb3 hl2 hbw2
  go_wp2
  go_loopw [47] (fun i wr => ∃ k : Nat, k ≤ N ∧ i = .int .i64 k ∧ LongAt w p q A k 0 wr) (fun i _ => N - (intOf i).toNat)
  case atStart => exact ⟨0, by omega, rfl, hl3.out⟩
  case round =>
    obtain ⟨k, hk, rfl, ⟨hv, wv, hv2, wv2, hl⟩, hb⟩ := hrel
    clear hl3
    have hLr := Lib.hid (hL.below hb)
    by_cases hlk : k < N
    · have hLo := Lib.hid (logs_local_ok hLr.out hl (i := 0) (by simp) p rfl (Line.lg 1 1 (Long.x A) k) (Line.lg 1 1 (Long.x A) (k + 1)) rfl (Line.ok hG.out (by omega) (by omega) (by omega)) (Long.x A) (k + 1) 1 (Line.local_ hG.out ⟨rfl, rfl, rfl, rfl⟩ (by omega)) (by show Lg.top (Line.H 1 k) + 1 = _; rw [Line.top_H]) rfl)
      replace hl := Lib.hid hl
      replace hb := Lib.hid hb
      go_wp2_with fail
      refine hLo.out.mono ?_
      rintro _ w4 ⟨rfl, ht⟩
      have hb4 := hb.out.trans (ht.below hl.out hb.out.size)
      obtain ⟨hv', wv', hl4, -, -⟩ := ht
      replace hl4 := Lib.hid hl4
      clear hLo hl hb
      go_wp2
      go_roundw
      case rel => exact ⟨k + 1, by omega, by go_num, ⟨hv', wv', hv2, wv2, hl4.out.below (by (repeat (first | exact Below.refl _ _ | assumption | refine bal ?_ _ | refine bdr ?_ | refine bdn ?_ _ | refine bst ?_ (by first | assumption | exact Nat.le_refl _ | omega) _ | refine bch ?_ (by assumption))))⟩, bch hb4 (by (repeat (first | exact Below.refl _ _ | assumption | refine bal ?_ _ | refine bdr ?_ | refine bdn ?_ _ | refine bst ?_ (by first | assumption | exact Nat.le_refl _ | omega) _ | refine bch ?_ (by assumption))))⟩
      case measure => simp [intOf]; omega
    · obtain rfl : k = N := by omega
      have hat : LongAt w p q A k (min k (60 * 0)) wr := ⟨⟨hv, wv, hv2, wv2, by rw [show min k (60 * 0) = 0 by omega]; exact hl⟩, hb⟩
      replace hat := Lib.hid hat
      clear hl hb hLr hlk
      go_wp2
      go_loopw [11] (fun i wr => ∃ j : Nat, 60 * j ≤ k + 59 ∧ i = .int .i64 j ∧ LongAt w p q A k (min k (60 * j)) wr) (fun i _ => k + 60 - 60 * (intOf i).toNat)
      case atStart => exact ⟨0, by omega, rfl, hat.out⟩
      case round =>
        obtain ⟨j, hj, rfl, ⟨hv, wv, hv2, wv2, hl⟩, hb⟩ := hrel
        clear hat
        have hLr := Lib.hid (hL.below hb)
        have d1 : decide ((j : Int) < 10) = true := by simp; omega
        obtain ⟨c, hc⟩ : ∃ c, c = min k (60 * j) := ⟨_, rfl⟩
        rw [← hc] at hl
        have hH1 := Lib.hid (log_have w.heap.size q (Line.lg 2 1 (Long.x A) c) hv2 wv2 wr (hl.each 1 (by simp)) (Nat.le_trans (Line.H_fine (r := 1) (i := c) (by omega) (by omega) (by omega)).len (by omega)))
        replace hl := Lib.hid hl
        replace hb := Lib.hid hb
        go_wp2_with fail
        refine hH1.out.mono ?_
        rintro _ w4 ⟨⟨u4, rfl, hO4⟩, hb4⟩
        have hV4 : VecIs w4 u4 (Line.H 1 c) := ListIs.of_owns hO4
        have hl4 := hl.out.below hb4
        have hbw4 := bch hb.out hb4
        clear hH1 hO4 hb4 hl hb
        have hH2 := Lib.hid (log_have w.heap.size p (Line.lg 1 1 (Long.x A) k) hv wv w4 (hl4.each 0 (by simp)) (Nat.le_trans (Line.H_fine (r := 1) (i := k) (by omega) (by omega) (by omega)).len (by omega)))
        replace hl4 := Lib.hid hl4
        replace hbw4 := Lib.hid hbw4
        go_wp2_with fail
        refine hH2.out.mono ?_
        rintro _ w5 ⟨⟨u5, rfl, hO5⟩, hb5⟩
        have hV5 : VecIs w5 u5 (Line.H 1 k) := ListIs.of_owns hO5
        have hl5 := hl4.out.below hb5
        have hbw5 := bch hbw4.out hb5
        have hCv := vector_covers u4 u5 (Line.H 1 c) (Line.H 1 k) w5 (hV4.below hb5) hV5 (Nat.le_trans (Line.H_fine (r := 1) (i := c) (by omega) (by omega) (by omega)).len (by omega)) (Nat.le_trans (Line.H_fine (r := 1) (i := k) (by omega) (by omega) (by omega)).len (by omega))
        rw [Long.cov c k (by omega) (by omega)] at hCv
        replace hCv := Lib.hid hCv
        clear hH2 hO5 hb5 hl4 hbw4 hV4 hV5
        replace hl5 := Lib.hid hl5
        replace hbw5 := Lib.hid hbw5
        go_wp2_with fail
        refine hCv.out.mono ?_
        rintro _ w6 ⟨rfl, hb6⟩
        have hl6 := hl5.out.below hb6
        have hbw6 := bch hbw5.out hb6
        clear hCv hb6 hl5 hbw5
        by_cases hck : k ≤ c
        · rw [decide_eq_true hck]
          obtain rfl : k = c := by omega
          have hj1 : k ≤ 60 * j := by omega
          have hCe := log_cells w.heap.size q (Line.lg 2 1 (Long.x A) k) hv2 wv2 w6 (hl6.each 1 (by simp)) (Line.ok (rep := 2) hG.out (by omega) (by omega) (by omega)).right_ (by show (Line.W 1 (Long.x A) k).length ≤ 1000; rw [Line.W_len]; omega)
          replace hCe := Lib.hid hCe
          replace hl6 := Lib.hid hl6
          replace hbw6 := Lib.hid hbw6
          replace hc := Lib.hid hc
          replace hck := Lib.hid hck
          obtain ⟨a1, ha1⟩ : ∃ a1 : Nat, a1 = k + 60 := ⟨_, rfl⟩
          obtain ⟨a2, ha2⟩ : ∃ a2 : Nat, a2 = k + 59 := ⟨_, rfl⟩
          have e1 : IntKind.i64.wrap ((k : Int) + 60) = (a1 : Int) := by rw [IntWalk.i64_in _ (by omega)]; omega
          have e2 : IntKind.i64.wrap ((a1 : Int) - 1) = (a2 : Int) := by rw [IntWalk.i64_in _ (by omega)]; omega
          have e3 : wrap64 ((a2 : Int) / 60) = (j : Int) := by rw [IntWalk.wrap64_in _ ⟨by omega, by omega⟩]; omega
          replace ha1 := Lib.hid ha1
          replace ha2 := Lib.hid ha2
          go_wp2_with fail
          refine hCe.out.mono ?_
          rintro _ w7 ⟨v7, L7, rfl, hO7, -, hI7, hb7⟩
          have hbw7 := bch hbw6.out hb7
          have hl7 := hl6.out.below hb7
          clear hCe hb7 hl6 hbw6
          have hWa := Lib.hid (fun W (hW : Below w7.heap.size w7 W) => log_writes w.heap.size p (Line.lg 1 1 (Long.x A) k) hv wv W ((hl7.below hW).each 0 (by simp)) (by show (Line.W 1 (Long.x A) k).length ≤ 1000; rw [Line.W_len]; omega))
          have hWb := Lib.hid (fun W (hW : Below w7.heap.size w7 W) => log_writes w.heap.size q (Line.lg 2 1 (Long.x A) k) hv2 wv2 W ((hl7.below hW).each 1 (by simp)) (by show (Line.W 1 (Long.x A) k).length ≤ 1000; rw [Line.W_len]; omega))
          replace hbw7 := Lib.hid hbw7
          by_cases hk0 : k = 0
          · subst hk0
            obtain rfl : j = 0 := by omega
            clear e1 e2 e3
            have hn7 := Long.cells0 (A := A) hI7
            rw [List.length_map] at hn7
            rw [hn7] at hO7
            obtain ⟨o7, c7, rfl⟩ := owns_slice_ hO7
            clear hO7 hI7 hn7 hl7
            go_wp2_with fail
            refine (hWa.out _ (Below.refl _ _)).mono ?_
            rintro _ w8 ⟨⟨u8, rfl, hO8⟩, hb8⟩
            clear hWa
            have hV8 : WrsIs w8 u8 _ := ListIs.of_owns hO8
            go_wp2_with fail
            refine (hWb.out _ hb8).mono ?_
            rintro _ w9 ⟨⟨u9, rfl, hO9⟩, hb9⟩
            have hV9 : WrsIs w9 u9 _ := ListIs.of_owns hO9
            clear hWb
            have hEq := eq_wrs u8 u9 _ _ w9 (WrsIs.below hV8 hb9) hV9 (by show (Line.W 1 (Long.x A) 0).length ≤ _; rw [Line.W_len]; omega) (by show (Line.W 1 (Long.x A) 0).length ≤ _; rw [Line.W_len]; omega)
            rw [show decide ((Line.lg 1 1 (Long.x A) 0).W = (Line.lg 2 1 (Long.x A) 0).W) = true from rfl] at hEq
            replace hEq := Lib.hid hEq
            have hbw9 := Lib.hid (bch hbw7.out (bch hb8 hb9))
            clear hO8 hb8 hV8 hO9 hb9 hV9 hbw7
            go_wp2_with fail
            refine hEq.out.mono ?_
            rintro _ wa ⟨rfl, hba⟩
            go_wp2
            go_ret
            exact ⟨rfl, bch hbw9.out hba⟩
          · have hk0' : ((k : Int) == 0) = false := by simp; exact hk0
            have hL7 := Long.cells1 (by omega) hA0 hI7
            have hl1 : L7.length = 1 := by have := congrArg List.length hL7; simpa using this
            obtain ⟨y, rfl⟩ := List.length_eq_one_iff.1 hl1
            have hy : y.cel = ⟨Logged.kk, ⟨false, ⟨#[]⟩, k * A, []⟩⟩ := by simpa using hL7
            clear hl1
            have hne : v7 ≠ .slice none 0 0 := fun e => by
              subst e
              rcases hO7.2 with ⟨-, h0⟩ | ⟨g, cap, cur, h0, -⟩
              · cases h0
              · cases h0
            obtain ⟨g, cap, rfl⟩ := owns_addr hO7 hne
            have hcc := hO7.cells (g := g) rfl
            have c3 : w7.cell? ⟨g, 3, none⟩ = some (.int .i64 (k * A)) := by
              have := hcc 3 _ rfl
              rw [Addr.add_lit, Nat.zero_add] at this
              rw [this, hy]
            have hmul : IntKind.i64.wrap ((k : Int) * A) = (k : Int) * A := by
              have h1 : (0 : Int) ≤ k * A := Int.mul_nonneg (by omega) (by omega)
              have h2 : (k : Int) * A ≤ 200 * 9 := Int.mul_le_mul (by omega) hA9 (by omega) (by omega)
              rw [IntWalk.i64_in _ (by omega)]
            clear hO7 hI7 hL7 hl7 hcc hy hne
            obtain ⟨P, hP⟩ : ∃ P, P = (k : Int) * A := ⟨_, rfl⟩
            rw [← hP] at c3
            have hmul2 : IntKind.i64.wrap ((k : Int) * A) = P := hmul.trans hP.symm
            replace hP := Lib.hid hP
            clear hmul
            go_wp2_with fail
            refine (hWa.out _ (Below.refl _ _)).mono ?_
            rintro _ w8 ⟨⟨u8, rfl, hO8⟩, hb8⟩
            clear hWa
            have hV8 : WrsIs w8 u8 _ := ListIs.of_owns hO8
            go_wp2_with fail
            refine (hWb.out _ hb8).mono ?_
            rintro _ w9 ⟨⟨u9, rfl, hO9⟩, hb9⟩
            have hV9 : WrsIs w9 u9 _ := ListIs.of_owns hO9
            clear hWb
            have hEq := eq_wrs u8 u9 _ _ w9 (WrsIs.below hV8 hb9) hV9 (by show (Line.W 1 (Long.x A) k).length ≤ _; rw [Line.W_len]; omega) (by show (Line.W 1 (Long.x A) k).length ≤ _; rw [Line.W_len]; omega)
            rw [show decide ((Line.lg 1 1 (Long.x A) k).W = (Line.lg 2 1 (Long.x A) k).W) = true from decide_eq_true rfl] at hEq
            replace hEq := Lib.hid hEq
            have hbw9 := Lib.hid (bch hbw7.out (bch hb8 hb9))
            clear hO8 hb8 hV8 hO9 hb9 hV9 hbw7
            go_wp2_with fail
            refine hEq.out.mono ?_
            rintro _ wa ⟨rfl, hba⟩
            go_wp2
            go_ret
            exact ⟨rfl, bch hbw9.out hba⟩
        · rw [decide_eq_false hck]
          have hH3 := Lib.hid (log_have w.heap.size q (Line.lg 2 1 (Long.x A) c) hv2 wv2 w6 (hl6.each 1 (by simp)) (Nat.le_trans (Line.H_fine (r := 1) (i := c) (by omega) (by omega) (by omega)).len (by omega)))
          replace hl6 := Lib.hid hl6
          replace hbw6 := Lib.hid hbw6
          go_wp2_with fail
          refine hH3.out.mono ?_
          rintro _ w7 ⟨⟨u7, rfl, hO7⟩, hb7⟩
          have hV7 : VecIs w7 u7 (Line.H 1 c) := ListIs.of_owns hO7
          have hl7 := hl6.out.below hb7
          have hbw7 := bch hbw6.out hb7
          clear hH3 hO7 hb7 hl6 hbw6
          have fc := (Line.H_fine (r := 1) (i := c) (by omega) (by omega) (by omega))
          have hSi := Lib.hid (logs_since_ok (hL.below hbw7) hl7 (i := 0) (by simp) p rfl (Line.lg 1 1 (Long.x A) k) rfl (Line.ok hG.out (by omega) (by omega) (by omega)) hV7 (Nat.le_trans fc.len (by omega)) ((Vec.right_iff _).2 fc) (fun r => by show Vec.of (Line.H 1 c) r ≤ Vec.of (Line.H 1 k) r; rw [Line.of_H, Line.of_H]; split <;> omega) _ _ (Line.sentHave hG.out (by omega) (by omega)) Line.sent)
          replace hl7 := Lib.hid hl7
          replace hbw7 := Lib.hid hbw7
          replace fc := Lib.hid fc
          clear hV7
          go_wp2_with fail
          refine hSi.out.mono ?_
          rintro _ w8 ⟨⟨vf, vh, vw, rfl, hf, hh, hw⟩, hb8⟩
          have hVf : VecIs w8 vf _ := ListIs.of_owns hf
          have hVh : VecIs w8 vh _ := ListIs.of_owns hh
          have hVw : WrsIs w8 vw _ := ListIs.of_owns hw
          obtain ⟨M, hM⟩ : ∃ M, M = min k (c + 60) - c := ⟨_, rfl⟩
          have hlen : ((Line.W 1 (Long.x A) (min k (c + 60))).drop c).length = M := by rw [List.length_drop, Line.W_len]; omega
          rw [hlen] at hw
          obtain ⟨of, cf, rfl⟩ := owns_slice_ hf
          obtain ⟨oh, ch, rfl⟩ := owns_slice_ hh
          obtain ⟨ow, cw, rfl⟩ := owns_slice_ hw
          have fm := (Line.H_fine (r := 1) (i := min k (c + 60)) (by omega) (by omega) (by omega)).len
          have hAcp := Lib.hid (Line.accept (rep := 1) (q := 2) hG.out (by omega) (by omega) (by omega) (by omega) (n := k) (c := c) (by omega) (by omega))
          rw [← hM] at hAcp
          have hl8 := hl7.out.below hb8
          have hbw8 := bch hbw7.out hb8
          generalize hlf : (Line.H 1 c).length = lf at *
          generalize hlh : (Line.H 1 (min k (c + 60))).length = lh at *
          replace hM := Lib.hid hM
          replace hlen := Lib.hid hlen
          replace hlf := Lib.hid hlf
          replace hlh := Lib.hid hlh
          replace hl8 := Lib.hid hl8
          replace hbw8 := Lib.hid hbw8
          clear hSi hf hh hw hl7 hbw7 hb8
          go_wp2_with fail
          have hb89 : Below w8.heap.size w8 (w8.alloc (Obj.cells #[.slice of lf cf, .slice oh lh ch, .slice ow M cw] 38)) := by (repeat (first | exact Below.refl _ _ | assumption | refine bal ?_ _ | refine bdr ?_ | refine bdn ?_ _ | refine bst ?_ (by first | assumption | exact Nat.le_refl _ | omega) _ | refine bch ?_ (by assumption)))
          obtain ⟨g, hg⟩ : ∃ g, g = w8.heap.size := ⟨_, rfl⟩
          have q9 := row_at (w := w8) (g := g) #[.slice of lf cf, .slice oh lh ch, .slice ow M cw] 38 hg
          have hl9 := hl8.out.more hb89 (T' := fun j => j = g) (fun j hj => .inr (by omega)) (fun j hj => by simp; omega)
          rw [← hg]
          generalize w8.alloc (Obj.cells #[.slice of lf cf, .slice oh lh ch, .slice ow M cw] 38) = w9 at *
          have hbw9 := bch hbw8.out hb89
          replace hg := Lib.hid hg
          refine (logs_accept_ok (hL.below hbw9) hl9 (i := 1) (by simp) q rfl (Line.lg 2 1 (Long.x A) c) _ rfl (Line.ok hG.out (by omega) (by omega) (by omega)) (Line.W_asc _ _ _) (hVf.below hb89) (hVh.below hb89) (WrsIs.below hVw hb89) (Nat.le_trans fc.out.len (by omega)) (by rw [hlh.out]; omega) (Nat.le_trans (Nat.le_of_eq hlen.out) (by have := hM.out; omega)) M hAcp.out).mono ?_
          rintro _ w10 ⟨rfl, ht⟩
          have hbw10 := hbw9.trans (ht.below hl9 hbw9.size)
          obtain ⟨hv3, wv3, hl10, ho10, -⟩ := ht
          have q10 := q9.only ho10 fun ⟨hi, hm⟩ => hl9.free 1 hi g hm rfl
          have hl11 := hl10.less (T' := fun _ => False) (fun j hj => hj.elim)
          have hgl := q10.lt
          (have b0 := q10.cell 0; have b1 := q10.cell 1; have b2 := q10.cell 2; simp only [List.set_cons_succ, List.set_cons_zero, List.getElem?_cons_zero, List.getElem?_cons_succ] at b0 b1 b2)
          have hm4 : min k (c + 60) = min k (60 * (j + 1)) := by omega
          rw [hm4] at hl11
          replace hl11 := Lib.hid hl11
          replace hbw10 := Lib.hid hbw10
          clear hl8 hbw8 hb89 q9 hl9 hbw9 hVf hVh hVw ho10 hl10 q10 hAcp fm hm4
          go_wp2
          go_roundw
          case rel => exact ⟨j + 1, by omega, by go_num, ⟨hv, wv, hv3, wv3, hl11.out⟩, hbw10.out⟩
          case measure => simp [intOf]; omega
end Go.Proofs.YtdbpiabcpjgblaaDoor
