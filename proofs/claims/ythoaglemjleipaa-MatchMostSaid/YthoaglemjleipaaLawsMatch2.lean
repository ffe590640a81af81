/- Walks of the laws MatchText and MatchMost. -/
import Derived.Test.YthoaglemjleipaaLawsMatch
import Derived.Test.YthoaglemjleipaaLib4
namespace Go.Proofs.Ythoaglemjleipaa
open Go.RowKit
set_option linter.unusedVariables false
set_option maxHeartbeats 1000000 in
set_option maxRecDepth 100000 in
theorem MatchText_walk (a0 : ByteArray) (w : World) (w0 : a0.size ≤ 140737488351232) :
    Calls Try.prog 5 #[.string a0] w fun e w' => e = .returned (.bool true) ∧ Below w.heap.size w w' := by
  by_cases h : 1000 < a0.size
  · go_enter Try.func5, Try.ntmps5
    go_wp2_with (first | (go_at_call 9; go_must (refine (found _).mono ?_); rintro e w' ⟨rfl, hb⟩))
    go_ret
    exact ⟨rfl, by (repeat (first | exact Below.refl _ _ | assumption | refine bal ?_ _ | refine bdr ?_ | refine bdn ?_ _ | refine bst ?_ (by first | assumption | exact Nat.le_refl _ | omega) _ | refine bch ?_ (by assumption)))⟩
  · have hr := Match.tokens_right a0.data.toList (by rw [Match.ba_len]; omega)
    have ht := Match.tokens_text a0.data.toList
    have hown := Match.tokens_own a0.data.toList
    have hadj := Match.tokens_apart a0.data.toList
    have hemp := Match.tokens_nil a0.data.toList
    have hlen := Match.tokens_len a0.data.toList
    have hc := fun W => match_tokens a0 W (by omega)
    rw [Match.ba_len] at hown hlen
    have hemp2 : (a0.toList.isEmpty) = decide ((Match.tokens a0.data.toList).length = 0) := by
      rw [Bool.eq_iff_iff, ByteArray.toList_eq, List.isEmpty_iff, decide_eq_true_eq, List.length_eq_zero_iff, hemp]
    clear hemp
    generalize Match.tokens a0.data.toList = l at *
    have hc2 := fun W v hv => match_text_ok v l W hv (fun t ht => by have := hown t ht; omega) (by omega) hr
    have hc3 := fun W v hv => match_right v l W hv (fun t ht => by have := hown t ht; omega) (by omega)
    rw [ht, ba_mk] at hc2
    rw [hr] at hc3
    replace hc := Lib.hid hc
    replace hc2 := Lib.hid hc2
    replace hc3 := Lib.hid hc3
    replace hadj := Lib.hid hadj
    replace hemp2 := Lib.hid hemp2
    clear hr ht hown
    go_enter Try.func5, Try.ntmps5
    go_wp2_with (first | (go_at_call 9; go_must (refine (found _).mono ?_); rintro e w' ⟨rfl, hb⟩))
    refine (hc.out _).mono ?_
    rintro e w1 ⟨v, rfl, hv, hb1⟩
    obtain ⟨a, cap, rfl, hcap, hcell⟩ := hv.at tokCells_len
    replace hcell := Lib.hid hcell
    replace hcap := Lib.hid hcap
    have hvH := Lib.hid hv
    go_wp2_with fail
    refine (hc2.out _ _ hv).mono ?_
    rintro e w2 ⟨rfl, hb2⟩
    have hv2 := hv.below (by omega) hb2
    go_wp2
    go_loopw [6] (fun i wr => ∃ k : Nat, 1 ≤ k ∧ (k ≤ l.length ∨ k = 1) ∧ i = .int .i64 k ∧ Below w.heap.size w wr ∧ Below w1.heap.size w1 wr) (fun i _ => l.length - (intOf i).toNat)
    case atStart => exact ⟨1, by omega, .inr rfl, rfl, by (repeat (first | exact Below.refl _ _ | assumption | refine bal ?_ _ | refine bdr ?_ | refine bdn ?_ _ | refine bst ?_ (by first | assumption | exact Nat.le_refl _ | omega) _ | refine bch ?_ (by assumption))), hb2⟩
    case round =>
      clear hv2 hv hb2 hb1
      obtain ⟨k, hk1, hk2, rfl, hbel, hbel1⟩ := hrel
      have hsz := hbel.size
      have hk3 : k ≤ l.length + 1 := by omega
      clear hk2
      by_cases hlt : k < l.length
      · obtain ⟨b, off, rfl, hbw, hc⟩ := hcell.out k hlt
        obtain ⟨b', off', he, hbw', hc'⟩ := hcell.out (k - 1) (by omega)
        simp only [Option.some.injEq, Addr.mk.injEq, and_true] at he
        obtain ⟨rfl, rfl⟩ := he
        have hbw := hbw (by omega)
        have c0 : wr.cell? ⟨b, off + k * 3, none⟩ = some (.string l[k].own) := (hbel1.cell (p := ⟨b, off + k * 3, none⟩) hbw).trans (hc 0 _ rfl)
        have c1 : wr.cell? ⟨b, off + (k - 1) * 3, none⟩ = some (.string (l[k - 1]'(by omega)).own) := (hbel1.cell (p := ⟨b, off + (k - 1) * 3, none⟩) hbw).trans (hc' 0 _ rfl)
        have hap := Match.apart_at hadj.out (k - 1) (by omega)
        have hsub : ((k : Int) - 1) = ((k - 1 : Nat) : Int) := by omega
        have hap2 : ¬ ((l[k - 1]'(by omega)).own.size ≠ 0 ∧ l[k].own.size ≠ 0) := by
          have e : k - 1 + 1 = k := by omega
          simp only [e] at hap; exact hap
        clear hap hc hc' hbw' hbw
        generalize l[k] = t at *
        generalize l[k - 1]'(by omega) = u at *
        by_cases ht : t.own.size = 0
        · have h1 := empty_of_size ht
          replace hap2 := Lib.hid hap2
          replace ht := Lib.hid ht
          go_wp2
          go_roundw
          case rel => exact ⟨k + 1, by omega, .inl (by omega), by go_num, by assumption, by assumption⟩
          case measure => simp [intOf]; omega
        · have h1 := nonempty_of_size ht
          have hu : u.own.size = 0 := by omega
          have h2 := empty_of_size hu
          replace hap2 := Lib.hid hap2
          replace ht := Lib.hid ht
          replace hu := Lib.hid hu
          go_wp2
          go_roundw
          case rel => exact ⟨k + 1, by omega, .inl (by omega), by go_num, by assumption, by assumption⟩
          case measure => simp [intOf]; omega
      · go_wp2_with fail
        have hv3 : TokIs wr (.slice a l.length cap) l := hvH.out.below (by omega) hbel1
        refine (hc3.out _ _ hv3).mono ?_
        rintro e w4 ⟨u, rfl, hu, hb4⟩
        have hu : u = .nilIface := hu
        subst hu
        go_wp2
        go_ret
        exact ⟨ret_bool (by
          have hl0 : ((l.length : Int) == 0) = decide (l.length = 0) := by rw [Bool.eq_iff_iff, beq_iff_eq, decide_eq_true_eq]; omega
          rw [hemp2.out, hl0]; simp only [beq_self_eq_true]), by (repeat (first | exact Below.refl _ _ | assumption | refine bal ?_ _ | refine bdr ?_ | refine bdn ?_ _ | refine bst ?_ (by first | assumption | exact Nat.le_refl _ | omega) _ | refine bch ?_ (by assumption)))⟩
set_option maxHeartbeats 1000000 in
set_option maxRecDepth 100000 in
theorem MatchMost_walk (a0 : ByteArray) (a1 a2 : Int) (w : World) (w0 : a0.size ≤ 140737488351232) (w1 : (Lit.int .i64 a1).wf = true) (w2 : (Lit.int .i64 a2).wf = true) :
    Calls Try.prog 4 #[.string a0, .int .i64 a1, .int .i64 a2] w fun e w' => e = .returned (.bool true) ∧ Below w.heap.size w w' := by
  clear w1 w2
  by_cases h : 1000 < a0.size
  · go_enter Try.func4, Try.ntmps4
    go_wp2_with (first | (go_at_call 9; go_must (refine (found _).mono ?_); rintro e w' ⟨rfl, hb⟩))
    go_ret
    exact ⟨rfl, by (repeat (first | exact Below.refl _ _ | assumption | refine bal ?_ _ | refine bdr ?_ | refine bdn ?_ _ | refine bst ?_ (by first | assumption | exact Nat.le_refl _ | omega) _ | refine bch ?_ (by assumption)))⟩
  · by_cases h0 : a0.size = 0
    · have he := empty_of_size h0
      go_enter Try.func4, Try.ntmps4
      go_wp2_with (first | (go_at_call 9; go_must (refine (found _).mono ?_); rintro e w' ⟨rfl, hb⟩))
      go_ret
      exact ⟨rfl, by (repeat (first | exact Below.refl _ _ | assumption | refine bal ?_ _ | refine bdr ?_ | refine bdn ?_ _ | refine bst ?_ (by first | assumption | exact Nat.le_refl _ | omega) _ | refine bch ?_ (by assumption)))⟩
    · have he := nonempty_of_size h0
      have hp := pickN_lt a1 a0.size (by omega)
      have hpk := fun W => keep_pick a1 a0.size a0.size W rfl (by omega) (by omega)
      generalize pickN a1 a0.size = p at *
      have hf := fun W => match_find a0 p W w0 hp
      replace hpk := Lib.hid hpk
      by_cases hp0 : p = 0
      · have hz : Match.find a0.data.toList p = (0, 0) := by subst hp0; rfl
        rw [hz] at hf
        have hpb : ((p : Int) == 0) = true := by simp [hp0]
        subst hp0
        replace hf := Lib.hid hf
        go_enter Try.func4, Try.ntmps4
        go_wp2_with (first | (go_at_call 9; go_must (refine (found _).mono ?_); rintro e w' ⟨rfl, hb⟩) | (go_at_call 10; go_must (refine (hpk.out _).mono ?_); rintro e w' ⟨rfl, rfl⟩))
        refine (hf.out _).mono ?_
        rintro e w2 ⟨rfl, hb2⟩
        go_wp2
        go_ret
        exact ⟨rfl, by (repeat (first | exact Below.refl _ _ | assumption | refine bal ?_ _ | refine bdr ?_ | refine bdn ?_ _ | refine bst ?_ (by first | assumption | exact Nat.le_refl _ | omega) _ | refine bch ?_ (by assumption)))⟩
      · have hq := pickN_lt a2 p (by omega)
        have hpk2 := fun W => keep_pick a2 p p W rfl (by omega) (by omega)
        have hsp := Match.find_spec a0.data.toList p
        rw [show min p 1024 = p by omega] at hsp
        generalize pickN a2 p = q at *
        have hm1 := Match.alike_stop a0.data.toList (p - (q + 1)) p 67
        have hmx := Match.alike_max a0.data.toList (p - (q + 1)) p 67
        have hfin : Match.alike a0.data.toList (p - (q + 1)) p 67 < 4 ∨ Match.alike a0.data.toList (p - (q + 1)) p 67 < (Match.find a0.data.toList p).2 ∨ (Match.alike a0.data.toList (p - (q + 1)) p 67 = (Match.find a0.data.toList p).2 ∧ (Match.find a0.data.toList p).1 ≤ q + 1) := by
          rcases hsp with ⟨_, h2⟩ | h2
          · exact .inl (h2 (q + 1) (by omega) (by omega))
          · obtain ⟨h3, h4⟩ := h2.max (q + 1) (by omega) (by omega)
            by_cases h5 : Match.alike a0.data.toList (p - (q + 1)) p 67 = (Match.find a0.data.toList p).2
            · exact .inr (.inr ⟨h5, h4 h5⟩)
            · exact .inr (.inl (by omega))
        clear hsp hmx hm1
        have hfl := Match.find_le a0.data.toList p
        generalize Match.find a0.data.toList p = f at *
        obtain ⟨fb, fn⟩ := f
        simp only at hf hfin hfl
        have hpb : ((p : Int) == 0) = false := by simp; omega
        have hpb2 : ¬ p = 0 := hp0
        obtain ⟨hfl1, hfl2⟩ := hfl
        replace hf := Lib.hid hf
        replace hpk2 := Lib.hid hpk2
        replace hfin := Lib.hid hfin
        obtain ⟨b, hb⟩ : ∃ b, b = q + 1 := ⟨_, rfl⟩
        have hb' : q + 1 = b := hb.symm
        rw [hb'] at hfin
        have hb1 : 1 ≤ b := by omega
        have hb2 : b ≤ p := by omega
        have hbi : 1 + (q : Int) = (b : Int) := by omega
        replace hb := Lib.hid hb
        clear hb' hp0
        go_enter Try.func4, Try.ntmps4
        go_wp2_with (go_at_call 9; go_must (refine (found _).mono ?_); rintro e w' ⟨rfl, hb⟩)
        refine (hpk.out _).mono ?_
        rintro e w' ⟨rfl, rfl⟩
        go_wp2_with fail
        refine (hpk2.out _).mono ?_
        rintro e w' ⟨rfl, rfl⟩
        go_wp2_with fail
        refine (hf.out _).mono ?_
        rintro e w5 ⟨rfl, hb5⟩
        go_wp2
        have hbel5 : Below w.heap.size w w5 := by (repeat (first | exact Below.refl _ _ | assumption | refine bal ?_ _ | refine bdr ?_ | refine bdn ?_ _ | refine bst ?_ (by first | assumption | exact Nat.le_refl _ | omega) _ | refine bch ?_ (by assumption)))
        clear hb5
        generalize hA : Match.alike a0.data.toList (p - b) p 67 = A at *
        go_loopw [11] (fun n wr => ∃ k : Nat, k ≤ 67 ∧ n = .int .i64 k ∧ A = k + Match.alike a0.data.toList (p - b + k) (p + k) (67 - k) ∧ Below w.heap.size w wr) (fun n _ => 67 - (intOf n).toNat)
        case atStart => exact ⟨0, by omega, rfl, by rw [← hA]; simp, hbel5⟩
        case round =>
          clear hbel5 hA
          obtain ⟨k, hk, rfl, hal, hbel⟩ := hrel
          have hsz := hbel.size
          by_cases hlt : k < 67
          · by_cases hbk : p + k < a0.size
            · obtain ⟨q2, hq2⟩ : ∃ q2, q2 = p + k - b := ⟨_, rfl⟩
              obtain ⟨r, hr⟩ : ∃ r, r = p + k := ⟨_, rfl⟩
              have nr : r < a0.size := by omega
              have nq : q2 < a0.size := by omega
              have hla := getQ a0 q2 nq
              have hlb := getQ a0 r nr
              have hd : decide ((k : Int) < 67) = true := by simp; omega
              have hd2 : decide ((r : Int) < (a0.size : Int)) = true := by simp; omega
              have w1 : IntKind.i64.wrap ((p : Int) + (k : Int)) = (r : Int) := by rw [IntWalk.i64_in _ (by omega)]; omega
              have w2 : IntKind.i64.wrap ((r : Int) - (b : Int)) = (q2 : Int) := by rw [IntWalk.i64_in _ (by omega)]; omega
              have eq2 : p - b + k = q2 := by omega
              rw [eq2, ← hr] at hal
              by_cases he : a0[q2] = a0[r]
              · have hal2 : Hid (A = (k + 1) + Match.alike a0.data.toList (p - b + (k + 1)) (p + (k + 1)) (67 - (k + 1))) := Lib.hid (by
                  rw [hal, show 67 - k = 67 - (k + 1) + 1 by omega, Match.alike_yes (by rw [Match.ba_len]; exact nr) (by rw [hla, hlb, he])]
                  rw [show q2 + 1 = p - b + (k + 1) by omega, show r + 1 = p + (k + 1) by omega]; omega)
                have hv : (((a0[r]).toNat : Int) == ((a0[q2]).toNat : Int)) = true := by simp [he]
                clear he hla hlb hal
                replace hr := Lib.hid hr
                replace hq2 := Lib.hid hq2
                replace eq2 := Lib.hid eq2
                go_wp2
                go_quiet (fail)
                go_wp2
                go_roundw
                case rel => exact ⟨k + 1, by omega, by go_num, hal2.out, by (repeat (first | exact Below.refl _ _ | assumption | refine bal ?_ _ | refine bdr ?_ | refine bdn ?_ _ | refine bst ?_ (by first | assumption | exact Nat.le_refl _ | omega) _ | refine bch ?_ (by assumption)))⟩
                case measure => simp [intOf]; omega
              · have hal2 : A = k := by rw [hal, Match.alike_no (by rw [hla, hlb]; simp [he])]; rfl
                have hv : (((a0[r]).toNat : Int) == ((a0[q2]).toNat : Int)) = false := by
                  rw [beq_eq_false_iff_ne]; intro e; exact he (UInt8.toNat_inj.1 (by omega))
                clear he hla hlb hal
                have hfin2 := hfin.out
                rw [hal2] at hfin2
                replace hal2 := Lib.hid hal2
                replace hr := Lib.hid hr
                replace hq2 := Lib.hid hq2
                replace eq2 := Lib.hid eq2
                rcases hfin2 with h4 | h4 | ⟨h4, h5⟩
                · go_wp2
                  go_quiet (fail)
                  go_wp2
                  go_ret
                  exact ⟨rfl, by (repeat (first | exact Below.refl _ _ | assumption | refine bal ?_ _ | refine bdr ?_ | refine bdn ?_ _ | refine bst ?_ (by first | assumption | exact Nat.le_refl _ | omega) _ | refine bch ?_ (by assumption)))⟩
                · by_cases h6 : k < 4
                  · go_wp2
                    go_quiet (fail)
                    go_wp2
                    go_ret
                    exact ⟨rfl, by (repeat (first | exact Below.refl _ _ | assumption | refine bal ?_ _ | refine bdr ?_ | refine bdn ?_ _ | refine bst ?_ (by first | assumption | exact Nat.le_refl _ | omega) _ | refine bch ?_ (by assumption)))⟩
                  · go_wp2
                    go_quiet (fail)
                    go_wp2
                    go_ret
                    exact ⟨rfl, by (repeat (first | exact Below.refl _ _ | assumption | refine bal ?_ _ | refine bdr ?_ | refine bdn ?_ _ | refine bst ?_ (by first | assumption | exact Nat.le_refl _ | omega) _ | refine bch ?_ (by assumption)))⟩
                · by_cases h6 : k < 4
                  · clear h4 h5
                    go_wp2
                    go_quiet (fail)
                    go_wp2
                    go_ret
                    exact ⟨rfl, by (repeat (first | exact Below.refl _ _ | assumption | refine bal ?_ _ | refine bdr ?_ | refine bdn ?_ _ | refine bst ?_ (by first | assumption | exact Nat.le_refl _ | omega) _ | refine bch ?_ (by assumption)))⟩
                  · have e4 : ((k : Int) == (fn : Int)) = true := by simp; omega
                    have h7 : ¬ k < fn := by omega
                    clear h4
                    go_wp2
                    go_quiet (fail)
                    go_wp2
                    go_ret
                    exact ⟨rfl, by (repeat (first | exact Below.refl _ _ | assumption | refine bal ?_ _ | refine bdr ?_ | refine bdn ?_ _ | refine bst ?_ (by first | assumption | exact Nat.le_refl _ | omega) _ | refine bch ?_ (by assumption)))⟩
            · have hal2 : A = k := by rw [hal, Match.alike_no (by rw [Match.ba_len]; intro hh; omega)]; rfl
              have hfin2 := hfin.out
              rw [hal2] at hfin2
              have hd : decide ((k : Int) < 67) = true := by simp; omega
              have hd2 : decide ((p : Int) + (k : Int) < (a0.size : Int)) = false := by simp; omega
              have w1 : IntKind.i64.wrap ((p : Int) + (k : Int)) = (p : Int) + k := IntWalk.i64_in _ (by omega)
              clear hal
              replace hal2 := Lib.hid hal2
              rcases hfin2 with h4 | h4 | ⟨h4, h5⟩
              · go_wp2
                go_quiet (fail)
                go_wp2
                go_ret
                exact ⟨rfl, by (repeat (first | exact Below.refl _ _ | assumption | refine bal ?_ _ | refine bdr ?_ | refine bdn ?_ _ | refine bst ?_ (by first | assumption | exact Nat.le_refl _ | omega) _ | refine bch ?_ (by assumption)))⟩
              · by_cases h6 : k < 4
                · go_wp2
                  go_quiet (fail)
                  go_wp2
                  go_ret
                  exact ⟨rfl, by (repeat (first | exact Below.refl _ _ | assumption | refine bal ?_ _ | refine bdr ?_ | refine bdn ?_ _ | refine bst ?_ (by first | assumption | exact Nat.le_refl _ | omega) _ | refine bch ?_ (by assumption)))⟩
                · go_wp2
                  go_quiet (fail)
                  go_wp2
                  go_ret
                  exact ⟨rfl, by (repeat (first | exact Below.refl _ _ | assumption | refine bal ?_ _ | refine bdr ?_ | refine bdn ?_ _ | refine bst ?_ (by first | assumption | exact Nat.le_refl _ | omega) _ | refine bch ?_ (by assumption)))⟩
              · by_cases h6 : k < 4
                · clear h4 h5
                  go_wp2
                  go_quiet (fail)
                  go_wp2
                  go_ret
                  exact ⟨rfl, by (repeat (first | exact Below.refl _ _ | assumption | refine bal ?_ _ | refine bdr ?_ | refine bdn ?_ _ | refine bst ?_ (by first | assumption | exact Nat.le_refl _ | omega) _ | refine bch ?_ (by assumption)))⟩
                · have e4 : ((k : Int) == (fn : Int)) = true := by simp; omega
                  have h7 : ¬ k < fn := by omega
                  clear h4
                  go_wp2
                  go_quiet (fail)
                  go_wp2
                  go_ret
                  exact ⟨rfl, by (repeat (first | exact Below.refl _ _ | assumption | refine bal ?_ _ | refine bdr ?_ | refine bdn ?_ _ | refine bst ?_ (by first | assumption | exact Nat.le_refl _ | omega) _ | refine bch ?_ (by assumption)))⟩
          · have hal2 : A = k := by rw [hal, show 67 - k = 0 by omega]; rfl
            have hfin2 := hfin.out
            rw [hal2] at hfin2
            have hd : decide ((k : Int) < 67) = false := by simp; omega
            clear hal
            replace hal2 := Lib.hid hal2
            rcases hfin2 with h4 | h4 | ⟨h4, h5⟩
            · omega
            · omega
            · have e4 : ((k : Int) == (fn : Int)) = true := by simp; omega
              have h7 : ¬ k < fn := by omega
              have h6 : ¬ k < 4 := by omega
              clear h4
              go_wp2
              go_quiet (fail)
              go_wp2
              go_ret
              exact ⟨rfl, by (repeat (first | exact Below.refl _ _ | assumption | refine bal ?_ _ | refine bdr ?_ | refine bdn ?_ _ | refine bst ?_ (by first | assumption | exact Nat.le_refl _ | omega) _ | refine bch ?_ (by assumption)))⟩
end Go.Proofs.Ythoaglemjleipaa
