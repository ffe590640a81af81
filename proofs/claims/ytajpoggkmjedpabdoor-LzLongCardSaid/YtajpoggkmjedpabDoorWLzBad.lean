/- The walk of lz.Read where something is wrong; of lz.Write where a token isn't right. -/
import Derived.Test.YtajpoggkmjedpabDoorWLzS
import Derived.Test.YtajpoggkmjedpabDoorWTell3
import Derived.Test.YtajpoggkmjedpabDoorHeld
namespace Go.Proofs.YtajpoggkmjedpabDoor
open Go.RowKit
set_option linter.unusedVariables false
set_option linter.unusedSimpArgs false
def RetFail (w : World) (e : Ending) (w' : World) : Prop := (∃ g, e = .returned (.tuple #[.slice none 0 0, .iface 40 (.pointer (some ⟨g, 0, none⟩))])) ∧ Below w.heap.size w w'
set_option maxHeartbeats 1000000 in
theorem lz_fail (x p : Int) (w : World) : Calls Tryd.prog 13 #[.int .i64 x, .int .i64 p] w (RetFail w) := by
  go_enter Tryd.func13, Tryd.ntmps13
  go_wp2
  go_ret2
  exact ⟨⟨_, rfl⟩, by (repeat (first | exact Below.refl _ _ | assumption | refine bal ?_ _ | refine bdr ?_ | refine bdn ?_ _ | refine bst ?_ (by first | assumption | exact Nat.le_refl _ | omega) _ | refine bch ?_ (by assumption)))⟩
theorem one_none {l : List UInt8} (h : Lz.one l = none) : (∃ e, Vary.get l = .bad e) ∨ ∃ n k', Vary.get l = .ok n k' ∧ 1 ≤ k' ∧ k' ≤ l.length ∧ n < 18446744073709551616 ∧
    ((n % 2 = 0 ∧ n / 2 = 0) ∨ (n % 2 = 0 ∧ n / 2 ≠ 0 ∧ l.length - k' < n / 2) ∨ (n % 2 = 1 ∧ 63 < n / 2) ∨ (n % 2 = 1 ∧ n / 2 ≤ 63 ∧ ∃ e, Vary.int (l.drop k') 1023 = .bad e)) := by
  unfold Lz.one at h
  cases hg : Vary.get l with
  | bad e => exact .inl ⟨e, rfl⟩
  | ok n k' =>
    rw [hg] at h
    simp only at h
    obtain ⟨g1, g2, g3, g4⟩ := Vary.get_ok _ _ _ hg
    refine .inr ⟨n, k', rfl, g1, g2, g4, ?_⟩
    split at h
    · rename_i he
      split at h
      · rename_i hn
        by_cases h0 : n / 2 = 0
        · exact .inl ⟨he, h0⟩
        · exact .inr (.inl ⟨he, h0, by omega⟩)
      · cases h
    · rename_i he
      split at h
      · rename_i h63; exact .inr (.inr (.inl ⟨by omega, h63⟩))
      · rename_i h63
        cases hi : Vary.int (l.drop k') 1023 with
        | bad e => exact .inr (.inr (.inr ⟨by omega, by omega, e, rfl⟩))
        | ok b j => rw [hi] at h; cases h
theorem right_some_lt (l : List Match.Tok) (i n x j : Nat) (h : Match.right l i n = some (x, j)) : i ≤ j ∧ j < i + l.length := by
  induction l generalizing i n with
  | nil => cases h
  | cons t l ih =>
    unfold Match.right at h
    split at h
    · injection h with h
      injection h with h1 h2
      simp only [List.length_cons]; omega
    · have := ih _ _ h
      simp only [List.length_cons]; omega
set_option maxHeartbeats 8000000 in
set_option maxRecDepth 100000 in
theorem lz_read_bad (s : ByteArray) (w : World) (hs : s.size ≤ 700000) (hbad : Lz.read s.data.toList = none) (hL : Laid w) :
    Calls Tryd.prog 6 #[.string s] w (RetFail w) := by
  have hll : s.data.toList.length = s.size := Array.length_toList
  have hget := fun q W => vary_get (s.extract q s.size) W (by simp only [ByteArray.size_extract]; unfold maxLen; omega)
  have hint := fun q m (hm : m ≤ 9223372036854775807) W => vary_int (s.extract q s.size) m W (by simp only [ByteArray.size_extract]; unfold maxLen; omega) hm
  have hdr := fun q => (drop_str s _ rfl q).1
  simp only [hdr] at hget hint
  have hmid := fun q k h => mid_str s q k h
  have hF := fun x p W => lz_fail x p W
  generalize s.data.toList = S at *
  obtain ⟨A, hA⟩ : ∃ A, A = Lz.all S := ⟨_, rfl⟩
  have hAb : ∀ ts, A = some ts → Match.right ts 0 0 ≠ none := fun ts h hr => by
    unfold Lz.read at hbad
    rw [← hA, h] at hbad
    simp only at hbad
    rw [if_pos hr] at hbad
    cases hbad
  replace hget := Lib.hid hget
  replace hint := Lib.hid hint
  replace hmid := Lib.hid hmid
  replace hF := Lib.hid hF
  replace hAb := Lib.hid hAb
  replace hbad := Lib.hid hbad
  clear hdr
  go_enter Tryd.func6, Tryd.ntmps6
  go_wp2
  go_loopw [4, 5, 7] (fun o st p wr => ∃ (q : Nat) (acc : List Match.Tok) (xs : List Int), q ≤ s.size ∧ p = .int .i64 q ∧ acc.length ≤ q ∧ xs.length = acc.length ∧ Hid (∀ t ∈ acc, t.own.size ≤ s.size) ∧ Hid ((Lz.all (S.drop q)).map (acc ++ ·) = A) ∧
    wr.ownsRow w.heap.size 31 3 o acc.length (acc.flatMap tokCells) ∧ wr.ownsRow w.heap.size 3 1 st xs.length (xs.map (Value.int .i64)) ∧ Hid (o.ownBlock = none ∨ o.ownBlock ≠ st.ownBlock) ∧ Below w.heap.size w wr) (fun _ _ p _ => s.size - (intOf p).toNat)
  case atStart => exact ⟨0, [], [], by omega, rfl, by simp, rfl, Lib.hid (by simp), Lib.hid (by rw [hA, List.drop_zero]; cases Lz.all S <;> rfl), World.ownsRow_nil _ _ _ _, World.ownsRow_nil _ _ _ _, Lib.hid (.inl rfl), by (repeat (first | exact Below.refl _ _ | assumption | refine bal ?_ _ | refine bdr ?_ | refine bdn ?_ _ | refine bst ?_ (by first | assumption | exact Nat.le_refl _ | omega) _ | refine bch ?_ (by assumption)))⟩
  case round =>
    obtain ⟨q, acc, xs, hq, rfl, hac, hxs, hown0, hal, hown, hown2, hap, hbel⟩ := hrel
    have hsz := hbel.size
    by_cases hlt : q < s.size
    · have hne : S.drop q ≠ [] := fun h => by rw [List.drop_eq_nil_iff] at h; omega
      have hal2 := hal.out
      rw [Lz.all_cons hne] at hal2
      have hlo := fun k (hk : wr.heap.size ≤ k) => owns_lt hown k hk
      go_wp2_with (at_builtin; go_must (refine app_one rfl _ _ 38 3 rfl w.heap.size (.int .i64 0) 1 8 Tryd.underlying38 (by kernel_rfl) rfl _ _ _ rfl hown2 _ rfl rfl ?_ (by omega) (by omega) hsz ?_))
      · first | exact ⟨rfl, rfl⟩ | rfl | simp [Value.oneCell']
      intro v1 w2 r1 r2 r3 r4 r5
      have hown3 := owns_grown hown r2 hap.out
      have hap2 := Lib.hid (apart_next hap.out r3 hlo (by omega))
      have hbel2 := hbel.trans r5
      have hxl : xs.length + 1 = (xs ++ [(q : Int)]).length := by simp
      have hxm : xs.map (Value.int .i64) ++ [Value.int .i64 (q : Int)] = (xs ++ [(q : Int)]).map (Value.int .i64) := by simp
      have hown4 : w2.ownsRow w.heap.size 3 1 v1 (xs ++ [(q : Int)]).length ((xs ++ [(q : Int)]).map (Value.int .i64)) := by rw [← hxl, ← hxm, hxs]; exact r1
      have hxs2 : (xs ++ [(q : Int)]).length = acc.length + 1 := by rw [← hxl]; omega
      clear r1 r2 r3 r4 r5 hown hown2 hap hlo hbel hsz hxl hxs hxm
      generalize xs ++ [(q : Int)] = xs2 at *
      have hsz := hbel2.size
      cases ho : Lz.one (S.drop q) with
      | none =>
        clear hal hal2 hown0
        rcases one_none ho with ⟨e, he⟩ | ⟨n, k', hgt, hk1, hk', hn64, hcase⟩
        · have hG := hget.out q
          rw [he] at hG
          have hgv : gotVal (.bad e) = .tuple #[.int .u64 0, .int .i64 0, .iface 39 (.int .i64 e)] := rfl
          replace hG := Lib.hid hG
          clear ho he hown3 hown4 hap2
          go_wp2_with fail
          refine (hG.out _).mono ?_
          rintro _ w3 ⟨rfl, rfl⟩
          go_wp2_with fail
          refine (tell_errno e _ (hL.below hbel2)).mono ?_
          rintro _ w4 ⟨rfl, hb4⟩
          go_wp2_with fail
          refine (hF.out _ _ _).mono ?_
          rintro _ w5 ⟨⟨g, rfl⟩, hb5⟩
          go_wp2
          go_ret2
          exact ⟨⟨g, rfl⟩, by (repeat (first | exact Below.refl _ _ | assumption | refine bal ?_ _ | refine bdr ?_ | refine bdn ?_ _ | refine bst ?_ (by first | assumption | exact Nat.le_refl _ | omega) _ | refine bch ?_ (by assumption)))⟩
        · have hG := hget.out q
          rw [hgt] at hG
          have hgv : gotVal (.ok n k') = .tuple #[.int .u64 n, .int .i64 k', .nilIface] := rfl
          rw [List.length_drop, hll] at hk' hcase
          have hand := u64_and1 hn64
          obtain ⟨h, hh⟩ : ∃ h, h = n / 2 := ⟨_, rfl⟩
          have hshr : (n : Int) / 2 = (h : Int) := by omega
          rw [← hh] at hcase
          replace hG := Lib.hid hG
          clear ho hgt hown3 hown4 hap2
          rcases hcase with ⟨c1, c2⟩ | ⟨c1, c2, c3⟩ | ⟨c1, c2⟩ | ⟨c1, c2, e, c3⟩
          · have hand0 : bits .and .u64 (n : Int) 1 = 0 := by rw [hand, c1]; rfl
            subst c2
            replace hh := Lib.hid hh
            clear hand
            go_wp2_with fail
            refine (hG.out _).mono ?_
            rintro _ w3 ⟨rfl, rfl⟩
            go_wp2_with fail
            refine (hF.out _ _ _).mono ?_
            rintro _ w5 ⟨⟨g, rfl⟩, hb5⟩
            go_wp2
            go_ret2
            exact ⟨⟨g, rfl⟩, by (repeat (first | exact Below.refl _ _ | assumption | refine bal ?_ _ | refine bdr ?_ | refine bdn ?_ _ | refine bst ?_ (by first | assumption | exact Nat.le_refl _ | omega) _ | refine bch ?_ (by assumption)))⟩
          · have hand0 : bits .and .u64 (n : Int) 1 = 0 := by rw [hand, c1]; rfl
            obtain ⟨z, hz⟩ : ∃ z : Nat, z = s.size - q - k' := ⟨_, rfl⟩
            have hz1 : (s.size : Int) - (q : Int) - (k' : Int) = (z : Int) := by omega
            have hz2 : IntKind.u64.wrap (z : Int) = (z : Int) := by rw [IntKind.wrap_u64]; omega
            have hz2' : IntKind.u64.wrap ((s.size : Int) - (q : Int) - (k' : Int)) = (z : Int) := by rw [hz1, hz2]
            have hz3 : decide (z < h) = true := by simp; omega
            have hz5 : ((h : Int) == 0) = false := by simp; omega
            replace hh := Lib.hid hh
            replace hz := Lib.hid hz
            clear hand
            go_wp2_with fail
            refine (hG.out _).mono ?_
            rintro _ w3 ⟨rfl, rfl⟩
            go_wp2_with fail
            refine (hF.out _ _ _).mono ?_
            rintro _ w5 ⟨⟨g, rfl⟩, hb5⟩
            go_wp2
            go_ret2
            exact ⟨⟨g, rfl⟩, by (repeat (first | exact Below.refl _ _ | assumption | refine bal ?_ _ | refine bdr ?_ | refine bdn ?_ _ | refine bst ?_ (by first | assumption | exact Nat.le_refl _ | omega) _ | refine bch ?_ (by assumption)))⟩
          · have hand0 : bits .and .u64 (n : Int) 1 = 1 := by rw [hand, c1]; rfl
            have hz3 : decide (63 < h) = true := by simp; omega
            replace hh := Lib.hid hh
            clear hand
            go_wp2_with fail
            refine (hG.out _).mono ?_
            rintro _ w3 ⟨rfl, rfl⟩
            go_wp2_with fail
            refine (hF.out _ _ _).mono ?_
            rintro _ w5 ⟨⟨g, rfl⟩, hb5⟩
            go_wp2
            go_ret2
            exact ⟨⟨g, rfl⟩, by (repeat (first | exact Below.refl _ _ | assumption | refine bal ?_ _ | refine bdr ?_ | refine bdn ?_ _ | refine bst ?_ (by first | assumption | exact Nat.le_refl _ | omega) _ | refine bch ?_ (by assumption)))⟩
          · have hand0 : bits .and .u64 (n : Int) 1 = 1 := by rw [hand, c1]; rfl
            have hb1 := hint.out (q + k') 1023 (by omega)
            rw [List.drop_drop] at c3
            rw [c3] at hb1
            have hbv : intVal (.bad e) = .tuple #[.int .i64 0, .int .i64 0, .iface 39 (.int .i64 e)] := rfl
            replace hb1 := Lib.hid hb1
            have hz3 : decide (63 < h) = false := by simp; omega
            have hkq : q + k' ≤ s.size := by omega
            replace hh := Lib.hid hh
            clear hand c3
            go_wp2_with fail
            refine (hG.out _).mono ?_
            rintro _ w3 ⟨rfl, rfl⟩
            go_wp2_with fail
            refine (hb1.out _).mono ?_
            rintro _ w3 ⟨rfl, rfl⟩
            go_wp2_with fail
            refine (tell_errno e _ (hL.below hbel2)).mono ?_
            rintro _ w4 ⟨rfl, hb4⟩
            go_wp2_with fail
            refine (hF.out _ _ _).mono ?_
            rintro _ w5 ⟨⟨g, rfl⟩, hb5⟩
            go_wp2
            go_ret2
            exact ⟨⟨g, rfl⟩, by (repeat (first | exact Below.refl _ _ | assumption | refine bal ?_ _ | refine bdr ?_ | refine bdn ?_ _ | refine bst ?_ (by first | assumption | exact Nat.le_refl _ | omega) _ | refine bch ?_ (by assumption)))⟩
      | some x =>
        obtain ⟨t, k⟩ := x
        rw [ho] at hal2
        simp only [List.drop_drop] at hal2
        obtain ⟨n, k', hgt, hk1, hk', hn64, hcase⟩ := one_cases ho
        have hto := (Lz.one_pos ho).2.2.2.1
        rw [List.length_drop, hll] at hk' hto
        have hG := hget.out q
        rw [hgt] at hG
        have hgv : gotVal (.ok n k') = .tuple #[.int .u64 n, .int .i64 k', .nilIface] := rfl
        replace hG := Lib.hid hG
        have hal3 : Hid ((Lz.all (S.drop (q + k))).map ((acc ++ [t]) ++ ·) = A) := Lib.hid (by
          rw [← hal2]
          cases Lz.all (S.drop (q + k)) <;> simp)
        have hown1 : Hid (∀ y ∈ acc ++ [t], y.own.size ≤ s.size) := Lib.hid (fun y hy => by
          rcases List.mem_append.1 hy with hy | hy
          · exact hown0.out y hy
          · rw [List.mem_singleton.1 hy]; omega)
        clear hal hal2 ho hgt hne hown0
        go_wp2_with fail
        refine (hG.out _).mono ?_
        rintro _ w3 ⟨rfl, rfl⟩
        have hand := u64_and1 hn64
        obtain ⟨h, hh⟩ : ∃ h, h = n / 2 := ⟨_, rfl⟩
        have hshr : (n : Int) / 2 = (h : Int) := by omega
        rw [← hh] at hcase
        rcases hcase with ⟨c1, c2, c3, c4, c5⟩ | ⟨c1, c2, b, j, c3, c4, c5, c6, c7⟩
        · rw [List.length_drop, hll] at c3
          have hsq : q + k' + h ≤ s.size := by omega
          have hand0 : bits .and .u64 (n : Int) 1 = 0 := by rw [hand, c1]; rfl
          obtain ⟨z, hz⟩ : ∃ z : Nat, z = s.size - q - k' := ⟨_, rfl⟩
          have hz1 : (s.size : Int) - (q : Int) - (k' : Int) = (z : Int) := by omega
          have hz2 : IntKind.u64.wrap (z : Int) = (z : Int) := by rw [IntKind.wrap_u64]; omega
          have hz2' : IntKind.u64.wrap ((s.size : Int) - (q : Int) - (k' : Int)) = (z : Int) := by rw [hz1, hz2]
          have hz3 : decide (z < h) = false := by simp; omega
          have hz4 : IntKind.i64.wrap (h : Int) = (h : Int) := (IntWalk.i64_left _).trans (IntWalk.wrap64_in _ ⟨by omega, by omega⟩)
          have hz5 : ((h : Int) == 0) = false := by simp; omega
          have hm := hmid.out q k' h
          have ht : t = ⟨s.extract (q + k') (q + k' + h), 0, 0⟩ := by rw [c4, hm]
          have hsn := tok_snoc acc t
          rw [ht] at hsn hal3 hown1
          subst c5
          have hkk : q + (k' + h) ≤ s.size := by omega
          replace hm := Lib.hid hm
          replace c4 := Lib.hid c4
          replace ht := Lib.hid ht
          replace hh := Lib.hid hh
          replace hz := Lib.hid hz
          clear hand hto
          go_wp2_with (at_builtin; go_must (refine app_one rfl _ _ 23 31 rfl w.heap.size (.agg #[.string ⟨#[]⟩, .int .i64 0, .int .i64 0]) 3 32 Tryd.underlying23 (by kernel_rfl) rfl _ _ _ rfl hown3 _ rfl rfl ?_ (by omega) (by omega) hsz ?_))
          · first | exact ⟨rfl, rfl⟩ | rfl | simp [Value.oneCell']
          intro v2 w5 r1 r2 r3 r4 r5
          have hown5 := owns_grown hown4 r2 (apart_symm hap2.out)
          have hap3 := Lib.hid (apart_first hap2.out r3 (fun k hk => owns_lt hown4 k hk) (Nat.le_succ _))
          have hbel3 := hbel2.trans r5
          have hown6 : w5.ownsRow w.heap.size 31 3 v2 (acc ++ [(⟨s.extract (q + k') (q + k' + h), 0, 0⟩ : Match.Tok)]).length ((acc ++ [(⟨s.extract (q + k') (q + k' + h), 0, 0⟩ : Match.Tok)]).flatMap tokCells) := by
            rw [List.length_append, ← hsn]; exact r1
          have hac2 : (acc ++ [(⟨s.extract (q + k') (q + k' + h), 0, 0⟩ : Match.Tok)]).length = acc.length + 1 := by rw [List.length_append]; simp
          clear r1 r2 r3 r4 r5 hown3 hown4 hap2
          go_wp2
          go_roundw
          case rel => exact ⟨q + (k' + h), acc ++ [(⟨s.extract (q + k') (q + k' + h), 0, 0⟩ : Match.Tok)], xs2, by omega, by go_num, by omega, by omega, hown1, hal3, hown6, hown5, hap3, hbel3⟩
          case measure => simp [intOf]; omega
        · rw [List.length_drop, hll] at c4
          have hand0 : bits .and .u64 (n : Int) 1 = 1 := by rw [hand, c1]; rfl
          have hb1 := hint.out (q + k') 1023 (by omega)
          rw [List.drop_drop] at c3
          rw [c3] at hb1
          have hbv : intVal (.ok b j) = .tuple #[.int .i64 b, .int .i64 j, .nilIface] := rfl
          replace hb1 := Lib.hid hb1
          have hz3 : decide (63 < h) = false := by simp; omega
          have hz4 : IntKind.i64.wrap (h : Int) = (h : Int) := (IntWalk.i64_left _).trans (IntWalk.wrap64_in _ ⟨by omega, by omega⟩)
          have hsn := tok_snoc acc t
          rw [c6] at hsn hal3 hown1
          subst c7
          have hkq : q + k' ≤ s.size := by omega
          have hkk : q + (k' + j) ≤ s.size := by omega
          have hn0 : Match.none_ = ⟨#[]⟩ := rfl
          rw [hn0] at hsn hal3 hown1
          replace hh := Lib.hid hh
          clear hand c3 c6 hn0 hto
          go_wp2_with fail
          refine (hb1.out _).mono ?_
          rintro _ w4 ⟨rfl, rfl⟩
          go_wp2_with (at_builtin; go_must (refine app_one rfl _ _ 23 31 rfl w.heap.size (.agg #[.string ⟨#[]⟩, .int .i64 0, .int .i64 0]) 3 32 Tryd.underlying23 (by kernel_rfl) rfl _ _ _ rfl hown3 _ rfl rfl ?_ (by omega) (by omega) hsz ?_))
          · first | exact ⟨rfl, rfl⟩ | rfl | simp [Value.oneCell']
          intro v2 w5 r1 r2 r3 r4 r5
          have hown5 := owns_grown hown4 r2 (apart_symm hap2.out)
          have hap3 := Lib.hid (apart_first hap2.out r3 (fun k hk => owns_lt hown4 k hk) (Nat.le_succ _))
          have hbel3 := hbel2.trans r5
          have hown6 : w5.ownsRow w.heap.size 31 3 v2 (acc ++ [(⟨⟨#[]⟩, (b : Int) + 1, (h : Int) + 4⟩ : Match.Tok)]).length ((acc ++ [(⟨⟨#[]⟩, (b : Int) + 1, (h : Int) + 4⟩ : Match.Tok)]).flatMap tokCells) := by
            rw [List.length_append, ← hsn]; exact r1
          have hac2 : (acc ++ [(⟨⟨#[]⟩, (b : Int) + 1, (h : Int) + 4⟩ : Match.Tok)]).length = acc.length + 1 := by rw [List.length_append]; simp
          clear r1 r2 r3 r4 r5 hown3 hown4 hap2
          go_wp2
          go_roundw
          case rel => exact ⟨q + (k' + j), acc ++ [(⟨⟨#[]⟩, (b : Int) + 1, (h : Int) + 4⟩ : Match.Tok)], xs2, by omega, by go_num, by omega, by omega, hown1, hal3, hown6, hown5, hap3, hbel3⟩
          case measure => simp [intOf]; omega
    · obtain rfl : q = s.size := by omega
      have hacc : A = some acc := by
        have := hal.out
        rw [List.drop_of_length_le (by omega), Lz.all_nil] at this
        simpa using this.symm
      have hrn := hAb.out acc hacc
      obtain ⟨⟨x, i⟩, hxi⟩ : ∃ y, Match.right acc 0 0 = some y := by
        cases hc : Match.right acc 0 0 with
        | none => exact absurd hc hrn
        | some y => exact ⟨y, rfl⟩
      have hil := (right_some_lt acc 0 0 x i hxi).2
      obtain ⟨o', c', hoc⟩ := owns_slice hown
      have hvec := ListIs.of_owns hown
      rw [hoc] at hvec
      subst hoc
      have hM := match_right _ acc wr hvec (fun t ht => by have := hown0.out t ht; omega) (by omega)
      rw [hxi] at hM
      replace hM := Lib.hid hM
      have hil2 : i < xs.length := by omega
      have hvx : ListIs (fun x : Int => [Value.int .i64 x]) 1 wr u5 xs := ListIs.of_owns (by rw [← List.map_eq_flatMap]; exact hown2)
      obtain ⟨ao, co, rfl, hcx1, hcx⟩ := hvx.at (fun _ => rfl)
      obtain ⟨sb, so, rfl, hsb, hsc⟩ := hcx i hil2
      have sx : wr.cell? ⟨sb, so + i, none⟩ = some (.int .i64 xs[i]) := by have := hsc 0 _ rfl; simpa using this
      clear hown hown2 hvec hcx hcx1 hsc hsb hap hal hown0 hrn hxi hacc hvx
      generalize xs[i] = xv at *
      have hiI : i < acc.length := by omega
      have hTA : ∀ (p : Value) (W : World), (Instr.typeAssert (.iface 40 p) 25 40 true).run Tryd.prog W = .ok (.tuple #[p, .bool true]) W := fun _ _ => by kernel_rfl
      go_wp2_with fail
      refine hM.out.mono ?_
      rintro _ w4 ⟨v4, rfl, hv4, hb4⟩
      obtain ⟨g, rfl, hrow⟩ := hv4
      replace sx := cell_below hb4 sx
      have hb5 := bch hbel hb4
      (have e0 := hrow.cell 0; have e1 := hrow.cell 1; simp only [List.set_cons_succ, List.set_cons_zero, List.getElem?_cons_zero, List.getElem?_cons_succ] at e0 e1)
      clear hrow hb4
      go_wp2_with fail
      (refine wp_region_held_drew (S := (fun W => Below w4.heap.size w4 W ∧ W.cell? ⟨g, 0, none⟩ = some (.int .i64 x) ∧ W.cell? ⟨g, 1, none⟩ = some (.int .i64 i) ∧ W.cell? ⟨sb, so + i, none⟩ = some (.int .i64 xv))) (by kernel_rfl) ?_ (fun hHeld => ?_); ((try dsimp only); exact ⟨bdr (Below.refl _ _), e0, e1, sx⟩))
      (refine held_take (i := 0) (v := ?_) rfl (by kernel_rfl) (by kernel_rfl) (by kernel_rfl) (fun _ _ _ h => h) (by kernel_rfl) (by assumption) ?_ ?_; rotate_left; (focus (intro w hSw; (try unfold SC at hSw); (try dsimp only at hSw); go_simp; (try with_reducible rfl); done)); (simp only [Act.put, List.setIfInBounds_toArray, List.set_cons_zero, List.set_cons_succ]); refine held_take (i := 1) (v := ?_) rfl (by kernel_rfl) (by kernel_rfl) (by kernel_rfl) (fun _ _ _ h => h) (by kernel_rfl) (by assumption) ?_ ?_; rotate_left; (focus (intro w hSw; (try unfold SC at hSw); (try dsimp only at hSw); go_simp; (try with_reducible rfl); done)); (simp only [Act.put, List.setIfInBounds_toArray, List.set_cons_zero, List.set_cons_succ]); refine held_take (i := 2) (v := ?_) rfl (by kernel_rfl) (by kernel_rfl) (by kernel_rfl) (fun _ _ _ h => h) (by kernel_rfl) (by assumption) ?_ ?_; rotate_left; (focus (intro w hSw; (try unfold SC at hSw); (try dsimp only at hSw); go_simp; (try with_reducible rfl); done)); (simp only [Act.put, List.setIfInBounds_toArray, List.set_cons_zero, List.set_cons_succ]); refine held_take (i := 3) (v := ?_) rfl (by kernel_rfl) (by kernel_rfl) (by kernel_rfl) (fun _ _ _ h => h) (by kernel_rfl) (by assumption) ?_ ?_; rotate_left; (focus (intro w hSw; (try unfold SC at hSw); (try dsimp only at hSw); go_simp; (try with_reducible rfl); done)); (simp only [Act.put, List.setIfInBounds_toArray, List.set_cons_zero, List.set_cons_succ]); refine held_take (i := 4) (v := ?_) rfl (by kernel_rfl) (by kernel_rfl) (by kernel_rfl) (fun _ _ _ h => h) (by kernel_rfl) (by assumption) ?_ ?_; rotate_left; (focus (intro w hSw; (try unfold SC at hSw); (try dsimp only at hSw); go_simp; (try with_reducible rfl); done)); (simp only [Act.put, List.setIfInBounds_toArray, List.set_cons_zero, List.set_cons_succ]); refine held_take (i := 5) (v := ?_) rfl (by kernel_rfl) (by kernel_rfl) (by kernel_rfl) (fun _ _ _ h => h) (by kernel_rfl) (by assumption) ?_ ?_; rotate_left; (focus (intro w hSw; (try unfold SC at hSw); (try dsimp only at hSw); go_simp; (try with_reducible rfl); done)); (simp only [Act.put, List.setIfInBounds_toArray, List.set_cons_zero, List.set_cons_succ]); refine held_take (i := 6) (v := ?_) rfl (by kernel_rfl) (by kernel_rfl) (by kernel_rfl) (fun _ _ _ h => h) (by kernel_rfl) (by assumption) ?_ ?_; rotate_left; (focus (intro w hSw; (try unfold SC at hSw); (try dsimp only at hSw); go_simp; (try with_reducible rfl); done)); (simp only [Act.put, List.setIfInBounds_toArray, List.set_cons_zero, List.set_cons_succ]); refine held_take (i := 7) (v := ?_) rfl (by kernel_rfl) (by kernel_rfl) (by kernel_rfl) (fun _ _ _ h => h) (by kernel_rfl) (by assumption) ?_ ?_; rotate_left; (focus (intro w hSw; (try unfold SC at hSw); (try dsimp only at hSw); go_simp; (try with_reducible rfl); done)); (simp only [Act.put, List.setIfInBounds_toArray, List.set_cons_zero, List.set_cons_succ]); refine held_take (i := 8) (v := ?_) rfl (by kernel_rfl) (by kernel_rfl) (by kernel_rfl) (fun _ _ _ h => h) (by kernel_rfl) (by assumption) ?_ ?_; rotate_left; (focus (intro w hSw; (try unfold SC at hSw); (try dsimp only at hSw); go_simp; (try with_reducible rfl); done)); (simp only [Act.put, List.setIfInBounds_toArray, List.set_cons_zero, List.set_cons_succ]); refine held_take (i := 9) (v := ?_) rfl (by kernel_rfl) (by kernel_rfl) (by kernel_rfl) (fun _ _ _ h => h) (by kernel_rfl) (by assumption) ?_ ?_; rotate_left; (focus (intro w hSw; (try unfold SC at hSw); (try dsimp only at hSw); go_simp; (try with_reducible rfl); done)); (simp only [Act.put, List.setIfInBounds_toArray, List.set_cons_zero, List.set_cons_succ]); refine held_take (i := 10) (v := ?_) rfl (by kernel_rfl) (by kernel_rfl) (by kernel_rfl) (fun _ _ _ h => h) (by kernel_rfl) (by assumption) ?_ ?_; rotate_left; (focus (intro w hSw; (try unfold SC at hSw); (try dsimp only at hSw); go_simp; (try with_reducible rfl); done)); (simp only [Act.put, List.setIfInBounds_toArray, List.set_cons_zero, List.set_cons_succ]); refine held_take (i := 11) (v := ?_) rfl (by kernel_rfl) (by kernel_rfl) (by kernel_rfl) (fun _ _ _ h => h) (by kernel_rfl) (by assumption) ?_ ?_; rotate_left; (focus (intro w hSw; (try unfold SC at hSw); (try dsimp only at hSw); go_simp; (try with_reducible rfl); done)); (simp only [Act.put, List.setIfInBounds_toArray, List.set_cons_zero, List.set_cons_succ]))
      (refine wpAnyH_ready (P := Tryd.prog) (md := .any) (rs := [12]) (by kernel_rfl) (by simp) ?_; refine held_cons rfl (by kernel_rfl) (fun K hK => ?_) AllReadyH.nil; ((go_simp; refine (hF.out _ _ _).mono ?_; rintro _ wn ⟨⟨gg, rfl⟩, hbn⟩); refine hK.out _ _ ?_ (fun hHeld => ?_); ((try dsimp only); exact ⟨bch hHeld.1 hbn, cell_below hbn hHeld.2.1, cell_below hbn hHeld.2.2.1, cell_below hbn hHeld.2.2.2⟩); clear hK K; (try clear hHeld0); (try rename_i hHeld0)))
      (refine held_take (i := 13) (v := ?_) rfl (by kernel_rfl) (by kernel_rfl) (by kernel_rfl) (fun _ _ _ h => h) (by kernel_rfl) (by assumption) ?_ ?_; rotate_left; (focus (intro w hSw; (try unfold SC at hSw); (try dsimp only at hSw); go_simp; (try with_reducible rfl); done)); (simp only [Act.put, List.setIfInBounds_toArray, List.set_cons_zero, List.set_cons_succ]); refine held_take (i := 14) (v := ?_) rfl (by kernel_rfl) (by kernel_rfl) (by kernel_rfl) (fun _ _ _ h => h) (by kernel_rfl) (by assumption) ?_ ?_; rotate_left; (focus (intro w hSw; (try unfold SC at hSw); (try dsimp only at hSw); go_simp; (try with_reducible rfl); done)); (simp only [Act.put, List.setIfInBounds_toArray, List.set_cons_zero, List.set_cons_succ]); refine held_take (i := 15) (v := ?_) rfl (by kernel_rfl) (by kernel_rfl) (by kernel_rfl) (fun _ _ _ h => h) (by kernel_rfl) (by assumption) ?_ ?_; rotate_left; (focus (intro w hSw; (try unfold SC at hSw); (try dsimp only at hSw); go_simp; (try with_reducible rfl); done)); (simp only [Act.put, List.setIfInBounds_toArray, List.set_cons_zero, List.set_cons_succ]); refine held_take (i := 16) (v := ?_) rfl (by kernel_rfl) (by kernel_rfl) (by kernel_rfl) (fun _ _ _ h => h) (by kernel_rfl) (by assumption) ?_ ?_; rotate_left; (focus (intro w hSw; (try unfold SC at hSw); (try dsimp only at hSw); go_simp; (try with_reducible rfl); done)); (simp only [Act.put, List.setIfInBounds_toArray, List.set_cons_zero, List.set_cons_succ]))
      (refine wpAnyH_done (by kernel_rfl) ?_ _)
      have hbf := bch hb5 hHeld.1
      go_wp2
      go_ret2
      exact ⟨⟨_, rfl⟩, hbf⟩
set_option maxHeartbeats 2000000 in
theorem lz_write_bad (v : Value) (l : List Match.Tok) (w : World) (hv : TokIs w v l) (hl : ∀ t ∈ l, t.own.size ≤ 140737488351232) (hll : l.length ≤ 1000000000) (x i : Nat) (hr : Match.right l 0 0 = some (x, i)) :
    Calls Tryd.prog 17 #[v] w fun e w' => (∃ g, e = .returned (.tuple #[.string ⟨#[]⟩, .iface 40 (.pointer (some ⟨g, 0, none⟩))])) ∧ Below w.heap.size w w' := by
  have hA := match_right v l w hv hl hll
  rw [hr] at hA
  replace hA := Lib.hid hA
  clear hv hl hr
  go_enter Tryd.func17, Tryd.ntmps17
  go_wp2_with fail
  refine hA.out.mono ?_
  rintro _ w1 ⟨v1, rfl, hv1, hb1⟩
  obtain ⟨g, rfl, hrow⟩ := hv1
  replace hrow := Lib.hid hrow
  go_wp2
  go_ret2
  exact ⟨⟨g, rfl⟩, hb1⟩
end Go.Proofs.YtajpoggkmjedpabDoor
