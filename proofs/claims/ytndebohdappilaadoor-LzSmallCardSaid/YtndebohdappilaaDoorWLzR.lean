/- The walk of lz.Read, where all is right. -/
import Derived.Test.YtndebohdappilaaDoorWLzW
import Derived.Test.YtndebohdappilaaDoorLib3
namespace Go.Proofs.YtndebohdappilaaDoor
open Go.RowKit
set_option linter.unusedVariables false
set_option linter.unusedSimpArgs false
theorem u64_and1 {x : Nat} (h : x < 18446744073709551616) : bits .and .u64 (x : Int) 1 = ((x % 2 : Nat) : Int) := by
  have := u64_and_nat x 1 h (by omega)
  rw [Nat.and_one_is_mod] at this
  exact this
theorem owns_slice {w : World} {base : Nat} {e : TypeId} {sz n : Nat} {v : Value} {xs : List Value} (h : w.ownsRow base e sz v n xs) : ∃ o c, v = .slice o n c := by
  rcases h.2 with ⟨rfl, rfl⟩ | ⟨g, cap, cur, rfl, _⟩
  · exact ⟨none, 0, rfl⟩
  · exact ⟨_, cap, rfl⟩
theorem one_cases {l : List UInt8} {t : Match.Tok} {k : Nat} (h : Lz.one l = some (t, k)) : ∃ n k', Vary.get l = .ok n k' ∧ 1 ≤ k' ∧ k' ≤ l.length ∧ n < 18446744073709551616 ∧
    ((n % 2 = 0 ∧ 0 < n / 2 ∧ k' + n / 2 ≤ l.length ∧ t = ⟨⟨((l.drop k').take (n / 2)).toArray⟩, 0, 0⟩ ∧ k = k' + n / 2) ∨
     (n % 2 = 1 ∧ n / 2 ≤ 63 ∧ ∃ b j, Vary.int (l.drop k') 1023 = .ok b j ∧ j ≤ l.length - k' ∧ b ≤ 1023 ∧ t = ⟨Match.none_, (b : Int) + 1, ((n / 2 : Nat) : Int) + 4⟩ ∧ k = k' + j)) := by
  unfold Lz.one at h
  cases hg : Vary.get l with
  | bad e => rw [hg] at h; cases h
  | ok n k' =>
    rw [hg] at h
    simp only at h
    obtain ⟨g1, g2, g3, g4⟩ := Vary.get_ok _ _ _ hg
    refine ⟨n, k', rfl, g1, g2, g4, ?_⟩
    split at h
    · rename_i he
      split at h
      · cases h
      · rename_i hn
        injection h with h
        injection h with h1 h2
        exact .inl ⟨he, by omega, by omega, h1.symm, h2.symm⟩
    · split at h
      · cases h
      · rename_i he h63
        cases hi : Vary.int (l.drop k') 1023 with
        | bad e => rw [hi] at h; cases h
        | ok b j =>
          rw [hi] at h
          simp only at h
          injection h with h
          injection h with h1 h2
          obtain ⟨i1, i2⟩ := Lz.int_get hi
          obtain ⟨j1, j2, j3, j4⟩ := Vary.get_ok _ _ _ i1
          rw [List.length_drop] at j2
          exact .inr ⟨by omega, by omega, b, j, rfl, j2, by omega, h1.symm, h2.symm⟩
theorem drop_str (s : ByteArray) (l : List UInt8) (h : s.data.toList = l) (k : Nat) : (s.extract k s.size).data.toList = l.drop k ∧ (s.extract k s.size).size = s.size - k := by
  have hl : l.length = s.size := by rw [← h]; exact Array.length_toList
  refine ⟨?_, by simp [ByteArray.size_extract]⟩
  rw [ByteArray.data_extract, Array.toList_extract, List.extract_eq_take_drop, h, List.take_of_length_le (by rw [List.length_drop]; omega)]
theorem mid_str (s : ByteArray) (q k h : Nat) : s.extract (q + k) (q + k + h) = ⟨(((s.data.toList.drop q).drop k).take h).toArray⟩ := ba_ext (by
  rw [ByteArray.data_extract, Array.toList_extract, List.extract_eq_take_drop, List.drop_drop]
  simp)
theorem tok_snoc (acc : List Match.Tok) (t : Match.Tok) : acc.flatMap tokCells ++ [.string t.own, .int .i64 t.back, .int .i64 t.size] = (acc ++ [t]).flatMap tokCells := by simp [tokCells]
theorem apart_next {o v v' : Value} {n m : Nat} (h : o.ownBlock = none ∨ o.ownBlock ≠ v.ownBlock) (hb : v'.ownBlock = v.ownBlock ∨ v'.ownBlock = some m) (hl : ∀ k, n ≤ k → o.ownBlock ≠ some k) (hm : n ≤ m) : o.ownBlock = none ∨ o.ownBlock ≠ v'.ownBlock := by
  rcases hb with hb | hb
  · rw [hb]; exact h
  · rw [hb]; exact .inr (hl m hm)
theorem apart_first {o o' v : Value} {n m : Nat} (h : o.ownBlock = none ∨ o.ownBlock ≠ v.ownBlock) (hb : o'.ownBlock = o.ownBlock ∨ o'.ownBlock = some m) (hl : ∀ k, n ≤ k → v.ownBlock ≠ some k) (hm : n ≤ m) : o'.ownBlock = none ∨ o'.ownBlock ≠ v.ownBlock := by
  rcases hb with hb | hb
  · rw [hb]; exact h
  · rw [hb]; exact .inr (fun e => hl m hm e.symm)
theorem apart_symm {a b : Option Nat} (h : a = none ∨ a ≠ b) : b = none ∨ b ≠ a := by
  rcases h with h | h
  · subst h
    cases b with
    | none => exact .inl rfl
    | some x => exact .inr (by simp)
  · exact .inr fun e => h e.symm
set_option maxHeartbeats 8000000 in
set_option maxRecDepth 100000 in
theorem lz_read (s : ByteArray) (ts : List Match.Tok) (w : World) (hs : s.size ≤ 700000) (hall : Lz.all s.data.toList = some ts) (hr : Match.right ts 0 0 = none) :
    Calls Tryd.prog 95 #[.string s] w fun e w' => (∃ v, e = .returned (.tuple #[v, .nilIface]) ∧ TokIs w' v ts) ∧ Below w.heap.size w w' := by
  have hll : s.data.toList.length = s.size := Array.length_toList
  have hgood := Lz.right_good ts 0 0 hr (by omega)
  have hget := fun q W => vary_get (s.extract q s.size) W (by simp only [ByteArray.size_extract]; unfold maxLen; omega)
  have hint := fun q m (hm : m ≤ 9223372036854775807) W => vary_int (s.extract q s.size) m W (by simp only [ByteArray.size_extract]; unfold maxLen; omega) hm
  have hdr := fun q => (drop_str s _ rfl q).1
  simp only [hdr] at hget hint
  have hmid := fun q k h => mid_str s q k h
  generalize s.data.toList = S at *
  replace hget := Lib.hid hget
  replace hint := Lib.hid hint
  replace hmid := Lib.hid hmid
  replace hgood := Lib.hid hgood
  clear hdr
  go_enter Tryd.func95, Tryd.ntmps95
  go_wp2
  go_loopw [4, 5, 7] (fun o st p wr => ∃ (q : Nat) (acc rest : List Match.Tok) (xs : List Value), q ≤ s.size ∧ p = .int .i64 q ∧ acc.length ≤ q ∧ xs.length ≤ q ∧ Hid (Lz.all (S.drop q) = some rest) ∧ Hid (acc ++ rest = ts) ∧
    wr.ownsRow w.heap.size 153 3 o acc.length (acc.flatMap tokCells) ∧ wr.ownsRow w.heap.size 3 1 st xs.length xs ∧ Hid (o.ownBlock = none ∨ o.ownBlock ≠ st.ownBlock) ∧ Below w.heap.size w wr) (fun _ _ p _ => s.size - (intOf p).toNat)
  case atStart => exact ⟨0, [], ts, [], by omega, rfl, by simp, by simp, Lib.hid (by simpa using hall), Lib.hid rfl, World.ownsRow_nil _ _ _ _, World.ownsRow_nil _ _ _ _, Lib.hid (.inl rfl), by (repeat (first | exact Below.refl _ _ | assumption | refine bal ?_ _ | refine bdr ?_ | refine bdn ?_ _ | refine bst ?_ (by first | assumption | exact Nat.le_refl _ | omega) _ | refine bch ?_ (by assumption)))⟩
  case round =>
    obtain ⟨q, acc, rest, xs, hq, rfl, hac, hxs, hal, hts, hown, hown2, hap, hbel⟩ := hrel
    have hsz := hbel.size
    by_cases hlt : q < s.size
    · have hne : S.drop q ≠ [] := fun h => by rw [List.drop_eq_nil_iff] at h; omega
      have hal2 := hal.out
      rw [Lz.all_cons hne] at hal2
      cases ho : Lz.one (S.drop q) with
      | none => rw [ho] at hal2; cases hal2
      | some x =>
        obtain ⟨t, k⟩ := x
        rw [ho] at hal2
        simp only [List.drop_drop] at hal2
        cases ha : Lz.all (S.drop (q + k)) with
        | none => rw [ha] at hal2; cases hal2
        | some us =>
          rw [ha] at hal2
          injection hal2 with hal2
          have hrest : rest = t :: us := hal2.symm
          obtain ⟨n, k', hgt, hk1, hk', hn64, hcase⟩ := one_cases ho
          rw [List.length_drop, hll] at hk'
          have hG := hget.out q
          rw [hgt] at hG
          have hgv : gotVal (.ok n k') = .tuple #[.int .u64 n, .int .i64 k', .nilIface] := rfl
          replace hG := Lib.hid hG
          have hal3 := Lib.hid ha
          have hts2 := Lib.hid (show (acc ++ [t]) ++ us = ts by rw [← hts.out, hrest, List.append_assoc]; rfl)
          have hlo := fun k (hk : wr.heap.size ≤ k) => owns_lt hown k hk
          clear hal hts hal2 ho ha hgt hne
          go_wp2_with (at_builtin; go_must (refine app_one rfl _ _ 24 3 rfl w.heap.size (.int .i64 0) 1 8 Tryd.underlying24 (by kernel_rfl) rfl _ _ _ rfl hown2 _ rfl rfl ?_ (by omega) (by omega) hsz ?_))
          · first | exact ⟨rfl, rfl⟩ | rfl | simp [Value.oneCell']
          intro v1 w2 r1 r2 r3 r4 r5
          have hown3 := owns_grown hown r2 hap.out
          have hap2 := Lib.hid (apart_next hap.out r3 hlo (by omega))
          have hbel2 := hbel.trans r5
          have hxl : xs.length + 1 = (xs ++ [Value.int .i64 (q : Int)]).length := by simp
          have hown4 : w2.ownsRow w.heap.size 3 1 v1 (xs ++ [Value.int .i64 (q : Int)]).length (xs ++ [Value.int .i64 (q : Int)]) := by rw [← hxl]; exact r1
          have hxs2 : (xs ++ [Value.int .i64 (q : Int)]).length ≤ q + 1 := by rw [← hxl]; omega
          clear r1 r2 r3 r4 r5 hown hown2 hap hlo hbel hsz hxl
          generalize xs ++ [Value.int .i64 (q : Int)] = xs2 at *
          have hsz := hbel2.size
          go_wp2_with fail
          refine (hG.out _).mono ?_
          rintro _ w3 ⟨rfl, rfl⟩
          have hand := u64_and1 hn64
          have hgt := hgood.out t (by rw [← hts2.out]; simp)
          obtain ⟨h, hh⟩ : ∃ h, h = n / 2 := ⟨_, rfl⟩
          have hshr : (n : Int) / 2 = (h : Int) := by omega
          rw [← hh] at hcase
          rcases hcase with ⟨c1, c2, c3, c4, c5⟩ | ⟨c1, c2, b, j, c3, c4, c5, c6, c7⟩
          · rw [List.length_drop, hll] at c3
            have hsq : q + k' + h ≤ s.size := by omega
            have hand0 : bits .and .u64 (n : Int) 1 = 0 := by rw [hand, c1]; rfl
            obtain ⟨z, hz⟩ : ∃ z : Nat, z = s.size - q - k' := ⟨_, rfl⟩
            have hz1 : (s.size : Int) - (q : Int) - (k' : Int) = (z : Int) := by omega
            have hz2 : IntKind.u64.wrap (z : Int) = (z : Int) := by rw [IntKind.wrap_u64]; omega
            have hz2' : IntKind.u64.wrap ((s.size : Int) - (q : Int) - (k' : Int)) = (z : Int) := by rw [hz1, hz2]
            have hz3 : decide (z < h) = false := by simp; omega
            have hz4 : IntKind.i64.wrap (h : Int) = (h : Int) := (IntWalk.i64_left _).trans (IntWalk.wrap64_in _ ⟨by omega, by omega⟩)
            have hz5 : ((h : Int) == 0) = false := by simp; omega
            have hm := hmid.out q k' h
            have ht : t = ⟨s.extract (q + k') (q + k' + h), 0, 0⟩ := by rw [c4, hm]
            have hsn := tok_snoc acc t
            rw [ht] at hsn hts2
            subst c5
            have hkk : q + (k' + h) ≤ s.size := by omega
            replace hm := Lib.hid hm
            replace c4 := Lib.hid c4
            replace ht := Lib.hid ht
            replace hh := Lib.hid hh
            replace hz := Lib.hid hz
            clear hand hgt
            go_wp2_with (at_builtin; go_must (refine app_one rfl _ _ 106 153 rfl w.heap.size (.agg #[.string ⟨#[]⟩, .int .i64 0, .int .i64 0]) 3 32 Tryd.underlying106 (by kernel_rfl) rfl _ _ _ rfl hown3 _ rfl rfl ?_ (by omega) (by omega) hsz ?_))
            · first | exact ⟨rfl, rfl⟩ | rfl | simp [Value.oneCell']
            intro v2 w5 r1 r2 r3 r4 r5
            have hown5 := owns_grown hown4 r2 (apart_symm hap2.out)
            have hap3 := Lib.hid (apart_first hap2.out r3 (fun k hk => owns_lt hown4 k hk) (Nat.le_succ _))
            have hbel3 := hbel2.trans r5
            have hown6 : w5.ownsRow w.heap.size 153 3 v2 (acc ++ [(⟨s.extract (q + k') (q + k' + h), 0, 0⟩ : Match.Tok)]).length ((acc ++ [(⟨s.extract (q + k') (q + k' + h), 0, 0⟩ : Match.Tok)]).flatMap tokCells) := by
              rw [List.length_append, ← hsn]; exact r1
            have hac2 : (acc ++ [(⟨s.extract (q + k') (q + k' + h), 0, 0⟩ : Match.Tok)]).length ≤ acc.length + 1 := by rw [List.length_append]; simp
            clear r1 r2 r3 r4 r5 hown3 hown4 hap2
            go_wp2
            go_roundw
            case rel => exact ⟨q + (k' + h), acc ++ [(⟨s.extract (q + k') (q + k' + h), 0, 0⟩ : Match.Tok)], us, xs2, by omega, by go_num, by omega, by omega, hal3, hts2, hown6, hown5, hap3, hbel3⟩
            case measure => simp [intOf]; omega
          · rw [List.length_drop, hll] at c4
            have hand0 : bits .and .u64 (n : Int) 1 = 1 := by rw [hand, c1]; rfl
            have hb1 := hint.out (q + k') 1023 (by omega)
            rw [List.drop_drop] at c3
            rw [c3] at hb1
            have hbv : intVal (.ok b j) = .tuple #[.int .i64 b, .int .i64 j, .nilIface] := rfl
            replace hb1 := Lib.hid hb1
            have hz3 : decide (63 < h) = false := by simp; omega
            have hz4 : IntKind.i64.wrap (h : Int) = (h : Int) := (IntWalk.i64_left _).trans (IntWalk.wrap64_in _ ⟨by omega, by omega⟩)
            have hsn := tok_snoc acc t
            rw [c6] at hsn hts2
            subst c7
            have hkq : q + k' ≤ s.size := by omega
            have hkk : q + (k' + j) ≤ s.size := by omega
            have hn0 : Match.none_ = ⟨#[]⟩ := rfl
            rw [hn0] at hsn hts2
            replace hh := Lib.hid hh
            clear hand hgt c3 c6 hn0
            go_wp2_with fail
            refine (hb1.out _).mono ?_
            rintro _ w4 ⟨rfl, rfl⟩
            go_wp2_with (at_builtin; go_must (refine app_one rfl _ _ 106 153 rfl w.heap.size (.agg #[.string ⟨#[]⟩, .int .i64 0, .int .i64 0]) 3 32 Tryd.underlying106 (by kernel_rfl) rfl _ _ _ rfl hown3 _ rfl rfl ?_ (by omega) (by omega) hsz ?_))
            · first | exact ⟨rfl, rfl⟩ | rfl | simp [Value.oneCell']
            intro v2 w5 r1 r2 r3 r4 r5
            have hown5 := owns_grown hown4 r2 (apart_symm hap2.out)
            have hap3 := Lib.hid (apart_first hap2.out r3 (fun k hk => owns_lt hown4 k hk) (Nat.le_succ _))
            have hbel3 := hbel2.trans r5
            have hown6 : w5.ownsRow w.heap.size 153 3 v2 (acc ++ [(⟨⟨#[]⟩, (b : Int) + 1, (h : Int) + 4⟩ : Match.Tok)]).length ((acc ++ [(⟨⟨#[]⟩, (b : Int) + 1, (h : Int) + 4⟩ : Match.Tok)]).flatMap tokCells) := by
              rw [List.length_append, ← hsn]; exact r1
            have hac2 : (acc ++ [(⟨⟨#[]⟩, (b : Int) + 1, (h : Int) + 4⟩ : Match.Tok)]).length ≤ acc.length + 1 := by rw [List.length_append]; simp
            clear r1 r2 r3 r4 r5 hown3 hown4 hap2
            go_wp2
            go_roundw
            case rel => exact ⟨q + (k' + j), acc ++ [(⟨⟨#[]⟩, (b : Int) + 1, (h : Int) + 4⟩ : Match.Tok)], us, xs2, by omega, by go_num, by omega, by omega, hal3, hts2, hown6, hown5, hap3, hbel3⟩
            case measure => simp [intOf]; omega
    · obtain rfl : q = s.size := by omega
      have hre : rest = [] := by
        have := hal.out
        rw [List.drop_of_length_le (by omega), Lz.all_nil] at this
        injection this with this
        exact this.symm
      have hacc : acc = ts := by rw [← hts.out, hre, List.append_nil]
      rw [hacc] at hown
      obtain ⟨o', c', hoc⟩ := owns_slice hown
      have hvec := ListIs.of_owns hown
      rw [hoc] at hvec
      subst hoc
      have hM := match_right _ ts wr hvec (fun t ht => by
        rcases hgood.out t ht with ⟨h1, h2, h3, h4⟩ | ⟨h1, h2, h3, h4, h5⟩
        · omega
        · rw [h1]; exact Nat.zero_le _) (by rw [← hacc]; omega)
      rw [hr] at hM
      replace hM := Lib.hid hM
      replace hvec := Lib.hid hvec
      clear hown hown2 hap hal hts hre hacc hac hxs
      go_wp2_with fail
      refine hM.out.mono ?_
      rintro _ w4 ⟨v4, rfl, hv4, hb4⟩
      have hv4 : v4 = .nilIface := hv4
      subst hv4
      go_wp2
      go_ret2
      exact ⟨⟨_, rfl, hvec.out.below (by omega) hb4⟩, bch hbel hb4⟩
end Go.Proofs.YtndebohdappilaaDoor
