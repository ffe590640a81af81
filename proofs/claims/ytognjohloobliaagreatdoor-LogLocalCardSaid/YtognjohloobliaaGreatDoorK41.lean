/- The walk of lz.Write, where all tokens are right. -/
import Derived.Test.YtognjohloobliaaGreatDoorK39
import Derived.Test.YtognjohloobliaaGreatDoorK08
import Derived.Test.YtognjohloobliaaGreatDoorK01
import Derived.Test.YtognjohloobliaaGreatDoorK11
import Derived.Test.YtognjohloobliaaGreatDoorK40
import Derived.Test.YtognjohloobliaaGreatDoorK06
namespace Go.Proofs.YtognjohloobliaaGreatDoor
open Go.RowKit
set_option linter.unusedVariables false
set_option linter.unusedSimpArgs false
theorem lzw_take (l : List Match.Tok) (k : Nat) (h : k < l.length) : Lz.write (l.take (k + 1)) = Lz.write (l.take k) ++ Lz.put l[k] := by
  unfold Lz.write; rw [List.take_succ_eq_append_getElem h, List.flatMap_append]; simp
theorem lzw_put_len (t : Match.Tok) (h : Lz.Good t) : (Lz.put t).length ≤ 20 + t.own.size := by
  rcases h with ⟨h1, h2, h3, h4⟩ | ⟨h1, h2, h3, h4, h5⟩
  · unfold Lz.put
    rw [if_pos h1, List.length_append, Match.ba_len]
    have := Vary.put_len (2 * t.own.size) (by omega)
    omega
  · have hz : t.own.size = 0 := by rw [h1]; rfl
    unfold Lz.put
    rw [if_neg (by omega), List.length_append]
    have := Vary.put_len (2 * (t.size - 4).toNat + 1) (by omega)
    have := Vary.put_len (t.back - 1).toNat (by omega)
    omega
theorem right_sum (l : List Match.Tok) (i n : Nat) (h : Match.right l i n = none) (hn : n ≤ 20000) : n + (l.map fun t => t.own.size).sum ≤ 20000 := by
  have h1 := (Match.text_len l (List.replicate n 0) i (by rw [List.length_replicate]; exact h) (by rw [List.length_replicate]; exact hn))
  rw [List.length_replicate] at h1
  have h2 : (l.map fun t => t.own.size).sum ≤ (l.map Match.adv).sum := by
    clear h1 h hn
    induction l with
    | nil => simp
    | cons t l ih =>
      simp only [List.map_cons, List.sum_cons]
      have : t.own.size ≤ Match.adv t := by unfold Match.adv; split <;> omega
      omega
  omega
theorem lzw_len (l : List Match.Tok) (h : ∀ t ∈ l, Lz.Good t) : (Lz.write l).length ≤ 20 * l.length + (l.map fun t => t.own.size).sum := by
  induction l with
  | nil => simp [Lz.write]
  | cons t l ih =>
    have h1 := ih fun y hy => h y (List.mem_cons_of_mem _ hy)
    have h2 := lzw_put_len t (h t (List.mem_cons_self ..))
    unfold Lz.write at *
    rw [List.flatMap_cons, List.length_append, List.length_cons, List.map_cons, List.sum_cons]
    omega
theorem lzw_take_le (l : List Match.Tok) (k : Nat) : (Lz.write (l.take k)).length ≤ (Lz.write l).length := by
  unfold Lz.write
  conv => rhs; rw [← List.take_append_drop k l, List.flatMap_append]
  rw [List.length_append]; omega
set_option maxHeartbeats 8000000 in
set_option maxRecDepth 100000 in
theorem lz_write (v : Value) (l : List Match.Tok) (w : World) (hv : TokIs w v l) (hll : l.length ≤ 30000) (hr : Match.right l 0 0 = none) :
    Calls Tryz.prog 86 #[v] w fun e w' => e = .returned (.tuple #[.string ⟨(Lz.write l).toArray⟩, .nilIface]) ∧ Below w.heap.size w w' := by
  have hgood := Lz.right_good l 0 0 hr (by omega)
  have hwl := lzw_len l hgood
  have hsum := right_sum l 0 0 hr (by omega)
  have hA := match_right v l w hv (fun t ht => by
    rcases hgood t ht with ⟨h1, h2, h3, h4⟩ | ⟨h1, h2, h3, h4, h5⟩
    · omega
    · rw [h1]; exact Nat.zero_le _) (by omega)
  rw [hr] at hA
  obtain ⟨a, cap, rfl, hcap, hcell⟩ := hv.at tokCells_len
  clear hv hcap
  have htl := fun k => lzw_take_le l k
  replace hA := Lib.hid hA
  replace hcell := Lib.hid hcell
  replace hgood := Lib.hid hgood
  replace htl := Lib.hid htl
  replace hr := Lib.hid hr
  have hbig : (Lz.write l).length ≤ 700000 := by omega
  clear hwl hsum
  go_enter Tryz.func86, Tryz.ntmps86
  go_wp2_with fail
  refine hA.out.mono ?_
  rintro _ w1 ⟨v1, rfl, hv1, hb1⟩
  have hv1 : v1 = .nilIface := hv1
  subst hv1
  go_wp2
  go_loopw [5, 15] (fun s i wr => ∃ k : Nat, k ≤ l.length ∧ i = .int .i64 k ∧ s = .string ⟨(Lz.write (l.take k)).toArray⟩ ∧ Below w.heap.size w wr) (fun _ i _ => l.length - (intOf i).toNat)
  case atStart => exact ⟨0, by omega, rfl, rfl, by exact blw⟩
  case round =>
    obtain ⟨k, hk, rfl, rfl, hbel⟩ := hrel
    by_cases hlt : k < l.length
    · obtain ⟨b1, f1, rfl, hb2, hc1⟩ := hcell.out k hlt
      have hb2 := hb2 (by omega)
      have c0 : wr.cell? ⟨b1, f1 + k * 3, none⟩ = some (.string l[k].own) := (hbel.cell (p := ⟨b1, f1 + k * 3, none⟩) hb2).trans (hc1 0 _ rfl)
      have c1 : wr.cell? ⟨b1, f1 + k * 3 + 1, none⟩ = some (.int .i64 l[k].back) := (hbel.cell (p := ⟨b1, f1 + k * 3 + 1, none⟩) hb2).trans (hc1 1 _ rfl)
      have c2 : wr.cell? ⟨b1, f1 + k * 3 + 2, none⟩ = some (.int .i64 l[k].size) := (hbel.cell (p := ⟨b1, f1 + k * 3 + 2, none⟩) hb2).trans (hc1 2 _ rfl)
      have hg := hgood.out l[k] (List.getElem_mem hlt)
      have hnext := lzw_take l k hlt
      have hlen1 := htl.out k
      have hlen2 := htl.out (k + 1)
      have hz1 := ba_size (Lz.write (l.take k))
      clear hc1
      generalize l[k] = t at *
      generalize Lz.write (l.take k) = Q at *
      generalize hR : Lz.write (l.take (k + 1)) = R at *
      obtain ⟨own, back, size⟩ := t
      replace hR := Lib.hid hR
      simp only at c0 c1 c2
      rcases hg with ⟨h1, h2, h3, h4⟩ | ⟨h1, h2, h3, h4, h5⟩
      · simp only at h1 h2 h3 h4
        subst h2 h3
        have hne := nonempty_of_size h1
        have hput : Lz.put ⟨own, 0, 0⟩ = Vary.put (2 * own.size) ++ own.data.toList := by unfold Lz.put; rw [if_pos h1]
        rw [hput] at hnext
        have hP := fun W => vary_put (2 * own.size) W (by omega)
        have hpl := Vary.put_len (2 * own.size) (by omega)
        have hz2 := ba_size (Vary.put (2 * own.size))
        generalize Vary.put (2 * own.size) = P at *
        have hap : (⟨Q.toArray⟩ ++ (⟨P.toArray⟩ ++ own) : ByteArray) = ⟨R.toArray⟩ := ba_ext (by rw [ba_app, ba_app, hnext])
        obtain ⟨z2, hz2e⟩ : ∃ z2, z2 = 2 * own.size := ⟨_, rfl⟩
        have hm1 : IntKind.u64.wrap (own.size : Int) = (own.size : Int) := by rw [IntKind.wrap_u64]; omega
        have hm2 : IntKind.u64.wrap ((own.size : Int) * 2) = (z2 : Int) := by rw [IntKind.wrap_u64]; omega
        rw [← hz2e] at hP
        replace hz2e := Lib.hid hz2e
        replace hap := Lib.hid hap
        replace hnext := Lib.hid hnext
        clear hput
        go_wp2_with fail
        have q0 := row_at #[.string own, .int .i64 0, .int .i64 0] 176 (rfl : wr.heap.size = wr.heap.size)
        have hbel1 := bal hbel (Obj.cells #[.string own, .int .i64 0, .int .i64 0] 176)
        generalize wr.alloc (Obj.cells #[.string own, .int .i64 0, .int .i64 0] 176) = W5 at *
        clear c0 c1 c2
        obtain ⟨c0, c1, c2⟩ := q0.c3
        have k0 := Old.cell c0
        have k1 := Old.cell c1
        have k2 := Old.cell c2
        (have hN := Old.ne W5; refine wp_region_kept (Old W5.heap.size W5) (by kernel_rfl) (by kernel_rfl) (Old.start W5) ?_; (repeat (first | go_big_quiet_step ((first | (go_at_call 49; go_must (exact calls_kept (hP _) Old.below)))) | quiet_step ((first | (go_at_call 49; go_must (exact calls_kept (hP _) Old.below)))))); refine wpQuiet_nil ?_; rintro _ ⟨X, rfl⟩)
        go_wp2
        go_roundw
        case rel => exact ⟨k + 1, by omega, by go_num, by rw [hR.out, ← hap.out], bch hbel1 X.ok.2⟩
        case measure => simp [intOf]; omega
      · simp only at h1 h2 h3 h4 h5
        subst h1
        have hz0 : (Match.none_).size = 0 := rfl
        obtain ⟨m, rfl⟩ : ∃ m : Nat, size = m + 4 := ⟨(size - 4).toNat, by omega⟩
        obtain ⟨b, rfl⟩ : ∃ b : Nat, back = b + 1 := ⟨(back - 1).toNat, by omega⟩
        have hput : Lz.put ⟨Match.none_, (b : Int) + 1, (m : Int) + 4⟩ = Vary.put (2 * m + 1) ++ Vary.put b := by
          unfold Lz.put
          rw [if_neg (by simp [hz0])]
          have e1 : ((m : Int) + 4 - 4).toNat = m := by omega
          have e2 : ((b : Int) + 1 - 1).toNat = b := by omega
          simp only [e1, e2]
        rw [hput] at hnext
        have hP := fun W => vary_put (2 * m + 1) W (by omega)
        have hP2 := fun W => vary_put b W (by omega)
        have hpl := Vary.put_len (2 * m + 1) (by omega)
        have hpl2 := Vary.put_len b (by omega)
        have hz2 := ba_size (Vary.put (2 * m + 1))
        have hz3 := ba_size (Vary.put b)
        generalize Vary.put (2 * m + 1) = P at *
        generalize Vary.put b = P2 at *
        have hap : (⟨Q.toArray⟩ ++ (⟨P.toArray⟩ ++ ⟨P2.toArray⟩) : ByteArray) = ⟨R.toArray⟩ := ba_ext (by rw [ba_app, ba_app, hnext])
        obtain ⟨z1, hz1e⟩ : ∃ z1, z1 = 2 * m := ⟨_, rfl⟩
        obtain ⟨z2, hz2e⟩ : ∃ z2, z2 = 2 * m + 1 := ⟨_, rfl⟩
        obtain ⟨zs, hzs⟩ : ∃ zs : Int, zs = (m : Int) + 4 := ⟨_, rfl⟩
        obtain ⟨zb, hzb⟩ : ∃ zb : Int, zb = (b : Int) + 1 := ⟨_, rfl⟩
        rw [← hzs] at c2
        rw [← hzb] at c1
        have hs1 : zs - 4 = (m : Int) := by omega
        have hs2 : zb - 1 = (b : Int) := by omega
        have hs3 : IntKind.i64.wrap (zs - 4) = (m : Int) := by rw [hs1]; exact (IntWalk.i64_left _).trans (IntWalk.wrap64_in _ ⟨by omega, by omega⟩)
        have hs4 : IntKind.i64.wrap (zb - 1) = (b : Int) := by rw [hs2]; exact (IntWalk.i64_left _).trans (IntWalk.wrap64_in _ ⟨by omega, by omega⟩)
        have hs5 : IntKind.i64.wrap (m : Int) = (m : Int) := (IntWalk.i64_left _).trans (IntWalk.wrap64_in _ ⟨by omega, by omega⟩)
        have hs6 : IntKind.i64.wrap (b : Int) = (b : Int) := (IntWalk.i64_left _).trans (IntWalk.wrap64_in _ ⟨by omega, by omega⟩)
        have hm1 : IntKind.u64.wrap (m : Int) = (m : Int) := by rw [IntKind.wrap_u64]; omega
        have hm2 : IntKind.u64.wrap ((m : Int) * 2) = (z1 : Int) := by rw [IntKind.wrap_u64]; omega
        have hm3 : bits .or .u64 (z1 : Int) 1 = (z2 : Int) := by
          have := u64_or_nat z1 1 (by omega) (by omega)
          rw [nat_join1 z1 1 (by omega) (by omega)] at this
          have e : z1 + 1 = z2 := by omega
          rw [e] at this
          exact this
        have hm4 : IntKind.u64.wrap (b : Int) = (b : Int) := by rw [IntKind.wrap_u64]; omega
        rw [← hz2e] at hP
        replace hz1e := Lib.hid hz1e
        replace hz2e := Lib.hid hz2e
        replace hzs := Lib.hid hzs
        replace hzb := Lib.hid hzb
        replace hap := Lib.hid hap
        replace hnext := Lib.hid hnext
        have hem : Match.none_.toList.isEmpty = true := empty_of_size hz0
        generalize Match.none_ = nn at *
        clear hput h2 h3 h4 h5
        go_wp2_with fail
        have q0 := row_at #[.string nn, .int .i64 zb, .int .i64 zs] 176 (rfl : wr.heap.size = wr.heap.size)
        have hbel1 := bal hbel (Obj.cells #[.string nn, .int .i64 zb, .int .i64 zs] 176)
        generalize wr.alloc (Obj.cells #[.string nn, .int .i64 zb, .int .i64 zs] 176) = W5 at *
        clear c0 c1 c2
        obtain ⟨c0, c1, c2⟩ := q0.c3
        have k0 := Old.cell c0
        have k1 := Old.cell c1
        have k2 := Old.cell c2
        (have hN := Old.ne W5; refine wp_region_kept (Old W5.heap.size W5) (by kernel_rfl) (by kernel_rfl) (Old.start W5) ?_; (repeat (first | go_big_quiet_step ((first | (go_at_call 49; first | (with_reducible exact calls_kept (hP _) Old.below) | (with_reducible exact calls_kept (hP2 _) Old.below)))) | quiet_step ((first | (go_at_call 49; first | (with_reducible exact calls_kept (hP _) Old.below) | (with_reducible exact calls_kept (hP2 _) Old.below)))))); refine wpQuiet_nil ?_; rintro _ ⟨X, rfl⟩)
        go_wp2
        go_roundw
        case rel => exact ⟨k + 1, by omega, by go_num, by rw [hR.out, ← hap.out], bch hbel1 X.ok.2⟩
        case measure => simp [intOf]; omega
    · obtain rfl : k = l.length := by omega
      rw [List.take_length] at *
      go_wp2
      go_ret2
      exact ⟨rfl, hbel⟩
end Go.Proofs.YtognjohloobliaaGreatDoor
/- The walk of lz.Read, where all is right. -/
namespace Go.Proofs.YtognjohloobliaaGreatDoor
open Go.RowKit
set_option linter.unusedVariables false
set_option linter.unusedSimpArgs false
theorem u64_and1 {x : Nat} (h : x < 18446744073709551616) : bits .and .u64 (x : Int) 1 = ((x % 2 : Nat) : Int) := by
  have := u64_and_nat x 1 h (by omega)
  rw [Nat.and_one_is_mod] at this
  exact this
theorem owns_slice {w : World} {base : Nat} {e : TypeId} {sz n : Nat} {v : Value} {xs : List Value} (h : w.ownsRow base e sz v n xs) : ∃ o c, v = .slice o n c := by
  rcases h.2 with ⟨rfl, rfl⟩ | ⟨g, cap, cur, rfl, _⟩
  · exact ⟨none, 0, rfl⟩
  · exact ⟨_, cap, rfl⟩
theorem one_cases {l : List UInt8} {t : Match.Tok} {k : Nat} (h : Lz.one l = some (t, k)) : ∃ n k', Vary.get l = .ok n k' ∧ 1 ≤ k' ∧ k' ≤ l.length ∧ n < 18446744073709551616 ∧
    ((n % 2 = 0 ∧ 0 < n / 2 ∧ k' + n / 2 ≤ l.length ∧ t = ⟨⟨((l.drop k').take (n / 2)).toArray⟩, 0, 0⟩ ∧ k = k' + n / 2) ∨
     (n % 2 = 1 ∧ n / 2 ≤ 63 ∧ ∃ b j, Vary.int (l.drop k') 1023 = .ok b j ∧ j ≤ l.length - k' ∧ b ≤ 1023 ∧ t = ⟨Match.none_, (b : Int) + 1, ((n / 2 : Nat) : Int) + 4⟩ ∧ k = k' + j)) := by
  unfold Lz.one at h
  cases hg : Vary.get l with
  | bad e => rw [hg] at h; cases h
  | ok n k' =>
    rw [hg] at h
    simp only at h
    obtain ⟨g1, g2, g3, g4⟩ := Vary.get_ok _ _ _ hg
    refine ⟨n, k', rfl, g1, g2, g4, ?_⟩
    split at h
    · rename_i he
      split at h
      · cases h
      · rename_i hn
        injection h with h
        injection h with h1 h2
        exact .inl ⟨he, by omega, by omega, h1.symm, h2.symm⟩
    · split at h
      · cases h
      · rename_i he h63
        cases hi : Vary.int (l.drop k') 1023 with
        | bad e => rw [hi] at h; cases h
        | ok b j =>
          rw [hi] at h
          simp only at h
          injection h with h
          injection h with h1 h2
          obtain ⟨i1, i2⟩ := Lz.int_get hi
          obtain ⟨j1, j2, j3, j4⟩ := Vary.get_ok _ _ _ i1
          rw [List.length_drop] at j2
          exact .inr ⟨by omega, by omega, b, j, rfl, j2, by omega, h1.symm, h2.symm⟩
theorem drop_lz (s : ByteArray) (l : List UInt8) (h : s.data.toList = l) (k : Nat) : (s.extract k s.size).data.toList = l.drop k ∧ (s.extract k s.size).size = s.size - k := by
  have hl : l.length = s.size := by rw [← h]; exact Array.length_toList
  refine ⟨?_, by simp [ByteArray.size_extract]⟩
  rw [ByteArray.data_extract, Array.toList_extract, List.extract_eq_take_drop, h, List.take_of_length_le (by rw [List.length_drop]; omega)]
theorem mid_str (s : ByteArray) (q k h : Nat) : s.extract (q + k) (q + k + h) = ⟨(((s.data.toList.drop q).drop k).take h).toArray⟩ := ba_ext (by
  rw [ByteArray.data_extract, Array.toList_extract, List.extract_eq_take_drop, List.drop_drop]
  simp)
theorem tok_snoc (acc : List Match.Tok) (t : Match.Tok) : acc.flatMap tokCells ++ [.string t.own, .int .i64 t.back, .int .i64 t.size] = (acc ++ [t]).flatMap tokCells := by simp [tokCells]
theorem apart_next {o v v' : Value} {n m : Nat} (h : o.ownBlock = none ∨ o.ownBlock ≠ v.ownBlock) (hb : v'.ownBlock = v.ownBlock ∨ v'.ownBlock = some m) (hl : ∀ k, n ≤ k → o.ownBlock ≠ some k) (hm : n ≤ m) : o.ownBlock = none ∨ o.ownBlock ≠ v'.ownBlock := by
  rcases hb with hb | hb
  · rw [hb]; exact h
  · rw [hb]; exact .inr (hl m hm)
theorem apart_first {o o' v : Value} {n m : Nat} (h : o.ownBlock = none ∨ o.ownBlock ≠ v.ownBlock) (hb : o'.ownBlock = o.ownBlock ∨ o'.ownBlock = some m) (hl : ∀ k, n ≤ k → v.ownBlock ≠ some k) (hm : n ≤ m) : o'.ownBlock = none ∨ o'.ownBlock ≠ v.ownBlock := by
  rcases hb with hb | hb
  · rw [hb]; exact h
  · rw [hb]; exact .inr (fun e => hl m hm e.symm)
theorem apart_symm {a b : Option Nat} (h : a = none ∨ a ≠ b) : b = none ∨ b ≠ a := by
  rcases h with h | h
  · subst h
    cases b with
    | none => exact .inl rfl
    | some x => exact .inr (by simp)
  · exact .inr fun e => h e.symm
set_option maxHeartbeats 8000000 in
set_option maxRecDepth 100000 in
theorem lz_read (s : ByteArray) (ts : List Match.Tok) (w : World) (hs : s.size ≤ 700000) (hall : Lz.all s.data.toList = some ts) (hr : Match.right ts 0 0 = none) :
    Calls Tryz.prog 107 #[.string s] w fun e w' => (∃ v, e = .returned (.tuple #[v, .nilIface]) ∧ TokIs w' v ts) ∧ Below w.heap.size w w' := by
  have hll : s.data.toList.length = s.size := Array.length_toList
  have hgood := Lz.right_good ts 0 0 hr (by omega)
  have hget := fun q W => vary_get (s.extract q s.size) W (by simp only [ByteArray.size_extract]; unfold maxLen; omega)
  have hint := fun q m (hm : m ≤ 9223372036854775807) W => vary_int (s.extract q s.size) m W (by simp only [ByteArray.size_extract]; unfold maxLen; omega) hm
  have hdr := fun q => (drop_lz s _ rfl q).1
  simp only [hdr] at hget hint
  have hmid := fun q k h => mid_str s q k h
  generalize s.data.toList = S at *
  replace hget := Lib.hid hget
  replace hint := Lib.hid hint
  replace hmid := Lib.hid hmid
  replace hgood := Lib.hid hgood
  clear hdr
  go_enter Tryz.func107, Tryz.ntmps107
  go_wp2
  go_loopw [4, 5, 7] (fun o st p wr => ∃ (q : Nat) (acc rest : List Match.Tok) (xs : List Value), q ≤ s.size ∧ p = .int .i64 q ∧ acc.length ≤ q ∧ xs.length ≤ q ∧ Hid (Lz.all (S.drop q) = some rest) ∧ Hid (acc ++ rest = ts) ∧
    wr.ownsRow w.heap.size 176 3 o acc.length (acc.flatMap tokCells) ∧ wr.ownsRow w.heap.size 3 1 st xs.length xs ∧ Hid (o.ownBlock = none ∨ o.ownBlock ≠ st.ownBlock) ∧ Below w.heap.size w wr) (fun _ _ p _ => s.size - (intOf p).toNat)
  case atStart => exact ⟨0, [], ts, [], by omega, rfl, by simp, by simp, Lib.hid (by simpa using hall), Lib.hid rfl, World.ownsRow_nil _ _ _ _, World.ownsRow_nil _ _ _ _, Lib.hid (.inl rfl), by exact blw⟩
  case round =>
    obtain ⟨q, acc, rest, xs, hq, rfl, hac, hxs, hal, hts, hown, hown2, hap, hbel⟩ := hrel
    have hsz := hbel.size
    by_cases hlt : q < s.size
    · have hne : S.drop q ≠ [] := fun h => by rw [List.drop_eq_nil_iff] at h; omega
      have hal2 := hal.out
      rw [Lz.all_cons hne] at hal2
      cases ho : Lz.one (S.drop q) with
      | none => rw [ho] at hal2; cases hal2
      | some x =>
        obtain ⟨t, k⟩ := x
        rw [ho] at hal2
        simp only [List.drop_drop] at hal2
        cases ha : Lz.all (S.drop (q + k)) with
        | none => rw [ha] at hal2; cases hal2
        | some us =>
          rw [ha] at hal2
          injection hal2 with hal2
          have hrest : rest = t :: us := hal2.symm
          obtain ⟨n, k', hgt, hk1, hk', hn64, hcase⟩ := one_cases ho
          rw [List.length_drop, hll] at hk'
          have hG := hget.out q
          rw [hgt] at hG
          have hgv : gotVal (.ok n k') = .tuple #[.int .u64 n, .int .i64 k', .nilIface] := rfl
          replace hG := Lib.hid hG
          have hal3 := Lib.hid ha
          have hts2 := Lib.hid (show (acc ++ [t]) ++ us = ts by rw [← hts.out, hrest, List.append_assoc]; rfl)
          have hlo := fun k (hk : wr.heap.size ≤ k) => owns_lt hown k hk
          clear hal hts hal2 ho ha hgt hne
          go_wp2_with (at_builtin; go_must (refine app_one rfl _ _ 104 3 rfl w.heap.size (.int .i64 0) 1 8 Tryz.underlying104 (by kernel_rfl) rfl _ _ _ rfl hown2 _ rfl rfl ?_ (by omega) (by omega) hsz ?_))
          · first | exact ⟨rfl, rfl⟩ | rfl | simp [Value.oneCell']
          intro v1 w2 r1 r2 r3 r4 r5
          have hown3 := owns_grown hown r2 hap.out
          have hap2 := Lib.hid (apart_next hap.out r3 hlo (by omega))
          have hbel2 := hbel.trans r5
          have hxl : xs.length + 1 = (xs ++ [Value.int .i64 (q : Int)]).length := by simp
          have hown4 : w2.ownsRow w.heap.size 3 1 v1 (xs ++ [Value.int .i64 (q : Int)]).length (xs ++ [Value.int .i64 (q : Int)]) := by rw [← hxl]; exact r1
          have hxs2 : (xs ++ [Value.int .i64 (q : Int)]).length ≤ q + 1 := by rw [← hxl]; omega
          clear r1 r2 r3 r4 r5 hown hown2 hap hlo hbel hsz hxl
          generalize xs ++ [Value.int .i64 (q : Int)] = xs2 at *
          have hsz := hbel2.size
          go_wp2_with fail
          refine (hG.out _).mono ?_
          rintro _ w3 ⟨rfl, rfl⟩
          have hand := u64_and1 hn64
          have hgt := hgood.out t (by rw [← hts2.out]; simp)
          obtain ⟨h, hh⟩ : ∃ h, h = n / 2 := ⟨_, rfl⟩
          have hshr : (n : Int) / 2 = (h : Int) := by omega
          rw [← hh] at hcase
          rcases hcase with ⟨c1, c2, c3, c4, c5⟩ | ⟨c1, c2, b, j, c3, c4, c5, c6, c7⟩
          · rw [List.length_drop, hll] at c3
            have hsq : q + k' + h ≤ s.size := by omega
            have hand0 : bits .and .u64 (n : Int) 1 = 0 := by rw [hand, c1]; rfl
            obtain ⟨z, hz⟩ : ∃ z : Nat, z = s.size - q - k' := ⟨_, rfl⟩
            have hz1 : (s.size : Int) - (q : Int) - (k' : Int) = (z : Int) := by omega
            have hz2 : IntKind.u64.wrap (z : Int) = (z : Int) := by rw [IntKind.wrap_u64]; omega
            have hz2' : IntKind.u64.wrap ((s.size : Int) - (q : Int) - (k' : Int)) = (z : Int) := by rw [hz1, hz2]
            have hz3 : decide (z < h) = false := by simp; omega
            have hz4 : IntKind.i64.wrap (h : Int) = (h : Int) := (IntWalk.i64_left _).trans (IntWalk.wrap64_in _ ⟨by omega, by omega⟩)
            have hz5 : ((h : Int) == 0) = false := by simp; omega
            have hm := hmid.out q k' h
            have ht : t = ⟨s.extract (q + k') (q + k' + h), 0, 0⟩ := by rw [c4, hm]
            have hsn := tok_snoc acc t
            rw [ht] at hsn hts2
            subst c5
            have hkk : q + (k' + h) ≤ s.size := by omega
            replace hm := Lib.hid hm
            replace c4 := Lib.hid c4
            replace ht := Lib.hid ht
            replace hh := Lib.hid hh
            replace hz := Lib.hid hz
            clear hand hgt
            go_wp2_with (at_builtin; go_must (refine app_one rfl _ _ 157 176 rfl w.heap.size (.agg #[.string ⟨#[]⟩, .int .i64 0, .int .i64 0]) 3 32 Tryz.underlying157 (by kernel_rfl) rfl _ _ _ rfl hown3 _ rfl rfl ?_ (by omega) (by omega) hsz ?_))
            · first | exact ⟨rfl, rfl⟩ | rfl | simp [Value.oneCell']
            intro v2 w5 r1 r2 r3 r4 r5
            have hown5 := owns_grown hown4 r2 (apart_symm hap2.out)
            have hap3 := Lib.hid (apart_first hap2.out r3 (fun k hk => owns_lt hown4 k hk) (Nat.le_succ _))
            have hbel3 := hbel2.trans r5
            have hown6 : w5.ownsRow w.heap.size 176 3 v2 (acc ++ [(⟨s.extract (q + k') (q + k' + h), 0, 0⟩ : Match.Tok)]).length ((acc ++ [(⟨s.extract (q + k') (q + k' + h), 0, 0⟩ : Match.Tok)]).flatMap tokCells) := by
              rw [List.length_append, ← hsn]; exact r1
            have hac2 : (acc ++ [(⟨s.extract (q + k') (q + k' + h), 0, 0⟩ : Match.Tok)]).length ≤ acc.length + 1 := by rw [List.length_append]; simp
            clear r1 r2 r3 r4 r5 hown3 hown4 hap2
            go_wp2
            go_roundw
            case rel => exact ⟨q + (k' + h), acc ++ [(⟨s.extract (q + k') (q + k' + h), 0, 0⟩ : Match.Tok)], us, xs2, by omega, by go_num, by omega, by omega, hal3, hts2, hown6, hown5, hap3, hbel3⟩
            case measure => simp [intOf]; omega
          · rw [List.length_drop, hll] at c4
            have hand0 : bits .and .u64 (n : Int) 1 = 1 := by rw [hand, c1]; rfl
            have hb1 := hint.out (q + k') 1023 (by omega)
            rw [List.drop_drop] at c3
            rw [c3] at hb1
            have hbv : intVal (.ok b j) = .tuple #[.int .i64 b, .int .i64 j, .nilIface] := rfl
            replace hb1 := Lib.hid hb1
            have hz3 : decide (63 < h) = false := by simp; omega
            have hz4 : IntKind.i64.wrap (h : Int) = (h : Int) := (IntWalk.i64_left _).trans (IntWalk.wrap64_in _ ⟨by omega, by omega⟩)
            have hsn := tok_snoc acc t
            rw [c6] at hsn hts2
            subst c7
            have hkq : q + k' ≤ s.size := by omega
            have hkk : q + (k' + j) ≤ s.size := by omega
            have hn0 : Match.none_ = ⟨#[]⟩ := rfl
            rw [hn0] at hsn hts2
            replace hh := Lib.hid hh
            clear hand hgt c3 c6 hn0
            go_wp2_with fail
            refine (hb1.out _).mono ?_
            rintro _ w4 ⟨rfl, rfl⟩
            go_wp2_with (at_builtin; go_must (refine app_one rfl _ _ 157 176 rfl w.heap.size (.agg #[.string ⟨#[]⟩, .int .i64 0, .int .i64 0]) 3 32 Tryz.underlying157 (by kernel_rfl) rfl _ _ _ rfl hown3 _ rfl rfl ?_ (by omega) (by omega) hsz ?_))
            · first | exact ⟨rfl, rfl⟩ | rfl | simp [Value.oneCell']
            intro v2 w5 r1 r2 r3 r4 r5
            have hown5 := owns_grown hown4 r2 (apart_symm hap2.out)
            have hap3 := Lib.hid (apart_first hap2.out r3 (fun k hk => owns_lt hown4 k hk) (Nat.le_succ _))
            have hbel3 := hbel2.trans r5
            have hown6 : w5.ownsRow w.heap.size 176 3 v2 (acc ++ [(⟨⟨#[]⟩, (b : Int) + 1, (h : Int) + 4⟩ : Match.Tok)]).length ((acc ++ [(⟨⟨#[]⟩, (b : Int) + 1, (h : Int) + 4⟩ : Match.Tok)]).flatMap tokCells) := by
              rw [List.length_append, ← hsn]; exact r1
            have hac2 : (acc ++ [(⟨⟨#[]⟩, (b : Int) + 1, (h : Int) + 4⟩ : Match.Tok)]).length ≤ acc.length + 1 := by rw [List.length_append]; simp
            clear r1 r2 r3 r4 r5 hown3 hown4 hap2
            go_wp2
            go_roundw
            case rel => exact ⟨q + (k' + j), acc ++ [(⟨⟨#[]⟩, (b : Int) + 1, (h : Int) + 4⟩ : Match.Tok)], us, xs2, by omega, by go_num, by omega, by omega, hal3, hts2, hown6, hown5, hap3, hbel3⟩
            case measure => simp [intOf]; omega
    · obtain rfl : q = s.size := by omega
      have hre : rest = [] := by
        have := hal.out
        rw [List.drop_of_length_le (by omega), Lz.all_nil] at this
        injection this with this
        exact this.symm
      have hacc : acc = ts := by rw [← hts.out, hre, List.append_nil]
      rw [hacc] at hown
      obtain ⟨o', c', hoc⟩ := owns_slice hown
      have hvec := ListIs.of_owns hown
      rw [hoc] at hvec
      subst hoc
      have hM := match_right _ ts wr hvec (fun t ht => by
        rcases hgood.out t ht with ⟨h1, h2, h3, h4⟩ | ⟨h1, h2, h3, h4, h5⟩
        · omega
        · rw [h1]; exact Nat.zero_le _) (by rw [← hacc]; omega)
      rw [hr] at hM
      replace hM := Lib.hid hM
      replace hvec := Lib.hid hvec
      clear hown hown2 hap hal hts hre hacc hac hxs
      go_wp2_with fail
      refine hM.out.mono ?_
      rintro _ w4 ⟨v4, rfl, hv4, hb4⟩
      have hv4 : v4 = .nilIface := hv4
      subst hv4
      go_wp2
      go_ret2
      exact ⟨⟨_, rfl, hvec.out.below (by omega) hb4⟩, bch hbel hb4⟩
end Go.Proofs.YtognjohloobliaaGreatDoor
/- Walks of lz.Squeeze, lz.Swell, and of what the laws over lz share. -/
namespace Go.Proofs.YtognjohloobliaaGreatDoor
open Go.RowKit
set_option linter.unusedVariables false
set_option linter.unusedSimpArgs false
set_option maxHeartbeats 2000000 in
theorem lz_squeeze (s : ByteArray) (w : World) (hs : s.size ≤ 20000) :
    Calls Tryz.prog 67 #[.string s] w fun e w' => e = .returned (.tuple #[.string ⟨(Lz.write (Match.tokens s.data.toList)).toArray⟩, .nilIface]) ∧ Below w.heap.size w w' := by
  have hll : s.data.toList.length = s.size := Array.length_toList
  have hT := fun W => match_tokens s W (by omega)
  have htr := Match.tokens_right s.data.toList (by omega)
  have htl := Match.tokens_len s.data.toList
  have hW := fun v W hv => lz_write v (Match.tokens s.data.toList) W hv (by omega) htr
  generalize Match.tokens s.data.toList = ts at *
  generalize Lz.write ts = B at *
  replace hT := Lib.hid hT
  replace hW := Lib.hid hW
  clear hll htr htl
  go_enter Tryz.func67, Tryz.ntmps67
  go_wp2_with fail
  refine (hT.out _).mono ?_
  rintro _ w1 ⟨v, rfl, hv, hb1⟩
  replace hv := Lib.hid hv
  go_wp2_with fail
  refine (hW.out _ _ hv.out).mono ?_
  rintro _ w2 ⟨rfl, hb2⟩
  go_wp2
  go_ret2
  exact ⟨rfl, by exact blw⟩
set_option maxHeartbeats 2000000 in
theorem lz_swell (s : ByteArray) (ts : List Match.Tok) (w : World) (hs : s.size ≤ 700000) (hall : Lz.all s.data.toList = some ts) (hr : Match.right ts 0 0 = none) (hl : ts.length ≤ 1000000) :
    Calls Tryz.prog 92 #[.string s] w fun e w' => e = .returned (.tuple #[.string ⟨(Match.text [] ts).toArray⟩, .nilIface]) ∧ Below w.heap.size w w' := by
  have hR := fun W => lz_read s ts W hs hall hr
  have hgood := Lz.right_good ts 0 0 hr (by omega)
  have hT := fun v W hv => match_text_ok v ts W hv (fun t ht => by
    rcases hgood t ht with ⟨h1, h2, h3, h4⟩ | ⟨h1, h2, h3, h4, h5⟩
    · omega
    · rw [h1]; exact Nat.zero_le _) (by omega) hr
  generalize Match.text [] ts = B at *
  replace hR := Lib.hid hR
  replace hT := Lib.hid hT
  replace hgood := Lib.hid hgood
  clear hall hr
  go_enter Tryz.func92, Tryz.ntmps92
  go_wp2_with fail
  refine (hR.out _).mono ?_
  rintro _ w1 ⟨⟨v, rfl, hv⟩, hb1⟩
  replace hv := Lib.hid hv
  go_wp2_with fail
  refine (hT.out _ _ hv.out).mono ?_
  rintro _ w2 ⟨rfl, hb2⟩
  go_wp2
  go_ret2
  exact ⟨rfl, by exact blw⟩
/-- What is squeezed: its bytes, and how few they are. -/
theorem squeezed_len (s : List UInt8) (h : s.length ≤ 20000) : (Lz.write (Match.tokens s)).length ≤ 20 * s.length + 20000 := by
  have hr := Match.tokens_right s h
  have h1 := lzw_len (Match.tokens s) (Lz.right_good _ 0 0 hr (by omega))
  have h2 := right_sum (Match.tokens s) 0 0 hr (by omega)
  have h3 := Match.tokens_len s
  omega
end Go.Proofs.YtognjohloobliaaGreatDoor
/- The walk of lz.Read where something is wrong; of lz.Write where a token isn't right. -/
namespace Go.Proofs.YtognjohloobliaaGreatDoor
open Go.RowKit
set_option linter.unusedVariables false
set_option linter.unusedSimpArgs false
def RetFailC (w : World) (e : Ending) (w' : World) : Prop := (∃ g n, e = .returned (.tuple #[.slice none 0 0, .iface 82 (.pointer (some ⟨g, 0, none⟩))]) ∧ w'.cell? ⟨g, 0, none⟩ = some (.int .i64 n)) ∧ Below w.heap.size w w'
set_option maxHeartbeats 1000000 in
theorem lz_failC (x p : Int) (w : World) : Calls Tryz.prog 131 #[.int .i64 x, .int .i64 p] w (RetFailC w) := by
  go_enter Tryz.func131, Tryz.ntmps131
  go_wp2
  go_ret2
  exact ⟨⟨_, x, rfl, (row_alloc w #[.int .i64 x, .int .i64 p] 84).cell 0⟩, by exact blw⟩
theorem one_none {l : List UInt8} (h : Lz.one l = none) : (∃ e, Vary.get l = .bad e) ∨ ∃ n k', Vary.get l = .ok n k' ∧ 1 ≤ k' ∧ k' ≤ l.length ∧ n < 18446744073709551616 ∧
    ((n % 2 = 0 ∧ n / 2 = 0) ∨ (n % 2 = 0 ∧ n / 2 ≠ 0 ∧ l.length - k' < n / 2) ∨ (n % 2 = 1 ∧ 63 < n / 2) ∨ (n % 2 = 1 ∧ n / 2 ≤ 63 ∧ ∃ e, Vary.int (l.drop k') 1023 = .bad e)) := by
  unfold Lz.one at h
  cases hg : Vary.get l with
  | bad e => exact .inl ⟨e, rfl⟩
  | ok n k' =>
    rw [hg] at h
    simp only at h
    obtain ⟨g1, g2, g3, g4⟩ := Vary.get_ok _ _ _ hg
    refine .inr ⟨n, k', rfl, g1, g2, g4, ?_⟩
    split at h
    · rename_i he
      split at h
      · rename_i hn
        by_cases h0 : n / 2 = 0
        · exact .inl ⟨he, h0⟩
        · exact .inr (.inl ⟨he, h0, by omega⟩)
      · cases h
    · rename_i he
      split at h
      · rename_i h63; exact .inr (.inr (.inl ⟨by omega, h63⟩))
      · rename_i h63
        cases hi : Vary.int (l.drop k') 1023 with
        | bad e => exact .inr (.inr (.inr ⟨by omega, by omega, e, rfl⟩))
        | ok b j => rw [hi] at h; cases h
theorem right_some_lt (l : List Match.Tok) (i n x j : Nat) (h : Match.right l i n = some (x, j)) : i ≤ j ∧ j < i + l.length := by
  induction l generalizing i n with
  | nil => cases h
  | cons t l ih =>
    unfold Match.right at h
    split at h
    · injection h with h
      injection h with h1 h2
      simp only [List.length_cons]; omega
    · have := ih _ _ h
      simp only [List.length_cons]; omega
theorem byWLzBad1 {p : Prop} (h : p := by
  go_wp2_with fail
  refine (hF.out _ _ _).mono ?_
  rintro _ w5 ⟨⟨g, nn, rfl, hgc⟩, hb5⟩
  replace hgc := Lib.hid hgc
  go_wp2
  go_ret2
  exact ⟨⟨g, nn, rfl, hgc.out⟩, by exact blw⟩) : p := h
set_option maxHeartbeats 8000000 in
set_option maxRecDepth 100000 in
theorem lz_read_badC (s : ByteArray) (w : World) (hs : s.size ≤ 700000) (hbad : Lz.read s.data.toList = none) (hL : Laid w) :
    Calls Tryz.prog 107 #[.string s] w (RetFailC w) := by
  have hll : s.data.toList.length = s.size := Array.length_toList
  have hget := fun q W => vary_get (s.extract q s.size) W (by simp only [ByteArray.size_extract]; unfold maxLen; omega)
  have hint := fun q m (hm : m ≤ 9223372036854775807) W => vary_int (s.extract q s.size) m W (by simp only [ByteArray.size_extract]; unfold maxLen; omega) hm
  have hdr := fun q => (drop_lz s _ rfl q).1
  simp only [hdr] at hget hint
  have hmid := fun q k h => mid_str s q k h
  have hF := fun x p W => lz_failC x p W
  generalize s.data.toList = S at *
  obtain ⟨A, hA⟩ : ∃ A, A = Lz.all S := ⟨_, rfl⟩
  have hAb : ∀ ts, A = some ts → Match.right ts 0 0 ≠ none := fun ts h hr => by
    unfold Lz.read at hbad
    rw [← hA, h] at hbad
    simp only at hbad
    rw [if_pos hr] at hbad
    cases hbad
  replace hget := Lib.hid hget
  replace hint := Lib.hid hint
  replace hmid := Lib.hid hmid
  replace hF := Lib.hid hF
  replace hAb := Lib.hid hAb
  replace hbad := Lib.hid hbad
  clear hdr
  go_enter Tryz.func107, Tryz.ntmps107
  go_wp2
  go_loopw [4, 5, 7] (fun o st p wr => ∃ (q : Nat) (acc : List Match.Tok) (xs : List Int), q ≤ s.size ∧ p = .int .i64 q ∧ acc.length ≤ q ∧ xs.length = acc.length ∧ Hid (∀ t ∈ acc, t.own.size ≤ s.size) ∧ Hid ((Lz.all (S.drop q)).map (acc ++ ·) = A) ∧
    wr.ownsRow w.heap.size 176 3 o acc.length (acc.flatMap tokCells) ∧ wr.ownsRow w.heap.size 3 1 st xs.length (xs.map (Value.int .i64)) ∧ Hid (o.ownBlock = none ∨ o.ownBlock ≠ st.ownBlock) ∧ Below w.heap.size w wr) (fun _ _ p _ => s.size - (intOf p).toNat)
  case atStart => exact ⟨0, [], [], by omega, rfl, by simp, rfl, Lib.hid (by simp), Lib.hid (by rw [hA, List.drop_zero]; cases Lz.all S <;> rfl), World.ownsRow_nil _ _ _ _, World.ownsRow_nil _ _ _ _, Lib.hid (.inl rfl), by exact blw⟩
  case round =>
    obtain ⟨q, acc, xs, hq, rfl, hac, hxs, hown0, hal, hown, hown2, hap, hbel⟩ := hrel
    have hsz := hbel.size
    by_cases hlt : q < s.size
    · have hne : S.drop q ≠ [] := fun h => by rw [List.drop_eq_nil_iff] at h; omega
      have hal2 := hal.out
      rw [Lz.all_cons hne] at hal2
      have hlo := fun k (hk : wr.heap.size ≤ k) => owns_lt hown k hk
      go_wp2_with (at_builtin; go_must (refine app_one rfl _ _ 104 3 rfl w.heap.size (.int .i64 0) 1 8 Tryz.underlying104 (by kernel_rfl) rfl _ _ _ rfl hown2 _ rfl rfl ?_ (by omega) (by omega) hsz ?_))
      · first | exact ⟨rfl, rfl⟩ | rfl | simp [Value.oneCell']
      intro v1 w2 r1 r2 r3 r4 r5
      have hown3 := owns_grown hown r2 hap.out
      have hap2 := Lib.hid (apart_next hap.out r3 hlo (by omega))
      have hbel2 := hbel.trans r5
      have hxl : xs.length + 1 = (xs ++ [(q : Int)]).length := by simp
      have hxm : xs.map (Value.int .i64) ++ [Value.int .i64 (q : Int)] = (xs ++ [(q : Int)]).map (Value.int .i64) := by simp
      have hown4 : w2.ownsRow w.heap.size 3 1 v1 (xs ++ [(q : Int)]).length ((xs ++ [(q : Int)]).map (Value.int .i64)) := by rw [← hxl, ← hxm, hxs]; exact r1
      have hxs2 : (xs ++ [(q : Int)]).length = acc.length + 1 := by rw [← hxl]; omega
      clear r1 r2 r3 r4 r5 hown hown2 hap hlo hbel hsz hxl hxs hxm
      generalize xs ++ [(q : Int)] = xs2 at *
      have hsz := hbel2.size
      cases ho : Lz.one (S.drop q) with
      | none =>
        clear hal hal2 hown0
        rcases one_none ho with ⟨e, he⟩ | ⟨n, k', hgt, hk1, hk', hn64, hcase⟩
        · have hG := hget.out q
          rw [he] at hG
          have hgv : gotVal (.bad e) = .tuple #[.int .u64 0, .int .i64 0, .iface 67 (.int .i64 e)] := rfl
          replace hG := Lib.hid hG
          clear ho he hown3 hown4 hap2
          go_wp2_with fail
          refine (hG.out _).mono ?_
          rintro _ w3 ⟨rfl, rfl⟩
          go_wp2_with fail
          refine (tell_errno e _ (hL.below hbel2)).mono ?_
          rintro _ w4 ⟨rfl, hb4⟩
          exact byWLzBad1
        · have hG := hget.out q
          rw [hgt] at hG
          have hgv : gotVal (.ok n k') = .tuple #[.int .u64 n, .int .i64 k', .nilIface] := rfl
          rw [List.length_drop, hll] at hk' hcase
          have hand := u64_and1 hn64
          obtain ⟨h, hh⟩ : ∃ h, h = n / 2 := ⟨_, rfl⟩
          have hshr : (n : Int) / 2 = (h : Int) := by omega
          rw [← hh] at hcase
          replace hG := Lib.hid hG
          clear ho hgt hown3 hown4 hap2
          rcases hcase with ⟨c1, c2⟩ | ⟨c1, c2, c3⟩ | ⟨c1, c2⟩ | ⟨c1, c2, e, c3⟩
          · have hand0 : bits .and .u64 (n : Int) 1 = 0 := by rw [hand, c1]; rfl
            subst c2
            replace hh := Lib.hid hh
            clear hand
            go_wp2_with fail
            refine (hG.out _).mono ?_
            rintro _ w3 ⟨rfl, rfl⟩
            exact byWLzBad1
          · have hand0 : bits .and .u64 (n : Int) 1 = 0 := by rw [hand, c1]; rfl
            obtain ⟨z, hz⟩ : ∃ z : Nat, z = s.size - q - k' := ⟨_, rfl⟩
            have hz1 : (s.size : Int) - (q : Int) - (k' : Int) = (z : Int) := by omega
            have hz2 : IntKind.u64.wrap (z : Int) = (z : Int) := by rw [IntKind.wrap_u64]; omega
            have hz2' : IntKind.u64.wrap ((s.size : Int) - (q : Int) - (k' : Int)) = (z : Int) := by rw [hz1, hz2]
            have hz3 : decide (z < h) = true := by simp; omega
            have hz5 : ((h : Int) == 0) = false := by simp; omega
            replace hh := Lib.hid hh
            replace hz := Lib.hid hz
            clear hand
            go_wp2_with fail
            refine (hG.out _).mono ?_
            rintro _ w3 ⟨rfl, rfl⟩
            exact byWLzBad1
          · have hand0 : bits .and .u64 (n : Int) 1 = 1 := by rw [hand, c1]; rfl
            have hz3 : decide (63 < h) = true := by simp; omega
            replace hh := Lib.hid hh
            clear hand
            go_wp2_with fail
            refine (hG.out _).mono ?_
            rintro _ w3 ⟨rfl, rfl⟩
            exact byWLzBad1
          · have hand0 : bits .and .u64 (n : Int) 1 = 1 := by rw [hand, c1]; rfl
            have hb1 := hint.out (q + k') 1023 (by omega)
            rw [List.drop_drop] at c3
            rw [c3] at hb1
            have hbv : intVal (.bad e) = .tuple #[.int .i64 0, .int .i64 0, .iface 67 (.int .i64 e)] := rfl
            replace hb1 := Lib.hid hb1
            have hz3 : decide (63 < h) = false := by simp; omega
            have hkq : q + k' ≤ s.size := by omega
            replace hh := Lib.hid hh
            clear hand c3
            go_wp2_with fail
            refine (hG.out _).mono ?_
            rintro _ w3 ⟨rfl, rfl⟩
            go_wp2_with fail
            refine (hb1.out _).mono ?_
            rintro _ w3 ⟨rfl, rfl⟩
            go_wp2_with fail
            refine (tell_errno e _ (hL.below hbel2)).mono ?_
            rintro _ w4 ⟨rfl, hb4⟩
            exact byWLzBad1
      | some x =>
        obtain ⟨t, k⟩ := x
        rw [ho] at hal2
        simp only [List.drop_drop] at hal2
        obtain ⟨n, k', hgt, hk1, hk', hn64, hcase⟩ := one_cases ho
        have hto := (Lz.one_pos ho).2.2.2.1
        rw [List.length_drop, hll] at hk' hto
        have hG := hget.out q
        rw [hgt] at hG
        have hgv : gotVal (.ok n k') = .tuple #[.int .u64 n, .int .i64 k', .nilIface] := rfl
        replace hG := Lib.hid hG
        have hal3 : Hid ((Lz.all (S.drop (q + k))).map ((acc ++ [t]) ++ ·) = A) := Lib.hid (by
          rw [← hal2]
          cases Lz.all (S.drop (q + k)) <;> simp)
        have hown1 : Hid (∀ y ∈ acc ++ [t], y.own.size ≤ s.size) := Lib.hid (fun y hy => by
          rcases List.mem_append.1 hy with hy | hy
          · exact hown0.out y hy
          · rw [List.mem_singleton.1 hy]; omega)
        clear hal hal2 ho hgt hne hown0
        go_wp2_with fail
        refine (hG.out _).mono ?_
        rintro _ w3 ⟨rfl, rfl⟩
        have hand := u64_and1 hn64
        obtain ⟨h, hh⟩ : ∃ h, h = n / 2 := ⟨_, rfl⟩
        have hshr : (n : Int) / 2 = (h : Int) := by omega
        rw [← hh] at hcase
        rcases hcase with ⟨c1, c2, c3, c4, c5⟩ | ⟨c1, c2, b, j, c3, c4, c5, c6, c7⟩
        · rw [List.length_drop, hll] at c3
          have hsq : q + k' + h ≤ s.size := by omega
          have hand0 : bits .and .u64 (n : Int) 1 = 0 := by rw [hand, c1]; rfl
          obtain ⟨z, hz⟩ : ∃ z : Nat, z = s.size - q - k' := ⟨_, rfl⟩
          have hz1 : (s.size : Int) - (q : Int) - (k' : Int) = (z : Int) := by omega
          have hz2 : IntKind.u64.wrap (z : Int) = (z : Int) := by rw [IntKind.wrap_u64]; omega
          have hz2' : IntKind.u64.wrap ((s.size : Int) - (q : Int) - (k' : Int)) = (z : Int) := by rw [hz1, hz2]
          have hz3 : decide (z < h) = false := by simp; omega
          have hz4 : IntKind.i64.wrap (h : Int) = (h : Int) := (IntWalk.i64_left _).trans (IntWalk.wrap64_in _ ⟨by omega, by omega⟩)
          have hz5 : ((h : Int) == 0) = false := by simp; omega
          have hm := hmid.out q k' h
          have ht : t = ⟨s.extract (q + k') (q + k' + h), 0, 0⟩ := by rw [c4, hm]
          have hsn := tok_snoc acc t
          rw [ht] at hsn hal3 hown1
          subst c5
          have hkk : q + (k' + h) ≤ s.size := by omega
          replace hm := Lib.hid hm
          replace c4 := Lib.hid c4
          replace ht := Lib.hid ht
          replace hh := Lib.hid hh
          replace hz := Lib.hid hz
          clear hand hto
          go_wp2_with (at_builtin; go_must (refine app_one rfl _ _ 157 176 rfl w.heap.size (.agg #[.string ⟨#[]⟩, .int .i64 0, .int .i64 0]) 3 32 Tryz.underlying157 (by kernel_rfl) rfl _ _ _ rfl hown3 _ rfl rfl ?_ (by omega) (by omega) hsz ?_))
          · first | exact ⟨rfl, rfl⟩ | rfl | simp [Value.oneCell']
          intro v2 w5 r1 r2 r3 r4 r5
          have hown5 := owns_grown hown4 r2 (apart_symm hap2.out)
          have hap3 := Lib.hid (apart_first hap2.out r3 (fun k hk => owns_lt hown4 k hk) (Nat.le_succ _))
          have hbel3 := hbel2.trans r5
          have hown6 : w5.ownsRow w.heap.size 176 3 v2 (acc ++ [(⟨s.extract (q + k') (q + k' + h), 0, 0⟩ : Match.Tok)]).length ((acc ++ [(⟨s.extract (q + k') (q + k' + h), 0, 0⟩ : Match.Tok)]).flatMap tokCells) := by
            rw [List.length_append, ← hsn]; exact r1
          have hac2 : (acc ++ [(⟨s.extract (q + k') (q + k' + h), 0, 0⟩ : Match.Tok)]).length = acc.length + 1 := by rw [List.length_append]; simp
          clear r1 r2 r3 r4 r5 hown3 hown4 hap2
          go_wp2
          go_roundw
          case rel => exact ⟨q + (k' + h), acc ++ [(⟨s.extract (q + k') (q + k' + h), 0, 0⟩ : Match.Tok)], xs2, by omega, by go_num, by omega, by omega, hown1, hal3, hown6, hown5, hap3, hbel3⟩
          case measure => simp [intOf]; omega
        · rw [List.length_drop, hll] at c4
          have hand0 : bits .and .u64 (n : Int) 1 = 1 := by rw [hand, c1]; rfl
          have hb1 := hint.out (q + k') 1023 (by omega)
          rw [List.drop_drop] at c3
          rw [c3] at hb1
          have hbv : intVal (.ok b j) = .tuple #[.int .i64 b, .int .i64 j, .nilIface] := rfl
          replace hb1 := Lib.hid hb1
          have hz3 : decide (63 < h) = false := by simp; omega
          have hz4 : IntKind.i64.wrap (h : Int) = (h : Int) := (IntWalk.i64_left _).trans (IntWalk.wrap64_in _ ⟨by omega, by omega⟩)
          have hsn := tok_snoc acc t
          rw [c6] at hsn hal3 hown1
          subst c7
          have hkq : q + k' ≤ s.size := by omega
          have hkk : q + (k' + j) ≤ s.size := by omega
          have hn0 : Match.none_ = ⟨#[]⟩ := rfl
          rw [hn0] at hsn hal3 hown1
          replace hh := Lib.hid hh
          clear hand c3 c6 hn0 hto
          go_wp2_with fail
          refine (hb1.out _).mono ?_
          rintro _ w4 ⟨rfl, rfl⟩
          go_wp2_with (at_builtin; go_must (refine app_one rfl _ _ 157 176 rfl w.heap.size (.agg #[.string ⟨#[]⟩, .int .i64 0, .int .i64 0]) 3 32 Tryz.underlying157 (by kernel_rfl) rfl _ _ _ rfl hown3 _ rfl rfl ?_ (by omega) (by omega) hsz ?_))
          · first | exact ⟨rfl, rfl⟩ | rfl | simp [Value.oneCell']
          intro v2 w5 r1 r2 r3 r4 r5
          have hown5 := owns_grown hown4 r2 (apart_symm hap2.out)
          have hap3 := Lib.hid (apart_first hap2.out r3 (fun k hk => owns_lt hown4 k hk) (Nat.le_succ _))
          have hbel3 := hbel2.trans r5
          have hown6 : w5.ownsRow w.heap.size 176 3 v2 (acc ++ [(⟨⟨#[]⟩, (b : Int) + 1, (h : Int) + 4⟩ : Match.Tok)]).length ((acc ++ [(⟨⟨#[]⟩, (b : Int) + 1, (h : Int) + 4⟩ : Match.Tok)]).flatMap tokCells) := by
            rw [List.length_append, ← hsn]; exact r1
          have hac2 : (acc ++ [(⟨⟨#[]⟩, (b : Int) + 1, (h : Int) + 4⟩ : Match.Tok)]).length = acc.length + 1 := by rw [List.length_append]; simp
          clear r1 r2 r3 r4 r5 hown3 hown4 hap2
          go_wp2
          go_roundw
          case rel => exact ⟨q + (k' + j), acc ++ [(⟨⟨#[]⟩, (b : Int) + 1, (h : Int) + 4⟩ : Match.Tok)], xs2, by omega, by go_num, by omega, by omega, hown1, hal3, hown6, hown5, hap3, hbel3⟩
          case measure => simp [intOf]; omega
    · obtain rfl : q = s.size := by omega
      have hacc : A = some acc := by
        have := hal.out
        rw [List.drop_of_length_le (by omega), Lz.all_nil] at this
        simpa using this.symm
      have hrn := hAb.out acc hacc
      obtain ⟨⟨x, i⟩, hxi⟩ : ∃ y, Match.right acc 0 0 = some y := by
        cases hc : Match.right acc 0 0 with
        | none => exact absurd hc hrn
        | some y => exact ⟨y, rfl⟩
      have hil := (right_some_lt acc 0 0 x i hxi).2
      obtain ⟨o', c', hoc⟩ := owns_slice hown
      have hvec := ListIs.of_owns hown
      rw [hoc] at hvec
      subst hoc
      have hM := match_right _ acc wr hvec (fun t ht => by have := hown0.out t ht; omega) (by omega)
      rw [hxi] at hM
      replace hM := Lib.hid hM
      have hil2 : i < xs.length := by omega
      have hvx : ListIs (fun x : Int => [Value.int .i64 x]) 1 wr u5 xs := ListIs.of_owns (by rw [← List.map_eq_flatMap]; exact hown2)
      obtain ⟨ao, co, rfl, hcx1, hcx⟩ := hvx.at (fun _ => rfl)
      obtain ⟨sb, so, rfl, hsb, hsc⟩ := hcx i hil2
      have sx : wr.cell? ⟨sb, so + i, none⟩ = some (.int .i64 xs[i]) := by have := hsc 0 _ rfl; simpa using this
      clear hown hown2 hvec hcx hcx1 hsc hsb hap hal hown0 hrn hxi hacc hvx
      generalize xs[i] = xv at *
      have hiI : i < acc.length := by omega
      have hTA : ∀ (p : Value) (W : World), (Instr.typeAssert (.iface 82 p) 37 82 true).run Tryz.prog W = .ok (.tuple #[p, .bool true]) W := fun _ _ => by kernel_rfl
      go_wp2_with fail
      refine hM.out.mono ?_
      rintro _ w4 ⟨v4, rfl, hv4, hb4⟩
      obtain ⟨g, rfl, hrow⟩ := hv4
      replace sx := cell_below hb4 sx
      have hb5 := bch hbel hb4
      obtain ⟨e0, e1⟩ := hrow.c2
      clear hrow hb4
      go_wp2_with fail
      (refine wp_region_held_drew (S := (fun W => Below w4.heap.size w4 W ∧ W.cell? ⟨g, 0, none⟩ = some (.int .i64 x) ∧ W.cell? ⟨g, 1, none⟩ = some (.int .i64 i) ∧ W.cell? ⟨sb, so + i, none⟩ = some (.int .i64 xv))) (by kernel_rfl) ?_ (fun hHeld => ?_); ((try dsimp only); exact ⟨bdr (Below.refl _ _), e0, e1, sx⟩))
      (refine tkO 0 ?_; refine tkO 1 ?_; refine tkO 2 ?_; refine tkO 3 ?_; refine tkO 4 ?_; refine tkO 5 ?_; refine tkO 6 ?_; refine tkO 7 ?_; refine tkO 8 ?_; refine tkO 9 ?_; refine tkO 10 ?_; refine tkO 11 ?_)
      (refine tdoO 12 (fun K hK => ?_); ((go_simp; refine (hF.out _ _ _).mono ?_; rintro _ wn ⟨⟨gg, nn, rfl, hgc⟩, hbn⟩); refine hK.out _ _ ?_ (fun hHeld => ?_); ((try dsimp only); exact ⟨bch hHeld.1 hbn, cell_below hbn hHeld.2.1, cell_below hbn hHeld.2.2.1, cell_below hbn hHeld.2.2.2⟩); clear hK K; (try clear hHeld0); (try rename_i hHeld0)))
      replace hgc := Lib.hid hgc
      (refine tkO 13 ?_; refine tkO 14 ?_; refine tkO 15 ?_; refine tkO 16 ?_)
      (refine wpAnyH_done (by kernel_rfl) ?_ _)
      have hbf := bch hb5 hHeld.1
      go_wp2
      go_ret2
      exact ⟨⟨_, nn, rfl, hgc.out⟩, hbf⟩
set_option maxHeartbeats 2000000 in
theorem lz_swell_bad (s : ByteArray) (w : World) (hs : s.size ≤ 700000) (hbad : Lz.read s.data.toList = none) (hL : Laid w) :
    Calls Tryz.prog 92 #[.string s] w fun e w' => (∃ g n, e = .returned (.tuple #[.string ⟨#[]⟩, .iface 82 (.pointer (some ⟨g, 0, none⟩))]) ∧ w'.cell? ⟨g, 0, none⟩ = some (.int .i64 n)) ∧ Below w.heap.size w w' := by
  have hR := Lib.hid (lz_read_badC s w hs hbad hL)
  go_enter Tryz.func92, Tryz.ntmps92
  go_wp2_with fail
  refine hR.out.mono ?_
  rintro _ w1 ⟨⟨g, n, rfl, hg⟩, hb⟩
  replace hg := Lib.hid hg
  go_wp2
  go_ret2
  exact ⟨⟨g, n, rfl, hg.out⟩, hb⟩
end Go.Proofs.YtognjohloobliaaGreatDoor
