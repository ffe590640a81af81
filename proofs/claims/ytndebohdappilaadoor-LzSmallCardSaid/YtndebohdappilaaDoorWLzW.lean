/- The walk of lz.Write, where all tokens are right. -/
import Derived.Test.YtndebohdappilaaDoorWText
import Derived.Test.YtndebohdappilaaDoorWVary
import Derived.Test.YtndebohdappilaaDoorLib4
import Derived.Test.YtndebohdappilaaDoorPlainLz
namespace Go.Proofs.YtndebohdappilaaDoor
open Go.RowKit
set_option linter.unusedVariables false
set_option linter.unusedSimpArgs false
theorem lzw_take (l : List Match.Tok) (k : Nat) (h : k < l.length) : Lz.write (l.take (k + 1)) = Lz.write (l.take k) ++ Lz.put l[k] := by
  unfold Lz.write; rw [List.take_succ_eq_append_getElem h, List.flatMap_append]; simp
theorem lzw_put_len (t : Match.Tok) (h : Lz.Good t) : (Lz.put t).length ≤ 20 + t.own.size := by
  rcases h with ⟨h1, h2, h3, h4⟩ | ⟨h1, h2, h3, h4, h5⟩
  · unfold Lz.put
    rw [if_pos h1, List.length_append, Match.ba_len]
    have := Vary.put_len (2 * t.own.size) (by omega)
    omega
  · have hz : t.own.size = 0 := by rw [h1]; rfl
    unfold Lz.put
    rw [if_neg (by omega), List.length_append]
    have := Vary.put_len (2 * (t.size - 4).toNat + 1) (by omega)
    have := Vary.put_len (t.back - 1).toNat (by omega)
    omega
theorem right_sum (l : List Match.Tok) (i n : Nat) (h : Match.right l i n = none) (hn : n ≤ 20000) : n + (l.map fun t => t.own.size).sum ≤ 20000 := by
  have h1 := (Match.text_len l (List.replicate n 0) i (by rw [List.length_replicate]; exact h) (by rw [List.length_replicate]; exact hn))
  rw [List.length_replicate] at h1
  have h2 : (l.map fun t => t.own.size).sum ≤ (l.map Match.adv).sum := by
    clear h1 h hn
    induction l with
    | nil => simp
    | cons t l ih =>
      simp only [List.map_cons, List.sum_cons]
      have : t.own.size ≤ Match.adv t := by unfold Match.adv; split <;> omega
      omega
  omega
theorem lzw_len (l : List Match.Tok) (h : ∀ t ∈ l, Lz.Good t) : (Lz.write l).length ≤ 20 * l.length + (l.map fun t => t.own.size).sum := by
  induction l with
  | nil => simp [Lz.write]
  | cons t l ih =>
    have h1 := ih fun y hy => h y (List.mem_cons_of_mem _ hy)
    have h2 := lzw_put_len t (h t (List.mem_cons_self ..))
    unfold Lz.write at *
    rw [List.flatMap_cons, List.length_append, List.length_cons, List.map_cons, List.sum_cons]
    omega
theorem lzw_take_le (l : List Match.Tok) (k : Nat) : (Lz.write (l.take k)).length ≤ (Lz.write l).length := by
  unfold Lz.write
  conv => rhs; rw [← List.take_append_drop k l, List.flatMap_append]
  rw [List.length_append]; omega
set_option maxHeartbeats 8000000 in
set_option maxRecDepth 100000 in
theorem lz_write (v : Value) (l : List Match.Tok) (w : World) (hv : TokIs w v l) (hll : l.length ≤ 30000) (hr : Match.right l 0 0 = none) :
    Calls Tryd.prog 64 #[v] w fun e w' => e = .returned (.tuple #[.string ⟨(Lz.write l).toArray⟩, .nilIface]) ∧ Below w.heap.size w w' := by
  have hgood := Lz.right_good l 0 0 hr (by omega)
  have hwl := lzw_len l hgood
  have hsum := right_sum l 0 0 hr (by omega)
  have hA := match_right v l w hv (fun t ht => by
    rcases hgood t ht with ⟨h1, h2, h3, h4⟩ | ⟨h1, h2, h3, h4, h5⟩
    · omega
    · rw [h1]; exact Nat.zero_le _) (by omega)
  rw [hr] at hA
  obtain ⟨a, cap, rfl, hcap, hcell⟩ := hv.at tokCells_len
  clear hv hcap
  have htl := fun k => lzw_take_le l k
  replace hA := Lib.hid hA
  replace hcell := Lib.hid hcell
  replace hgood := Lib.hid hgood
  replace htl := Lib.hid htl
  replace hr := Lib.hid hr
  have hbig : (Lz.write l).length ≤ 700000 := by omega
  clear hwl hsum
  go_enter Tryd.func64, Tryd.ntmps64
  go_wp2_with fail
  refine hA.out.mono ?_
  rintro _ w1 ⟨v1, rfl, hv1, hb1⟩
  have hv1 : v1 = .nilIface := hv1
  subst hv1
  go_wp2
  go_loopw [5, 15] (fun s i wr => ∃ k : Nat, k ≤ l.length ∧ i = .int .i64 k ∧ s = .string ⟨(Lz.write (l.take k)).toArray⟩ ∧ Below w.heap.size w wr) (fun _ i _ => l.length - (intOf i).toNat)
  case atStart => exact ⟨0, by omega, rfl, rfl, by (repeat (first | exact Below.refl _ _ | assumption | refine bal ?_ _ | refine bdr ?_ | refine bdn ?_ _ | refine bst ?_ (by first | assumption | exact Nat.le_refl _ | omega) _ | refine bch ?_ (by assumption)))⟩
  case round =>
    obtain ⟨k, hk, rfl, rfl, hbel⟩ := hrel
    by_cases hlt : k < l.length
    · obtain ⟨b1, f1, rfl, hb2, hc1⟩ := hcell.out k hlt
      have hb2 := hb2 (by omega)
      have c0 : wr.cell? ⟨b1, f1 + k * 3, none⟩ = some (.string l[k].own) := (hbel.cell (p := ⟨b1, f1 + k * 3, none⟩) hb2).trans (hc1 0 _ rfl)
      have c1 : wr.cell? ⟨b1, f1 + k * 3 + 1, none⟩ = some (.int .i64 l[k].back) := (hbel.cell (p := ⟨b1, f1 + k * 3 + 1, none⟩) hb2).trans (hc1 1 _ rfl)
      have c2 : wr.cell? ⟨b1, f1 + k * 3 + 2, none⟩ = some (.int .i64 l[k].size) := (hbel.cell (p := ⟨b1, f1 + k * 3 + 2, none⟩) hb2).trans (hc1 2 _ rfl)
      have hg := hgood.out l[k] (List.getElem_mem hlt)
      have hnext := lzw_take l k hlt
      have hlen1 := htl.out k
      have hlen2 := htl.out (k + 1)
      have hz1 := ba_size (Lz.write (l.take k))
      clear hc1
      generalize l[k] = t at *
      generalize Lz.write (l.take k) = Q at *
      generalize hR : Lz.write (l.take (k + 1)) = R at *
      obtain ⟨own, back, size⟩ := t
      replace hR := Lib.hid hR
      simp only at c0 c1 c2
      rcases hg with ⟨h1, h2, h3, h4⟩ | ⟨h1, h2, h3, h4, h5⟩
      · simp only at h1 h2 h3 h4
        subst h2 h3
        have hne := nonempty_of_size h1
        have hput : Lz.put ⟨own, 0, 0⟩ = Vary.put (2 * own.size) ++ own.data.toList := by unfold Lz.put; rw [if_pos h1]
        rw [hput] at hnext
        have hP := fun W => vary_put (2 * own.size) W (by omega)
        have hpl := Vary.put_len (2 * own.size) (by omega)
        have hz2 := ba_size (Vary.put (2 * own.size))
        generalize Vary.put (2 * own.size) = P at *
        have hap : (⟨Q.toArray⟩ ++ (⟨P.toArray⟩ ++ own) : ByteArray) = ⟨R.toArray⟩ := ba_ext (by rw [ba_app, ba_app, hnext])
        obtain ⟨z2, hz2e⟩ : ∃ z2, z2 = 2 * own.size := ⟨_, rfl⟩
        have hm1 : IntKind.u64.wrap (own.size : Int) = (own.size : Int) := by rw [IntKind.wrap_u64]; omega
        have hm2 : IntKind.u64.wrap ((own.size : Int) * 2) = (z2 : Int) := by rw [IntKind.wrap_u64]; omega
        rw [← hz2e] at hP
        replace hz2e := Lib.hid hz2e
        replace hap := Lib.hid hap
        replace hnext := Lib.hid hnext
        clear hput
        go_wp2_with fail
        have q0 := row_at #[.string own, .int .i64 0, .int .i64 0] 153 (rfl : wr.heap.size = wr.heap.size)
        have hbel1 := bal hbel (Obj.cells #[.string own, .int .i64 0, .int .i64 0] 153)
        generalize wr.alloc (Obj.cells #[.string own, .int .i64 0, .int .i64 0] 153) = W5 at *
        clear c0 c1 c2
        (have c0 := q0.cell 0; have c1 := q0.cell 1; have c2 := q0.cell 2; simp only [List.set_cons_succ, List.set_cons_zero, List.getElem?_cons_zero, List.getElem?_cons_succ] at c0 c1 c2)
        have k0 := Old.cell c0
        have k1 := Old.cell c1
        have k2 := Old.cell c2
        (have hN := Old.ne W5; refine wp_region_kept (Old W5.heap.size W5) (by kernel_rfl) (by kernel_rfl) (Old.start W5) ?_; (repeat (first | go_big_quiet_step ((first | (go_at_call 70; go_must (exact calls_kept (hP _) Old.below)))) | quiet_step ((first | (go_at_call 70; go_must (exact calls_kept (hP _) Old.below)))))); refine wpQuiet_nil ?_; rintro _ ⟨X, rfl⟩)
        go_wp2
        go_roundw
        case rel => exact ⟨k + 1, by omega, by go_num, by rw [hR.out, ← hap.out], bch hbel1 X.ok.2⟩
        case measure => simp [intOf]; omega
      · simp only at h1 h2 h3 h4 h5
        subst h1
        have hz0 : (Match.none_).size = 0 := rfl
        obtain ⟨m, rfl⟩ : ∃ m : Nat, size = m + 4 := ⟨(size - 4).toNat, by omega⟩
        obtain ⟨b, rfl⟩ : ∃ b : Nat, back = b + 1 := ⟨(back - 1).toNat, by omega⟩
        have hput : Lz.put ⟨Match.none_, (b : Int) + 1, (m : Int) + 4⟩ = Vary.put (2 * m + 1) ++ Vary.put b := by
          unfold Lz.put
          rw [if_neg (by simp [hz0])]
          have e1 : ((m : Int) + 4 - 4).toNat = m := by omega
          have e2 : ((b : Int) + 1 - 1).toNat = b := by omega
          simp only [e1, e2]
        rw [hput] at hnext
        have hP := fun W => vary_put (2 * m + 1) W (by omega)
        have hP2 := fun W => vary_put b W (by omega)
        have hpl := Vary.put_len (2 * m + 1) (by omega)
        have hpl2 := Vary.put_len b (by omega)
        have hz2 := ba_size (Vary.put (2 * m + 1))
        have hz3 := ba_size (Vary.put b)
        generalize Vary.put (2 * m + 1) = P at *
        generalize Vary.put b = P2 at *
        have hap : (⟨Q.toArray⟩ ++ (⟨P.toArray⟩ ++ ⟨P2.toArray⟩) : ByteArray) = ⟨R.toArray⟩ := ba_ext (by rw [ba_app, ba_app, hnext])
        obtain ⟨z1, hz1e⟩ : ∃ z1, z1 = 2 * m := ⟨_, rfl⟩
        obtain ⟨z2, hz2e⟩ : ∃ z2, z2 = 2 * m + 1 := ⟨_, rfl⟩
        obtain ⟨zs, hzs⟩ : ∃ zs : Int, zs = (m : Int) + 4 := ⟨_, rfl⟩
        obtain ⟨zb, hzb⟩ : ∃ zb : Int, zb = (b : Int) + 1 := ⟨_, rfl⟩
        rw [← hzs] at c2
        rw [← hzb] at c1
        have hs1 : zs - 4 = (m : Int) := by omega
        have hs2 : zb - 1 = (b : Int) := by omega
        have hs3 : IntKind.i64.wrap (zs - 4) = (m : Int) := by rw [hs1]; exact (IntWalk.i64_left _).trans (IntWalk.wrap64_in _ ⟨by omega, by omega⟩)
        have hs4 : IntKind.i64.wrap (zb - 1) = (b : Int) := by rw [hs2]; exact (IntWalk.i64_left _).trans (IntWalk.wrap64_in _ ⟨by omega, by omega⟩)
        have hs5 : IntKind.i64.wrap (m : Int) = (m : Int) := (IntWalk.i64_left _).trans (IntWalk.wrap64_in _ ⟨by omega, by omega⟩)
        have hs6 : IntKind.i64.wrap (b : Int) = (b : Int) := (IntWalk.i64_left _).trans (IntWalk.wrap64_in _ ⟨by omega, by omega⟩)
        have hm1 : IntKind.u64.wrap (m : Int) = (m : Int) := by rw [IntKind.wrap_u64]; omega
        have hm2 : IntKind.u64.wrap ((m : Int) * 2) = (z1 : Int) := by rw [IntKind.wrap_u64]; omega
        have hm3 : bits .or .u64 (z1 : Int) 1 = (z2 : Int) := by
          have := u64_or_nat z1 1 (by omega) (by omega)
          rw [nat_join1 z1 1 (by omega) (by omega)] at this
          have e : z1 + 1 = z2 := by omega
          rw [e] at this
          exact this
        have hm4 : IntKind.u64.wrap (b : Int) = (b : Int) := by rw [IntKind.wrap_u64]; omega
        rw [← hz2e] at hP
        replace hz1e := Lib.hid hz1e
        replace hz2e := Lib.hid hz2e
        replace hzs := Lib.hid hzs
        replace hzb := Lib.hid hzb
        replace hap := Lib.hid hap
        replace hnext := Lib.hid hnext
        have hem : Match.none_.toList.isEmpty = true := empty_of_size hz0
        generalize Match.none_ = nn at *
        clear hput h2 h3 h4 h5
        go_wp2_with fail
        have q0 := row_at #[.string nn, .int .i64 zb, .int .i64 zs] 153 (rfl : wr.heap.size = wr.heap.size)
        have hbel1 := bal hbel (Obj.cells #[.string nn, .int .i64 zb, .int .i64 zs] 153)
        generalize wr.alloc (Obj.cells #[.string nn, .int .i64 zb, .int .i64 zs] 153) = W5 at *
        clear c0 c1 c2
        (have c0 := q0.cell 0; have c1 := q0.cell 1; have c2 := q0.cell 2; simp only [List.set_cons_succ, List.set_cons_zero, List.getElem?_cons_zero, List.getElem?_cons_succ] at c0 c1 c2)
        have k0 := Old.cell c0
        have k1 := Old.cell c1
        have k2 := Old.cell c2
        (have hN := Old.ne W5; refine wp_region_kept (Old W5.heap.size W5) (by kernel_rfl) (by kernel_rfl) (Old.start W5) ?_; (repeat (first | go_big_quiet_step ((first | (go_at_call 70; first | (with_reducible exact calls_kept (hP _) Old.below) | (with_reducible exact calls_kept (hP2 _) Old.below)))) | quiet_step ((first | (go_at_call 70; first | (with_reducible exact calls_kept (hP _) Old.below) | (with_reducible exact calls_kept (hP2 _) Old.below)))))); refine wpQuiet_nil ?_; rintro _ ⟨X, rfl⟩)
        go_wp2
        go_roundw
        case rel => exact ⟨k + 1, by omega, by go_num, by rw [hR.out, ← hap.out], bch hbel1 X.ok.2⟩
        case measure => simp [intOf]; omega
    · obtain rfl : k = l.length := by omega
      rw [List.take_length] at *
      go_wp2
      go_ret2
      exact ⟨rfl, hbel⟩
end Go.Proofs.YtndebohdappilaaDoor
