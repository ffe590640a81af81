/- The walk of vector.Write. -/
import Derived.Test.YtdeepahaggkipaaDoorWVec2
import Derived.Test.YtdeepahaggkipaaDoorPlainVecRd
import Derived.Test.YtdeepahaggkipaaDoorWSpan
import Derived.Test.YtdeepahaggkipaaDoorErr
namespace Go.Proofs.YtdeepahaggkipaaDoor
open Go.RowKit
set_option linter.unusedVariables false
theorem run_mid (w : World) (b off n cap k N : Nat) (h : k + N ≤ n) (hN : 1 ≤ N) (hc : n ≤ cap) (hm : cap ≤ maxLen) (z : Int) (hz : z = (k : Int) + N) : (Instr.slice 22 (.slice (some ⟨b, off, none⟩) n cap) (some (.int .i64 k)) (some (.int .i64 z)) none).run Tryd.prog w = .ok (.slice (some ⟨b, off + k * 2, none⟩) N (cap - k)) w := by
  subst hz
  unfold maxLen at hm
  have h1 : (k : Int) ≤ ((k + N : Nat) : Int) := by omega
  have h2 : ((k + N : Nat) : Int) ≤ cap := by omega
  have h3 : ¬ cap = k := by omega
  have e : ((k : Int) + N).toNat = k + N := by omega
  have e2 : k + N - k = N := by omega
  have h4 : 0 ≤ (k : Int) + N := by omega
  have h5 : (k : Int) + N ≤ cap := by omega
  have h6 : k ≤ k + N := by omega
  go_simp
theorem bytes_cat (a b : List UInt8) : (⟨a.toArray⟩ : ByteArray) ++ ⟨b.toArray⟩ = ⟨(a ++ b).toArray⟩ := ByteArray.ext (by simp)
theorem times_snoc (l : List Vec.Entry) (k j : Nat) (h : k + j < l.length) : Vec.times ((l.drop k).take (j + 1)) = Vec.times ((l.drop k).take j) ++ Vary.put l[k + j].t.toNat := by
  have hj : j < (l.drop k).length := by rw [List.length_drop]; omega
  have e : (l.drop k)[j] = l[k + j] := by simp
  unfold Vec.times
  rw [List.take_succ_eq_append_getElem hj, List.flatMap_append, e]; simp
set_option maxHeartbeats 8000000 in
set_option maxRecDepth 100000 in
theorem vector_write_ok (v : Value) (l : List Vec.Entry) (w : World) (hv : VecIs w v l) (hf : Vec.right l = .ok) :
    Calls Tryd.prog 48 #[v] w fun e w' => e = .returned (.tuple #[.string ⟨(Vec.write l).toArray⟩, .nilIface]) ∧ Below w.heap.size w w' := by
  have hF := (Vec.right_iff l).1 hf
  have hl16 := hF.len
  have hA := vector_right v l w hv (by omega)
  rw [hf] at hA
  obtain ⟨a, cap, rfl, hcap, hcell⟩ := hv.list.at entCells_len
  have hel := Vec.enc_len true 0 l (fun x hx => by have := hF.each x hx; omega) (by omega) (by omega)
  obtain ⟨hel1, hel2⟩ := hel
  have heach : ∀ k (hk : k < l.length), 0 ≤ l[k].r ∧ l[k].r ≤ 200 ∧ 1 ≤ l[k].t ∧ l[k].t ≤ 1099511627776 := fun k hk => hF.each _ (List.getElem_mem hk)
  have hsorted := hF.sorted
  have htot : Hid (Vec.write l = Vary.put (Vec.enc true 0 l).1 ++ (Vec.enc true 0 l).2) := Lib.hid rfl
  obtain ⟨T, hT⟩ : ∃ T, T = Vec.enc true 0 l := ⟨_, rfl⟩
  rw [← hT] at hel1 hel2 htot
  replace hA := Lib.hid hA
  replace hcell := Lib.hid hcell
  replace hcap := Lib.hid hcap
  replace heach := Lib.hid heach
  replace hsorted := Lib.hid hsorted
  replace hT := Lib.hid hT
  clear hv hf hF
  go_enter Tryd.func48, Tryd.ntmps48
  go_wp2_with fail
  refine hA.out.mono ?_
  rintro e w1 ⟨v1, rfl, hv1, hb1⟩
  have hv1 : v1 = .nilIface := hv1
  subst hv1
  clear hA
  go_wp2
  go_loopw [5, 6, 7, 8] (fun sr so sn sk wr => ∃ (k r : Nat) (nx : Int) (acc : List UInt8), sk = .int .i64 k ∧ sr = .int .u64 r ∧ sn = .int .i64 nx ∧ so = .string ⟨acc.toArray⟩ ∧ k ≤ l.length ∧ r + (Vec.enc (decide (k = 0)) nx (l.drop k)).1 = T.1 ∧ acc ++ (Vec.enc (decide (k = 0)) nx (l.drop k)).2 = T.2 ∧ 0 ≤ nx ∧ nx ≤ 300 ∧ (k = 0 → nx = 0) ∧ (∀ h : k < l.length, 0 < k → nx + 1 ≤ l[k].r) ∧ Below w.heap.size w wr) (fun _ _ _ sk _ => l.length - (intOf sk).toNat)
  case atStart => exact ⟨0, 0, 0, [], rfl, rfl, rfl, rfl, by omega, by rw [hT.out]; simp, by rw [hT.out]; simp, by omega, by omega, fun _ => rfl, fun _ h => by omega, hb1⟩
  case round =>
    clear hb1
    obtain ⟨k, r, nx, acc, rfl, rfl, rfl, rfl, hk, hr, hacc, hn0, hn3, hk0, hkn, hbel⟩ := hrel
    have hsz := hbel.size
    have hal : acc.length ≤ 480 := by
      have := congrArg List.length hacc
      rw [List.length_append] at this; omega
    have hr16 : r ≤ 16 := by omega
    by_cases hlt : k < l.length
    · obtain ⟨b, off, rfl, hbw, hc⟩ := hcell.out k hlt
      have hbw := hbw (by omega)
      have qk0 := fun W (h : Below w.heap.size w W) => cell_below h (hc 0 (.int .i64 l[k].r) rfl)
      have qk1 := fun W (h : Below w.heap.size w W) => cell_below h (hc 1 (.int .i64 l[k].t) rfl)
      simp only [Nat.add_zero] at qk0
      have hcapk := (hcap.out (by omega))
      have hen := Vec.enc_cons (decide (k = 0)) nx l[k] (l.drop (k + 1))
      rw [← List.drop_eq_getElem_cons hlt] at hen
      rw [hen] at hr hacc
      have hkn := hkn hlt
      have hex := heach.out k hlt
      obtain ⟨N, hN⟩ : ∃ N, N = Vec.ext_ l[k].r 1 (l.drop (k + 1)) := ⟨_, rfl⟩
      rw [← hN] at hr hacc
      clear hen hc
      replace hr := Lib.hid hr
      replace hacc := Lib.hid hacc
      replace hN := Lib.hid hN
      obtain ⟨x, hx⟩ : ∃ x, l[k] = x := ⟨_, rfl⟩
      have hNx := hN.out
      rw [hx] at qk0 qk1 hkn hex hNx
      replace hx := Lib.hid hx
      replace hNx := Lib.hid hNx
      go_wp2
      go_loopw [9] (fun s wi => ∃ m : Nat, s = .int .i64 m ∧ 1 ≤ m ∧ k + m ≤ l.length ∧ Vec.ext_ x.r m (l.drop (k + m)) = N ∧ (∀ j, j < m → ∃ hj : k + j < l.length, l[k + j].r = x.r + j) ∧ Below w.heap.size w wi) (fun s _ => l.length - (intOf s).toNat)
      case atStart => exact ⟨1, rfl, by omega, by omega, hNx.out.symm, fun j hj => ⟨by omega, by obtain rfl : j = 0 := (by omega); simp only [Nat.add_zero]; rw [hx.out]; simp⟩, hbel⟩
      case round =>
        clear hbel
        obtain ⟨m, rfl, hm1, hm2, hme, hrun, hbeli⟩ := hrel
        have hszi := hbeli.size
        obtain ⟨z, hz⟩ : ∃ z, z = k + m := ⟨_, rfl⟩
        have wz : IntKind.i64.wrap ((k : Int) + (m : Int)) = (z : Int) := by rw [IntWalk.i64_in _ (by omega)]; omega
        have wr2 : IntKind.i64.wrap (x.r + (m : Int)) = x.r + (m : Int) := IntWalk.i64_in _ (by omega)
        have ck0 := qk0 _ hbeli
        by_cases hzl : z < l.length
        · obtain ⟨b', off', he, hbz, hcz⟩ := hcell.out z hzl
          simp only [Option.some.injEq, Addr.mk.injEq, and_true] at he
          obtain ⟨rfl, rfl⟩ := he
          have cz : wr.cell? ⟨b, off + z * 2, none⟩ = some (.int .i64 l[z].r) := cell_below hbeli (hcz 0 (.int .i64 l[z].r) rfl)
          have dz : decide ((z : Int) < (l.length : Int)) = true := by simp; omega
          have hed := Vec.ext_drop l x.r z m hzl
          rw [← hz, hed] at hme
          have hez := heach.out z hzl
          clear hcz hbz hed
          by_cases heq : l[z].r = x.r + m
          · have dq : (l[z].r == x.r + (m : Int)) = true := by simp [heq]
            rw [if_pos heq] at hme
            have hrun2 : ∀ j, j < m + 1 → ∃ hj : k + j < l.length, l[k + j].r = x.r + j := fun j hj => by
              by_cases hjm : j < m
              · exact hrun j hjm
              · obtain rfl : j = m := by omega
                subst hz
                exact ⟨hzl, heq⟩
            have hme2 : Vec.ext_ x.r (m + 1) (l.drop (k + (m + 1))) = N := by rw [← hme, hz]; rfl
            replace hrun2 := Lib.hid hrun2
            replace hme2 := Lib.hid hme2
            replace heq := Lib.hid heq
            clear hme hrun
            replace hz := Lib.hid hz
            generalize l[z].r = zr at *
            go_wp2
            go_quiet (fail)
            go_wp2
            go_roundw
            case rel => exact ⟨m + 1, by go_num, by omega, by have := hz.out; omega, hme2.out, hrun2.out, bdn hbeli _⟩
            case measure => simp [intOf]; have := hz.out; omega
          · have dq : (l[z].r == x.r + (m : Int)) = false := by simp [heq]
            rw [if_neg heq] at hme
            have hnext : Hid (x.r + (m : Int) + 1 ≤ l[z].r) := Lib.hid (by
              have h0 := Vec.run_next l hsorted.out k hlt m hm1 (fun j hj => by rw [hx.out]; exact hrun j hj) (by omega)
              rw [hx.out] at h0
              have e : l[k + m]'(by omega) = l[z] := by simp only [hz]
              rw [e] at h0; omega)
            have hmN : m = N := hme
            have hend : Hid (∀ h : z < l.length, x.r + m + 1 ≤ l[z].r) := Lib.hid (fun _ => hnext.out)
            clear hme hnext heq
            have hguard : Hid True := Lib.hid trivial
            obtain ⟨zr, hzr⟩ : ∃ zr, l[z].r = zr := ⟨_, rfl⟩
            rw [hzr] at cz dq hez
            replace hzr := Lib.hid hzr
            subst hmN
            replace hz := Lib.hid hz
            replace hrun := Lib.hid hrun
            go_wp2
            go_quiet (fail)
            have hbelq : Below w.heap.size w (wr.drewN nq) := bdn hbeli nq
            generalize wr.drewN nq = wq at *
            have ck1 := qk0 _ hbelq
            try clear cz
            try clear hez
            clear ck0 hcapk
            have hmid := fun W => run_mid W b off l.length cap k m (by omega) (by omega) (hcap.out (by omega)).1 (hcap.out (by omega)).2 z (by have := hz.out; omega)
            by_cases hkz : k = 0
            · subst hkz
              have hzm : m = z := by have := hz.out; omega
              subst hzm
              obtain rfl : nx = 0 := hk0 rfl
              obtain ⟨gn, hgn⟩ : ∃ gn : Nat, x.r = gn := ⟨x.r.toNat, by omega⟩
              have e4 : (x.r - 0 - if decide (0 = 0) = true then 0 else 1).toNat = gn := by rw [if_pos (by simp)]; omega
              have hvp := fun W => vary_put gn W (by omega)
              simp only [← hgn] at hvp
              have lp0 : gn < 300 := by omega
              replace hgn := Lib.hid hgn
              simp only [Nat.zero_mul, Nat.add_zero, Int.natCast_zero] at ck1 hmid qk0
              replace hk0 := Lib.hid hk0
              replace hkn := Lib.hid hkn
              have g2 : IntKind.i64.wrap ((m : Int) - 1) = ((m - 1 : Nat) : Int) := by rw [IntWalk.i64_in _ (by omega)]; omega
              have l1 := Vary.put_len gn (by omega)
              have l2 := Vary.put_len (m - 1) (by omega)
              have hz0 := hz.out
              have e1 : (l.drop (0 + 1)).drop (m - 1) = l.drop m := by rw [List.drop_drop]; congr 1; omega
              have e2 : decide (m = 0) = false := by simp; omega
              have hr2 : Hid (r + 1 + (Vec.enc (decide (m = 0)) (x.r + (m : Int)) (l.drop m)).1 = T.1) := Lib.hid (by
                have h := hr.out
                rw [e1, hx.out] at h
                rw [e2]; omega)
              have hacc2 : Hid ((acc ++ (Vary.put gn ++ Vary.put (m - 1)) ++ Vec.times ((l.drop 0).take m)) ++ (Vec.enc (decide (m = 0)) (x.r + (m : Int)) (l.drop m)).2 = T.2) := Lib.hid (by
                have h := hacc.out
                rw [e1, hx.out, e4] at h
                rw [e2, ← h]; simp only [List.append_assoc])
              clear e1 e2 e4 hz0
              go_wp2_with fail
              refine (hvp _).mono ?_
              rintro e w2 ⟨rfl, hb2⟩
              go_wp2_with fail
              refine (vary_put (m - 1) _ (by omega)).mono ?_
              rintro e w3 ⟨rfl, hb3⟩
              go_wp2_with fail
              have hbel3 : Below w.heap.size w w3 := by (repeat (first | exact Below.refl _ _ | assumption | refine bal ?_ _ | refine bdr ?_ | refine bdn ?_ _ | refine bst ?_ (by first | assumption | exact Nat.le_refl _ | omega) _ | refine bch ?_ (by assumption)))
              rw [bytes_cat, bytes_cat]
              have lp : (acc ++ (Vary.put gn ++ Vary.put (m - 1))).length ≤ 500 := by rw [List.length_append, List.length_append]; omega
              have htl : ∀ j, j < m → (Vec.times ((l.drop 0).take (j + 1))).length ≤ 160 := fun j hj => by
                have h1 := Vec.times_len ((l.drop 0).take (j + 1)) (fun y hy => by
                  obtain ⟨i, hi, rfl⟩ := List.getElem_of_mem (List.mem_of_mem_drop (List.mem_of_mem_take hy))
                  exact (heach.out i hi).2.2.2)
                rw [List.length_take, List.length_drop] at h1
                omega
              replace htl := Lib.hid htl
              clear hb2 hb3 hbelq ck1
              go_loopw [6, 75] (fun so sj wt => ∃ j : Nat, sj = .int .i64 j ∧ j ≤ m ∧ so = .string ⟨((acc ++ (Vary.put gn ++ Vary.put (m - 1))) ++ Vec.times ((l.drop 0).take j)).toArray⟩ ∧ Below w.heap.size w wt) (fun _ sj _ => m - (intOf sj).toNat)
              case atStart => exact ⟨0, rfl, by omega, by simp [Vec.times], hbel3⟩
              case round =>
                clear hbel3
                obtain ⟨j, rfl, hj, rfl, hbelj⟩ := hrel
                have hszj := hbelj.size
                by_cases hjm : j < m
                · obtain ⟨y, hy⟩ : ∃ y, y = 0 + j := ⟨_, rfl⟩
                  have hyl : y < l.length := by omega
                  obtain ⟨b', off', he, hbz, hcz⟩ := hcell.out y hyl
                  simp only [Option.some.injEq, Addr.mk.injEq, and_true] at he
                  obtain ⟨rfl, rfl⟩ := he
                  have ha : off + 0 * 2 + j * 2 = off + y * 2 := by omega
                  have hey := heach.out y hyl
                  obtain ⟨tn, htn⟩ : ∃ tn : Nat, l[y].t = tn := ⟨l[y].t.toNat, by omega⟩
                  have c0 : wr.cell? ⟨b, off + 0 * 2 + j * 2, none⟩ = some (.int .i64 l[y].r) := by rw [ha]; exact cell_below hbelj (hcz 0 (.int .i64 l[y].r) rfl)
                  have c1 : wr.cell? ⟨b, off + 0 * 2 + j * 2 + 1, none⟩ = some (.int .i64 tn) := by rw [ha, ← htn]; exact cell_below hbelj (hcz 1 (.int .i64 l[y].t) rfl)
                  have hsn : Hid (Vec.times ((l.drop 0).take (j + 1)) = Vec.times ((l.drop 0).take j) ++ Vary.put tn) := Lib.hid (by
                    rw [times_snoc l 0 j (by omega)]
                    subst hy
                    rw [htn]; rfl)
                  have htl2 := htl.out j hjm
                  have hl4 := congrArg List.length hsn.out
                  rw [List.length_append] at hl4
                  have hl3 := Vary.put_len tn (by omega)
                  have hl5 : (acc ++ (Vary.put gn ++ Vary.put (m - 1)) ++ Vec.times ((l.drop 0).take j)).length ≤ 700 := by rw [List.length_append]; omega
                  clear hcz hbz hl4 htl2
                  simp only [Nat.zero_mul, Nat.add_zero] at c0 c1 ha
                  rw [htn] at hey
                  replace htn := Lib.hid htn
                  replace ha := Lib.hid ha
                  replace hy := Lib.hid hy
                  generalize l[y].r = yr at *
                  generalize hS : acc ++ (Vary.put gn ++ Vary.put (m - 1)) ++ Vec.times ((l.drop 0).take j) = S at *
                  have hS2 : Hid (S ++ Vary.put tn = (acc ++ (Vary.put gn ++ Vary.put (m - 1))) ++ Vec.times ((l.drop 0).take (j + 1))) := Lib.hid (by rw [hsn.out, ← List.append_assoc, hS])
                  replace hS := Lib.hid hS
                  go_wp2_with fail
                  refine (vary_put tn _ (by omega)).mono ?_
                  rintro e w4 ⟨rfl, hb4⟩
                  go_wp2
                  go_roundw
                  case rel => exact ⟨j + 1, by go_num, by omega, by rw [bytes_cat, hS2.out], by (repeat (first | exact Below.refl _ _ | assumption | refine bal ?_ _ | refine bdr ?_ | refine bdn ?_ _ | refine bst ?_ (by first | assumption | exact Nat.le_refl _ | omega) _ | refine bch ?_ (by assumption)))⟩
                  case measure => simp [intOf]; omega
                · obtain rfl : j = m := by omega
                  generalize hS : acc ++ (Vary.put gn ++ Vary.put (j - 1)) ++ Vec.times ((l.drop 0).take j) = S at *
                  have ck2 := qk0 _ hbelj
                  replace hS := Lib.hid hS
                  go_wp2
                  go_roundw
                  case rel => exact ⟨j, r + 1, x.r + (j : Int), S, rfl, by go_num, rfl, rfl, by have := hz.out; omega, hr2.out, hacc2.out, by omega, by omega, fun h => by have := hz.out; omega, fun h _ => hend.out h, hbelj⟩
                  case measure => simp [intOf]; have := hz.out; omega
            · have hkz2 : 0 < k := by omega
              have d0 : decide ((0 : Int) < (k : Int)) = true := by simp; omega
              have hkn := hkn hkz2
              obtain ⟨gn, hgn⟩ : ∃ gn : Nat, x.r - nx - 1 = gn := ⟨(x.r - nx - 1).toNat, by omega⟩
              have g1 : IntKind.i64.wrap (x.r - nx) = (gn : Int) + 1 := by rw [IntWalk.i64_in _ (by omega)]; omega
              have e4 : (x.r - nx - if decide (k = 0) = true then 0 else 1).toNat = gn := by rw [if_neg (by simp; omega)]; omega
              replace hk0 := Lib.hid hk0
              replace hkz := Lib.hid hkz
              have hvp := fun W => vary_put gn W (by omega)
              have lp0 : gn < 300 := by omega
              have g2 : IntKind.i64.wrap ((m : Int) - 1) = ((m - 1 : Nat) : Int) := by rw [IntWalk.i64_in _ (by omega)]; omega
              have l1 := Vary.put_len gn (by omega)
              have l2 := Vary.put_len (m - 1) (by omega)
              have hz0 := hz.out
              have e1 : (l.drop (k + 1)).drop (m - 1) = l.drop z := by rw [List.drop_drop]; congr 1; omega
              have e2 : decide (z = 0) = false := by simp; omega
              have hr2 : Hid (r + 1 + (Vec.enc (decide (z = 0)) (x.r + (m : Int)) (l.drop z)).1 = T.1) := Lib.hid (by
                have h := hr.out
                rw [e1, hx.out] at h
                rw [e2]; omega)
              have hacc2 : Hid ((acc ++ (Vary.put gn ++ Vary.put (m - 1)) ++ Vec.times ((l.drop k).take m)) ++ (Vec.enc (decide (z = 0)) (x.r + (m : Int)) (l.drop z)).2 = T.2) := Lib.hid (by
                have h := hacc.out
                rw [e1, hx.out, e4] at h
                rw [e2, ← h]; simp only [List.append_assoc])
              clear e1 e2 e4 hz0
              go_wp2_with fail
              refine (hvp _).mono ?_
              rintro e w2 ⟨rfl, hb2⟩
              go_wp2_with fail
              refine (vary_put (m - 1) _ (by omega)).mono ?_
              rintro e w3 ⟨rfl, hb3⟩
              go_wp2_with fail
              have hbel3 : Below w.heap.size w w3 := by (repeat (first | exact Below.refl _ _ | assumption | refine bal ?_ _ | refine bdr ?_ | refine bdn ?_ _ | refine bst ?_ (by first | assumption | exact Nat.le_refl _ | omega) _ | refine bch ?_ (by assumption)))
              rw [bytes_cat, bytes_cat]
              have lp : (acc ++ (Vary.put gn ++ Vary.put (m - 1))).length ≤ 500 := by rw [List.length_append, List.length_append]; omega
              have htl : ∀ j, j < m → (Vec.times ((l.drop k).take (j + 1))).length ≤ 160 := fun j hj => by
                have h1 := Vec.times_len ((l.drop k).take (j + 1)) (fun y hy => by
                  obtain ⟨i, hi, rfl⟩ := List.getElem_of_mem (List.mem_of_mem_drop (List.mem_of_mem_take hy))
                  exact (heach.out i hi).2.2.2)
                rw [List.length_take, List.length_drop] at h1
                omega
              replace htl := Lib.hid htl
              clear hb2 hb3 hbelq ck1
              go_loopw [6, 75] (fun so sj wt => ∃ j : Nat, sj = .int .i64 j ∧ j ≤ m ∧ so = .string ⟨((acc ++ (Vary.put gn ++ Vary.put (m - 1))) ++ Vec.times ((l.drop k).take j)).toArray⟩ ∧ Below w.heap.size w wt) (fun _ sj _ => m - (intOf sj).toNat)
              case atStart => exact ⟨0, rfl, by omega, by simp [Vec.times], hbel3⟩
              case round =>
                clear hbel3
                obtain ⟨j, rfl, hj, rfl, hbelj⟩ := hrel
                have hszj := hbelj.size
                by_cases hjm : j < m
                · obtain ⟨y, hy⟩ : ∃ y, y = k + j := ⟨_, rfl⟩
                  have hyl : y < l.length := by omega
                  obtain ⟨b', off', he, hbz, hcz⟩ := hcell.out y hyl
                  simp only [Option.some.injEq, Addr.mk.injEq, and_true] at he
                  obtain ⟨rfl, rfl⟩ := he
                  have ha : off + k * 2 + j * 2 = off + y * 2 := by omega
                  have hey := heach.out y hyl
                  obtain ⟨tn, htn⟩ : ∃ tn : Nat, l[y].t = tn := ⟨l[y].t.toNat, by omega⟩
                  have c0 : wr.cell? ⟨b, off + k * 2 + j * 2, none⟩ = some (.int .i64 l[y].r) := by rw [ha]; exact cell_below hbelj (hcz 0 (.int .i64 l[y].r) rfl)
                  have c1 : wr.cell? ⟨b, off + k * 2 + j * 2 + 1, none⟩ = some (.int .i64 tn) := by rw [ha, ← htn]; exact cell_below hbelj (hcz 1 (.int .i64 l[y].t) rfl)
                  have hsn : Hid (Vec.times ((l.drop k).take (j + 1)) = Vec.times ((l.drop k).take j) ++ Vary.put tn) := Lib.hid (by
                    rw [times_snoc l k j (by omega)]
                    subst hy
                    rw [htn]; rfl)
                  have htl2 := htl.out j hjm
                  have hl4 := congrArg List.length hsn.out
                  rw [List.length_append] at hl4
                  have hl3 := Vary.put_len tn (by omega)
                  have hl5 : (acc ++ (Vary.put gn ++ Vary.put (m - 1)) ++ Vec.times ((l.drop k).take j)).length ≤ 700 := by rw [List.length_append]; omega
                  clear hcz hbz hl4 htl2
                  rw [htn] at hey
                  replace htn := Lib.hid htn
                  replace ha := Lib.hid ha
                  replace hy := Lib.hid hy
                  generalize l[y].r = yr at *
                  generalize hS : acc ++ (Vary.put gn ++ Vary.put (m - 1)) ++ Vec.times ((l.drop k).take j) = S at *
                  have hS2 : Hid (S ++ Vary.put tn = (acc ++ (Vary.put gn ++ Vary.put (m - 1))) ++ Vec.times ((l.drop k).take (j + 1))) := Lib.hid (by rw [hsn.out, ← List.append_assoc, hS])
                  replace hS := Lib.hid hS
                  go_wp2_with fail
                  refine (vary_put tn _ (by omega)).mono ?_
                  rintro e w4 ⟨rfl, hb4⟩
                  go_wp2
                  go_roundw
                  case rel => exact ⟨j + 1, by go_num, by omega, by rw [bytes_cat, hS2.out], by (repeat (first | exact Below.refl _ _ | assumption | refine bal ?_ _ | refine bdr ?_ | refine bdn ?_ _ | refine bst ?_ (by first | assumption | exact Nat.le_refl _ | omega) _ | refine bch ?_ (by assumption)))⟩
                  case measure => simp [intOf]; omega
                · obtain rfl : j = m := by omega
                  generalize hS : acc ++ (Vary.put gn ++ Vary.put (j - 1)) ++ Vec.times ((l.drop k).take j) = S at *
                  have ck2 := qk0 _ hbelj
                  replace hS := Lib.hid hS
                  go_wp2
                  go_roundw
                  case rel => exact ⟨z, r + 1, x.r + (j : Int), S, rfl, by go_num, rfl, rfl, by have := hz.out; omega, hr2.out, hacc2.out, by omega, by omega, fun h => by have := hz.out; omega, fun h _ => hend.out h, hbelj⟩
                  case measure => simp [intOf]; have := hz.out; omega
        · have hmN : m = N := by rw [← hme, hz.symm, Vec.ext_end l x.r z m (by omega)]
          have hend : Hid (∀ h : z < l.length, x.r + m + 1 ≤ l[z].r) := Lib.hid (fun h => absurd h hzl)
          have dz : decide ((z : Int) < (l.length : Int)) = false := by simp; omega
          clear hme
          subst hmN
          replace hz := Lib.hid hz
          replace hrun := Lib.hid hrun
          go_wp2
          go_quiet (fail)
          have hbelq : Below w.heap.size w (wr.drewN nq) := bdn hbeli nq
          generalize wr.drewN nq = wq at *
          have ck1 := qk0 _ hbelq
          try clear cz
          try clear hez
          clear ck0 hcapk
          have hmid := fun W => run_mid W b off l.length cap k m (by omega) (by omega) (hcap.out (by omega)).1 (hcap.out (by omega)).2 z (by have := hz.out; omega)
          by_cases hkz : k = 0
          · subst hkz
            have hzm : m = z := by have := hz.out; omega
            subst hzm
            obtain rfl : nx = 0 := hk0 rfl
            obtain ⟨gn, hgn⟩ : ∃ gn : Nat, x.r = gn := ⟨x.r.toNat, by omega⟩
            have e4 : (x.r - 0 - if decide (0 = 0) = true then 0 else 1).toNat = gn := by rw [if_pos (by simp)]; omega
            have hvp := fun W => vary_put gn W (by omega)
            simp only [← hgn] at hvp
            have lp0 : gn < 300 := by omega
            replace hgn := Lib.hid hgn
            simp only [Nat.zero_mul, Nat.add_zero, Int.natCast_zero] at ck1 hmid qk0
            replace hk0 := Lib.hid hk0
            replace hkn := Lib.hid hkn
            have g2 : IntKind.i64.wrap ((m : Int) - 1) = ((m - 1 : Nat) : Int) := by rw [IntWalk.i64_in _ (by omega)]; omega
            have l1 := Vary.put_len gn (by omega)
            have l2 := Vary.put_len (m - 1) (by omega)
            have hz0 := hz.out
            have e1 : (l.drop (0 + 1)).drop (m - 1) = l.drop m := by rw [List.drop_drop]; congr 1; omega
            have e2 : decide (m = 0) = false := by simp; omega
            have hr2 : Hid (r + 1 + (Vec.enc (decide (m = 0)) (x.r + (m : Int)) (l.drop m)).1 = T.1) := Lib.hid (by
              have h := hr.out
              rw [e1, hx.out] at h
              rw [e2]; omega)
            have hacc2 : Hid ((acc ++ (Vary.put gn ++ Vary.put (m - 1)) ++ Vec.times ((l.drop 0).take m)) ++ (Vec.enc (decide (m = 0)) (x.r + (m : Int)) (l.drop m)).2 = T.2) := Lib.hid (by
              have h := hacc.out
              rw [e1, hx.out, e4] at h
              rw [e2, ← h]; simp only [List.append_assoc])
            clear e1 e2 e4 hz0
            go_wp2_with fail
            refine (hvp _).mono ?_
            rintro e w2 ⟨rfl, hb2⟩
            go_wp2_with fail
            refine (vary_put (m - 1) _ (by omega)).mono ?_
            rintro e w3 ⟨rfl, hb3⟩
            go_wp2_with fail
            have hbel3 : Below w.heap.size w w3 := by (repeat (first | exact Below.refl _ _ | assumption | refine bal ?_ _ | refine bdr ?_ | refine bdn ?_ _ | refine bst ?_ (by first | assumption | exact Nat.le_refl _ | omega) _ | refine bch ?_ (by assumption)))
            rw [bytes_cat, bytes_cat]
            have lp : (acc ++ (Vary.put gn ++ Vary.put (m - 1))).length ≤ 500 := by rw [List.length_append, List.length_append]; omega
            have htl : ∀ j, j < m → (Vec.times ((l.drop 0).take (j + 1))).length ≤ 160 := fun j hj => by
              have h1 := Vec.times_len ((l.drop 0).take (j + 1)) (fun y hy => by
                obtain ⟨i, hi, rfl⟩ := List.getElem_of_mem (List.mem_of_mem_drop (List.mem_of_mem_take hy))
                exact (heach.out i hi).2.2.2)
              rw [List.length_take, List.length_drop] at h1
              omega
            replace htl := Lib.hid htl
            clear hb2 hb3 hbelq ck1
            go_loopw [6, 75] (fun so sj wt => ∃ j : Nat, sj = .int .i64 j ∧ j ≤ m ∧ so = .string ⟨((acc ++ (Vary.put gn ++ Vary.put (m - 1))) ++ Vec.times ((l.drop 0).take j)).toArray⟩ ∧ Below w.heap.size w wt) (fun _ sj _ => m - (intOf sj).toNat)
            case atStart => exact ⟨0, rfl, by omega, by simp [Vec.times], hbel3⟩
            case round =>
              clear hbel3
              obtain ⟨j, rfl, hj, rfl, hbelj⟩ := hrel
              have hszj := hbelj.size
              by_cases hjm : j < m
              · obtain ⟨y, hy⟩ : ∃ y, y = 0 + j := ⟨_, rfl⟩
                have hyl : y < l.length := by omega
                obtain ⟨b', off', he, hbz, hcz⟩ := hcell.out y hyl
                simp only [Option.some.injEq, Addr.mk.injEq, and_true] at he
                obtain ⟨rfl, rfl⟩ := he
                have ha : off + 0 * 2 + j * 2 = off + y * 2 := by omega
                have hey := heach.out y hyl
                obtain ⟨tn, htn⟩ : ∃ tn : Nat, l[y].t = tn := ⟨l[y].t.toNat, by omega⟩
                have c0 : wr.cell? ⟨b, off + 0 * 2 + j * 2, none⟩ = some (.int .i64 l[y].r) := by rw [ha]; exact cell_below hbelj (hcz 0 (.int .i64 l[y].r) rfl)
                have c1 : wr.cell? ⟨b, off + 0 * 2 + j * 2 + 1, none⟩ = some (.int .i64 tn) := by rw [ha, ← htn]; exact cell_below hbelj (hcz 1 (.int .i64 l[y].t) rfl)
                have hsn : Hid (Vec.times ((l.drop 0).take (j + 1)) = Vec.times ((l.drop 0).take j) ++ Vary.put tn) := Lib.hid (by
                  rw [times_snoc l 0 j (by omega)]
                  subst hy
                  rw [htn]; rfl)
                have htl2 := htl.out j hjm
                have hl4 := congrArg List.length hsn.out
                rw [List.length_append] at hl4
                have hl3 := Vary.put_len tn (by omega)
                have hl5 : (acc ++ (Vary.put gn ++ Vary.put (m - 1)) ++ Vec.times ((l.drop 0).take j)).length ≤ 700 := by rw [List.length_append]; omega
                clear hcz hbz hl4 htl2
                simp only [Nat.zero_mul, Nat.add_zero] at c0 c1 ha
                rw [htn] at hey
                replace htn := Lib.hid htn
                replace ha := Lib.hid ha
                replace hy := Lib.hid hy
                generalize l[y].r = yr at *
                generalize hS : acc ++ (Vary.put gn ++ Vary.put (m - 1)) ++ Vec.times ((l.drop 0).take j) = S at *
                have hS2 : Hid (S ++ Vary.put tn = (acc ++ (Vary.put gn ++ Vary.put (m - 1))) ++ Vec.times ((l.drop 0).take (j + 1))) := Lib.hid (by rw [hsn.out, ← List.append_assoc, hS])
                replace hS := Lib.hid hS
                go_wp2_with fail
                refine (vary_put tn _ (by omega)).mono ?_
                rintro e w4 ⟨rfl, hb4⟩
                go_wp2
                go_roundw
                case rel => exact ⟨j + 1, by go_num, by omega, by rw [bytes_cat, hS2.out], by (repeat (first | exact Below.refl _ _ | assumption | refine bal ?_ _ | refine bdr ?_ | refine bdn ?_ _ | refine bst ?_ (by first | assumption | exact Nat.le_refl _ | omega) _ | refine bch ?_ (by assumption)))⟩
                case measure => simp [intOf]; omega
              · obtain rfl : j = m := by omega
                generalize hS : acc ++ (Vary.put gn ++ Vary.put (j - 1)) ++ Vec.times ((l.drop 0).take j) = S at *
                have ck2 := qk0 _ hbelj
                replace hS := Lib.hid hS
                go_wp2
                go_roundw
                case rel => exact ⟨j, r + 1, x.r + (j : Int), S, rfl, by go_num, rfl, rfl, by have := hz.out; omega, hr2.out, hacc2.out, by omega, by omega, fun h => by have := hz.out; omega, fun h _ => hend.out h, hbelj⟩
                case measure => simp [intOf]; have := hz.out; omega
          · have hkz2 : 0 < k := by omega
            have d0 : decide ((0 : Int) < (k : Int)) = true := by simp; omega
            have hkn := hkn hkz2
            obtain ⟨gn, hgn⟩ : ∃ gn : Nat, x.r - nx - 1 = gn := ⟨(x.r - nx - 1).toNat, by omega⟩
            have g1 : IntKind.i64.wrap (x.r - nx) = (gn : Int) + 1 := by rw [IntWalk.i64_in _ (by omega)]; omega
            have e4 : (x.r - nx - if decide (k = 0) = true then 0 else 1).toNat = gn := by rw [if_neg (by simp; omega)]; omega
            replace hk0 := Lib.hid hk0
            replace hkz := Lib.hid hkz
            have hvp := fun W => vary_put gn W (by omega)
            have lp0 : gn < 300 := by omega
            have g2 : IntKind.i64.wrap ((m : Int) - 1) = ((m - 1 : Nat) : Int) := by rw [IntWalk.i64_in _ (by omega)]; omega
            have l1 := Vary.put_len gn (by omega)
            have l2 := Vary.put_len (m - 1) (by omega)
            have hz0 := hz.out
            have e1 : (l.drop (k + 1)).drop (m - 1) = l.drop z := by rw [List.drop_drop]; congr 1; omega
            have e2 : decide (z = 0) = false := by simp; omega
            have hr2 : Hid (r + 1 + (Vec.enc (decide (z = 0)) (x.r + (m : Int)) (l.drop z)).1 = T.1) := Lib.hid (by
              have h := hr.out
              rw [e1, hx.out] at h
              rw [e2]; omega)
            have hacc2 : Hid ((acc ++ (Vary.put gn ++ Vary.put (m - 1)) ++ Vec.times ((l.drop k).take m)) ++ (Vec.enc (decide (z = 0)) (x.r + (m : Int)) (l.drop z)).2 = T.2) := Lib.hid (by
              have h := hacc.out
              rw [e1, hx.out, e4] at h
              rw [e2, ← h]; simp only [List.append_assoc])
            clear e1 e2 e4 hz0
            go_wp2_with fail
            refine (hvp _).mono ?_
            rintro e w2 ⟨rfl, hb2⟩
            go_wp2_with fail
            refine (vary_put (m - 1) _ (by omega)).mono ?_
            rintro e w3 ⟨rfl, hb3⟩
            go_wp2_with fail
            have hbel3 : Below w.heap.size w w3 := by (repeat (first | exact Below.refl _ _ | assumption | refine bal ?_ _ | refine bdr ?_ | refine bdn ?_ _ | refine bst ?_ (by first | assumption | exact Nat.le_refl _ | omega) _ | refine bch ?_ (by assumption)))
            rw [bytes_cat, bytes_cat]
            have lp : (acc ++ (Vary.put gn ++ Vary.put (m - 1))).length ≤ 500 := by rw [List.length_append, List.length_append]; omega
            have htl : ∀ j, j < m → (Vec.times ((l.drop k).take (j + 1))).length ≤ 160 := fun j hj => by
              have h1 := Vec.times_len ((l.drop k).take (j + 1)) (fun y hy => by
                obtain ⟨i, hi, rfl⟩ := List.getElem_of_mem (List.mem_of_mem_drop (List.mem_of_mem_take hy))
                exact (heach.out i hi).2.2.2)
              rw [List.length_take, List.length_drop] at h1
              omega
            replace htl := Lib.hid htl
            clear hb2 hb3 hbelq ck1
            go_loopw [6, 75] (fun so sj wt => ∃ j : Nat, sj = .int .i64 j ∧ j ≤ m ∧ so = .string ⟨((acc ++ (Vary.put gn ++ Vary.put (m - 1))) ++ Vec.times ((l.drop k).take j)).toArray⟩ ∧ Below w.heap.size w wt) (fun _ sj _ => m - (intOf sj).toNat)
            case atStart => exact ⟨0, rfl, by omega, by simp [Vec.times], hbel3⟩
            case round =>
              clear hbel3
              obtain ⟨j, rfl, hj, rfl, hbelj⟩ := hrel
              have hszj := hbelj.size
              by_cases hjm : j < m
              · obtain ⟨y, hy⟩ : ∃ y, y = k + j := ⟨_, rfl⟩
                have hyl : y < l.length := by omega
                obtain ⟨b', off', he, hbz, hcz⟩ := hcell.out y hyl
                simp only [Option.some.injEq, Addr.mk.injEq, and_true] at he
                obtain ⟨rfl, rfl⟩ := he
                have ha : off + k * 2 + j * 2 = off + y * 2 := by omega
                have hey := heach.out y hyl
                obtain ⟨tn, htn⟩ : ∃ tn : Nat, l[y].t = tn := ⟨l[y].t.toNat, by omega⟩
                have c0 : wr.cell? ⟨b, off + k * 2 + j * 2, none⟩ = some (.int .i64 l[y].r) := by rw [ha]; exact cell_below hbelj (hcz 0 (.int .i64 l[y].r) rfl)
                have c1 : wr.cell? ⟨b, off + k * 2 + j * 2 + 1, none⟩ = some (.int .i64 tn) := by rw [ha, ← htn]; exact cell_below hbelj (hcz 1 (.int .i64 l[y].t) rfl)
                have hsn : Hid (Vec.times ((l.drop k).take (j + 1)) = Vec.times ((l.drop k).take j) ++ Vary.put tn) := Lib.hid (by
                  rw [times_snoc l k j (by omega)]
                  subst hy
                  rw [htn]; rfl)
                have htl2 := htl.out j hjm
                have hl4 := congrArg List.length hsn.out
                rw [List.length_append] at hl4
                have hl3 := Vary.put_len tn (by omega)
                have hl5 : (acc ++ (Vary.put gn ++ Vary.put (m - 1)) ++ Vec.times ((l.drop k).take j)).length ≤ 700 := by rw [List.length_append]; omega
                clear hcz hbz hl4 htl2
                rw [htn] at hey
                replace htn := Lib.hid htn
                replace ha := Lib.hid ha
                replace hy := Lib.hid hy
                generalize l[y].r = yr at *
                generalize hS : acc ++ (Vary.put gn ++ Vary.put (m - 1)) ++ Vec.times ((l.drop k).take j) = S at *
                have hS2 : Hid (S ++ Vary.put tn = (acc ++ (Vary.put gn ++ Vary.put (m - 1))) ++ Vec.times ((l.drop k).take (j + 1))) := Lib.hid (by rw [hsn.out, ← List.append_assoc, hS])
                replace hS := Lib.hid hS
                go_wp2_with fail
                refine (vary_put tn _ (by omega)).mono ?_
                rintro e w4 ⟨rfl, hb4⟩
                go_wp2
                go_roundw
                case rel => exact ⟨j + 1, by go_num, by omega, by rw [bytes_cat, hS2.out], by (repeat (first | exact Below.refl _ _ | assumption | refine bal ?_ _ | refine bdr ?_ | refine bdn ?_ _ | refine bst ?_ (by first | assumption | exact Nat.le_refl _ | omega) _ | refine bch ?_ (by assumption)))⟩
                case measure => simp [intOf]; omega
              · obtain rfl : j = m := by omega
                generalize hS : acc ++ (Vary.put gn ++ Vary.put (j - 1)) ++ Vec.times ((l.drop k).take j) = S at *
                have ck2 := qk0 _ hbelj
                replace hS := Lib.hid hS
                go_wp2
                go_roundw
                case rel => exact ⟨z, r + 1, x.r + (j : Int), S, rfl, by go_num, rfl, rfl, by have := hz.out; omega, hr2.out, hacc2.out, by omega, by omega, fun h => by have := hz.out; omega, fun h _ => hend.out h, hbelj⟩
                case measure => simp [intOf]; have := hz.out; omega
    · obtain rfl : k = l.length := by omega
      rw [List.drop_length, Vec.enc_nil] at hr hacc
      have hfin : Hid (Vec.write l = Vary.put r ++ acc) := Lib.hid (by
        have h1 : r = T.1 := by simpa using hr
        have h2 : acc = T.2 := by simpa using hacc
        rw [htot.out, h1, h2])
      have hpl := Vary.put_len r (by omega)
      replace hr := Lib.hid hr
      replace hacc := Lib.hid hacc
      go_wp2_with fail
      refine (vary_put r _ (by omega)).mono ?_
      rintro e w2 ⟨rfl, hb2⟩
      go_wp2
      go_ret2
      rw [hfin.out]
      exact ⟨by rw [bytes_cat]; rfl, by (repeat (first | exact Below.refl _ _ | assumption | refine bal ?_ _ | refine bdr ?_ | refine bdn ?_ _ | refine bst ?_ (by first | assumption | exact Nat.le_refl _ | omega) _ | refine bch ?_ (by assumption)))⟩
end Go.Proofs.YtdeepahaggkipaaDoor
/- The walk of vector.Write where something is wrong. -/
namespace Go.Proofs.YtdeepahaggkipaaDoor
open Go.RowKit
set_option linter.unusedVariables false
set_option linter.unusedSimpArgs false
set_option maxHeartbeats 2000000 in
set_option maxRecDepth 20000 in
theorem vector_write_bad (v : Value) (l : List Vec.Entry) (w : World) (hv : VecIs w v l) (hl : l.length ≤ 140737488351232) (hr : Vec.right l ≠ .ok) :
    Calls Tryd.prog 48 #[v] w fun e w' => (∃ r, e = .returned (.tuple #[.string ⟨#[]⟩, r]) ∧ ErrRep w' r (Vec.right l)) ∧ Below w.heap.size w w' := by
  have hR := vector_right v l w hv hl
  clear hv
  cases hx : Vec.right l with
  | ok => exact absurd hx hr
  | no e =>
    rw [hx] at hR
    replace hR := Lib.hid hR
    replace hx := Lib.hid hx
    clear hr
    go_enter Tryd.func48, Tryd.ntmps48
    go_wp2_with fail
    refine hR.out.mono ?_
    rintro _ w4 ⟨v4, rfl, hv4, hb4⟩
    have hv4 : v4 = .iface 43 (.int .i64 e) := hv4
    subst hv4
    go_wp2
    go_ret2
    exact ⟨⟨_, rfl, rfl⟩, by (repeat (first | exact Below.refl _ _ | assumption | refine bal ?_ _ | refine bdr ?_ | refine bdn ?_ _ | refine bst ?_ (by first | assumption | exact Nat.le_refl _ | omega) _ | refine bch ?_ (by assumption)))⟩
  | at_ e i =>
    rw [hx] at hR
    replace hR := Lib.hid hR
    replace hx := Lib.hid hx
    clear hr
    go_enter Tryd.func48, Tryd.ntmps48
    go_wp2_with fail
    refine hR.out.mono ?_
    rintro _ w4 ⟨v4, rfl, hv4, hb4⟩
    obtain ⟨gg, rfl, hrow⟩ := hv4
    replace hrow := Lib.hid hrow
    go_wp2
    go_ret2
    exact ⟨⟨_, rfl, gg, rfl, hrow.out⟩, by (repeat (first | exact Below.refl _ _ | assumption | refine bal ?_ _ | refine bdr ?_ | refine bdn ?_ _ | refine bst ?_ (by first | assumption | exact Nat.le_refl _ | omega) _ | refine bch ?_ (by assumption)))⟩
/-- What is wrong is none or something, as a value. -/
theorem err_some {w : World} {v : Value} {x : Err} (h : ErrRep w v x) (hx : x ≠ .ok) : ∃ t u, v = .iface t u := by
  cases x with
  | ok => exact absurd rfl hx
  | no n => exact ⟨_, _, h⟩
  | at_ n i => obtain ⟨g, h, -⟩ := h; exact ⟨_, _, h⟩
end Go.Proofs.YtdeepahaggkipaaDoor
