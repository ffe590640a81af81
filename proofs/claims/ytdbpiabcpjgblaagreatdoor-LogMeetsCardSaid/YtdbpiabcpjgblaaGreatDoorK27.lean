/- The walk of vector.Write. -/
import Derived.Test.YtdbpiabcpjgblaaGreatDoorK11
import Derived.Test.YtdbpiabcpjgblaaGreatDoorK04
import Derived.Test.YtdbpiabcpjgblaaGreatDoorK26
import Derived.Test.YtdbpiabcpjgblaaGreatDoorK06
import Derived.Test.YtdbpiabcpjgblaaGreatDoorK20
namespace Go.Proofs.YtdbpiabcpjgblaaGreatDoor
open Go.RowKit
set_option linter.unusedVariables false
theorem run_mid (w : World) (b off n cap k N : Nat) (h : k + N ≤ n) (hN : 1 ≤ N) (hc : n ≤ cap) (hm : cap ≤ maxLen) (z : Int) (hz : z = (k : Int) + N) : (Instr.slice 22 (.slice (some ⟨b, off, none⟩) n cap) (some (.int .i64 k)) (some (.int .i64 z)) none).run Tryz.prog w = .ok (.slice (some ⟨b, off + k * 2, none⟩) N (cap - k)) w := by
  subst hz
  unfold maxLen at hm
  have h1 : (k : Int) ≤ ((k + N : Nat) : Int) := by omega
  have h2 : ((k + N : Nat) : Int) ≤ cap := by omega
  have h3 : ¬ cap = k := by omega
  have e : ((k : Int) + N).toNat = k + N := by omega
  have e2 : k + N - k = N := by omega
  have h4 : 0 ≤ (k : Int) + N := by omega
  have h5 : (k : Int) + N ≤ cap := by omega
  have h6 : k ≤ k + N := by omega
  go_simp
theorem bytes_cat (a b : List UInt8) : (⟨a.toArray⟩ : ByteArray) ++ ⟨b.toArray⟩ = ⟨(a ++ b).toArray⟩ := ByteArray.ext (by simp)
theorem times_snoc (l : List Vec.Entry) (k j : Nat) (h : k + j < l.length) : Vec.times ((l.drop k).take (j + 1)) = Vec.times ((l.drop k).take j) ++ Vary.put l[k + j].t.toNat := by
  have hj : j < (l.drop k).length := by rw [List.length_drop]; omega
  have e : (l.drop k)[j] = l[k + j] := by simp
  unfold Vec.times
  rw [List.take_succ_eq_append_getElem hj, List.flatMap_append, e]; simp
set_option maxRecDepth 200000 in
theorem byWVecW1 {p : Prop} (h : p := by
  subst hmN
  replace hz := Lib.hid hz
  replace hrun := Lib.hid hrun
  go_wp2
  go_quiet (fail)
  have hbelq : Below w.heap.size w (wr.drewN nq) := bdn hbeli nq
  generalize wr.drewN nq = wq at *
  have ck1 := qk0 _ hbelq
  try clear cz
  try clear hez
  clear ck0 hcapk
  have hmid := fun W => run_mid W b off l.length cap k m (by omega) (by omega) (hcap.out (by omega)).1 (hcap.out (by omega)).2 z (by have := hz.out; omega)
  by_cases hkz : k = 0
  · subst hkz
    have hzm : m = z := by have := hz.out; omega
    subst hzm
    obtain rfl : nx = 0 := hk0 rfl
    obtain ⟨gn, hgn⟩ : ∃ gn : Nat, x.r = gn := ⟨x.r.toNat, by omega⟩
    have e4 : (x.r - 0 - if decide (0 = 0) = true then 0 else 1).toNat = gn := by rw [if_pos (by simp)]; omega
    have hvp := fun W => vary_put gn W (by omega)
    simp only [← hgn] at hvp
    have lp0 : gn < 300 := by omega
    replace hgn := Lib.hid hgn
    simp only [Nat.zero_mul, Nat.add_zero, Int.natCast_zero] at ck1 hmid qk0
    replace hk0 := Lib.hid hk0
    replace hkn := Lib.hid hkn
    have g2 : IntKind.i64.wrap ((m : Int) - 1) = ((m - 1 : Nat) : Int) := by rw [IntWalk.i64_in _ (by omega)]; omega
    have l1 := Vary.put_len gn (by omega)
    have l2 := Vary.put_len (m - 1) (by omega)
    have hz0 := hz.out
    have e1 : (l.drop (0 + 1)).drop (m - 1) = l.drop m := by rw [List.drop_drop]; congr 1; omega
    have e2 : decide (m = 0) = false := by simp; omega
    have hr2 : Hid (r + 1 + (Vec.enc (decide (m = 0)) (x.r + (m : Int)) (l.drop m)).1 = T.1) := Lib.hid (by
      have h := hr.out
      rw [e1, hx.out] at h
      rw [e2]; omega)
    have hacc2 : Hid ((acc ++ (Vary.put gn ++ Vary.put (m - 1)) ++ Vec.times ((l.drop 0).take m)) ++ (Vec.enc (decide (m = 0)) (x.r + (m : Int)) (l.drop m)).2 = T.2) := Lib.hid (by
      have h := hacc.out
      rw [e1, hx.out, e4] at h
      rw [e2, ← h]; simp only [List.append_assoc])
    clear e1 e2 e4 hz0
    go_wp2_with fail
    refine (hvp _).mono ?_
    rintro e w2 ⟨rfl, hb2⟩
    go_wp2_with fail
    refine (vary_put (m - 1) _ (by omega)).mono ?_
    rintro e w3 ⟨rfl, hb3⟩
    go_wp2_with fail
    have hbel3 : Below w.heap.size w w3 := by exact blw
    rw [bytes_cat, bytes_cat]
    have lp : (acc ++ (Vary.put gn ++ Vary.put (m - 1))).length ≤ 500 := by rw [List.length_append, List.length_append]; omega
    have htl : ∀ j, j < m → (Vec.times ((l.drop 0).take (j + 1))).length ≤ 160 := fun j hj => by
      have h1 := Vec.times_len ((l.drop 0).take (j + 1)) (fun y hy => by
        obtain ⟨i, hi, rfl⟩ := List.getElem_of_mem (List.mem_of_mem_drop (List.mem_of_mem_take hy))
        exact (heach.out i hi).2.2.2)
      rw [List.length_take, List.length_drop] at h1
      omega
    replace htl := Lib.hid htl
    clear hb2 hb3 hbelq ck1
    go_loopw [6, 75] (fun so sj wt => ∃ j : Nat, sj = .int .i64 j ∧ j ≤ m ∧ so = .string ⟨((acc ++ (Vary.put gn ++ Vary.put (m - 1))) ++ Vec.times ((l.drop 0).take j)).toArray⟩ ∧ Below w.heap.size w wt) (fun _ sj _ => m - (intOf sj).toNat)
    case atStart => exact ⟨0, rfl, by omega, by simp [Vec.times], hbel3⟩
    case round =>
      clear hbel3
      obtain ⟨j, rfl, hj, rfl, hbelj⟩ := hrel
      have hszj := hbelj.size
      by_cases hjm : j < m
      · obtain ⟨y, hy⟩ : ∃ y, y = 0 + j := ⟨_, rfl⟩
        have hyl : y < l.length := by omega
        obtain ⟨b', off', he, hbz, hcz⟩ := hcell.out y hyl
        simp only [Option.some.injEq, Addr.mk.injEq, and_true] at he
        obtain ⟨rfl, rfl⟩ := he
        have ha : off + 0 * 2 + j * 2 = off + y * 2 := by omega
        have hey := heach.out y hyl
        obtain ⟨tn, htn⟩ : ∃ tn : Nat, l[y].t = tn := ⟨l[y].t.toNat, by omega⟩
        have c0 : wr.cell? ⟨b, off + 0 * 2 + j * 2, none⟩ = some (.int .i64 l[y].r) := by rw [ha]; exact cell_below hbelj (hcz 0 (.int .i64 l[y].r) rfl)
        have c1 : wr.cell? ⟨b, off + 0 * 2 + j * 2 + 1, none⟩ = some (.int .i64 tn) := by rw [ha, ← htn]; exact cell_below hbelj (hcz 1 (.int .i64 l[y].t) rfl)
        have hsn : Hid (Vec.times ((l.drop 0).take (j + 1)) = Vec.times ((l.drop 0).take j) ++ Vary.put tn) := Lib.hid (by
          rw [times_snoc l 0 j (by omega)]
          subst hy
          rw [htn]; rfl)
        have htl2 := htl.out j hjm
        have hl4 := congrArg List.length hsn.out
        rw [List.length_append] at hl4
        have hl3 := Vary.put_len tn (by omega)
        have hl5 : (acc ++ (Vary.put gn ++ Vary.put (m - 1)) ++ Vec.times ((l.drop 0).take j)).length ≤ 700 := by rw [List.length_append]; omega
        clear hcz hbz hl4 htl2
        simp only [Nat.zero_mul, Nat.add_zero] at c0 c1 ha
        rw [htn] at hey
        replace htn := Lib.hid htn
        replace ha := Lib.hid ha
        replace hy := Lib.hid hy
        generalize l[y].r = yr at *
        generalize hS : acc ++ (Vary.put gn ++ Vary.put (m - 1)) ++ Vec.times ((l.drop 0).take j) = S at *
        have hS2 : Hid (S ++ Vary.put tn = (acc ++ (Vary.put gn ++ Vary.put (m - 1))) ++ Vec.times ((l.drop 0).take (j + 1))) := Lib.hid (by rw [hsn.out, ← List.append_assoc, hS])
        replace hS := Lib.hid hS
        go_wp2_with fail
        refine (vary_put tn _ (by omega)).mono ?_
        rintro e w4 ⟨rfl, hb4⟩
        go_wp2
        go_roundw
        case rel => exact ⟨j + 1, by go_num, by omega, by rw [bytes_cat, hS2.out], by exact blw⟩
        case measure => simp [intOf]; omega
      · obtain rfl : j = m := by omega
        generalize hS : acc ++ (Vary.put gn ++ Vary.put (j - 1)) ++ Vec.times ((l.drop 0).take j) = S at *
        have ck2 := qk0 _ hbelj
        replace hS := Lib.hid hS
        go_wp2
        go_roundw
        case rel => exact ⟨j, r + 1, x.r + (j : Int), S, rfl, by go_num, rfl, rfl, by have := hz.out; omega, hr2.out, hacc2.out, by omega, by omega, fun h => by have := hz.out; omega, fun h _ => hend.out h, hbelj⟩
        case measure => simp [intOf]; have := hz.out; omega
  · have hkz2 : 0 < k := by omega
    have d0 : decide ((0 : Int) < (k : Int)) = true := by simp; omega
    have hkn := hkn hkz2
    obtain ⟨gn, hgn⟩ : ∃ gn : Nat, x.r - nx - 1 = gn := ⟨(x.r - nx - 1).toNat, by omega⟩
    have g1 : IntKind.i64.wrap (x.r - nx) = (gn : Int) + 1 := by rw [IntWalk.i64_in _ (by omega)]; omega
    have e4 : (x.r - nx - if decide (k = 0) = true then 0 else 1).toNat = gn := by rw [if_neg (by simp; omega)]; omega
    replace hk0 := Lib.hid hk0
    replace hkz := Lib.hid hkz
    have hvp := fun W => vary_put gn W (by omega)
    have lp0 : gn < 300 := by omega
    have g2 : IntKind.i64.wrap ((m : Int) - 1) = ((m - 1 : Nat) : Int) := by rw [IntWalk.i64_in _ (by omega)]; omega
    have l1 := Vary.put_len gn (by omega)
    have l2 := Vary.put_len (m - 1) (by omega)
    have hz0 := hz.out
    have e1 : (l.drop (k + 1)).drop (m - 1) = l.drop z := by rw [List.drop_drop]; congr 1; omega
    have e2 : decide (z = 0) = false := by simp; omega
    have hr2 : Hid (r + 1 + (Vec.enc (decide (z = 0)) (x.r + (m : Int)) (l.drop z)).1 = T.1) := Lib.hid (by
      have h := hr.out
      rw [e1, hx.out] at h
      rw [e2]; omega)
    have hacc2 : Hid ((acc ++ (Vary.put gn ++ Vary.put (m - 1)) ++ Vec.times ((l.drop k).take m)) ++ (Vec.enc (decide (z = 0)) (x.r + (m : Int)) (l.drop z)).2 = T.2) := Lib.hid (by
      have h := hacc.out
      rw [e1, hx.out, e4] at h
      rw [e2, ← h]; simp only [List.append_assoc])
    clear e1 e2 e4 hz0
    go_wp2_with fail
    refine (hvp _).mono ?_
    rintro e w2 ⟨rfl, hb2⟩
    go_wp2_with fail
    refine (vary_put (m - 1) _ (by omega)).mono ?_
    rintro e w3 ⟨rfl, hb3⟩
    go_wp2_with fail
    have hbel3 : Below w.heap.size w w3 := by exact blw
    rw [bytes_cat, bytes_cat]
    have lp : (acc ++ (Vary.put gn ++ Vary.put (m - 1))).length ≤ 500 := by rw [List.length_append, List.length_append]; omega
    have htl : ∀ j, j < m → (Vec.times ((l.drop k).take (j + 1))).length ≤ 160 := fun j hj => by
      have h1 := Vec.times_len ((l.drop k).take (j + 1)) (fun y hy => by
        obtain ⟨i, hi, rfl⟩ := List.getElem_of_mem (List.mem_of_mem_drop (List.mem_of_mem_take hy))
        exact (heach.out i hi).2.2.2)
      rw [List.length_take, List.length_drop] at h1
      omega
    replace htl := Lib.hid htl
    clear hb2 hb3 hbelq ck1
    go_loopw [6, 75] (fun so sj wt => ∃ j : Nat, sj = .int .i64 j ∧ j ≤ m ∧ so = .string ⟨((acc ++ (Vary.put gn ++ Vary.put (m - 1))) ++ Vec.times ((l.drop k).take j)).toArray⟩ ∧ Below w.heap.size w wt) (fun _ sj _ => m - (intOf sj).toNat)
    case atStart => exact ⟨0, rfl, by omega, by simp [Vec.times], hbel3⟩
    case round =>
      clear hbel3
      obtain ⟨j, rfl, hj, rfl, hbelj⟩ := hrel
      have hszj := hbelj.size
      by_cases hjm : j < m
      · obtain ⟨y, hy⟩ : ∃ y, y = k + j := ⟨_, rfl⟩
        have hyl : y < l.length := by omega
        obtain ⟨b', off', he, hbz, hcz⟩ := hcell.out y hyl
        simp only [Option.some.injEq, Addr.mk.injEq, and_true] at he
        obtain ⟨rfl, rfl⟩ := he
        have ha : off + k * 2 + j * 2 = off + y * 2 := by omega
        have hey := heach.out y hyl
        obtain ⟨tn, htn⟩ : ∃ tn : Nat, l[y].t = tn := ⟨l[y].t.toNat, by omega⟩
        have c0 : wr.cell? ⟨b, off + k * 2 + j * 2, none⟩ = some (.int .i64 l[y].r) := by rw [ha]; exact cell_below hbelj (hcz 0 (.int .i64 l[y].r) rfl)
        have c1 : wr.cell? ⟨b, off + k * 2 + j * 2 + 1, none⟩ = some (.int .i64 tn) := by rw [ha, ← htn]; exact cell_below hbelj (hcz 1 (.int .i64 l[y].t) rfl)
        have hsn : Hid (Vec.times ((l.drop k).take (j + 1)) = Vec.times ((l.drop k).take j) ++ Vary.put tn) := Lib.hid (by
          rw [times_snoc l k j (by omega)]
          subst hy
          rw [htn]; rfl)
        have htl2 := htl.out j hjm
        have hl4 := congrArg List.length hsn.out
        rw [List.length_append] at hl4
        have hl3 := Vary.put_len tn (by omega)
        have hl5 : (acc ++ (Vary.put gn ++ Vary.put (m - 1)) ++ Vec.times ((l.drop k).take j)).length ≤ 700 := by rw [List.length_append]; omega
        clear hcz hbz hl4 htl2
        rw [htn] at hey
        replace htn := Lib.hid htn
        replace ha := Lib.hid ha
        replace hy := Lib.hid hy
        generalize l[y].r = yr at *
        generalize hS : acc ++ (Vary.put gn ++ Vary.put (m - 1)) ++ Vec.times ((l.drop k).take j) = S at *
        have hS2 : Hid (S ++ Vary.put tn = (acc ++ (Vary.put gn ++ Vary.put (m - 1))) ++ Vec.times ((l.drop k).take (j + 1))) := Lib.hid (by rw [hsn.out, ← List.append_assoc, hS])
        replace hS := Lib.hid hS
        go_wp2_with fail
        refine (vary_put tn _ (by omega)).mono ?_
        rintro e w4 ⟨rfl, hb4⟩
        go_wp2
        go_roundw
        case rel => exact ⟨j + 1, by go_num, by omega, by rw [bytes_cat, hS2.out], by exact blw⟩
        case measure => simp [intOf]; omega
      · obtain rfl : j = m := by omega
        generalize hS : acc ++ (Vary.put gn ++ Vary.put (j - 1)) ++ Vec.times ((l.drop k).take j) = S at *
        have ck2 := qk0 _ hbelj
        replace hS := Lib.hid hS
        go_wp2
        go_roundw
        case rel => exact ⟨z, r + 1, x.r + (j : Int), S, rfl, by go_num, rfl, rfl, by have := hz.out; omega, hr2.out, hacc2.out, by omega, by omega, fun h => by have := hz.out; omega, fun h _ => hend.out h, hbelj⟩
        case measure => simp [intOf]; have := hz.out; omega) : p := h
set_option maxHeartbeats 8000000 in
set_option maxRecDepth 100000 in
theorem vector_write_ok (v : Value) (l : List Vec.Entry) (w : World) (hv : VecIs w v l) (hf : Vec.right l = .ok) :
    Calls Tryz.prog 44 #[v] w fun e w' => e = .returned (.tuple #[.string ⟨(Vec.write l).toArray⟩, .nilIface]) ∧ Below w.heap.size w w' := by
  have hF := (Vec.right_iff l).1 hf
  have hl16 := hF.len
  have hA := vector_right v l w hv (by omega)
  rw [hf] at hA
  obtain ⟨a, cap, rfl, hcap, hcell⟩ := hv.list.at entCells_len
  have hel := Vec.enc_len true 0 l (fun x hx => by have := hF.each x hx; omega) (by omega) (by omega)
  obtain ⟨hel1, hel2⟩ := hel
  have heach : ∀ k (hk : k < l.length), 0 ≤ l[k].r ∧ l[k].r ≤ 200 ∧ 1 ≤ l[k].t ∧ l[k].t ≤ 1099511627776 := fun k hk => hF.each _ (List.getElem_mem hk)
  have hsorted := hF.sorted
  have htot : Hid (Vec.write l = Vary.put (Vec.enc true 0 l).1 ++ (Vec.enc true 0 l).2) := Lib.hid rfl
  obtain ⟨T, hT⟩ : ∃ T, T = Vec.enc true 0 l := ⟨_, rfl⟩
  rw [← hT] at hel1 hel2 htot
  replace hA := Lib.hid hA
  replace hcell := Lib.hid hcell
  replace hcap := Lib.hid hcap
  replace heach := Lib.hid heach
  replace hsorted := Lib.hid hsorted
  replace hT := Lib.hid hT
  clear hv hf hF
  go_enter Tryz.func44, Tryz.ntmps44
  go_wp2_with fail
  refine hA.out.mono ?_
  rintro e w1 ⟨v1, rfl, hv1, hb1⟩
  have hv1 : v1 = .nilIface := hv1
  subst hv1
  clear hA
  go_wp2
  go_loopw [5, 6, 7, 8] (fun sr so sn sk wr => ∃ (k r : Nat) (nx : Int) (acc : List UInt8), sk = .int .i64 k ∧ sr = .int .u64 r ∧ sn = .int .i64 nx ∧ so = .string ⟨acc.toArray⟩ ∧ k ≤ l.length ∧ r + (Vec.enc (decide (k = 0)) nx (l.drop k)).1 = T.1 ∧ acc ++ (Vec.enc (decide (k = 0)) nx (l.drop k)).2 = T.2 ∧ 0 ≤ nx ∧ nx ≤ 300 ∧ (k = 0 → nx = 0) ∧ (∀ h : k < l.length, 0 < k → nx + 1 ≤ l[k].r) ∧ Below w.heap.size w wr) (fun _ _ _ sk _ => l.length - (intOf sk).toNat)
  case atStart => exact ⟨0, 0, 0, [], rfl, rfl, rfl, rfl, by omega, by rw [hT.out]; simp, by rw [hT.out]; simp, by omega, by omega, fun _ => rfl, fun _ h => by omega, hb1⟩
  case round =>
    clear hb1
    obtain ⟨k, r, nx, acc, rfl, rfl, rfl, rfl, hk, hr, hacc, hn0, hn3, hk0, hkn, hbel⟩ := hrel
    have hsz := hbel.size
    have hal : acc.length ≤ 480 := by
      have := congrArg List.length hacc
      rw [List.length_append] at this; omega
    have hr16 : r ≤ 16 := by omega
    by_cases hlt : k < l.length
    · obtain ⟨b, off, rfl, hbw, hc⟩ := hcell.out k hlt
      have hbw := hbw (by omega)
      have qk0 := fun W (h : Below w.heap.size w W) => cell_below h (hc 0 (.int .i64 l[k].r) rfl)
      have qk1 := fun W (h : Below w.heap.size w W) => cell_below h (hc 1 (.int .i64 l[k].t) rfl)
      simp only [Nat.add_zero] at qk0
      have hcapk := (hcap.out (by omega))
      have hen := Vec.enc_cons (decide (k = 0)) nx l[k] (l.drop (k + 1))
      rw [← List.drop_eq_getElem_cons hlt] at hen
      rw [hen] at hr hacc
      have hkn := hkn hlt
      have hex := heach.out k hlt
      obtain ⟨N, hN⟩ : ∃ N, N = Vec.ext_ l[k].r 1 (l.drop (k + 1)) := ⟨_, rfl⟩
      rw [← hN] at hr hacc
      clear hen hc
      replace hr := Lib.hid hr
      replace hacc := Lib.hid hacc
      replace hN := Lib.hid hN
      obtain ⟨x, hx⟩ : ∃ x, l[k] = x := ⟨_, rfl⟩
      have hNx := hN.out
      rw [hx] at qk0 qk1 hkn hex hNx
      replace hx := Lib.hid hx
      replace hNx := Lib.hid hNx
      go_wp2
      go_loopw [9] (fun s wi => ∃ m : Nat, s = .int .i64 m ∧ 1 ≤ m ∧ k + m ≤ l.length ∧ Vec.ext_ x.r m (l.drop (k + m)) = N ∧ (∀ j, j < m → ∃ hj : k + j < l.length, l[k + j].r = x.r + j) ∧ Below w.heap.size w wi) (fun s _ => l.length - (intOf s).toNat)
      case atStart => exact ⟨1, rfl, by omega, by omega, hNx.out.symm, fun j hj => ⟨by omega, by obtain rfl : j = 0 := (by omega); simp only [Nat.add_zero]; rw [hx.out]; simp⟩, hbel⟩
      case round =>
        clear hbel
        obtain ⟨m, rfl, hm1, hm2, hme, hrun, hbeli⟩ := hrel
        have hszi := hbeli.size
        obtain ⟨z, hz⟩ : ∃ z, z = k + m := ⟨_, rfl⟩
        have wz : IntKind.i64.wrap ((k : Int) + (m : Int)) = (z : Int) := by rw [IntWalk.i64_in _ (by omega)]; omega
        have wr2 : IntKind.i64.wrap (x.r + (m : Int)) = x.r + (m : Int) := IntWalk.i64_in _ (by omega)
        have ck0 := qk0 _ hbeli
        by_cases hzl : z < l.length
        · obtain ⟨b', off', he, hbz, hcz⟩ := hcell.out z hzl
          simp only [Option.some.injEq, Addr.mk.injEq, and_true] at he
          obtain ⟨rfl, rfl⟩ := he
          have cz : wr.cell? ⟨b, off + z * 2, none⟩ = some (.int .i64 l[z].r) := cell_below hbeli (hcz 0 (.int .i64 l[z].r) rfl)
          have dz : decide ((z : Int) < (l.length : Int)) = true := by simp; omega
          have hed := Vec.ext_drop l x.r z m hzl
          rw [← hz, hed] at hme
          have hez := heach.out z hzl
          clear hcz hbz hed
          by_cases heq : l[z].r = x.r + m
          · have dq : (l[z].r == x.r + (m : Int)) = true := by simp [heq]
            rw [if_pos heq] at hme
            have hrun2 : ∀ j, j < m + 1 → ∃ hj : k + j < l.length, l[k + j].r = x.r + j := fun j hj => by
              by_cases hjm : j < m
              · exact hrun j hjm
              · obtain rfl : j = m := by omega
                subst hz
                exact ⟨hzl, heq⟩
            have hme2 : Vec.ext_ x.r (m + 1) (l.drop (k + (m + 1))) = N := by rw [← hme, hz]; rfl
            replace hrun2 := Lib.hid hrun2
            replace hme2 := Lib.hid hme2
            replace heq := Lib.hid heq
            clear hme hrun
            replace hz := Lib.hid hz
            generalize l[z].r = zr at *
            go_wp2
            go_quiet (fail)
            go_wp2
            go_roundw
            case rel => exact ⟨m + 1, by go_num, by omega, by have := hz.out; omega, hme2.out, hrun2.out, bdn hbeli _⟩
            case measure => simp [intOf]; have := hz.out; omega
          · have dq : (l[z].r == x.r + (m : Int)) = false := by simp [heq]
            rw [if_neg heq] at hme
            have hnext : Hid (x.r + (m : Int) + 1 ≤ l[z].r) := Lib.hid (by
              have h0 := Vec.run_next l hsorted.out k hlt m hm1 (fun j hj => by rw [hx.out]; exact hrun j hj) (by omega)
              rw [hx.out] at h0
              have e : l[k + m]'(by omega) = l[z] := by simp only [hz]
              rw [e] at h0; omega)
            have hmN : m = N := hme
            have hend : Hid (∀ h : z < l.length, x.r + m + 1 ≤ l[z].r) := Lib.hid (fun _ => hnext.out)
            clear hme hnext heq
            have hguard : Hid True := Lib.hid trivial
            obtain ⟨zr, hzr⟩ : ∃ zr, l[z].r = zr := ⟨_, rfl⟩
            rw [hzr] at cz dq hez
            replace hzr := Lib.hid hzr
            exact byWVecW1
        · have hmN : m = N := by rw [← hme, hz.symm, Vec.ext_end l x.r z m (by omega)]
          have hend : Hid (∀ h : z < l.length, x.r + m + 1 ≤ l[z].r) := Lib.hid (fun h => absurd h hzl)
          have dz : decide ((z : Int) < (l.length : Int)) = false := by simp; omega
          clear hme
          exact byWVecW1
    · obtain rfl : k = l.length := by omega
      rw [List.drop_length, Vec.enc_nil] at hr hacc
      have hfin : Hid (Vec.write l = Vary.put r ++ acc) := Lib.hid (by
        have h1 : r = T.1 := by simpa using hr
        have h2 : acc = T.2 := by simpa using hacc
        rw [htot.out, h1, h2])
      have hpl := Vary.put_len r (by omega)
      replace hr := Lib.hid hr
      replace hacc := Lib.hid hacc
      go_wp2_with fail
      refine (vary_put r _ (by omega)).mono ?_
      rintro e w2 ⟨rfl, hb2⟩
      go_wp2
      go_ret2
      rw [hfin.out]
      exact ⟨by rw [bytes_cat]; rfl, by exact blw⟩
end Go.Proofs.YtdbpiabcpjgblaaGreatDoor
/- The walk of vector.Write where something is wrong. -/
namespace Go.Proofs.YtdbpiabcpjgblaaGreatDoor
open Go.RowKit
set_option linter.unusedVariables false
set_option linter.unusedSimpArgs false
end Go.Proofs.YtdbpiabcpjgblaaGreatDoor
/- Walks of vary: Zig and Zag. -/
namespace Go.Proofs.YtdbpiabcpjgblaaGreatDoor
open Go.RowKit
set_option linter.unusedVariables false
theorem xor_ones {x : Nat} (h : x < 18446744073709551616) : x ^^^ 18446744073709551615 = 18446744073709551615 - x := by
  apply Nat.eq_of_testBit_eq
  intro i
  rw [show 18446744073709551615 - x = 2 ^ 64 - (x + 1) from by omega, Nat.testBit_two_pow_sub_succ h, Nat.testBit_xor, show (18446744073709551615 : Nat) = 2 ^ 64 - 1 from rfl, Nat.testBit_two_pow_sub_one]
  by_cases hi : i < 64 <;> simp [hi]
  exact Nat.testBit_lt_two_pow (Nat.lt_of_lt_of_le h (Nat.pow_le_pow_right (n := 2) (by omega) (by omega : 64 ≤ i)))
theorem zig_eq (n : Int) (h1 : -9223372036854775808 ≤ n) (h2 : n ≤ 9223372036854775807) :
    bits .xor .u64 (IntKind.u64.wrap (IntKind.u64.wrap n * 2)) (IntKind.u64.wrap (n / 9223372036854775808)) = ((Vary.zig n : Nat) : Int) := by
  simp only [IntKind.wrap_u64]
  unfold Vary.zig
  by_cases h : 0 ≤ n
  · rw [if_pos h]
    have e1 : n % 18446744073709551616 * 2 % 18446744073709551616 = (((2 * n).toNat : Nat) : Int) := by omega
    have e2 : n / 9223372036854775808 % 18446744073709551616 = ((0 : Nat) : Int) := by omega
    rw [e1, e2, u64_xor_nat _ _ (by omega) (by omega), Nat.xor_zero]
  · rw [if_neg h]
    have e1 : n % 18446744073709551616 * 2 % 18446744073709551616 = (((2 * n + 18446744073709551616).toNat : Nat) : Int) := by omega
    have e2 : n / 9223372036854775808 % 18446744073709551616 = ((18446744073709551615 : Nat) : Int) := by omega
    rw [e1, e2, u64_xor_nat _ _ (by omega) (by omega), xor_ones (by omega)]
    omega
set_option maxHeartbeats 1000000 in
set_option maxRecDepth 20000 in
theorem vary_zig (n : Int) (w : World) (h1 : -9223372036854775808 ≤ n) (h2 : n ≤ 9223372036854775807) :
    Calls Tryz.prog 105 #[.int .i64 n] w fun e w' => e = .returned (.int .u64 (Vary.zig n)) ∧ w = w' := by
  have he := Lib.hid (zig_eq n h1 h2)
  replace h1 := Lib.hid h1
  replace h2 := Lib.hid h2
  go_enter Tryz.func105, Tryz.ntmps105
  go_wp2
  go_ret
  exact ⟨ret_int he.out, rfl⟩
end Go.Proofs.YtdbpiabcpjgblaaGreatDoor
/- The walk of vary.Zag. -/
namespace Go.Proofs.YtdbpiabcpjgblaaGreatDoor
open Go.RowKit
set_option linter.unusedVariables false
theorem i64_xor_zero (a : Nat) (h : a < 9223372036854775808) : bits .xor .i64 (a : Int) 0 = (a : Int) := by
  show IntKind.i64.wrap ((BitVec.ofInt 64 (a : Int) ^^^ BitVec.ofInt 64 (0 : Int)).toNat : Int) = _
  rw [BitVec.toNat_xor, ofInt_u64 a (by omega), show (BitVec.ofInt 64 (0 : Int)).toNat = 0 from by decide, Nat.xor_zero, IntKind.wrap_i64]
  omega
theorem i64_xor_ones (a : Nat) (h : a < 9223372036854775808) : bits .xor .i64 (a : Int) (-1) = -(a : Int) - 1 := by
  show IntKind.i64.wrap ((BitVec.ofInt 64 (a : Int) ^^^ BitVec.ofInt 64 (-1 : Int)).toNat : Int) = _
  rw [BitVec.toNat_xor, ofInt_u64 a (by omega), show (BitVec.ofInt 64 (-1 : Int)).toNat = 18446744073709551615 from by decide, xor_ones (by omega), IntKind.wrap_i64]
  omega
theorem zag_eq (n : Nat) (h1 : n < 18446744073709551616) :
    bits .xor .i64 (wrap64 ((n : Int) / 2)) (wrap64 (-wrap64 (bits .and .u64 (n : Int) 1))) = Vary.zag n := by
  have ha := u64_and_nat n 1 h1 (by omega)
  rw [Nat.and_one_is_mod] at ha
  have ha2 : bits .and .u64 (n : Int) 1 = ((n % 2 : Nat) : Int) := ha
  have hh : wrap64 ((n : Int) / 2) = ((n / 2 : Nat) : Int) := by rw [IntWalk.wrap64_in _ ⟨by omega, by omega⟩]; rfl
  rw [ha2, hh]
  unfold Vary.zag
  by_cases h : n % 2 = 0
  · rw [if_pos h, h]
    have e : wrap64 (-wrap64 ((0 : Nat) : Int)) = 0 := by
      rw [IntWalk.wrap64_in ((0 : Nat) : Int) ⟨by omega, by omega⟩, IntWalk.wrap64_in _ ⟨by omega, by omega⟩]; rfl
    rw [e]
    have := i64_xor_zero (n / 2) (by omega)
    exact this
  · rw [if_neg h, show n % 2 = 1 by omega]
    have e : wrap64 (-wrap64 ((1 : Nat) : Int)) = -1 := by
      rw [IntWalk.wrap64_in ((1 : Nat) : Int) ⟨by omega, by omega⟩, IntWalk.wrap64_in _ ⟨by omega, by omega⟩]; rfl
    rw [e]
    exact i64_xor_ones (n / 2) (by omega)
set_option maxHeartbeats 1000000 in
set_option maxRecDepth 20000 in
theorem vary_zag (n : Nat) (w : World) (h1 : n < 18446744073709551616) :
    Calls Tryz.prog 150 #[.int .u64 n] w fun e w' => e = .returned (.int .i64 (Vary.zag n)) ∧ w = w' := by
  have he := Lib.hid (zag_eq n h1)
  replace h1 := Lib.hid h1
  go_enter Tryz.func150, Tryz.ntmps150
  go_wp2
  go_ret
  exact ⟨ret_int he.out, rfl⟩
end Go.Proofs.YtdbpiabcpjgblaaGreatDoor
/- The walk of write.Tail. -/
namespace Go.Proofs.YtdbpiabcpjgblaaGreatDoor
open Go.RowKit
set_option linter.unusedVariables false
set_option maxHeartbeats 2000000 in
set_option maxRecDepth 100000 in
theorem write_tail_ok (t r k : Int) (key val : ByteArray) (n : Int) (w : World) (h : Wr.right (wr t r k key val n) = 0) :
    Calls Tryz.prog 87 #[wrV t r k key val n] w fun e w' => e = .returned (.tuple #[.string ⟨(Wr.tail (wr t r k key val n)).toArray⟩, .nilIface]) ∧ Below w.heap.size w w' := by
  have hR := fun W => write_right t r k key val n W
  rw [h, errW_ok] at hR
  obtain ⟨k1, k4, -, -, -, -, -, hval, -, -, hadd, hins⟩ := Wr.right_zero h
  simp only [wr] at k1 k4 hval hadd hins
  rw [ba_len] at hval
  have hp := fun W => span_put val W (by omega)
  replace hR := Lib.hid hR
  replace hp := Lib.hid hp
  clear h
  unfold wrV at *
  have hk : k = 1 ∨ k = 2 ∨ k = 3 ∨ k = 4 := by omega
  clear k1 k4
  have hT : ∀ y, Wr.tail (wr t r k key val n) = y → Hid (Wr.tail (wr t r k key val n) = y) := fun y h => Lib.hid h
  rcases hk with rfl | rfl | rfl | rfl
  · have hT := hT (Span.put val.data.toList) (by unfold Wr.tail wr; rw [if_pos rfl])
    go_enter Tryz.func87, Tryz.ntmps87
    go_wp2_with fail
    have q0 := row_at #[.int .i64 t, .int .i64 r, .int .i64 1, .string key, .string val, .int .i64 n] 33 (rfl : w.heap.size = w.heap.size)
    have qb : Below w.heap.size w (w.alloc (Obj.cells #[.int .i64 t, .int .i64 r, .int .i64 1, .string key, .string val, .int .i64 n] 33)) := by exact blw
    generalize w.alloc (Obj.cells #[.int .i64 t, .int .i64 r, .int .i64 1, .string key, .string val, .int .i64 n] 33) = w1 at *
    refine (hR.out _).mono ?_
    rintro e w2 ⟨rfl, hb⟩
    have q1 := q0.below hb
    have c2 := q1.cell 2
    have c4 := q1.cell 4
    simp only [List.getElem?_cons_zero, List.getElem?_cons_succ] at c2 c4
    clear q0 q1
    go_wp2_with fail
    refine (hp.out _).mono ?_
    rintro e w3 ⟨rfl, hb3⟩
    go_wp2
    go_ret2
    rw [hT.out]
    exact ⟨rfl, by exact blw⟩
  · have hT := hT [] (by unfold Wr.tail wr; simp)
    go_enter Tryz.func87, Tryz.ntmps87
    go_wp2_with fail
    have q0 := row_at #[.int .i64 t, .int .i64 r, .int .i64 2, .string key, .string val, .int .i64 n] 33 (rfl : w.heap.size = w.heap.size)
    have qb : Below w.heap.size w (w.alloc (Obj.cells #[.int .i64 t, .int .i64 r, .int .i64 2, .string key, .string val, .int .i64 n] 33)) := by exact blw
    generalize w.alloc (Obj.cells #[.int .i64 t, .int .i64 r, .int .i64 2, .string key, .string val, .int .i64 n] 33) = w1 at *
    refine (hR.out _).mono ?_
    rintro e w2 ⟨rfl, hb⟩
    have q1 := q0.below hb
    have c2 := q1.cell 2
    simp only [List.getElem?_cons_zero, List.getElem?_cons_succ] at c2
    clear q0 q1
    go_wp2
    go_ret2
    rw [hT.out]
    exact ⟨rfl, by exact blw⟩
  · have hT := hT (Vary.put (Vary.zig n)) (by unfold Wr.tail wr; simp)
    have hn := hadd rfl
    have hz := Lib.hid (fun W => vary_zig n W (by omega) (by omega))
    have hz2 := Lib.hid (fun W => vary_put (Vary.zig n) W (Vary.zig_lt n (by omega) (by omega)))
    replace hn := Lib.hid hn
    go_enter Tryz.func87, Tryz.ntmps87
    go_wp2_with fail
    have q0 := row_at #[.int .i64 t, .int .i64 r, .int .i64 3, .string key, .string val, .int .i64 n] 33 (rfl : w.heap.size = w.heap.size)
    have qb : Below w.heap.size w (w.alloc (Obj.cells #[.int .i64 t, .int .i64 r, .int .i64 3, .string key, .string val, .int .i64 n] 33)) := by exact blw
    generalize w.alloc (Obj.cells #[.int .i64 t, .int .i64 r, .int .i64 3, .string key, .string val, .int .i64 n] 33) = w1 at *
    refine (hR.out _).mono ?_
    rintro e w2 ⟨rfl, hb⟩
    have q1 := q0.below hb
    have c2 := q1.cell 2
    have c5 := q1.cell 5
    simp only [List.getElem?_cons_zero, List.getElem?_cons_succ] at c2 c5
    clear q0 q1
    go_wp2_with fail
    refine (hz.out _).mono ?_
    rintro e w3 ⟨rfl, rfl⟩
    go_wp2_with fail
    refine (hz2.out _).mono ?_
    rintro e w4 ⟨rfl, hb4⟩
    go_wp2
    go_ret2
    rw [hT.out]
    exact ⟨rfl, by exact blw⟩
  · have hT := hT (Vary.put n.toNat ++ Span.put val.data.toList) (by unfold Wr.tail wr; simp)
    obtain ⟨hn1, hn2⟩ := hins rfl
    obtain ⟨m, rfl⟩ := Int.eq_ofNat_of_zero_le hn1
    rw [Int.toNat_natCast] at hT
    have hz := Lib.hid (fun W => vary_put m W (by omega))
    have hw := u64_of_nonneg hn1 (by omega)
    have l1 := Vary.put_len m (by omega)
    have l2 : (Span.put val.data.toList).length ≤ 400 := by
      have := Vary.put_len val.size (by omega)
      unfold Span.put
      rw [List.length_append, ba_len]; omega
    have hcat : Hid ((⟨(Vary.put m).toArray⟩ : ByteArray) ++ ⟨(Span.put val.data.toList).toArray⟩ = ⟨(Vary.put m ++ Span.put val.data.toList).toArray⟩) := Lib.hid (ByteArray.ext (by simp))
    go_enter Tryz.func87, Tryz.ntmps87
    go_wp2_with fail
    have q0 := row_at #[.int .i64 t, .int .i64 r, .int .i64 4, .string key, .string val, .int .i64 m] 33 (rfl : w.heap.size = w.heap.size)
    have qb : Below w.heap.size w (w.alloc (Obj.cells #[.int .i64 t, .int .i64 r, .int .i64 4, .string key, .string val, .int .i64 m] 33)) := by exact blw
    generalize w.alloc (Obj.cells #[.int .i64 t, .int .i64 r, .int .i64 4, .string key, .string val, .int .i64 m] 33) = w1 at *
    refine (hR.out _).mono ?_
    rintro e w2 ⟨rfl, hb⟩
    have q1 := q0.below hb
    have c2 := q1.cell 2
    have c4 := q1.cell 4
    have c5 := q1.cell 5
    simp only [List.getElem?_cons_zero, List.getElem?_cons_succ] at c2 c4 c5
    have q2 := Lib.hid q1
    clear q0 q1
    go_wp2_with fail
    refine (hp.out _).mono ?_
    rintro e w3 ⟨rfl, hb3⟩
    have c5 := (q2.out.below hb3).cell 5
    simp only [List.getElem?_cons_zero, List.getElem?_cons_succ] at c5
    clear q2 c2 c4
    go_wp2_with fail
    refine (hz.out _).mono ?_
    rintro e w4 ⟨rfl, hb4⟩
    go_wp2
    go_ret2
    rw [hT.out]
    exact ⟨by rw [← hcat.out]; rfl, by exact blw⟩
end Go.Proofs.YtdbpiabcpjgblaaGreatDoor
/- Walks of keep.big, keep.held. -/
namespace Go.Proofs.YtdbpiabcpjgblaaGreatDoor
open Go.RowKit
set_option linter.unusedVariables false
set_option linter.unusedSimpArgs false
end Go.Proofs.YtdbpiabcpjgblaaGreatDoor
