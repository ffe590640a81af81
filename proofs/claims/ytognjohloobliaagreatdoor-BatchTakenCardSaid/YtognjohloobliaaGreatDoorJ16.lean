/- The walk of vector.Write. -/
import Derived.Test.YtognjohloobliaaGreatDoorJ15
import Derived.Test.YtognjohloobliaaGreatDoorJ07
import Derived.Test.YtognjohloobliaaGreatDoorJ08
import Derived.Test.YtognjohloobliaaGreatDoorJ06
namespace Go.Proofs.YtognjohloobliaaGreatDoor
open Go.RowKit
set_option linter.unusedVariables false
theorem run_mid (w : World) (b off n cap k N : Nat) (h : k + N ≤ n) (hN : 1 ≤ N) (hc : n ≤ cap) (hm : cap ≤ maxLen) (z : Int) (hz : z = (k : Int) + N) : (Instr.slice 22 (.slice (some ⟨b, off, none⟩) n cap) (some (.int .i64 k)) (some (.int .i64 z)) none).run Tryz.prog w = .ok (.slice (some ⟨b, off + k * 2, none⟩) N (cap - k)) w := by
 subst hz
 unfold maxLen at hm
 have h1 : (k : Int) ≤ ((k + N : Nat) : Int) := by omega
 have h2 : ((k + N : Nat) : Int) ≤ cap := by omega
 have h3 : ¬ cap = k := by omega
 have e : ((k : Int) + N).toNat = k + N := by omega
 have e2 : k + N - k = N := by omega
 have h4 : 0 ≤ (k : Int) + N := by omega
 have h5 : (k : Int) + N ≤ cap := by omega
 have h6 : k ≤ k + N := by omega
 go_simp
theorem bytes_cat (a b : List UInt8) : (⟨a.toArray⟩ : ByteArray) ++ ⟨b.toArray⟩ = ⟨(a ++ b).toArray⟩ := ByteArray.ext (by simp)
theorem times_snoc (l : List Vec.Entry) (k j : Nat) (h : k + j < l.length) : Vec.times ((l.drop k).take (j + 1)) = Vec.times ((l.drop k).take j) ++ Vary.put l[k + j].t.toNat := by
 have hj : j < (l.drop k).length := by rw [List.length_drop]; omega
 have e : (l.drop k)[j] = l[k + j] := by simp
 unfold Vec.times
 rw [List.take_succ_eq_append_getElem hj, List.flatMap_append, e]; simp
set_option maxRecDepth 200000 in
theorem byWVecW1 {p : Prop} (h : p := by
 subst hmN
 replace hz := Lib.hid hz
 replace hrun := Lib.hid hrun
 go_wp2
 go_quiet (fail)
 have hbelq : Below w.heap.size w (wr.drewN nq) := bdn hbeli nq
 generalize wr.drewN nq = wq at *
 have ck1 := qk0 _ hbelq
 try clear cz
 try clear hez
 clear ck0 hcapk
 have hmid := fun W => run_mid W b off l.length cap k m (by omega) (by omega) (hcap.out (by omega)).1 (hcap.out (by omega)).2 z (by have := hz.out; omega)
 by_cases hkz : k = 0
 ·subst hkz
  have hzm : m = z := by have := hz.out; omega
  subst hzm
  obtain rfl : nx = 0 := hk0 rfl
  obtain ⟨gn, hgn⟩ : ∃ gn : Nat, x.r = gn := ⟨x.r.toNat, by omega⟩
  have e4 : (x.r - 0 - if decide (0 = 0) = true then 0 else 1).toNat = gn := by rw [if_pos (by simp)]; omega
  have hvp := fun W => vary_put gn W (by omega)
  simp only [← hgn] at hvp
  have lp0 : gn < 300 := by omega
  replace hgn := Lib.hid hgn
  simp only [Nat.zero_mul, Nat.add_zero, Int.natCast_zero] at ck1 hmid qk0
  replace hk0 := Lib.hid hk0
  replace hkn := Lib.hid hkn
  have g2 : IntKind.i64.wrap ((m : Int) - 1) = ((m - 1 : Nat) : Int) := by rw [IntWalk.i64_in _ (by omega)]; omega
  have l1 := Vary.put_len gn (by omega)
  have l2 := Vary.put_len (m - 1) (by omega)
  have hz0 := hz.out
  have e1 : (l.drop (0 + 1)).drop (m - 1) = l.drop m := by rw [List.drop_drop]; congr 1; omega
  have e2 : decide (m = 0) = false := by simp; omega
  have hr2 : Hid (r + 1 + (Vec.enc (decide (m = 0)) (x.r + (m : Int)) (l.drop m)).1 = T.1) := Lib.hid (by
   have h := hr.out
   rw [e1, hx.out] at h
   rw [e2]; omega)
  have hacc2 : Hid ((acc ++ (Vary.put gn ++ Vary.put (m - 1)) ++ Vec.times ((l.drop 0).take m)) ++ (Vec.enc (decide (m = 0)) (x.r + (m : Int)) (l.drop m)).2 = T.2) := Lib.hid (by
   have h := hacc.out
   rw [e1, hx.out, e4] at h
   rw [e2, ← h]; simp only [List.append_assoc])
  clear e1 e2 e4 hz0
  go_wp2_with fail
  refine (hvp _).mono ?_
  rintro e w2 ⟨rfl, hb2⟩
  go_wp2_with fail
  refine (vary_put (m - 1) _ (by omega)).mono ?_
  rintro e w3 ⟨rfl, hb3⟩
  go_wp2_with fail
  have hbel3 : Below w.heap.size w w3 := by exact blw
  rw [bytes_cat, bytes_cat]
  have lp : (acc ++ (Vary.put gn ++ Vary.put (m - 1))).length ≤ 500 := by rw [List.length_append, List.length_append]; omega
  have htl : ∀ j, j < m → (Vec.times ((l.drop 0).take (j + 1))).length ≤ 160 := fun j hj => by
   have h1 := Vec.times_len ((l.drop 0).take (j + 1)) (fun y hy => by
    obtain ⟨i, hi, rfl⟩ := List.getElem_of_mem (List.mem_of_mem_drop (List.mem_of_mem_take hy))
    exact (heach.out i hi).2.2.2)
   rw [List.length_take, List.length_drop] at h1
   omega
  replace htl := Lib.hid htl
  clear hb2 hb3 hbelq ck1
  go_loopw [6, 75] (fun so sj wt => ∃ j : Nat, sj = .int .i64 j ∧ j ≤ m ∧ so = .string ⟨((acc ++ (Vary.put gn ++ Vary.put (m - 1))) ++ Vec.times ((l.drop 0).take j)).toArray⟩ ∧ Below w.heap.size w wt) (fun _ sj _ => m - (intOf sj).toNat)
  case atStart => exact ⟨0, rfl, by omega, by simp [Vec.times], hbel3⟩
  case round =>
   clear hbel3
   obtain ⟨j, rfl, hj, rfl, hbelj⟩ := hrel
   have hszj := hbelj.size
   by_cases hjm : j < m
   ·obtain ⟨y, hy⟩ : ∃ y, y = 0 + j := ⟨_, rfl⟩
    have hyl : y < l.length := by omega
    obtain ⟨b', off', he, hbz, hcz⟩ := hcell.out y hyl
    simp only [Option.some.injEq, Addr.mk.injEq, and_true] at he
    obtain ⟨rfl, rfl⟩ := he
    have ha : off + 0 * 2 + j * 2 = off + y * 2 := by omega
    have hey := heach.out y hyl
    obtain ⟨tn, htn⟩ : ∃ tn : Nat, l[y].t = tn := ⟨l[y].t.toNat, by omega⟩
    have c0 : wr.cell? ⟨b, off + 0 * 2 + j * 2, none⟩ = some (.int .i64 l[y].r) := by rw [ha]; exact cell_below hbelj (hcz 0 (.int .i64 l[y].r) rfl)
    have c1 : wr.cell? ⟨b, off + 0 * 2 + j * 2 + 1, none⟩ = some (.int .i64 tn) := by rw [ha, ← htn]; exact cell_below hbelj (hcz 1 (.int .i64 l[y].t) rfl)
    have hsn : Hid (Vec.times ((l.drop 0).take (j + 1)) = Vec.times ((l.drop 0).take j) ++ Vary.put tn) := Lib.hid (by
     rw [times_snoc l 0 j (by omega)]
     subst hy
     rw [htn]; rfl)
    have htl2 := htl.out j hjm
    have hl4 := congrArg List.length hsn.out
    rw [List.length_append] at hl4
    have hl3 := Vary.put_len tn (by omega)
    have hl5 : (acc ++ (Vary.put gn ++ Vary.put (m - 1)) ++ Vec.times ((l.drop 0).take j)).length ≤ 700 := by rw [List.length_append]; omega
    clear hcz hbz hl4 htl2
    simp only [Nat.zero_mul, Nat.add_zero] at c0 c1 ha
    rw [htn] at hey
    replace htn := Lib.hid htn
    replace ha := Lib.hid ha
    replace hy := Lib.hid hy
    generalize l[y].r = yr at *
    generalize hS : acc ++ (Vary.put gn ++ Vary.put (m - 1)) ++ Vec.times ((l.drop 0).take j) = S at *
    have hS2 : Hid (S ++ Vary.put tn = (acc ++ (Vary.put gn ++ Vary.put (m - 1))) ++ Vec.times ((l.drop 0).take (j + 1))) := Lib.hid (by rw [hsn.out, ← List.append_assoc, hS])
    replace hS := Lib.hid hS
    go_wp2_with fail
    refine (vary_put tn _ (by omega)).mono ?_
    rintro e w4 ⟨rfl, hb4⟩
    go_wp2
    go_roundw
    case rel => exact ⟨j + 1, by go_num, by omega, by rw [bytes_cat, hS2.out], by exact blw⟩
    case measure => simp [intOf]; omega
   ·obtain rfl : j = m := by omega
    generalize hS : acc ++ (Vary.put gn ++ Vary.put (j - 1)) ++ Vec.times ((l.drop 0).take j) = S at *
    have ck2 := qk0 _ hbelj
    replace hS := Lib.hid hS
    go_wp2
    go_roundw
    case rel => exact ⟨j, r + 1, x.r + (j : Int), S, rfl, by go_num, rfl, rfl, by have := hz.out; omega, hr2.out, hacc2.out, by omega, by omega, fun h => by have := hz.out; omega, fun h _ => hend.out h, hbelj⟩
    case measure => simp [intOf]; have := hz.out; omega
 ·have hkz2 : 0 < k := by omega
  have d0 : decide ((0 : Int) < (k : Int)) = true := by simp; omega
  have hkn := hkn hkz2
  obtain ⟨gn, hgn⟩ : ∃ gn : Nat, x.r - nx - 1 = gn := ⟨(x.r - nx - 1).toNat, by omega⟩
  have g1 : IntKind.i64.wrap (x.r - nx) = (gn : Int) + 1 := by rw [IntWalk.i64_in _ (by omega)]; omega
  have e4 : (x.r - nx - if decide (k = 0) = true then 0 else 1).toNat = gn := by rw [if_neg (by simp; omega)]; omega
  replace hk0 := Lib.hid hk0
  replace hkz := Lib.hid hkz
  have hvp := fun W => vary_put gn W (by omega)
  have lp0 : gn < 300 := by omega
  have g2 : IntKind.i64.wrap ((m : Int) - 1) = ((m - 1 : Nat) : Int) := by rw [IntWalk.i64_in _ (by omega)]; omega
  have l1 := Vary.put_len gn (by omega)
  have l2 := Vary.put_len (m - 1) (by omega)
  have hz0 := hz.out
  have e1 : (l.drop (k + 1)).drop (m - 1) = l.drop z := by rw [List.drop_drop]; congr 1; omega
  have e2 : decide (z = 0) = false := by simp; omega
  have hr2 : Hid (r + 1 + (Vec.enc (decide (z = 0)) (x.r + (m : Int)) (l.drop z)).1 = T.1) := Lib.hid (by
   have h := hr.out
   rw [e1, hx.out] at h
   rw [e2]; omega)
  have hacc2 : Hid ((acc ++ (Vary.put gn ++ Vary.put (m - 1)) ++ Vec.times ((l.drop k).take m)) ++ (Vec.enc (decide (z = 0)) (x.r + (m : Int)) (l.drop z)).2 = T.2) := Lib.hid (by
   have h := hacc.out
   rw [e1, hx.out, e4] at h
   rw [e2, ← h]; simp only [List.append_assoc])
  clear e1 e2 e4 hz0
  go_wp2_with fail
  refine (hvp _).mono ?_
  rintro e w2 ⟨rfl, hb2⟩
  go_wp2_with fail
  refine (vary_put (m - 1) _ (by omega)).mono ?_
  rintro e w3 ⟨rfl, hb3⟩
  go_wp2_with fail
  have hbel3 : Below w.heap.size w w3 := by exact blw
  rw [bytes_cat, bytes_cat]
  have lp : (acc ++ (Vary.put gn ++ Vary.put (m - 1))).length ≤ 500 := by rw [List.length_append, List.length_append]; omega
  have htl : ∀ j, j < m → (Vec.times ((l.drop k).take (j + 1))).length ≤ 160 := fun j hj => by
   have h1 := Vec.times_len ((l.drop k).take (j + 1)) (fun y hy => by
    obtain ⟨i, hi, rfl⟩ := List.getElem_of_mem (List.mem_of_mem_drop (List.mem_of_mem_take hy))
    exact (heach.out i hi).2.2.2)
   rw [List.length_take, List.length_drop] at h1
   omega
  replace htl := Lib.hid htl
  clear hb2 hb3 hbelq ck1
  go_loopw [6, 75] (fun so sj wt => ∃ j : Nat, sj = .int .i64 j ∧ j ≤ m ∧ so = .string ⟨((acc ++ (Vary.put gn ++ Vary.put (m - 1))) ++ Vec.times ((l.drop k).take j)).toArray⟩ ∧ Below w.heap.size w wt) (fun _ sj _ => m - (intOf sj).toNat)
  case atStart => exact ⟨0, rfl, by omega, by simp [Vec.times], hbel3⟩
  case round =>
   clear hbel3
   obtain ⟨j, rfl, hj, rfl, hbelj⟩ := hrel
   have hszj := hbelj.size
   by_cases hjm : j < m
   ·obtain ⟨y, hy⟩ : ∃ y, y = k + j := ⟨_, rfl⟩
    have hyl : y < l.length := by omega
    obtain ⟨b', off', he, hbz, hcz⟩ := hcell.out y hyl
    simp only [Option.some.injEq, Addr.mk.injEq, and_true] at he
    obtain ⟨rfl, rfl⟩ := he
    have ha : off + k * 2 + j * 2 = off + y * 2 := by omega
    have hey := heach.out y hyl
    obtain ⟨tn, htn⟩ : ∃ tn : Nat, l[y].t = tn := ⟨l[y].t.toNat, by omega⟩
    have c0 : wr.cell? ⟨b, off + k * 2 + j * 2, none⟩ = some (.int .i64 l[y].r) := by rw [ha]; exact cell_below hbelj (hcz 0 (.int .i64 l[y].r) rfl)
    have c1 : wr.cell? ⟨b, off + k * 2 + j * 2 + 1, none⟩ = some (.int .i64 tn) := by rw [ha, ← htn]; exact cell_below hbelj (hcz 1 (.int .i64 l[y].t) rfl)
    have hsn : Hid (Vec.times ((l.drop k).take (j + 1)) = Vec.times ((l.drop k).take j) ++ Vary.put tn) := Lib.hid (by
     rw [times_snoc l k j (by omega)]
     subst hy
     rw [htn]; rfl)
    have htl2 := htl.out j hjm
    have hl4 := congrArg List.length hsn.out
    rw [List.length_append] at hl4
    have hl3 := Vary.put_len tn (by omega)
    have hl5 : (acc ++ (Vary.put gn ++ Vary.put (m - 1)) ++ Vec.times ((l.drop k).take j)).length ≤ 700 := by rw [List.length_append]; omega
    clear hcz hbz hl4 htl2
    rw [htn] at hey
    replace htn := Lib.hid htn
    replace ha := Lib.hid ha
    replace hy := Lib.hid hy
    generalize l[y].r = yr at *
    generalize hS : acc ++ (Vary.put gn ++ Vary.put (m - 1)) ++ Vec.times ((l.drop k).take j) = S at *
    have hS2 : Hid (S ++ Vary.put tn = (acc ++ (Vary.put gn ++ Vary.put (m - 1))) ++ Vec.times ((l.drop k).take (j + 1))) := Lib.hid (by rw [hsn.out, ← List.append_assoc, hS])
    replace hS := Lib.hid hS
    go_wp2_with fail
    refine (vary_put tn _ (by omega)).mono ?_
    rintro e w4 ⟨rfl, hb4⟩
    go_wp2
    go_roundw
    case rel => exact ⟨j + 1, by go_num, by omega, by rw [bytes_cat, hS2.out], by exact blw⟩
    case measure => simp [intOf]; omega
   ·obtain rfl : j = m := by omega
    generalize hS : acc ++ (Vary.put gn ++ Vary.put (j - 1)) ++ Vec.times ((l.drop k).take j) = S at *
    have ck2 := qk0 _ hbelj
    replace hS := Lib.hid hS
    go_wp2
    go_roundw
    case rel => exact ⟨z, r + 1, x.r + (j : Int), S, rfl, by go_num, rfl, rfl, by have := hz.out; omega, hr2.out, hacc2.out, by omega, by omega, fun h => by have := hz.out; omega, fun h _ => hend.out h, hbelj⟩
    case measure => simp [intOf]; have := hz.out; omega) : p := h
set_option maxHeartbeats 8000000 in
set_option maxRecDepth 100000 in
theorem vector_write_ok (v : Value) (l : List Vec.Entry) (w : World) (hv : VecIs w v l) (hf : Vec.right l = .ok) :
  Calls Tryz.prog 35 #[v] w fun e w' => e = .returned (.tuple #[.string ⟨(Vec.write l).toArray⟩, .nilIface]) ∧ Below w.heap.size w w' := by
 have hF := (Vec.right_iff l).1 hf
 have hl16 := hF.len
 have hA := vector_right v l w hv (by omega)
 rw [hf] at hA
 obtain ⟨a, cap, rfl, hcap, hcell⟩ := hv.list.at entCells_len
 have hel := Vec.enc_len true 0 l (fun x hx => by have := hF.each x hx; omega) (by omega) (by omega)
 obtain ⟨hel1, hel2⟩ := hel
 have heach : ∀ k (hk : k < l.length), 0 ≤ l[k].r ∧ l[k].r ≤ 200 ∧ 1 ≤ l[k].t ∧ l[k].t ≤ 1099511627776 := fun k hk => hF.each _ (List.getElem_mem hk)
 have hsorted := hF.sorted
 have htot : Hid (Vec.write l = Vary.put (Vec.enc true 0 l).1 ++ (Vec.enc true 0 l).2) := Lib.hid rfl
 obtain ⟨T, hT⟩ : ∃ T, T = Vec.enc true 0 l := ⟨_, rfl⟩
 rw [← hT] at hel1 hel2 htot
 replace hA := Lib.hid hA
 replace hcell := Lib.hid hcell
 replace hcap := Lib.hid hcap
 replace heach := Lib.hid heach
 replace hsorted := Lib.hid hsorted
 replace hT := Lib.hid hT
 clear hv hf hF
 go_enter Tryz.func35, Tryz.ntmps35
 go_wp2_with fail
 refine hA.out.mono ?_
 rintro e w1 ⟨v1, rfl, hv1, hb1⟩
 have hv1 : v1 = .nilIface := hv1
 subst hv1
 clear hA
 go_wp2
 go_loopw [5, 6, 7, 8] (fun sr so sn sk wr => ∃ (k r : Nat) (nx : Int) (acc : List UInt8), sk = .int .i64 k ∧ sr = .int .u64 r ∧ sn = .int .i64 nx ∧ so = .string ⟨acc.toArray⟩ ∧ k ≤ l.length ∧ r + (Vec.enc (decide (k = 0)) nx (l.drop k)).1 = T.1 ∧ acc ++ (Vec.enc (decide (k = 0)) nx (l.drop k)).2 = T.2 ∧ 0 ≤ nx ∧ nx ≤ 300 ∧ (k = 0 → nx = 0) ∧ (∀ h : k < l.length, 0 < k → nx + 1 ≤ l[k].r) ∧ Below w.heap.size w wr) (fun _ _ _ sk _ => l.length - (intOf sk).toNat)
 case atStart => exact ⟨0, 0, 0, [], rfl, rfl, rfl, rfl, by omega, by rw [hT.out]; simp, by rw [hT.out]; simp, by omega, by omega, fun _ => rfl, fun _ h => by omega, hb1⟩
 case round =>
  clear hb1
  obtain ⟨k, r, nx, acc, rfl, rfl, rfl, rfl, hk, hr, hacc, hn0, hn3, hk0, hkn, hbel⟩ := hrel
  have hsz := hbel.size
  have hal : acc.length ≤ 480 := by
   have := congrArg List.length hacc
   rw [List.length_append] at this; omega
  have hr16 : r ≤ 16 := by omega
  by_cases hlt : k < l.length
  ·obtain ⟨b, off, rfl, hbw, hc⟩ := hcell.out k hlt
   have hbw := hbw (by omega)
   have qk0 := fun W (h : Below w.heap.size w W) => cell_below h (hc 0 (.int .i64 l[k].r) rfl)
   have qk1 := fun W (h : Below w.heap.size w W) => cell_below h (hc 1 (.int .i64 l[k].t) rfl)
   simp only [Nat.add_zero] at qk0
   have hcapk := (hcap.out (by omega))
   have hen := Vec.enc_cons (decide (k = 0)) nx l[k] (l.drop (k + 1))
   rw [← List.drop_eq_getElem_cons hlt] at hen
   rw [hen] at hr hacc
   have hkn := hkn hlt
   have hex := heach.out k hlt
   obtain ⟨N, hN⟩ : ∃ N, N = Vec.ext_ l[k].r 1 (l.drop (k + 1)) := ⟨_, rfl⟩
   rw [← hN] at hr hacc
   clear hen hc
   replace hr := Lib.hid hr
   replace hacc := Lib.hid hacc
   replace hN := Lib.hid hN
   obtain ⟨x, hx⟩ : ∃ x, l[k] = x := ⟨_, rfl⟩
   have hNx := hN.out
   rw [hx] at qk0 qk1 hkn hex hNx
   replace hx := Lib.hid hx
   replace hNx := Lib.hid hNx
   go_wp2
   go_loopw [9] (fun s wi => ∃ m : Nat, s = .int .i64 m ∧ 1 ≤ m ∧ k + m ≤ l.length ∧ Vec.ext_ x.r m (l.drop (k + m)) = N ∧ (∀ j, j < m → ∃ hj : k + j < l.length, l[k + j].r = x.r + j) ∧ Below w.heap.size w wi) (fun s _ => l.length - (intOf s).toNat)
   case atStart => exact ⟨1, rfl, by omega, by omega, hNx.out.symm, fun j hj => ⟨by omega, by obtain rfl : j = 0 := (by omega); simp only [Nat.add_zero]; rw [hx.out]; simp⟩, hbel⟩
   case round =>
    clear hbel
    obtain ⟨m, rfl, hm1, hm2, hme, hrun, hbeli⟩ := hrel
    have hszi := hbeli.size
    obtain ⟨z, hz⟩ : ∃ z, z = k + m := ⟨_, rfl⟩
    have wz : IntKind.i64.wrap ((k : Int) + (m : Int)) = (z : Int) := by rw [IntWalk.i64_in _ (by omega)]; omega
    have wr2 : IntKind.i64.wrap (x.r + (m : Int)) = x.r + (m : Int) := IntWalk.i64_in _ (by omega)
    have ck0 := qk0 _ hbeli
    by_cases hzl : z < l.length
    ·obtain ⟨b', off', he, hbz, hcz⟩ := hcell.out z hzl
     simp only [Option.some.injEq, Addr.mk.injEq, and_true] at he
     obtain ⟨rfl, rfl⟩ := he
     have cz : wr.cell? ⟨b, off + z * 2, none⟩ = some (.int .i64 l[z].r) := cell_below hbeli (hcz 0 (.int .i64 l[z].r) rfl)
     have dz : decide ((z : Int) < (l.length : Int)) = true := by simp; omega
     have hed := Vec.ext_drop l x.r z m hzl
     rw [← hz, hed] at hme
     have hez := heach.out z hzl
     clear hcz hbz hed
     by_cases heq : l[z].r = x.r + m
     ·have dq : (l[z].r == x.r + (m : Int)) = true := by simp [heq]
      rw [if_pos heq] at hme
      have hrun2 : ∀ j, j < m + 1 → ∃ hj : k + j < l.length, l[k + j].r = x.r + j := fun j hj => by
       by_cases hjm : j < m
       ·exact hrun j hjm
       ·obtain rfl : j = m := by omega
        subst hz
        exact ⟨hzl, heq⟩
      have hme2 : Vec.ext_ x.r (m + 1) (l.drop (k + (m + 1))) = N := by rw [← hme, hz]; rfl
      replace hrun2 := Lib.hid hrun2
      replace hme2 := Lib.hid hme2
      replace heq := Lib.hid heq
      clear hme hrun
      replace hz := Lib.hid hz
      generalize l[z].r = zr at *
      go_wp2
      go_quiet (fail)
      go_wp2
      go_roundw
      case rel => exact ⟨m + 1, by go_num, by omega, by have := hz.out; omega, hme2.out, hrun2.out, bdn hbeli _⟩
      case measure => simp [intOf]; have := hz.out; omega
     ·have dq : (l[z].r == x.r + (m : Int)) = false := by simp [heq]
      rw [if_neg heq] at hme
      have hnext : Hid (x.r + (m : Int) + 1 ≤ l[z].r) := Lib.hid (by
       have h0 := Vec.run_next l hsorted.out k hlt m hm1 (fun j hj => by rw [hx.out]; exact hrun j hj) (by omega)
       rw [hx.out] at h0
       have e : l[k + m]'(by omega) = l[z] := by simp only [hz]
       rw [e] at h0; omega)
      have hmN : m = N := hme
      have hend : Hid (∀ h : z < l.length, x.r + m + 1 ≤ l[z].r) := Lib.hid (fun _ => hnext.out)
      clear hme hnext heq
      have hguard : Hid True := Lib.hid trivial
      obtain ⟨zr, hzr⟩ : ∃ zr, l[z].r = zr := ⟨_, rfl⟩
      rw [hzr] at cz dq hez
      replace hzr := Lib.hid hzr
      exact byWVecW1
    ·have hmN : m = N := by rw [← hme, hz.symm, Vec.ext_end l x.r z m (by omega)]
     have hend : Hid (∀ h : z < l.length, x.r + m + 1 ≤ l[z].r) := Lib.hid (fun h => absurd h hzl)
     have dz : decide ((z : Int) < (l.length : Int)) = false := by simp; omega
     clear hme
     exact byWVecW1
  ·obtain rfl : k = l.length := by omega
   rw [List.drop_length, Vec.enc_nil] at hr hacc
   have hfin : Hid (Vec.write l = Vary.put r ++ acc) := Lib.hid (by
    have h1 : r = T.1 := by simpa using hr
    have h2 : acc = T.2 := by simpa using hacc
    rw [htot.out, h1, h2])
   have hpl := Vary.put_len r (by omega)
   replace hr := Lib.hid hr
   replace hacc := Lib.hid hacc
   go_wp2_with fail
   refine (vary_put r _ (by omega)).mono ?_
   rintro e w2 ⟨rfl, hb2⟩
   go_wp2
   go_ret2
   rw [hfin.out]
   exact ⟨by rw [bytes_cat]; rfl, by exact blw⟩
end Go.Proofs.YtognjohloobliaaGreatDoor
/- The walk of vector.Write where something is wrong. -/
namespace Go.Proofs.YtognjohloobliaaGreatDoor
open Go.RowKit
set_option linter.unusedVariables false
set_option linter.unusedSimpArgs false
end Go.Proofs.YtognjohloobliaaGreatDoor
/- The walk of keep.known. -/
namespace Go.Proofs.YtognjohloobliaaGreatDoor
open Go.RowKit
set_option linter.unusedVariables false
set_option maxHeartbeats 4000000 in
set_option maxRecDepth 100000 in
def kA : List Vec.Entry := [⟨1, 5⟩, ⟨2, 3⟩]
def kB : List Vec.Entry := [⟨2, 9⟩, ⟨7, 1⟩]
def kC : List Vec.Entry := [⟨1, 5⟩, ⟨2, 9⟩, ⟨7, 1⟩]
theorem kA_fine : Vec.right kA = .ok := by rfl
theorem kB_fine : Vec.right kB = .ok := by rfl
theorem kC_fine : Vec.right kC = .ok := by rfl
theorem k_merge : Vec.merge kA kB = kC := by simp [kA, kB, kC, Vec.merge]; decide
theorem k_joined : joined kA kB = .inr kC := by unfold joined; rw [kA_fine, kB_fine, k_merge]; rfl
theorem k_write : (⟨(Vec.write kC).toArray⟩ : ByteArray) = ⟨#[2, 1, 1, 5, 9, 3, 0, 1]⟩ := by
 have e2 : Vec.enc false 3 [⟨7, 1⟩] = (1, [3, 0, 1]) := by
  rw [Vec.enc_cons]; simp [Vec.ext_, Vec.enc_nil, Vary.put_small, Vec.times]
 have e1 : Vec.enc true 0 kC = (2, [1, 1, 5, 9, 3, 0, 1]) := by
  unfold kC
  rw [Vec.enc_cons]; simp [Vec.ext_, e2, Vary.put_small, Vec.times]
 unfold Vec.write
 rw [e1]; simp [Vary.put_small]
theorem k_of : Vec.of kC 2 = 9 := by rfl
theorem k_covers : coversB kA kB = false := by simp [coversB, kA, kB, Vec.right, Vec.of]
theorem keep_known (w : World) (hL : Laid w) :
  Calls Tryz.prog 9 #[] w fun e w' => e = .returned (.bool true) ∧ Below w.heap.size w w' := by
 go_enter Tryz.func9, Tryz.ntmps9
 go_wp2_with fail
 have ha0 := ListIs.of_alloc (f := entCells) (sz := 2) w 45 kA #[Value.int IntKind.i64 1, Value.int IntKind.i64 5, Value.int IntKind.i64 2, Value.int IntKind.i64 3] rfl entCells_len (by decide) 2 rfl
 have ha : VecIs ((w.alloc (Obj.cells #[Value.int IntKind.i64 1, Value.int IntKind.i64 5, Value.int IntKind.i64 2, Value.int IntKind.i64 3] 45)).alloc (Obj.cells #[Value.int IntKind.i64 2, Value.int IntKind.i64 9, Value.int IntKind.i64 7, Value.int IntKind.i64 1] 45)) (.slice (some ⟨w.heap.size, 0, none⟩) 2 2) kA := VecIs.below ha0 ((Below.refl _ _).alloc (Nat.le_refl _) _)
 have hb : VecIs ((w.alloc (Obj.cells #[Value.int IntKind.i64 1, Value.int IntKind.i64 5, Value.int IntKind.i64 2, Value.int IntKind.i64 3] 45)).alloc (Obj.cells #[Value.int IntKind.i64 2, Value.int IntKind.i64 9, Value.int IntKind.i64 7, Value.int IntKind.i64 1] 45)) (.slice (some ⟨w.heap.size + 1, 0, none⟩) 2 2) kB := by
  have h := ListIs.of_alloc (f := entCells) (sz := 2) (w.alloc (Obj.cells #[Value.int IntKind.i64 1, Value.int IntKind.i64 5, Value.int IntKind.i64 2, Value.int IntKind.i64 3] 45)) 45 kB #[Value.int IntKind.i64 2, Value.int IntKind.i64 9, Value.int IntKind.i64 7, Value.int IntKind.i64 1] rfl entCells_len (by decide) 2 rfl
  rw [show (w.alloc (Obj.cells #[Value.int IntKind.i64 1, Value.int IntKind.i64 5, Value.int IntKind.i64 2, Value.int IntKind.i64 3] 45)).heap.size = w.heap.size + 1 from by first | rfl | simp] at h
  exact h
 have hL2 := (hL.alloc (Obj.cells #[Value.int IntKind.i64 1, Value.int IntKind.i64 5, Value.int IntKind.i64 2, Value.int IntKind.i64 3] 45)).alloc (Obj.cells #[Value.int IntKind.i64 2, Value.int IntKind.i64 9, Value.int IntKind.i64 7, Value.int IntKind.i64 1] 45)
 have hbel2 : Below w.heap.size w ((w.alloc (Obj.cells #[Value.int IntKind.i64 1, Value.int IntKind.i64 5, Value.int IntKind.i64 2, Value.int IntKind.i64 3] 45)).alloc (Obj.cells #[Value.int IntKind.i64 2, Value.int IntKind.i64 9, Value.int IntKind.i64 7, Value.int IntKind.i64 1] 45)) := by exact blw
 clear ha0
 generalize (w.alloc (Obj.cells #[Value.int IntKind.i64 1, Value.int IntKind.i64 5, Value.int IntKind.i64 2, Value.int IntKind.i64 3] 45)).alloc (Obj.cells #[Value.int IntKind.i64 2, Value.int IntKind.i64 9, Value.int IntKind.i64 7, Value.int IntKind.i64 1] 45) = w2 at *
 refine (vector_join_ok _ _ kA kB _ hL2 ha hb (by decide) (by decide) kA_fine kB_fine).mono ?_
 rintro e w3 ⟨h3, hb3⟩
 rw [k_joined] at h3
 obtain ⟨vc, rfl, hc⟩ := h3
 have ha3 := Lib.hid (ha.below hb3)
 have hb3' := Lib.hid (hb.below hb3)
 have hbel3 : Below w.heap.size w w3 := by exact blw
 replace hc := Lib.hid hc
 clear ha hb hb3 hbel2 hL2
 go_wp2_with fail
 refine (vector_write_ok vc kC _ hc.out kC_fine).mono ?_
 rintro e w4 ⟨rfl, hb4⟩
 rw [k_write]
 have hbel4 : Below w.heap.size w w4 := by exact blw
 have hc4 := hc.out.below hb4
 have ha4 := ha3.out.below hb4
 have hb4' := hb3'.out.below hb4
 clear ha3 hb3' hc hbel3 hb4
 go_wp2_with fail
 have hbn : Below w4.heap.size w4 (w4.alloc (Obj.cells #[Value.int IntKind.i64 1, Value.int IntKind.i64 5, Value.int IntKind.i64 2, Value.int IntKind.i64 9, Value.int IntKind.i64 7, Value.int IntKind.i64 1] 45)) := (Below.refl _ _).alloc (Nat.le_refl _) _
 refine (eq_ent vc _ kC kC _ (hc4.below hbn) (ListIs.of_alloc (f := entCells) (sz := 2) w4 45 kC _ rfl entCells_len (by decide) 3 rfl) (by decide) (by decide)).mono ?_
 rintro e w5 ⟨rfl, hb5⟩
 have hbel5 : Below w.heap.size w w5 := by exact blw
 have hc5 := (hc4.below hbn).below hb5
 have ha5 := (ha4.below hbn).below hb5
 have hb5' := (hb4'.below hbn).below hb5
 clear hc4 ha4 hb4' hbn hb5 hbel4
 rw [show decide (kC = kC) = true from by simp]
 go_wp2_with fail
 refine (vector_of vc kC 2 _ hc5).mono ?_
 rintro e w6 ⟨rfl, hb6⟩
 have hbel6 : Below w.heap.size w w6 := by exact blw
 have ha6 := ha5.below hb6
 have hb6' := hb5'.below hb6
 clear hc5 ha5 hb5' hb6 hbel5
 rw [k_of]
 go_wp2_with fail
 refine (vector_covers _ _ kA kB _ ha6 hb6' (by decide) (by decide)).mono ?_
 rintro e w7 ⟨rfl, hb7⟩
 rw [k_covers]
 go_wp2
 go_ret
 exact ⟨rfl, by exact blw⟩
end Go.Proofs.YtognjohloobliaaGreatDoor
/- keep.known, vector.Join in each later world. -/
namespace Go.Proofs.YtognjohloobliaaGreatDoor
open Go.RowKit
set_option linter.unusedVariables false
theorem from_known (w : World) (hL : Laid w) : From 9 #[] w (.bool true) := fun W hW => keep_known W (hL.below hW)
end Go.Proofs.YtognjohloobliaaGreatDoor
/- The walk of keep.few: whether each of the vectors is right. -/
namespace Go.Proofs.YtognjohloobliaaGreatDoor
open Go.RowKit
set_option linter.unusedVariables false
def fewB (ls : List (List Vec.Entry)) : Bool := ls.all fun l => decide (Vec.right l = .ok)
theorem few_drop (ls : List (List Vec.Entry)) (k : Nat) (h : k < ls.length) : fewB (ls.drop k) = (decide (Vec.right ls[k] = .ok) && fewB (ls.drop (k + 1))) := by
 rw [List.drop_eq_getElem_cons h]; rfl
set_option maxHeartbeats 2000000 in
set_option maxRecDepth 100000 in
theorem keep_few (vs : List Value) (ls : List (List Vec.Entry)) (g : Nat) (w : World) (hn : vs.length = ls.length) (hn2 : ls.length ≤ 1000) (hc : ∀ k (h : k < vs.length), w.cell? ⟨g, k, none⟩ = some vs[k]) (hv : ∀ k (h : k < vs.length) (h2 : k < ls.length), VecIs w vs[k] ls[k]) (hl : ∀ l ∈ ls, l.length ≤ 140737488351232) :
  Calls Tryz.prog 12 #[.slice (some ⟨g, 0, none⟩) ls.length ls.length] w fun e w' => e = .returned (.bool (fewB ls)) ∧ Below w.heap.size w w' := by
 replace hc := Lib.hid hc
 replace hv := Lib.hid hv
 replace hl := Lib.hid hl
 go_enter Tryz.func12, Tryz.ntmps12
 go_wp2
 go_loopw [7] (fun i wr => ∃ k : Nat, i = .int .i64 k ∧ k ≤ ls.length ∧ fewB (ls.drop k) = fewB ls ∧ Below w.heap.size w wr) (fun i _ => ls.length - (intOf i).toNat)
 case atStart => exact ⟨0, rfl, by omega, rfl, by exact blw⟩
 case round =>
  obtain ⟨k, rfl, hk, hf, hbel⟩ := hrel
  have hsz := hbel.size
  by_cases hlt : k < ls.length
  ·have hkv : k < vs.length := by omega
   have h1 := hv.out k hkv hlt
   have h2 := hl.out _ (List.getElem_mem hlt)
   have ck := cell_below hbel (hc.out k hkv)
   have hA := vector_right vs[k] ls[k] wr (h1.below hbel) h2
   rw [few_drop ls k hlt] at hf
   obtain ⟨a, cap, e, -, -⟩ := h1.list.at entCells_len
   rw [e] at ck hA
   clear h1 e
   generalize ls[k] = x at *
   replace hA := Lib.hid hA
   by_cases h16 : 16 < x.length
   ·have hr : Hid (fewB ls = false) := Lib.hid (by rw [← hf, show Vec.right x = .no 4 from by unfold Vec.right; rw [if_pos h16]]; rfl)
    replace hf := Lib.hid hf
    go_wp2
    go_ret
    rw [hr.out]
    exact ⟨rfl, by exact blw⟩
   ·have d16 : decide ((16 : Int) < (x.length : Int)) = false := by simp; omega
    replace hf := Lib.hid hf
    go_wp2_with fail
    refine hA.out.mono ?_
    rintro e w1 ⟨v1, rfl, hv1, hb1⟩
    by_cases hok : Vec.right x = .ok
    ·rw [hok] at hv1
     have hv1 : v1 = .nilIface := hv1
     subst hv1
     go_wp2
     go_roundw
     case rel => exact ⟨k + 1, by go_num, by omega, by rw [← hf.out, hok]; simp, by exact blw⟩
     case measure => simp [intOf]; omega
    ·obtain ⟨t, y, rfl⟩ := errNe hv1 hok
     have hr : Hid (fewB ls = false) := Lib.hid (by rw [← hf.out]; simp [hok])
     go_wp2
     go_ret
     rw [hr.out]
     exact ⟨rfl, by exact blw⟩
  ·obtain rfl : k = ls.length := by omega
   have hr : Hid (fewB ls = true) := Lib.hid (by rw [← hf, List.drop_length]; rfl)
   go_wp2
   go_ret
   rw [hr.out]
   exact ⟨rfl, by exact blw⟩
end Go.Proofs.YtognjohloobliaaGreatDoor
/- keep.few of two and of three in each later world. -/
namespace Go.Proofs.YtognjohloobliaaGreatDoor
open Go.RowKit
set_option linter.unusedVariables false
/-- From w on the call answers v. -/
theorem few_cells (vs : List Value) (W : World) (T : TypeId) : ∀ k (h : k < vs.length), (W.alloc (.cells vs.toArray T)).cell? ⟨W.heap.size, k, none⟩ = some vs[k] := fun k h => by
 rw [(row_alloc W vs.toArray T).cell k, List.toList_toArray, List.getElem?_eq_getElem h]
end Go.Proofs.YtognjohloobliaaGreatDoor
/- keep.few of one vector. -/
namespace Go.Proofs.YtognjohloobliaaGreatDoor
open Go.RowKit
set_option linter.unusedVariables false
theorem few_one (va : Value) (a : List Vec.Entry) (v : Bool) (w W : World) (T : TypeId) (ha : VecIs w va a) (hla : a.length ≤ 140737488351232) (hv : fewB [a] = v) (hW : Below w.heap.size w W) :
  Calls Tryz.prog 12 #[.slice (some ⟨W.heap.size, 0, none⟩) 1 1] (W.alloc (.cells #[va] T)) fun e w' => e = .returned (.bool v) ∧ Below W.heap.size W w' := by
 have hx : Below w.heap.size w (W.alloc (.cells #[va] T)) := bal hW _
 refine (keep_few [va] [a] W.heap.size _ rfl (by simp) (few_cells [va] W T) (fun k h1 h2 => ?_) (fun l hl => ?_)).mono fun e w' ⟨he, hb⟩ => ⟨hv ▸ he, bch (bal (Below.refl _ _) _) hb⟩
 ·rcases k with _ | k
  ·exact ha.below hx
  ·exact absurd h1 (by simp)
 ·simp only [List.mem_cons, List.not_mem_nil, or_false] at hl
  rw [hl]; assumption
end Go.Proofs.YtognjohloobliaaGreatDoor
