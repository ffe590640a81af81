/- The walk of vector.Write. -/
import Derived.Test.YtognjohloobliaaGreatDoorK21
import Derived.Test.YtognjohloobliaaGreatDoorK07
import Derived.Test.YtognjohloobliaaGreatDoorK09
import Derived.Test.YtognjohloobliaaGreatDoorK08
import Derived.Test.YtognjohloobliaaGreatDoorK06
import Derived.Test.YtognjohloobliaaGreatDoorK01
namespace Go.Proofs.YtognjohloobliaaGreatDoor
open Go.RowKit
set_option linter.unusedVariables false
theorem run_mid (w : World) (b off n cap k N : Nat) (h : k + N ≤ n) (hN : 1 ≤ N) (hc : n ≤ cap) (hm : cap ≤ maxLen) (z : Int) (hz : z = (k : Int) + N) : (Instr.slice 22 (.slice (some ⟨b, off, none⟩) n cap) (some (.int .i64 k)) (some (.int .i64 z)) none).run Tryz.prog w = .ok (.slice (some ⟨b, off + k * 2, none⟩) N (cap - k)) w := by
 subst hz
 unfold maxLen at hm
 have h1 : (k : Int) ≤ ((k + N : Nat) : Int) := by omega
 have h2 : ((k + N : Nat) : Int) ≤ cap := by omega
 have h3 : ¬ cap = k := by omega
 have e : ((k : Int) + N).toNat = k + N := by omega
 have e2 : k + N - k = N := by omega
 have h4 : 0 ≤ (k : Int) + N := by omega
 have h5 : (k : Int) + N ≤ cap := by omega
 have h6 : k ≤ k + N := by omega
 go_simp
theorem bytes_cat (a b : List UInt8) : (⟨a.toArray⟩ : ByteArray) ++ ⟨b.toArray⟩ = ⟨(a ++ b).toArray⟩ := ByteArray.ext (by simp)
theorem times_snoc (l : List Vec.Entry) (k j : Nat) (h : k + j < l.length) : Vec.times ((l.drop k).take (j + 1)) = Vec.times ((l.drop k).take j) ++ Vary.put l[k + j].t.toNat := by
 have hj : j < (l.drop k).length := by rw [List.length_drop]; omega
 have e : (l.drop k)[j] = l[k + j] := by simp
 unfold Vec.times
 rw [List.take_succ_eq_append_getElem hj, List.flatMap_append, e]; simp
set_option maxRecDepth 200000 in
theorem byWVecW1 {p : Prop} (h : p := by
 subst hmN
 replace hz := Lib.hid hz
 replace hrun := Lib.hid hrun
 go_wp2
 go_quiet (fail)
 have hbelq : Below w.heap.size w (wr.drewN nq) := bdn hbeli nq
 generalize wr.drewN nq = wq at *
 have ck1 := qk0 _ hbelq
 try clear cz
 try clear hez
 clear ck0 hcapk
 have hmid := fun W => run_mid W b off l.length cap k m (by omega) (by omega) (hcap.out (by omega)).1 (hcap.out (by omega)).2 z (by have := hz.out; omega)
 by_cases hkz : k = 0
 ·subst hkz
  have hzm : m = z := by have := hz.out; omega
  subst hzm
  obtain rfl : nx = 0 := hk0 rfl
  obtain ⟨gn, hgn⟩ : ∃ gn : Nat, x.r = gn := ⟨x.r.toNat, by omega⟩
  have e4 : (x.r - 0 - if decide (0 = 0) = true then 0 else 1).toNat = gn := by rw [if_pos (by simp)]; omega
  have hvp := fun W => vary_put gn W (by omega)
  simp only [← hgn] at hvp
  have lp0 : gn < 300 := by omega
  replace hgn := Lib.hid hgn
  simp only [Nat.zero_mul, Nat.add_zero, Int.natCast_zero] at ck1 hmid qk0
  replace hk0 := Lib.hid hk0
  replace hkn := Lib.hid hkn
  have g2 : IntKind.i64.wrap ((m : Int) - 1) = ((m - 1 : Nat) : Int) := by rw [IntWalk.i64_in _ (by omega)]; omega
  have l1 := Vary.put_len gn (by omega)
  have l2 := Vary.put_len (m - 1) (by omega)
  have hz0 := hz.out
  have e1 : (l.drop (0 + 1)).drop (m - 1) = l.drop m := by rw [List.drop_drop]; congr 1; omega
  have e2 : decide (m = 0) = false := by simp; omega
  have hr2 : Hid (r + 1 + (Vec.enc (decide (m = 0)) (x.r + (m : Int)) (l.drop m)).1 = T.1) := Lib.hid (by
   have h := hr.out
   rw [e1, hx.out] at h
   rw [e2]; omega)
  have hacc2 : Hid ((acc ++ (Vary.put gn ++ Vary.put (m - 1)) ++ Vec.times ((l.drop 0).take m)) ++ (Vec.enc (decide (m = 0)) (x.r + (m : Int)) (l.drop m)).2 = T.2) := Lib.hid (by
   have h := hacc.out
   rw [e1, hx.out, e4] at h
   rw [e2, ← h]; simp only [List.append_assoc])
  clear e1 e2 e4 hz0
  go_wp2_with fail
  refine (hvp _).mono ?_
  rintro e w2 ⟨rfl, hb2⟩
  go_wp2_with fail
  refine (vary_put (m - 1) _ (by omega)).mono ?_
  rintro e w3 ⟨rfl, hb3⟩
  go_wp2_with fail
  have hbel3 : Below w.heap.size w w3 := by exact blw
  rw [bytes_cat, bytes_cat]
  have lp : (acc ++ (Vary.put gn ++ Vary.put (m - 1))).length ≤ 500 := by rw [List.length_append, List.length_append]; omega
  have htl : ∀ j, j < m → (Vec.times ((l.drop 0).take (j + 1))).length ≤ 160 := fun j hj => by
   have h1 := Vec.times_len ((l.drop 0).take (j + 1)) (fun y hy => by
    obtain ⟨i, hi, rfl⟩ := List.getElem_of_mem (List.mem_of_mem_drop (List.mem_of_mem_take hy))
    exact (heach.out i hi).2.2.2)
   rw [List.length_take, List.length_drop] at h1
   omega
  replace htl := Lib.hid htl
  clear hb2 hb3 hbelq ck1
  go_loopw [6, 75] (fun so sj wt => ∃ j : Nat, sj = .int .i64 j ∧ j ≤ m ∧ so = .string ⟨((acc ++ (Vary.put gn ++ Vary.put (m - 1))) ++ Vec.times ((l.drop 0).take j)).toArray⟩ ∧ Below w.heap.size w wt) (fun _ sj _ => m - (intOf sj).toNat)
  case atStart => exact ⟨0, rfl, by omega, by simp [Vec.times], hbel3⟩
  case round =>
   clear hbel3
   obtain ⟨j, rfl, hj, rfl, hbelj⟩ := hrel
   have hszj := hbelj.size
   by_cases hjm : j < m
   ·obtain ⟨y, hy⟩ : ∃ y, y = 0 + j := ⟨_, rfl⟩
    have hyl : y < l.length := by omega
    obtain ⟨b', off', he, hbz, hcz⟩ := hcell.out y hyl
    simp only [Option.some.injEq, Addr.mk.injEq, and_true] at he
    obtain ⟨rfl, rfl⟩ := he
    have ha : off + 0 * 2 + j * 2 = off + y * 2 := by omega
    have hey := heach.out y hyl
    obtain ⟨tn, htn⟩ : ∃ tn : Nat, l[y].t = tn := ⟨l[y].t.toNat, by omega⟩
    have c0 : wr.cell? ⟨b, off + 0 * 2 + j * 2, none⟩ = some (.int .i64 l[y].r) := by rw [ha]; exact cell_below hbelj (hcz 0 (.int .i64 l[y].r) rfl)
    have c1 : wr.cell? ⟨b, off + 0 * 2 + j * 2 + 1, none⟩ = some (.int .i64 tn) := by rw [ha, ← htn]; exact cell_below hbelj (hcz 1 (.int .i64 l[y].t) rfl)
    have hsn : Hid (Vec.times ((l.drop 0).take (j + 1)) = Vec.times ((l.drop 0).take j) ++ Vary.put tn) := Lib.hid (by
     rw [times_snoc l 0 j (by omega)]
     subst hy
     rw [htn]; rfl)
    have htl2 := htl.out j hjm
    have hl4 := congrArg List.length hsn.out
    rw [List.length_append] at hl4
    have hl3 := Vary.put_len tn (by omega)
    have hl5 : (acc ++ (Vary.put gn ++ Vary.put (m - 1)) ++ Vec.times ((l.drop 0).take j)).length ≤ 700 := by rw [List.length_append]; omega
    clear hcz hbz hl4 htl2
    simp only [Nat.zero_mul, Nat.add_zero] at c0 c1 ha
    rw [htn] at hey
    replace htn := Lib.hid htn
    replace ha := Lib.hid ha
    replace hy := Lib.hid hy
    generalize l[y].r = yr at *
    generalize hS : acc ++ (Vary.put gn ++ Vary.put (m - 1)) ++ Vec.times ((l.drop 0).take j) = S at *
    have hS2 : Hid (S ++ Vary.put tn = (acc ++ (Vary.put gn ++ Vary.put (m - 1))) ++ Vec.times ((l.drop 0).take (j + 1))) := Lib.hid (by rw [hsn.out, ← List.append_assoc, hS])
    replace hS := Lib.hid hS
    go_wp2_with fail
    refine (vary_put tn _ (by omega)).mono ?_
    rintro e w4 ⟨rfl, hb4⟩
    go_wp2
    go_roundw
    case rel => exact ⟨j + 1, by go_num, by omega, by rw [bytes_cat, hS2.out], by exact blw⟩
    case measure => simp [intOf]; omega
   ·obtain rfl : j = m := by omega
    generalize hS : acc ++ (Vary.put gn ++ Vary.put (j - 1)) ++ Vec.times ((l.drop 0).take j) = S at *
    have ck2 := qk0 _ hbelj
    replace hS := Lib.hid hS
    go_wp2
    go_roundw
    case rel => exact ⟨j, r + 1, x.r + (j : Int), S, rfl, by go_num, rfl, rfl, by have := hz.out; omega, hr2.out, hacc2.out, by omega, by omega, fun h => by have := hz.out; omega, fun h _ => hend.out h, hbelj⟩
    case measure => simp [intOf]; have := hz.out; omega
 ·have hkz2 : 0 < k := by omega
  have d0 : decide ((0 : Int) < (k : Int)) = true := by simp; omega
  have hkn := hkn hkz2
  obtain ⟨gn, hgn⟩ : ∃ gn : Nat, x.r - nx - 1 = gn := ⟨(x.r - nx - 1).toNat, by omega⟩
  have g1 : IntKind.i64.wrap (x.r - nx) = (gn : Int) + 1 := by rw [IntWalk.i64_in _ (by omega)]; omega
  have e4 : (x.r - nx - if decide (k = 0) = true then 0 else 1).toNat = gn := by rw [if_neg (by simp; omega)]; omega
  replace hk0 := Lib.hid hk0
  replace hkz := Lib.hid hkz
  have hvp := fun W => vary_put gn W (by omega)
  have lp0 : gn < 300 := by omega
  have g2 : IntKind.i64.wrap ((m : Int) - 1) = ((m - 1 : Nat) : Int) := by rw [IntWalk.i64_in _ (by omega)]; omega
  have l1 := Vary.put_len gn (by omega)
  have l2 := Vary.put_len (m - 1) (by omega)
  have hz0 := hz.out
  have e1 : (l.drop (k + 1)).drop (m - 1) = l.drop z := by rw [List.drop_drop]; congr 1; omega
  have e2 : decide (z = 0) = false := by simp; omega
  have hr2 : Hid (r + 1 + (Vec.enc (decide (z = 0)) (x.r + (m : Int)) (l.drop z)).1 = T.1) := Lib.hid (by
   have h := hr.out
   rw [e1, hx.out] at h
   rw [e2]; omega)
  have hacc2 : Hid ((acc ++ (Vary.put gn ++ Vary.put (m - 1)) ++ Vec.times ((l.drop k).take m)) ++ (Vec.enc (decide (z = 0)) (x.r + (m : Int)) (l.drop z)).2 = T.2) := Lib.hid (by
   have h := hacc.out
   rw [e1, hx.out, e4] at h
   rw [e2, ← h]; simp only [List.append_assoc])
  clear e1 e2 e4 hz0
  go_wp2_with fail
  refine (hvp _).mono ?_
  rintro e w2 ⟨rfl, hb2⟩
  go_wp2_with fail
  refine (vary_put (m - 1) _ (by omega)).mono ?_
  rintro e w3 ⟨rfl, hb3⟩
  go_wp2_with fail
  have hbel3 : Below w.heap.size w w3 := by exact blw
  rw [bytes_cat, bytes_cat]
  have lp : (acc ++ (Vary.put gn ++ Vary.put (m - 1))).length ≤ 500 := by rw [List.length_append, List.length_append]; omega
  have htl : ∀ j, j < m → (Vec.times ((l.drop k).take (j + 1))).length ≤ 160 := fun j hj => by
   have h1 := Vec.times_len ((l.drop k).take (j + 1)) (fun y hy => by
    obtain ⟨i, hi, rfl⟩ := List.getElem_of_mem (List.mem_of_mem_drop (List.mem_of_mem_take hy))
    exact (heach.out i hi).2.2.2)
   rw [List.length_take, List.length_drop] at h1
   omega
  replace htl := Lib.hid htl
  clear hb2 hb3 hbelq ck1
  go_loopw [6, 75] (fun so sj wt => ∃ j : Nat, sj = .int .i64 j ∧ j ≤ m ∧ so = .string ⟨((acc ++ (Vary.put gn ++ Vary.put (m - 1))) ++ Vec.times ((l.drop k).take j)).toArray⟩ ∧ Below w.heap.size w wt) (fun _ sj _ => m - (intOf sj).toNat)
  case atStart => exact ⟨0, rfl, by omega, by simp [Vec.times], hbel3⟩
  case round =>
   clear hbel3
   obtain ⟨j, rfl, hj, rfl, hbelj⟩ := hrel
   have hszj := hbelj.size
   by_cases hjm : j < m
   ·obtain ⟨y, hy⟩ : ∃ y, y = k + j := ⟨_, rfl⟩
    have hyl : y < l.length := by omega
    obtain ⟨b', off', he, hbz, hcz⟩ := hcell.out y hyl
    simp only [Option.some.injEq, Addr.mk.injEq, and_true] at he
    obtain ⟨rfl, rfl⟩ := he
    have ha : off + k * 2 + j * 2 = off + y * 2 := by omega
    have hey := heach.out y hyl
    obtain ⟨tn, htn⟩ : ∃ tn : Nat, l[y].t = tn := ⟨l[y].t.toNat, by omega⟩
    have c0 : wr.cell? ⟨b, off + k * 2 + j * 2, none⟩ = some (.int .i64 l[y].r) := by rw [ha]; exact cell_below hbelj (hcz 0 (.int .i64 l[y].r) rfl)
    have c1 : wr.cell? ⟨b, off + k * 2 + j * 2 + 1, none⟩ = some (.int .i64 tn) := by rw [ha, ← htn]; exact cell_below hbelj (hcz 1 (.int .i64 l[y].t) rfl)
    have hsn : Hid (Vec.times ((l.drop k).take (j + 1)) = Vec.times ((l.drop k).take j) ++ Vary.put tn) := Lib.hid (by
     rw [times_snoc l k j (by omega)]
     subst hy
     rw [htn]; rfl)
    have htl2 := htl.out j hjm
    have hl4 := congrArg List.length hsn.out
    rw [List.length_append] at hl4
    have hl3 := Vary.put_len tn (by omega)
    have hl5 : (acc ++ (Vary.put gn ++ Vary.put (m - 1)) ++ Vec.times ((l.drop k).take j)).length ≤ 700 := by rw [List.length_append]; omega
    clear hcz hbz hl4 htl2
    rw [htn] at hey
    replace htn := Lib.hid htn
    replace ha := Lib.hid ha
    replace hy := Lib.hid hy
    generalize l[y].r = yr at *
    generalize hS : acc ++ (Vary.put gn ++ Vary.put (m - 1)) ++ Vec.times ((l.drop k).take j) = S at *
    have hS2 : Hid (S ++ Vary.put tn = (acc ++ (Vary.put gn ++ Vary.put (m - 1))) ++ Vec.times ((l.drop k).take (j + 1))) := Lib.hid (by rw [hsn.out, ← List.append_assoc, hS])
    replace hS := Lib.hid hS
    go_wp2_with fail
    refine (vary_put tn _ (by omega)).mono ?_
    rintro e w4 ⟨rfl, hb4⟩
    go_wp2
    go_roundw
    case rel => exact ⟨j + 1, by go_num, by omega, by rw [bytes_cat, hS2.out], by exact blw⟩
    case measure => simp [intOf]; omega
   ·obtain rfl : j = m := by omega
    generalize hS : acc ++ (Vary.put gn ++ Vary.put (j - 1)) ++ Vec.times ((l.drop k).take j) = S at *
    have ck2 := qk0 _ hbelj
    replace hS := Lib.hid hS
    go_wp2
    go_roundw
    case rel => exact ⟨z, r + 1, x.r + (j : Int), S, rfl, by go_num, rfl, rfl, by have := hz.out; omega, hr2.out, hacc2.out, by omega, by omega, fun h => by have := hz.out; omega, fun h _ => hend.out h, hbelj⟩
    case measure => simp [intOf]; have := hz.out; omega) : p := h
set_option maxHeartbeats 8000000 in
set_option maxRecDepth 100000 in
theorem vector_write_ok (v : Value) (l : List Vec.Entry) (w : World) (hv : VecIs w v l) (hf : Vec.right l = .ok) :
  Calls Tryz.prog 35 #[v] w fun e w' => e = .returned (.tuple #[.string ⟨(Vec.write l).toArray⟩, .nilIface]) ∧ Below w.heap.size w w' := by
 have hF := (Vec.right_iff l).1 hf
 have hl16 := hF.len
 have hA := vector_right v l w hv (by omega)
 rw [hf] at hA
 obtain ⟨a, cap, rfl, hcap, hcell⟩ := hv.list.at entCells_len
 have hel := Vec.enc_len true 0 l (fun x hx => by have := hF.each x hx; omega) (by omega) (by omega)
 obtain ⟨hel1, hel2⟩ := hel
 have heach : ∀ k (hk : k < l.length), 0 ≤ l[k].r ∧ l[k].r ≤ 200 ∧ 1 ≤ l[k].t ∧ l[k].t ≤ 1099511627776 := fun k hk => hF.each _ (List.getElem_mem hk)
 have hsorted := hF.sorted
 have htot : Hid (Vec.write l = Vary.put (Vec.enc true 0 l).1 ++ (Vec.enc true 0 l).2) := Lib.hid rfl
 obtain ⟨T, hT⟩ : ∃ T, T = Vec.enc true 0 l := ⟨_, rfl⟩
 rw [← hT] at hel1 hel2 htot
 replace hA := Lib.hid hA
 replace hcell := Lib.hid hcell
 replace hcap := Lib.hid hcap
 replace heach := Lib.hid heach
 replace hsorted := Lib.hid hsorted
 replace hT := Lib.hid hT
 clear hv hf hF
 go_enter Tryz.func35, Tryz.ntmps35
 go_wp2_with fail
 refine hA.out.mono ?_
 rintro e w1 ⟨v1, rfl, hv1, hb1⟩
 have hv1 : v1 = .nilIface := hv1
 subst hv1
 clear hA
 go_wp2
 go_loopw [5, 6, 7, 8] (fun sr so sn sk wr => ∃ (k r : Nat) (nx : Int) (acc : List UInt8), sk = .int .i64 k ∧ sr = .int .u64 r ∧ sn = .int .i64 nx ∧ so = .string ⟨acc.toArray⟩ ∧ k ≤ l.length ∧ r + (Vec.enc (decide (k = 0)) nx (l.drop k)).1 = T.1 ∧ acc ++ (Vec.enc (decide (k = 0)) nx (l.drop k)).2 = T.2 ∧ 0 ≤ nx ∧ nx ≤ 300 ∧ (k = 0 → nx = 0) ∧ (∀ h : k < l.length, 0 < k → nx + 1 ≤ l[k].r) ∧ Below w.heap.size w wr) (fun _ _ _ sk _ => l.length - (intOf sk).toNat)
 case atStart => exact ⟨0, 0, 0, [], rfl, rfl, rfl, rfl, by omega, by rw [hT.out]; simp, by rw [hT.out]; simp, by omega, by omega, fun _ => rfl, fun _ h => by omega, hb1⟩
 case round =>
  clear hb1
  obtain ⟨k, r, nx, acc, rfl, rfl, rfl, rfl, hk, hr, hacc, hn0, hn3, hk0, hkn, hbel⟩ := hrel
  have hsz := hbel.size
  have hal : acc.length ≤ 480 := by
   have := congrArg List.length hacc
   rw [List.length_append] at this; omega
  have hr16 : r ≤ 16 := by omega
  by_cases hlt : k < l.length
  ·obtain ⟨b, off, rfl, hbw, hc⟩ := hcell.out k hlt
   have hbw := hbw (by omega)
   have qk0 := fun W (h : Below w.heap.size w W) => cell_below h (hc 0 (.int .i64 l[k].r) rfl)
   have qk1 := fun W (h : Below w.heap.size w W) => cell_below h (hc 1 (.int .i64 l[k].t) rfl)
   simp only [Nat.add_zero] at qk0
   have hcapk := (hcap.out (by omega))
   have hen := Vec.enc_cons (decide (k = 0)) nx l[k] (l.drop (k + 1))
   rw [← List.drop_eq_getElem_cons hlt] at hen
   rw [hen] at hr hacc
   have hkn := hkn hlt
   have hex := heach.out k hlt
   obtain ⟨N, hN⟩ : ∃ N, N = Vec.ext_ l[k].r 1 (l.drop (k + 1)) := ⟨_, rfl⟩
   rw [← hN] at hr hacc
   clear hen hc
   replace hr := Lib.hid hr
   replace hacc := Lib.hid hacc
   replace hN := Lib.hid hN
   obtain ⟨x, hx⟩ : ∃ x, l[k] = x := ⟨_, rfl⟩
   have hNx := hN.out
   rw [hx] at qk0 qk1 hkn hex hNx
   replace hx := Lib.hid hx
   replace hNx := Lib.hid hNx
   go_wp2
   go_loopw [9] (fun s wi => ∃ m : Nat, s = .int .i64 m ∧ 1 ≤ m ∧ k + m ≤ l.length ∧ Vec.ext_ x.r m (l.drop (k + m)) = N ∧ (∀ j, j < m → ∃ hj : k + j < l.length, l[k + j].r = x.r + j) ∧ Below w.heap.size w wi) (fun s _ => l.length - (intOf s).toNat)
   case atStart => exact ⟨1, rfl, by omega, by omega, hNx.out.symm, fun j hj => ⟨by omega, by obtain rfl : j = 0 := (by omega); simp only [Nat.add_zero]; rw [hx.out]; simp⟩, hbel⟩
   case round =>
    clear hbel
    obtain ⟨m, rfl, hm1, hm2, hme, hrun, hbeli⟩ := hrel
    have hszi := hbeli.size
    obtain ⟨z, hz⟩ : ∃ z, z = k + m := ⟨_, rfl⟩
    have wz : IntKind.i64.wrap ((k : Int) + (m : Int)) = (z : Int) := by rw [IntWalk.i64_in _ (by omega)]; omega
    have wr2 : IntKind.i64.wrap (x.r + (m : Int)) = x.r + (m : Int) := IntWalk.i64_in _ (by omega)
    have ck0 := qk0 _ hbeli
    by_cases hzl : z < l.length
    ·obtain ⟨b', off', he, hbz, hcz⟩ := hcell.out z hzl
     simp only [Option.some.injEq, Addr.mk.injEq, and_true] at he
     obtain ⟨rfl, rfl⟩ := he
     have cz : wr.cell? ⟨b, off + z * 2, none⟩ = some (.int .i64 l[z].r) := cell_below hbeli (hcz 0 (.int .i64 l[z].r) rfl)
     have dz : decide ((z : Int) < (l.length : Int)) = true := by simp; omega
     have hed := Vec.ext_drop l x.r z m hzl
     rw [← hz, hed] at hme
     have hez := heach.out z hzl
     clear hcz hbz hed
     by_cases heq : l[z].r = x.r + m
     ·have dq : (l[z].r == x.r + (m : Int)) = true := by simp [heq]
      rw [if_pos heq] at hme
      have hrun2 : ∀ j, j < m + 1 → ∃ hj : k + j < l.length, l[k + j].r = x.r + j := fun j hj => by
       by_cases hjm : j < m
       ·exact hrun j hjm
       ·obtain rfl : j = m := by omega
        subst hz
        exact ⟨hzl, heq⟩
      have hme2 : Vec.ext_ x.r (m + 1) (l.drop (k + (m + 1))) = N := by rw [← hme, hz]; rfl
      replace hrun2 := Lib.hid hrun2
      replace hme2 := Lib.hid hme2
      replace heq := Lib.hid heq
      clear hme hrun
      replace hz := Lib.hid hz
      generalize l[z].r = zr at *
      go_wp2
      go_quiet (fail)
      go_wp2
      go_roundw
      case rel => exact ⟨m + 1, by go_num, by omega, by have := hz.out; omega, hme2.out, hrun2.out, bdn hbeli _⟩
      case measure => simp [intOf]; have := hz.out; omega
     ·have dq : (l[z].r == x.r + (m : Int)) = false := by simp [heq]
      rw [if_neg heq] at hme
      have hnext : Hid (x.r + (m : Int) + 1 ≤ l[z].r) := Lib.hid (by
       have h0 := Vec.run_next l hsorted.out k hlt m hm1 (fun j hj => by rw [hx.out]; exact hrun j hj) (by omega)
       rw [hx.out] at h0
       have e : l[k + m]'(by omega) = l[z] := by simp only [hz]
       rw [e] at h0; omega)
      have hmN : m = N := hme
      have hend : Hid (∀ h : z < l.length, x.r + m + 1 ≤ l[z].r) := Lib.hid (fun _ => hnext.out)
      clear hme hnext heq
      have hguard : Hid True := Lib.hid trivial
      obtain ⟨zr, hzr⟩ : ∃ zr, l[z].r = zr := ⟨_, rfl⟩
      rw [hzr] at cz dq hez
      replace hzr := Lib.hid hzr
      exact byWVecW1
    ·have hmN : m = N := by rw [← hme, hz.symm, Vec.ext_end l x.r z m (by omega)]
     have hend : Hid (∀ h : z < l.length, x.r + m + 1 ≤ l[z].r) := Lib.hid (fun h => absurd h hzl)
     have dz : decide ((z : Int) < (l.length : Int)) = false := by simp; omega
     clear hme
     exact byWVecW1
  ·obtain rfl : k = l.length := by omega
   rw [List.drop_length, Vec.enc_nil] at hr hacc
   have hfin : Hid (Vec.write l = Vary.put r ++ acc) := Lib.hid (by
    have h1 : r = T.1 := by simpa using hr
    have h2 : acc = T.2 := by simpa using hacc
    rw [htot.out, h1, h2])
   have hpl := Vary.put_len r (by omega)
   replace hr := Lib.hid hr
   replace hacc := Lib.hid hacc
   go_wp2_with fail
   refine (vary_put r _ (by omega)).mono ?_
   rintro e w2 ⟨rfl, hb2⟩
   go_wp2
   go_ret2
   rw [hfin.out]
   exact ⟨by rw [bytes_cat]; rfl, by exact blw⟩
end Go.Proofs.YtognjohloobliaaGreatDoor
/- The walk of vector.Write where something is wrong. -/
namespace Go.Proofs.YtognjohloobliaaGreatDoor
open Go.RowKit
set_option linter.unusedVariables false
set_option linter.unusedSimpArgs false
end Go.Proofs.YtognjohloobliaaGreatDoor
/- The walk of vector.Read. -/
namespace Go.Proofs.YtognjohloobliaaGreatDoor
open Go.RowKit
set_option linter.unusedVariables false
set_option linter.unusedSimpArgs false
namespace Vec
theorem rr_bad {S : List UInt8} {c : Nat} {first : Bool} {nx : Int} {p e : Nat} {acc : List Entry} (h : Vary.int (S.drop p) 200 = .bad e) : Part.fin (Part.ahead acc p (rruns (c + 1) first nx (S.drop p))) = .bad e := by
 rw [rruns, h]; rfl
theorem rr_bad2 {S : List UInt8} {c : Nat} {first : Bool} {nx : Int} {p e g j : Nat} {acc : List Entry} (h : Vary.int (S.drop p) 200 = .ok g j) (h2 : Vary.int (S.drop (p + j)) 16 = .bad e) : Part.fin (Part.ahead acc p (rruns (c + 1) first nx (S.drop p))) = .bad e := by
 rw [rruns, h]
 simp only [List.drop_drop, h2]
 rfl
theorem rr_step {S : List UInt8} {c : Nat} {first : Bool} {nx : Int} {p g j m i : Nat} {acc : List Entry} (h : Vary.int (S.drop p) 200 = .ok g j) (h2 : Vary.int (S.drop (p + j)) 16 = .ok m i) :
  Part.ahead acc p (rruns (c + 1) first nx (S.drop p)) = Part.ahead acc (p + j + i) ((rtimes (m + 1) (nx + g + (if first then 0 else 1)) (S.drop (p + j + i))).andThen fun q => rruns c false (nx + g + (if first then 0 else 1) + (m + 1 : Nat)) (S.drop (p + j + i + q))) := by
 rw [rruns, h]
 simp only [List.drop_drop, h2]
 rw [ahead_ahead, List.append_nil]
 simp only [Nat.add_assoc]
theorem rt_bad {S : List UInt8} {c : Nat} {nx : Int} {p e : Nat} {acc : List Entry} {R : Nat → Part} (h : Vary.int (S.drop p) 1099511627776 = .bad e) : Part.fin (Part.ahead acc p ((rtimes (c + 1) nx (S.drop p)).andThen fun q => R (p + q))) = .bad e := by
 rw [rtimes, h]; rfl
theorem rt_step {S : List UInt8} {c : Nat} {nx : Int} {p t j : Nat} {acc : List Entry} {R : Nat → Part} (h : Vary.int (S.drop p) 1099511627776 = .ok t j) :
  Part.ahead acc p ((rtimes (c + 1) nx (S.drop p)).andThen fun q => R (p + q)) = Part.ahead (acc ++ [⟨nx, t⟩]) (p + j) ((rtimes c (nx + 1) (S.drop (p + j))).andThen fun q => R (p + j + q)) := by
 rw [rtimes, h]
 simp only [List.drop_drop]
 cases rtimes c (nx + 1) (S.drop (p + j)) with
 | bad e => rfl
 | ok l k =>
  show Part.ahead acc p (Part.ahead ([⟨nx, t⟩] ++ l) (j + k) (R (p + (j + k)))) = Part.ahead (acc ++ [⟨nx, t⟩]) (p + j) (Part.ahead l k (R (p + j + k)))
  rw [ahead_ahead, ahead_ahead]
  simp only [Nat.add_assoc, List.append_assoc]
theorem rt_end {S : List UInt8} {nx : Int} {p : Nat} {acc : List Entry} {R : Nat → Part} : Part.ahead acc p ((rtimes 0 nx (S.drop p)).andThen fun q => R (p + q)) = Part.ahead acc p (R p) := by
 simp only [rtimes, Part.andThen, ahead_nil, Nat.add_zero]
theorem rr_end {S : List UInt8} {first : Bool} {nx : Int} {p : Nat} {acc : List Entry} : Part.fin (Part.ahead acc p (rruns 0 first nx (S.drop p))) = if right acc = .ok then .ok acc p else .bad (right acc).code := by
 simp only [rruns, Part.ahead, Part.fin, List.append_nil, Nat.add_zero]
theorem read_start {S : List UInt8} {n j : Nat} (h : Vary.int S 16 = .ok n j) : Part.fin (Part.ahead [] j (rruns n true 0 (S.drop j))) = read S := by
 rw [read, h]
theorem read_bad {S : List UInt8} {e : Nat} (h : Vary.int S 16 = .bad e) : read S = .bad e := by
 rw [read, h]
end Vec
def RetPart (x : Vec.Part) (w : World) (e : Ending) (w' : World) : Prop :=
 (match x with
 | .bad r => e = .returned (.tuple #[.slice none 0 0, .int .i64 0, errV r])
 | .ok l k => ∃ v, e = .returned (.tuple #[v, .int .i64 k, .nilIface]) ∧ VecIs w' v l) ∧ Below w.heap.size w w'
/-- It lies in memory that was made since. -/
def Fresh (B : Nat) (v : Value) : Prop := ∀ k, v.ownBlock = some k → B ≤ k
theorem owns_fresh {w : World} {base : Nat} {e : TypeId} {sz n : Nat} {v : Value} {xs : List Value} (h : w.ownsRow base e sz v n xs) : Fresh base v := fun k hk => by
 rcases h.2 with ⟨rfl, -⟩ | ⟨g, cap, cur, rfl, hb, -⟩
 ·cases hk
 ·injection hk with hk; rw [← hk]; exact hb
def RetPartF (x : Vec.Part) (w : World) (e : Ending) (w' : World) : Prop :=
 (match x with
 | .bad r => e = .returned (.tuple #[.slice none 0 0, .int .i64 0, errV r])
 | .ok l k => ∃ v, e = .returned (.tuple #[v, .int .i64 k, .nilIface]) ∧ VecIs w' v l ∧ Fresh w.heap.size v) ∧ Below w.heap.size w w'
theorem vary_at (s : ByteArray) (p : Nat) (most : Int) (w : World) (hs : s.size ≤ 1000000) (hp : p ≤ s.size) (hm : most ≤ 9223372036854775807) :
  Calls Tryz.prog 91 #[.string (s.extract p s.size), .int .i64 most] w fun e w' => e = .returned (intVal (Vary.int (s.data.toList.drop p) most)) ∧ w = w' := by
 have h := vary_int (s.extract p s.size) most w (by simp only [ByteArray.size_extract]; unfold maxLen; omega) hm
 have e : (s.extract p s.size).data.toList = s.data.toList.drop p := by
  rw [ByteArray.data_extract, Array.toList_extract, List.extract_eq_take_drop, List.take_of_length_le (by rw [List.length_drop, Array.length_toList]; show s.size - p ≤ _; omega)]
 rw [e] at h
 exact h
theorem int_le {b : List UInt8} {m : Int} {t j : Nat} (h : Vary.int b m = .ok t j) : 1 ≤ j ∧ j ≤ b.length ∧ (t : Int) ≤ m := by
 obtain ⟨h1, h2⟩ := Vec.int_get h
 obtain ⟨h3, h4, _, _⟩ := Vary.get_ok _ _ _ h1
 exact ⟨h3, h4, h2⟩
theorem owns_set {w : World} {base : Nat} {e : TypeId} {sz n : Nat} {v : Value} {xs : List Value} (h : w.ownsRow base e sz v n xs) {p : Addr} (hp : v.ownBlock ≠ some p.block) (u : Value) : (w.setCell p u).ownsRow base e sz v n xs := by
 obtain ⟨h1, h2⟩ := h
 refine ⟨h1, ?_⟩
 rcases h2 with hn | ⟨g, cap, cur, rfl, hb, hg, rest⟩
 ·exact .inl hn
 ·exact .inr ⟨g, cap, cur, rfl, hb, (Below.heap_setCell w p u g (fun he => hp (by rw [← he]; rfl))).trans hg, rest⟩
theorem byWVecRd1 {p : Prop} (h : p := by
 rw [hmc] at hfin
 have hC := hat.out z hz 1099511627776 (by omega)
 cases hg3 : Vary.int (S.drop z) 1099511627776 with
 | bad e =>
  have hE2 := Lib.hid (hfin.out.symm.trans (Vec.rt_bad hg3))
  rw [hg3] at hC
  replace hC := Lib.hid hC
  clear hfin
  go_wp2_with fail
  refine (hC.out _).mono ?_
  rintro _ w4 ⟨rfl, rfl⟩
  go_wp2
  go_ret3
  rw [hE2.out]
  exact ⟨rfl, hbel⟩
 | ok t d =>
  obtain ⟨d1, d2, d3⟩ := hle.out z hz _ t d hg3
  have hfin2 := Lib.hid (((congrArg Vec.Part.fin (Vec.rt_step hg3)).symm).trans hfin.out)
  rw [hg3] at hC
  replace hC := Lib.hid hC
  clear hfin hmc
  have hvt : intVal (.ok t d) = .tuple #[.int .i64 t, .int .i64 d, .nilIface] := rfl
  go_wp2_with fail
  refine (hC.out _).mono ?_
  rintro _ w4 ⟨rfl, rfl⟩
  go_wp2_with (at_builtin; go_must (refine app_new rfl _ _ 22 45 rfl w.heap.size (.agg #[.int .i64 0, .int .i64 0]) 2 16 Tryz.underlying22 (by kernel_rfl) rfl (by omega) _ _ _ rfl hown _ rfl rfl ?_ (by omega) (by omega) hsz ?_))
  ·first | exact ⟨rfl, rfl⟩ | rfl | simp [Value.oneCell']
  intro v2 w5 hown5 hb5 _
  have hown6 := own_snoc (x := ⟨((N0 + c : Nat) : Int), (t : Int)⟩) hown5
  clear hown5 hown
  go_wp2
  go_roundw
  case rel =>
   refine ⟨c + 1, z + d, acc ++ [⟨((N0 + c : Nat) : Int), (t : Int)⟩], by omega, by go_num, d2, by go_num, by go_num, by rw [List.length_append]; simp; omega, ?_, hown6, hbel.trans hb5⟩
   have := hfin2.out
   rw [show ((N0 + c : Nat) : Int) + 1 = ((N0 + (c + 1) : Nat) : Int) by omega] at this
   exact Lib.hid this
  case measure => simp [intOf]; omega) : p := h
set_option maxHeartbeats 8000000 in
set_option maxRecDepth 100000 in
theorem vector_readF (s : ByteArray) (w : World) (hs : s.size ≤ 1000000) (hL : Laid w) :
  Calls Tryz.prog 132 #[.string s] w (RetPartF (Vec.read s.data.toList) w) := by
 have hll : s.data.toList.length = s.size := Array.length_toList
 have i0 : ∀ (x y : Value) (w : World), (Instr.index 221 (.agg #[x, y]) (.int .i64 0)).run Tryz.prog w = .ok x w := fun _ _ _ => by kernel_rfl
 have i1 : ∀ (x y : Value) (w : World), (Instr.index 221 (.agg #[x, y]) (.int .i64 1)).run Tryz.prog w = .ok y w := fun _ _ _ => by kernel_rfl
 have h0 := vary_int s 16 w (by unfold maxLen; omega) (by omega)
 have hat := fun p (hp : p ≤ s.size) most (hm : most ≤ 9223372036854775807) W => vary_at s p most W hs hp hm
 have hle : ∀ p (hp : p ≤ s.size) (m : Int) t j, Vary.int (s.data.toList.drop p) m = .ok t j → 1 ≤ j ∧ p + j ≤ s.size ∧ (t : Int) ≤ m := fun p hp m t j h => by
  obtain ⟨h1, h2, h3⟩ := int_le h
  rw [List.length_drop, hll] at h2
  exact ⟨h1, by omega, h3⟩
 have hle0 : ∀ (m : Int) t j, Vary.int s.data.toList m = .ok t j → 1 ≤ j ∧ j ≤ s.size ∧ (t : Int) ≤ m := fun m t j h => by
  obtain ⟨h1, h2, h3⟩ := int_le h
  rw [hll] at h2
  exact ⟨h1, h2, h3⟩
 generalize s.data.toList = S at *
 replace hat := Lib.hid hat
 replace hle := Lib.hid hle
 clear hll
 cases hi : Vary.int S 16 with
 | bad e =>
  have hr := Lib.hid (Vec.read_bad hi)
  rw [hi] at h0
  replace h0 := Lib.hid h0
  have hv : intVal (.bad e) = .tuple #[.int .i64 0, .int .i64 0, .iface 67 (.int .i64 e)] := rfl
  go_enter Tryz.func132, Tryz.ntmps132
  go_wp2_with fail
  refine h0.out.mono ?_
  rintro _ w1 ⟨rfl, rfl⟩
  go_wp2
  go_ret3
  rw [hr.out]
  exact ⟨rfl, Below.refl _ _⟩
 | ok n j =>
  have hr := Lib.hid (Vec.read_start hi)
  obtain ⟨k1, k2, k3⟩ := hle0 16 n j hi
  rw [hi] at h0
  replace h0 := Lib.hid h0
  have hv : intVal (.ok n j) = .tuple #[.int .i64 n, .int .i64 j, .nilIface] := rfl
  clear hle0
  generalize hE : Vec.read S = E at *
  replace hE := Lib.hid hE
  go_enter Tryz.func132, Tryz.ntmps132
  go_wp2_with fail
  refine h0.out.mono ?_
  rintro _ w1 ⟨rfl, rfl⟩
  go_wp2
  go_loopw [6, 8, 9, 31] (fun p o x i wr => ∃ (k q : Nat) (nx : Nat) (acc : List Vec.Entry), k ≤ n ∧ i = .int .i64 k ∧ q ≤ s.size ∧ p = .int .i64 q ∧ x = .int .i64 nx ∧ nx ≤ 300 * k ∧ acc.length ≤ 20 * k ∧
   Hid (Vec.Part.fin (Vec.Part.ahead acc q (Vec.rruns (n - k) (decide (k = 0)) nx (S.drop q))) = E) ∧ wr.ownsRow w.heap.size 45 2 o acc.length (acc.flatMap entCells) ∧ Below w.heap.size w wr) (fun _ _ _ i _ => n - (intOf i).toNat)
  case atStart => exact ⟨0, j, 0, [], by omega, rfl, k2, rfl, rfl, by omega, by simp, Lib.hid (by simpa using hr.out), World.ownsRow_nil _ _ _ _, by exact blw⟩
  case round =>
   obtain ⟨k, q, nx, acc, hk, rfl, hq, rfl, rfl, hnx, hac, hfin, hown, hbel⟩ := hrel
   have hsz := hbel.size
   by_cases hlt : k < n
   ·have hnk : n - k = (n - (k + 1)) + 1 := by omega
    rw [hnk] at hfin
    have hA := hat.out q hq 200 (by omega)
    have hvb : ∀ e : Nat, intVal (.bad e) = .tuple #[.int .i64 0, .int .i64 0, .iface 67 (.int .i64 e)] := fun _ => rfl
    cases hg : Vary.int (S.drop q) 200 with
    | bad e =>
     have hE2 := Lib.hid (hfin.out.symm.trans (Vec.rr_bad hg))
     rw [hg] at hA
     replace hA := Lib.hid hA
     clear hfin
     go_wp2_with fail
     refine wp_loop_rounds 3 ?_
     rw [rounds_succ]
     go_wp2_with fail
     refine (hA.out _).mono ?_
     rintro _ w2 ⟨rfl, rfl⟩
     go_wp2
     go_ret3
     rw [hE2.out]
     exact ⟨rfl, by exact blw⟩
    | ok g a =>
     obtain ⟨a1, a2, a3⟩ := hle.out q hq _ g a hg
     have hB := hat.out (q + a) a2 16 (by omega)
     rw [hg] at hA
     replace hA := Lib.hid hA
     have hvg : intVal (.ok g a) = .tuple #[.int .i64 g, .int .i64 a, .nilIface] := rfl
     go_wp2_with fail
     have q0 := row_at #[.int .i64 0, .int .i64 0] 221 (rfl : wr.heap.size = wr.heap.size)
     have hown1 := hown.alloc (Obj.cells #[.int .i64 0, .int .i64 0] 221)
     have hbel1 := bal hbel (Obj.cells #[.int .i64 0, .int .i64 0] 221)
     have hne := owns_lt hown wr.heap.size (Nat.le_refl _)
     generalize wr.alloc (Obj.cells #[.int .i64 0, .int .i64 0] 221) = w1 at *
     generalize wr.heap.size = gb at *
     clear hown hbel
     obtain ⟨c0, c1⟩ := q0.c2
     (have f0 := q0.frozen 0 (by simp); have f1 := q0.frozen 1 (by simp))
     refine wp_loop_rounds 3 ?_
     rw [rounds_succ]
     go_wp2_with fail
     refine (hA.out _).mono ?_
     rintro _ w2 ⟨rfl, rfl⟩
     go_wp2_with fail
     have q1 := q0.set 0 (.int .i64 g)
     have hown2 := owns_set hown1 (p := ⟨gb, 0, none⟩) hne (.int .i64 g)
     have hbel2 := bst hbel1 (p := ⟨gb, 0, none⟩) hsz (.int .i64 g)
     clear c0 c1 f0 f1 q0 hown1 hbel1
     generalize w1.setCell ⟨gb, 0, none⟩ (.int .i64 g) = w2 at *
     obtain ⟨c0, c1⟩ := q1.c2
     (have f0 := q1.frozen 0 (by simp); have f1 := q1.frozen 1 (by simp))
     cases hg2 : Vary.int (S.drop (q + a)) 16 with
     | bad e =>
      have hE2 := Lib.hid (hfin.out.symm.trans (Vec.rr_bad2 hg hg2))
      rw [hg2] at hB
      replace hB := Lib.hid hB
      clear hfin
      rw [rounds_succ]
      go_wp2_with fail
      refine (hB.out _).mono ?_
      rintro _ w3 ⟨rfl, rfl⟩
      go_wp2
      go_ret3
      rw [hE2.out]
      exact ⟨rfl, hbel2⟩
     | ok m b =>
      obtain ⟨b1, b2, b3⟩ := hle.out (q + a) a2 _ m b hg2
      have hfin2 := Lib.hid (((congrArg Vec.Part.fin (Vec.rr_step hg hg2)).symm).trans hfin.out)
      clear hfin
      rw [hg2] at hB
      replace hB := Lib.hid hB
      have hvm : intVal (.ok m b) = .tuple #[.int .i64 m, .int .i64 b, .nilIface] := rfl
      rw [rounds_succ]
      go_wp2_with fail
      refine (hB.out _).mono ?_
      rintro _ w3 ⟨rfl, rfl⟩
      go_wp2_with fail
      have q2 := q1.set 1 (.int .i64 m)
      have hown3 := owns_set hown2 (p := ⟨gb, 1, none⟩) hne (.int .i64 m)
      have hbel3 := bst hbel2 (p := ⟨gb, 1, none⟩) hsz (.int .i64 m)
      clear c0 c1 f0 f1 q1 hown2 hbel2
      generalize w2.setCell ⟨gb, 1, none⟩ (.int .i64 m) = w3 at *
      obtain ⟨c0, c1⟩ := q2.c2
      rw [rounds_succ]
      by_cases hk0 : k = 0
      ·subst hk0
       obtain ⟨N0, hN0⟩ : ∃ N0, N0 = nx + g := ⟨_, rfl⟩
       obtain ⟨R, hR⟩ : ∃ R : Nat → Vec.Part, R = fun z => Vec.rruns (n - (0 + 1)) false ((N0 + (m + 1) : Nat) : Int) (S.drop z) := ⟨_, rfl⟩
       have hfin : Hid (Vec.Part.fin (Vec.Part.ahead acc (q + a + b) ((Vec.rtimes (m + 1) (N0 : Int) (S.drop (q + a + b))).andThen fun t => R (q + a + b + t))) = E) := Lib.hid (by
        have := hfin2.out
        rw [hR, hN0]
        simpa using this)
       have hNs : ((nx : Int) + (g : Int)) = (N0 : Int) := by omega
       have hN1 : N0 ≤ 500 := by omega
       replace hR := Lib.hid hR
       replace hN0 := Lib.hid hN0
       clear hfin2
       simp only [Int.cast_ofNat_Int]
       go_wp2_with fail
       go_loopw [6, 8, 9, 69] (fun p o x i wz => ∃ (c z : Nat) (acc : List Vec.Entry), c ≤ m + 1 ∧ i = .int .i64 c ∧ z ≤ s.size ∧ p = .int .i64 z ∧ x = .int .i64 (N0 + c : Nat) ∧ acc.length ≤ 20 * 0 + c ∧
        Hid (Vec.Part.fin (Vec.Part.ahead acc z ((Vec.rtimes (m + 1 - c) ((N0 + c : Nat) : Int) (S.drop z)).andThen fun t => R (z + t))) = E) ∧ wz.ownsRow w.heap.size 45 2 o acc.length (acc.flatMap entCells) ∧ Below w.heap.size w wz) (fun _ _ _ i _ => m + 1 - (intOf i).toNat)
       case atStart => exact ⟨0, q + a + b, acc, by omega, rfl, b2, by go_num, by go_num, by omega, Lib.hid (by simpa using hfin.out), hown3, by exact blw⟩
       case round =>
        clear hown3 hac hfin hbel3
        rename_i wz
        obtain ⟨c, z, acc, hcm, rfl, hz, rfl, rfl, hac, hfin, hown, hbel⟩ := hrel
        have hsz := hbel.size
        by_cases hlt2 : c < m + 1
        ·have hmc : m + 1 - c = (m + 1 - (c + 1)) + 1 := by omega
         exact byWVecRd1
        ·obtain rfl : c = m + 1 := by omega
         have hfin2 := hfin.out
         rw [Nat.sub_self, Vec.rt_end] at hfin2
         replace hfin2 := Lib.hid hfin2
         clear hfin
         go_wp2
         go_roundw
         case rel => exact ⟨0 + 1, z, N0 + (m + 1), acc, by omega, by go_num, hz, rfl, rfl, by omega, by omega, Lib.hid (by rw [hR.out] at hfin2; simpa using hfin2.out), hown, hbel⟩
         case measure => simp [intOf]; omega
      ·obtain ⟨N0, hN0⟩ : ∃ N0, N0 = nx + g + 1 := ⟨_, rfl⟩
       obtain ⟨R, hR⟩ : ∃ R : Nat → Vec.Part, R = fun z => Vec.rruns (n - (k + 1)) false ((N0 + (m + 1) : Nat) : Int) (S.drop z) := ⟨_, rfl⟩
       have hfin : Hid (Vec.Part.fin (Vec.Part.ahead acc (q + a + b) ((Vec.rtimes (m + 1) (N0 : Int) (S.drop (q + a + b))).andThen fun t => R (q + a + b + t))) = E) := Lib.hid (by
        have := hfin2.out
        rw [hR, hN0]
        simpa [hk0] using this)
       have hNs : ((nx : Int) + (g : Int)) + 1 = (N0 : Int) := by omega
       have hN1 : N0 ≤ 300 * k + 201 := by omega
       replace hR := Lib.hid hR
       replace hN0 := Lib.hid hN0
       clear hfin2
       have hk1 : decide (0 < k) = true := by simp; omega
       go_wp2_with fail
       go_loopw [6, 8, 9, 69] (fun p o x i wz => ∃ (c z : Nat) (acc : List Vec.Entry), c ≤ m + 1 ∧ i = .int .i64 c ∧ z ≤ s.size ∧ p = .int .i64 z ∧ x = .int .i64 (N0 + c : Nat) ∧ acc.length ≤ 20 * k + c ∧
        Hid (Vec.Part.fin (Vec.Part.ahead acc z ((Vec.rtimes (m + 1 - c) ((N0 + c : Nat) : Int) (S.drop z)).andThen fun t => R (z + t))) = E) ∧ wz.ownsRow w.heap.size 45 2 o acc.length (acc.flatMap entCells) ∧ Below w.heap.size w wz) (fun _ _ _ i _ => m + 1 - (intOf i).toNat)
       case atStart => exact ⟨0, q + a + b, acc, by omega, rfl, b2, by go_num, by go_num, by omega, Lib.hid (by simpa using hfin.out), hown3, by exact blw⟩
       case round =>
        clear hown3 hac hfin hbel3
        rename_i wz
        obtain ⟨c, z, acc, hcm, rfl, hz, rfl, rfl, hac, hfin, hown, hbel⟩ := hrel
        have hsz := hbel.size
        by_cases hlt2 : c < m + 1
        ·have hmc : m + 1 - c = (m + 1 - (c + 1)) + 1 := by omega
         exact byWVecRd1
        ·obtain rfl : c = m + 1 := by omega
         have hfin2 := hfin.out
         rw [Nat.sub_self, Vec.rt_end] at hfin2
         replace hfin2 := Lib.hid hfin2
         clear hfin
         go_wp2
         go_roundw
         case rel => exact ⟨k + 1, z, N0 + (m + 1), acc, by omega, by go_num, hz, rfl, rfl, by omega, by omega, Lib.hid (by rw [hR.out] at hfin2; simpa using hfin2.out), hown, hbel⟩
         case measure => simp [intOf]; omega
   ·obtain rfl : k = n := by omega
    have hfin2 := hfin.out
    rw [Nat.sub_self, Vec.rr_end] at hfin2
    have hac2 : acc.length ≤ 140737488351232 := by omega
    have hvi : ∀ W, wr = W → ∃ o, W.ownsRow w.heap.size 45 2 o acc.length (acc.flatMap entCells) := fun W h => ⟨_, h ▸ hown⟩
    clear hfin hvi
    obtain ⟨o', c', hoc⟩ := owns_slice hown
    have hvec := ListIs.of_owns hown
    have hfr := Lib.hid (owns_fresh hown)
    rw [hoc] at hvec hfr
    subst hoc
    have hvR := vector_right _ acc wr hvec hac2
    have hvecH := Lib.hid hvec
    replace hvR := Lib.hid hvR
    clear hvec hown
    by_cases hrt : Vec.right acc = .ok
    ·rw [if_pos hrt] at hfin2
     replace hfin2 := Lib.hid hfin2
     replace hrt := Lib.hid hrt
     go_wp2_with fail
     refine hvR.out.mono ?_
     rintro _ w4 ⟨v4, rfl, hv4, hb4⟩
     rw [hrt.out] at hv4
     have hv4 : v4 = .nilIface := hv4
     subst hv4
     go_wp2
     go_ret3
     rw [← hfin2.out]
     exact ⟨⟨_, rfl, hvecH.out.below (by omega) hb4, hfr.out⟩, bch hbel hb4⟩
    ·rw [if_neg hrt] at hfin2
     have hcn : ∀ v, ErrRep wr v (Vec.right acc) → v ≠ .nilIface := fun v hv => by
      cases hx : Vec.right acc with
      | ok => exact absurd hx hrt
      | no e => rw [hx] at hv; have hv : v = errV e := hv; rw [hv]; intro h; cases h
      | at_ e i => rw [hx] at hv; obtain ⟨g, hv, -⟩ := hv; rw [hv]; intro h; cases h
     replace hfin2 := Lib.hid hfin2
     cases hx : Vec.right acc with
     | ok => exact absurd hx hrt
     | no e =>
      rw [hx] at hfin2 hvR
      clear hcn hrt
      go_wp2_with fail
      refine hvR.out.mono ?_
      rintro _ w4 ⟨v4, rfl, hv4, hb4⟩
      have hv4 : v4 = .iface 67 (.int .i64 e) := hv4
      subst hv4
      go_wp2_with (go_at_call 32; go_must (refine (tell_errno _ _ (by exact hL.below (by exact blw))).mono ?_); rintro e w' ⟨rfl, hb⟩)
      go_ret3
      rw [← hfin2.out]
      exact ⟨rfl, by exact blw⟩
     | at_ e i =>
      rw [hx] at hfin2 hvR
      clear hcn hrt
      go_wp2_with fail
      refine hvR.out.mono ?_
      rintro _ w4 ⟨v4, rfl, hv4, hb4⟩
      obtain ⟨gg, rfl, hrow⟩ := hv4
      have hc0 := hrow.cell 0
      replace hc0 := Lib.hid hc0
      clear hrow
      go_wp2_with fail
      refine (tell_at e gg _ (hL.below (by exact blw)) (by exact hc0.out)).mono ?_
      rintro _ w5 ⟨rfl, hb5⟩
      go_wp2
      go_ret3
      rw [← hfin2.out]
      exact ⟨rfl, by exact blw⟩
end Go.Proofs.YtognjohloobliaaGreatDoor
