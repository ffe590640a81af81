/- The walk of DiskEach. -/
import Derived.Test.YtdpdnkjpjoccmaaWSpin
import Derived.Test.YtdpdnkjpjoccmaaWDelD
import Derived.Test.YtdpdnkjpjoccmaaWCloneD
import Derived.Test.YtdpdnkjpjoccmaaWConcatD
import Derived.Test.YtdpdnkjpjoccmaaPlainDiskE
namespace Go.Proofs.Ytdpdnkjpjoccmaa
open Go.RowKit
set_option linter.unusedVariables false
set_option linter.unusedSimpArgs false
theorem idx_map (l : List Nat) (k : Nat) : (if (k : Int) ∈ l.map Int.ofNat then (((l.map Int.ofNat).idxOf (k : Int) : Nat) : Int) else -1) = if k ∈ l then ((l.idxOf k : Nat) : Int) else -1 := by
  have hm : (k : Int) ∈ l.map Int.ofNat ↔ k ∈ l := by
    rw [List.mem_map]
    constructor
    · rintro ⟨a, ha, he⟩
      have : a = k := Int.ofNat.inj he
      rw [← this]; exact ha
    · exact fun h => ⟨k, h, rfl⟩
  have hi : (l.map Int.ofNat).idxOf (k : Int) = l.idxOf k := by
    clear hm
    induction l with
    | nil => rfl
    | cons a l ih =>
      rw [List.map_cons, List.idxOf_cons, List.idxOf_cons, ih]
      have : (Int.ofNat a == (k : Int)) = (a == k) := by
        by_cases h : a = k
        · subst h; simp
        · have h1 : (a == k) = false := by simp [h]
          rw [h1]
          simp only [beq_eq_false_iff_ne]
          intro e
          exact h (Int.ofNat.inj e)
      rw [this]
  by_cases h : k ∈ l
  · rw [if_pos h, if_pos (hm.2 h), hi]
  · rw [if_neg h, if_neg (fun e => h (hm.1 e))]
theorem spunSt_len (l : List Dab) : (spunSt l).safe.length = 8 := by
  have h : ∀ (l : List Dab) (st : Disk.St ByteArray), (l.foldl dab st).safe.length = st.safe.length := by
    intro l
    induction l with
    | nil => intro st; rfl
    | cons x l ih =>
      intro st
      rw [List.foldl_cons, ih]
      unfold dab
      split
      · exact Disk.crash_len _ _
      · split <;> rfl
  unfold spunSt
  rw [h]
  rfl
theorem dab_ok_sy : DabOk syDab := ⟨by decide, by show (0 : Nat) ≤ _; omega⟩
/-- What three reads of a sector show. -/
theorem each_view (a b : List Dab) (hb : ∀ x ∈ b, x.y = false) (mask : Nat) (i : Nat) (hi : i < 8) :
    (viewsOf ((spunSt (a ++ [syDab] ++ b)).crash (keepM mask)))[i]? = if i ∈ (spunSt (a ++ [syDab] ++ b)).dirty ∧ mask / 2 ^ ((spunSt (a ++ [syDab] ++ b)).dirty.idxOf i) % 2 = 1 then (viewsOf (spunSt (a ++ [syDab] ++ b)))[i]? else (viewsOf (spunSt (a ++ [syDab])))[i]? := by
  have h := each_sector a b hb (keepM mask) i
  unfold viewsOf
  simp only [List.getElem?_map, List.getElem?_range hi, Option.map_some]
  rw [h]
  by_cases hm : i ∈ (spunSt (a ++ [syDab] ++ b)).dirty
  · rw [if_pos hm]
    have hl := dirty_len (spunSt (a ++ [syDab] ++ b))
    have h8 := spunSt_len (a ++ [syDab] ++ b)
    have hj := List.idxOf_lt_length_of_mem hm
    unfold keepM
    rw [Nat.min_eq_left (by omega)]
    by_cases hk : mask / 2 ^ ((spunSt (a ++ [syDab] ++ b)).dirty.idxOf i) % 2 = 1
    · rw [if_pos (decide_eq_true hk), if_pos ⟨hm, hk⟩]
    · rw [if_neg (by rw [decide_eq_false hk]; simp), if_neg (fun e => hk e.2)]
  · rw [if_neg hm, if_neg (fun e => hm e.1)]
set_option maxHeartbeats 8000000 in
set_option maxRecDepth 20000 in
theorem DiskEach_walk (v0 : Value) (la : List Dab) (v1 : Value) (lb : List Dab) (a2 : Int) (w : World) (L0 : DabsIs w v0 la) (q0 : ∀ x ∈ la, DabOk x) (z0 : la.length ≤ 140737488351232) (L1 : DabsIs w v1 lb) (q1 : ∀ x ∈ lb, DabOk x) (z1 : lb.length ≤ 140737488351232) (w2 : (Lit.int .u64 a2).wf = true) :
    Calls Try.prog 3 #[v0, v1, .int .u64 a2] w fun e w' => e = .returned (.bool true) ∧ Below w.heap.size w w' := by
  have hsp := Lib.hid (spinning w)
  have hli := Lib.hid (fun W hW => keep_light v0 la W hW z0 (fun d hd => (q0 d hd).2))
  have hlj := Lib.hid (fun W hW => keep_light v1 lb W hW z1 (fun d hd => (q1 d hd).2))
  obtain ⟨mask, rfl, hmask⟩ := nat_u64 w2
  clear w2
  replace L0 := Lib.hid L0
  replace L1 := Lib.hid L1
  by_cases hl : light la = true ∧ light lb = true
  · obtain ⟨ha, hb⟩ := hl
    rw [ha] at hli
    rw [hb] at hlj
    have h60 : la.length ≤ 60 := by
      unfold light at ha
      simp only [Bool.and_eq_true, decide_eq_true_eq] at ha
      exact ha.1
    have h61 : lb.length ≤ 60 := by
      unfold light at hb
      simp only [Bool.and_eq_true, decide_eq_true_eq] at hb
      exact hb.1
    clear ha hb
    have hfl := List.length_filter_le (fun d : Dab => !d.y) lb
    have hfy : ∀ x ∈ lb.filter (fun d => !d.y), x.y = false := fun x hx => by
      have := (List.mem_filter.1 hx).2
      simpa using this
    have hfo : ∀ x ∈ lb.filter (fun d => !d.y), DabOk x := fun x hx => q1 x (List.mem_filter.1 hx).1
    have hcl := Lib.hid (fun W hW => clone_dab v1 lb W hW (by omega))
    have hdl := Lib.hid (fun u W base hO hB => del_sync u lb W base hO (by omega) hB)
    have hev := Lib.hid (each_view la (lb.filter (fun d => !d.y)) hfy mask)
    generalize lb.filter (fun d => !d.y) = lc at *
    have hs1 := Lib.hid (fun u W hW => keep_spun u (la ++ [syDab]) W hW (by simp; omega) (fun d hd => by
      rcases List.mem_append.1 hd with h | h
      · exact q0 d h
      · simp only [List.mem_cons, List.not_mem_nil, or_false] at h
        rw [h]; exact dab_ok_sy))
    have hs2 := Lib.hid (fun u W hW => keep_spun u (la ++ [syDab] ++ lc) W hW (by simp; omega) (fun d hd => by
      rcases List.mem_append.1 hd with h | h
      · rcases List.mem_append.1 h with h | h
        · exact q0 d h
        · simp only [List.mem_cons, List.not_mem_nil, or_false] at h
          rw [h]; exact dab_ok_sy
      · exact hfo d h))
    have hD8 := spunSt_len (la ++ [syDab])
    have hE8 := spunSt_len (la ++ [syDab] ++ lc)
    have hcc1 := Lib.hid (fun u vs W hP => concat_dab u vs [la, [syDab]] W hP (by simp) (by simp; omega))
    have hcc2 := Lib.hid (fun u vs W hP => concat_dab u vs [la, [syDab], lc] W hP (by simp) (by simp; omega))
    rw [show ([la, [syDab]] : List (List Dab)).flatten = la ++ [syDab] by simp] at hcc1
    rw [show ([la, [syDab], lc] : List (List Dab)).flatten = la ++ [syDab] ++ lc by simp] at hcc2
    generalize spunSt (la ++ [syDab]) = sd at *
    generalize spunSt (la ++ [syDab] ++ lc) = se at *
    replace q0 := Lib.hid q0
    replace q1 := Lib.hid q1
    replace hfy := Lib.hid hfy
    replace hfo := Lib.hid hfo
    replace hmask := Lib.hid hmask
    obtain ⟨o0, c0, rfl, -, -⟩ := L0.out.at dabCells_len
    go_enter Try.func3, Try.ntmps3
    go_wp2_with fail
    refine hsp.out.mono ?_
    rintro e w2 ⟨rfl, hb2⟩
    go_wp2_with fail
    refine (hli.out _ (L0.out.below (by omega) hb2)).mono ?_
    rintro e w3 ⟨rfl, hb3⟩
    have hB3 := bch hb2 hb3
    go_wp2_with fail
    refine (hlj.out _ (L1.out.below (by omega) hB3)).mono ?_
    rintro e w4 ⟨rfl, hb4⟩
    have hB4 := bch hB3 hb4
    go_wp2_with fail
    refine (hcl.out _ (L1.out.below (by omega) hB4)).mono ?_
    rintro e w5 ⟨⟨u, rfl, hu⟩, hb5⟩
    have hB5 := bch hB4 hb5
    go_wp2_with fail
    refine (hdl.out u w5 w4.heap.size hu hb5.size).mono ?_
    rintro e w6 ⟨⟨v, rfl, hv⟩, hb6⟩
    have hB6 : Below w.heap.size w w6 := hB5.trans (hb6.mono hB4.size)
    obtain ⟨oc, cc, rfl⟩ := owns_slice hv
    have hvc : DabsIs w6 _ lc := ListIs.of_owns hv
    replace hvc := Lib.hid hvc
    clear hsp hli hlj hcl hdl hu hv hb2 hb3 hb4 hb5 hb6 hB3 hB4 hB5
    go_wp2_with fail
    have x1 : (w6.alloc (.cells #[.int .i64 0, .string ⟨#[]⟩, .bool true] 28)).heap.size = w6.heap.size + 1 := by simp
    have hbA : Below w6.heap.size w6 (w6.alloc (.cells #[.int .i64 0, .string ⟨#[]⟩, .bool true] 28)) := bal (Below.refl _ _) _
    have hsy : DabsIs (w6.alloc (.cells #[.int .i64 0, .string ⟨#[]⟩, .bool true] 28)) (.slice (some ⟨w6.heap.size, 0, none⟩) 1 1) [syDab] := ListIs.of_alloc (f := dabCells) (sz := 3) w6 28 [syDab] _ rfl dabCells_len (by decide) 1 rfl
    have hBA := bch hB6 hbA
    have hLA := hvc.out.below (by omega) hbA
    generalize hwA : (w6.alloc (.cells #[.int .i64 0, .string ⟨#[]⟩, .bool true] 28)) = wA at *
    have hb7 : Below wA.heap.size wA (wA.alloc (.cells #[(.slice o0 la.length c0), (.slice (some ⟨w6.heap.size, 0, none⟩) 1 1)] 22)) := bal (Below.refl _ _) _
    have hp1 : Parts_dab (wA.alloc (.cells #[(.slice o0 la.length c0), (.slice (some ⟨w6.heap.size, 0, none⟩) 1 1)] 22)) (.slice (some ⟨w6.heap.size + 1, 0, none⟩) 2 2) [(.slice o0 la.length c0), (.slice (some ⟨w6.heap.size, 0, none⟩) 1 1)] [la, [syDab]] := by
      refine ⟨?_, rfl, ?_⟩
      · have h := ListIs.of_alloc (f := fun u : Value => [u]) (sz := 1) wA 22 [(.slice o0 la.length c0), (.slice (some ⟨w6.heap.size, 0, none⟩) 1 1)] _ rfl (fun _ => rfl) (show (2 : Nat) ≤ maxLen by decide) 2 rfl
        rw [x1] at h; exact h
      · intro k h h2
        rcases k with _ | _ | k
        · exact L0.out.below (by omega) (bch hBA hb7)
        · exact hsy.below (by omega) hb7
        · simp at h; omega
    have hB7 := bch hBA hb7
    have hsy7 := Lib.hid (hsy.below (by omega) hb7)
    have hlc7 := Lib.hid (hLA.below (by omega) hb7)
    clear hwA hbA hLA hsy
    generalize (wA.alloc (.cells #[(.slice o0 la.length c0), (.slice (some ⟨w6.heap.size, 0, none⟩) 1 1)] 22)) = w7 at *
    replace hp1 := Lib.hid hp1
    refine (hcc1.out _ _ _ hp1.out).mono ?_
    rintro e w8 ⟨⟨u1, rfl, hu1⟩, hb8⟩
    have hB8 := bch hB7 hb8
    replace hu1 := Lib.hid hu1
    go_wp2_with fail
    refine (hs1.out _ _ hu1.out).mono ?_
    rintro e w9 ⟨⟨d, gs, b, m, rfl, hm, hd, hg, hb, hD⟩, hb9⟩
    have hB9 := bch hB8 hb9
    have hsy9 := Lib.hid (hsy7.out.below (by omega) (bch hb8 hb9))
    have hlc9 := Lib.hid (hlc7.out.below (by omega) (bch hb8 hb9))
    have hDd := Lib.hid hD
    clear hD hd hg hb hs1 hcc1 hp1 hu1 hsy7 hlc7 hb7 hb8 hb9 hB7 hB8 hBA
    have hb10 : Below w9.heap.size w9 (w9.alloc (.cells #[(.slice o0 la.length c0), (.slice (some ⟨w6.heap.size, 0, none⟩) 1 1), (.slice oc lc.length cc)] 22)) := bal (Below.refl _ _) _
    have hp2 : Parts_dab (w9.alloc (.cells #[(.slice o0 la.length c0), (.slice (some ⟨w6.heap.size, 0, none⟩) 1 1), (.slice oc lc.length cc)] 22)) (.slice (some ⟨w9.heap.size, 0, none⟩) 3 3) [(.slice o0 la.length c0), (.slice (some ⟨w6.heap.size, 0, none⟩) 1 1), (.slice oc lc.length cc)] [la, [syDab], lc] := by
      refine ⟨?_, rfl, ?_⟩
      · exact ListIs.of_alloc (f := fun u : Value => [u]) (sz := 1) w9 22 [(.slice o0 la.length c0), (.slice (some ⟨w6.heap.size, 0, none⟩) 1 1), (.slice oc lc.length cc)] _ rfl (fun _ => rfl) (show (3 : Nat) ≤ maxLen by decide) 3 rfl
      · intro k h h2
        rcases k with _ | _ | _ | k
        · exact L0.out.below (by omega) (bch hB9 hb10)
        · exact hsy9.out.below (by omega) hb10
        · exact hlc9.out.below (by omega) hb10
        · simp at h; omega
    have hB10 := bch hB9 hb10
    have hDd10 := Lib.hid (hDd.out.below hb10)
    replace hp2 := Lib.hid hp2
    go_wp2_with fail
    generalize (w9.alloc (.cells #[(.slice o0 la.length c0), (.slice (some ⟨w6.heap.size, 0, none⟩) 1 1), (.slice oc lc.length cc)] 22)) = w10 at *
    refine (hcc2.out _ _ _ hp2.out).mono ?_
    rintro e w11 ⟨⟨u2, rfl, hu2⟩, hb11⟩
    have hB11 := bch hB10 hb11
    replace hu2 := Lib.hid hu2
    go_wp2_with fail
    refine (hs2.out _ _ hu2.out).mono ?_
    rintro e w12 ⟨⟨d', gs', b', m', rfl, hm', hd', hg', hb', hE⟩, hb12⟩
    have hB12 := bch hB11 hb12
    have hD12 := Lib.hid (hDd10.out.below (bch hb11 hb12))
    have hlt1 := hE.row.lt
    have hlt2 := hE.safe.lt
    have hlt3 := hE.next.lt
    have hsz11 := hB11.size
    have hE12 := Lib.hid hE
    clear hE hDd hDd10 hcc2 hs2 hp2 hu2 hsy9 hlc9 hb10 hb11 hb12 hB9 hB10 hB11
    have hx1 := Lib.hid (viewsOf_get sd hD8)
    have hx2 := Lib.hid (viewsOf_get se hE8)
    have hC8 : (se.crash (keepM mask)).safe.length = 8 := by rw [Disk.crash_len]; exact hE8
    have hx3 := Lib.hid (viewsOf_get (se.crash (keepM mask)) hC8)
    have l1 := viewsOf_len sd
    have l2 := viewsOf_len se
    have l3 := viewsOf_len (se.crash (keepM mask))
    generalize viewsOf sd = X1 at *
    generalize viewsOf se = X2 at *
    generalize hsc : se.crash (keepM mask) = sc at *
    generalize viewsOf sc = X3 at *
    replace hC8 := Lib.hid hC8
    go_wp2_with fail
    refine (keep_all _ d gs b m sd hD12.out X1 l1 hx1.out).mono ?_
    rintro e w13 ⟨⟨y1, rfl, hy1⟩, hb13⟩
    have hB13 := bch hB12 hb13
    have hE13 := Lib.hid (hE12.out.below hb13)
    replace hy1 := Lib.hid hy1
    go_wp2_with fail
    refine (keep_all _ d' gs' b' m' se hE13.out X2 l2 hx2.out).mono ?_
    rintro e w14 ⟨⟨y2, rfl, hy2⟩, hb14⟩
    have hB14 := bch hB13 hb14
    have hE14 := Lib.hid (hE13.out.below hb14)
    have hy14 := Lib.hid (owns_below hy1.out hb14)
    replace hy2 := Lib.hid hy2
    go_wp2_with fail
    refine (disk_dirty _ d' gs' b' m' 8 se hE14.out).mono ?_
    rintro e w15 ⟨⟨y4, rfl, hy4⟩, hb15⟩
    have hB15 := bch hB14 hb15
    have hE15 := Lib.hid (hE14.out.below hb15)
    have hy15 := Lib.hid (owns_below hy14.out hb15)
    have hz15 := Lib.hid (owns_below hy2.out hb15)
    have s13 := hb13.size
    have s14 := hb14.size
    have s15 := hb15.size
    replace hy4 := Lib.hid hy4
    clear hy1 hy2 hy14 hE12 hE13 hE14 hb13 hb14 hb15 hD12 hB12 hB13 hB14 hx1 hx2
    go_wp2_with fail
    refine (disk_crash _ d' gs' b' m' 8 se hE15.out mask hmask.out).mono ?_
    rintro e w16 ⟨rfl, hE16, ho16⟩
    rw [hsc] at hE16
    have hB16 : Below w.heap.size w w16 := hB15.trans (ho16.below (B := w.heap.size) (fun j hj => by rcases hj with hj | hj <;> omega) hB15.size)
    have hy16 := Lib.hid (owns_apart hy15.out ho16 (fun j hj => by rcases hj with hj | hj <;> omega))
    have hz16 := Lib.hid (owns_apart hz15.out ho16 (fun j hj => by rcases hj with hj | hj <;> omega))
    have hq16 := Lib.hid (owns_apart hy4.out ho16 (fun j hj => by rcases hj with hj | hj <;> omega))
    replace hE16 := Lib.hid hE16
    clear hy15 hz15 hy4 hE15 ho16 hB15
    go_wp2_with fail
    refine (keep_all _ d' gs' b' 0 sc hE16.out X3 l3 hx3.out).mono ?_
    rintro e w17 ⟨⟨y3, rfl, hy3⟩, hb17⟩
    have hB17 := bch hB16 hb17
    have hE17 := Lib.hid (hE16.out.below hb17)
    have ha1 : StrsIs w17 y1 X1 := ListIs.of_owns (owns_below hy16.out hb17)
    have ha2 : StrsIs w17 y2 X2 := ListIs.of_owns (owns_below hz16.out hb17)
    have ha3 : StrsIs w17 y3 X3 := ListIs.of_owns hy3
    have ha4 : IntsIs w17 y4 (se.dirty.map Int.ofNat) := ListIs.of_owns (owns_below hq16.out hb17)
    have hdl := dirty_len se
    have hix := Lib.hid (fun W (hW : Below w17.heap.size w17 W) (k : Nat) => idx_int y4 (se.dirty.map Int.ofNat) k W (ha4.below (by omega) hW) (by simp; omega))
    obtain ⟨o1, c1, rfl, -, hc1⟩ := ha1.at strCells_len
    obtain ⟨o2, c2, rfl, -, hc2⟩ := ha2.at strCells_len
    obtain ⟨o3, c3, rfl, -, hc3⟩ := ha3.at strCells_len
    obtain ⟨o4, c4, rfl, -, -⟩ := ha4.at intCells_len
    replace hc1 := Lib.hid hc1
    replace hc2 := Lib.hid hc2
    replace hc3 := Lib.hid hc3
    clear ha1 ha2 ha3 ha4 hy3 hy16 hz16 hq16 hE16 hb17 hB16 hx3
    have k1 : ((X1.length : Int) != 8) = false := by rw [l1]; decide
    have k2 : ((X2.length : Int) != 8) = false := by rw [l2]; decide
    have k3 : ((X3.length : Int) != 8) = false := by rw [l3]; decide
    replace l1 := Lib.hid l1
    replace l2 := Lib.hid l2
    replace l3 := Lib.hid l3
    go_wp2_with fail
    have hsd : sc.dirty = [] := by rw [← hsc]; exact Disk.dirty_crash _ _
    have hbit := Lib.hid (fun k => u64_bit' mask k hmask.out)
    replace hsc := Lib.hid hsc
    replace hsd := Lib.hid hsd
    go_loopw [73] (fun i wr => ∃ k : Nat, k ≤ 8 ∧ i = .int .i64 k ∧ Below w17.heap.size w17 wr) (fun i _ => 8 - (intOf i).toNat)
    case atStart => exact ⟨0, by omega, rfl, by (repeat (first | exact Below.refl _ _ | assumption | refine bal ?_ _ | refine bdr ?_ | refine bdn ?_ _ | refine bst ?_ (by first | assumption | exact Nat.le_refl _ | omega) _ | refine bch ?_ (by assumption)))⟩
    case round =>
      obtain ⟨k, hk, rfl, hbel⟩ := hrel
      by_cases hlt : k < 8
      · obtain ⟨b1, f1, rfl, -, hh1⟩ := hc1.out k (by rw [l1.out]; exact hlt)
        obtain ⟨b2, f2, rfl, -, hh2⟩ := hc2.out k (by rw [l2.out]; exact hlt)
        obtain ⟨b3, f3, rfl, -, hh3⟩ := hc3.out k (by rw [l3.out]; exact hlt)
        have e1 : wr.cell? ⟨b1, f1 + k, none⟩ = some (.string (X1[k]'(by rw [l1.out]; exact hlt))) := cell_below hbel (by have := hh1 0 _ rfl; simpa using this)
        have e2 : wr.cell? ⟨b2, f2 + k, none⟩ = some (.string (X2[k]'(by rw [l2.out]; exact hlt))) := cell_below hbel (by have := hh2 0 _ rfl; simpa using this)
        have e3 : wr.cell? ⟨b3, f3 + k, none⟩ = some (.string (X3[k]'(by rw [l3.out]; exact hlt))) := cell_below hbel (by have := hh3 0 _ rfl; simpa using this)
        have hv := hev.out k hlt
        rw [List.getElem?_eq_getElem (l := X1) (by rw [l1.out]; exact hlt), List.getElem?_eq_getElem (l := X2) (by rw [l2.out]; exact hlt), List.getElem?_eq_getElem (l := X3) (by rw [l3.out]; exact hlt)] at hv
        have hI := hix.out wr hbel k
        rw [idx_map, List.length_map] at hI
        have r1 : k < X1.length := by rw [l1.out]; exact hlt
        have r2 : k < X2.length := by rw [l2.out]; exact hlt
        have r3 : k < X3.length := by rw [l3.out]; exact hlt
        clear hh1 hh2 hh3
        generalize X1[k]'r1 = s1 at *
        generalize X2[k]'r2 = s2 at *
        generalize X3[k]'r3 = s3 at *
        have g1 : (s1.toList != s1.toList) = false := by simp
        have g2 : (s2.toList != s2.toList) = false := by simp
        by_cases hm : k ∈ se.dirty
        · rw [if_pos hm] at hI
          have hj := List.idxOf_lt_length_of_mem hm
          generalize se.dirty.idxOf k = j at *
          have hj8 : j < 8 := by omega
          by_cases hbt : mask / 2 ^ j % 2 = 1
          · have hand : bits .and .u64 ((mask : Int) / 2 ^ j) 1 = 1 := by rw [hbit.out, hbt]; rfl
            rw [if_pos ⟨hm, hbt⟩] at hv
            obtain rfl : s3 = s2 := Option.some.inj hv
            replace hI := Lib.hid hI
            replace hbt := Lib.hid hbt
            replace hm := Lib.hid hm
            clear hv
            go_wp2_with fail
            refine (hI.out).mono ?_
            rintro e w18 ⟨rfl, hb18⟩
            replace e1 := cell_below hb18 e1
            replace e2 := cell_below hb18 e2
            replace e3 := cell_below hb18 e3
            go_wp2
            go_roundw
            case rel => exact ⟨k + 1, by omega, by go_num, bch hbel hb18⟩
            case measure => simp [intOf]; omega
          · have hand : bits .and .u64 ((mask : Int) / 2 ^ j) 1 = 0 := by rw [hbit.out, show mask / 2 ^ j % 2 = 0 by omega]; rfl
            rw [if_neg (fun e => hbt e.2)] at hv
            obtain rfl : s3 = s1 := Option.some.inj hv
            replace hI := Lib.hid hI
            replace hbt := Lib.hid hbt
            replace hm := Lib.hid hm
            clear hv
            go_wp2_with fail
            refine (hI.out).mono ?_
            rintro e w18 ⟨rfl, hb18⟩
            replace e1 := cell_below hb18 e1
            replace e2 := cell_below hb18 e2
            replace e3 := cell_below hb18 e3
            go_wp2
            go_roundw
            case rel => exact ⟨k + 1, by omega, by go_num, bch hbel hb18⟩
            case measure => simp [intOf]; omega
        · rw [if_neg hm] at hI
          rw [if_neg (fun e => hm e.1)] at hv
          obtain rfl : s3 = s1 := Option.some.inj hv
          replace hI := Lib.hid hI
          replace hm := Lib.hid hm
          clear hv
          go_wp2_with fail
          refine (hI.out).mono ?_
          rintro e w18 ⟨rfl, hb18⟩
          replace e1 := cell_below hb18 e1
          replace e2 := cell_below hb18 e2
          replace e3 := cell_below hb18 e3
          go_wp2
          go_roundw
          case rel => exact ⟨k + 1, by omega, by go_num, bch hbel hb18⟩
          case measure => simp [intOf]; omega
      · obtain rfl : k = 8 := by omega
        have hE18 := Lib.hid (hE17.out.below hbel)
        have hf : decide (((8 : Nat) : Int) < 8) = false := by decide
        go_wp2_with fail
        refine (disk_dirty _ d' gs' b' 0 8 sc hE18.out).mono ?_
        rintro e w19 ⟨⟨y5, rfl, hy5⟩, hb19⟩
        rw [hsd.out] at hy5
        obtain ⟨o5, c5, rfl, -, -⟩ := (ListIs.of_owns hy5 : IntsIs w19 y5 _).at intCells_len
        clear hy5
        go_wp2
        go_ret
        exact ⟨rfl, bch (bch hB17 hbel) hb19⟩
  · by_cases ha : light la = true
    · have hb : light lb = false := by
        cases h : light lb with
        | false => rfl
        | true => exact absurd ⟨ha, h⟩ hl
      rw [ha] at hli
      rw [hb] at hlj
      clear ha hb hl
      replace q0 := Lib.hid q0
      replace q1 := Lib.hid q1
      go_enter Try.func3, Try.ntmps3
      go_wp2_with fail
      refine hsp.out.mono ?_
      rintro e w2 ⟨rfl, hb2⟩
      go_wp2_with fail
      refine (hli.out _ (L0.out.below (by omega) hb2)).mono ?_
      rintro e w3 ⟨rfl, hb3⟩
      have hB3 := bch hb2 hb3
      go_wp2_with fail
      refine (hlj.out _ (L1.out.below (by omega) hB3)).mono ?_
      rintro e w4 ⟨rfl, hb4⟩
      go_wp2
      go_ret
      exact ⟨rfl, bch hB3 hb4⟩
    · have ha : light la = false := by simpa using ha
      rw [ha] at hli
      clear ha hl
      replace q0 := Lib.hid q0
      replace q1 := Lib.hid q1
      go_enter Try.func3, Try.ntmps3
      go_wp2_with fail
      refine hsp.out.mono ?_
      rintro e w2 ⟨rfl, hb2⟩
      go_wp2_with fail
      refine (hli.out _ (L0.out.below (by omega) hb2)).mono ?_
      rintro e w3 ⟨rfl, hb3⟩
      have hB3 := bch hb2 hb3
      go_wp2
      go_ret
      exact ⟨rfl, hB3⟩
end Go.Proofs.Ytdpdnkjpjoccmaa
