/- The walks of keep.WriteKinds, WriteOnly. -/
import Derived.Test.YtonblpcbpfhlmaaDoorWKinds
namespace Go.Proofs.YtonblpcbpfhlmaaDoor
open Go.RowKit
set_option linter.unusedVariables false
set_option linter.unusedSimpArgs false
theorem id_of_right {x : Wr} (h : Wr.right x = 0) : Wr.idRight x.t x.r = true := by
  obtain ⟨_, _, h1, h2, h3, h4, _⟩ := Wr.right_zero h
  unfold Wr.idRight; simp; omega
theorem WriteKinds_walk (t r k : Int) (key val : ByteArray) (n : Int) (kind : Int) (w : World) (q : WrBOk ⟨t, r, k, key, val, n⟩) (w1 : (Lit.int .i64 kind).wf = true) (hL : Laid w) :
    Calls Tryd.prog 5 #[wrV t r k key val n, .int .i64 kind] w fun e w' => e = .returned (.bool true) ∧ Below w.heap.size w w' := by
  have hk1 := q.2.2.1
  have hv1 := q.2.2.2.1
  simp only at hk1 hv1
  by_cases hr : Wr.right (wr t r k key val n) = 0
  · obtain ⟨k1, k4, i1, i2, i3, i4, hkey, hval, hv0, hn0, hadd, hins⟩ := Wr.right_zero hr
    simp only [wr] at k1 k4 i1 i2 i3 i4 hkey hval hv0 hn0 hadd hins
    rw [ba_len] at hkey hval
    have hp := pickN_lt kind 4 (by omega)
    have fine : ∀ (K : Int) (v : ByteArray) (m : Int), 1 ≤ K → K ≤ 4 → v.data.toList.length ≤ 300 → (K = 2 ∨ K = 3 → v.data.toList = []) → (K = 1 ∨ K = 2 → m = 0) → (K = 3 → -1125899906842624 ≤ m ∧ m ≤ 1125899906842624) → (K = 4 → 0 ≤ m ∧ m ≤ 1000) → Wr.right (wr t r K key v m) = 0 := fun K v m a b c d e f g => Wr.right_of (x := wr t r K key v m) a b i1 i2 i3 i4 (by show key.data.toList.length ≤ 40; rw [ba_len]; exact hkey) c d e f g
    have hz := fun (K : Int) (m : Int) (h : Wr.right (wr t r K key val m) = 0) => Wr.right_zero h
    have hpk : pickN kind 4 = 0 ∨ pickN kind 4 = 1 ∨ pickN kind 4 = 2 ∨ pickN kind 4 = 3 := by omega
    have hvl : val.data.toList.length ≤ 300 := by rw [ba_len]; exact hval
    have hn3 : -1125899906842624 ≤ n ∧ n ≤ 1125899906842624 := by
      have : k = 1 ∨ k = 2 ∨ k = 3 ∨ k = 4 := by omega
      rcases this with h | h | h | h
      · have := hn0 (.inl h); omega
      · have := hn0 (.inr h); omega
      · exact hadd h
      · have := hins h; omega
    rcases hpk with hp | hp | hp | hp
    · by_cases hn : n = 0
      · subst hn
        exact kinds_put t r k key val 0 kind w hkey hval hL hp hr (fine 1 val 0 (by omega) (by omega) hvl (by omega) (by omega) (by omega) (by omega))
      · exact kinds_put_n t r k key val n kind w hkey hval hL hp hr hn (fun h => hn ((Wr.right_zero h).2.2.2.2.2.2.2.2.2.1 (.inl rfl)))
    · by_cases hv : val.data.toList = []
      · obtain rfl := ba_nil hv
        by_cases hn : n = 0
        · subst hn
          exact kinds_drop t r k key key 0 kind w hkey (by omega) hL hp hr (fine 2 ⟨#[]⟩ 0 (by omega) (by omega) (by decide) (fun _ => rfl) (by omega) (by omega) (by omega))
        · exact kinds_drop_n t r k key key n kind w hkey (by omega) hL hp hr hn (fun h => hn ((Wr.right_zero h).2.2.2.2.2.2.2.2.2.1 (.inr rfl)))
      · exact kinds_drop_v t r k key val n kind w hkey hval hL hp hr (ba_notempty hv) (fun h => hv ((Wr.right_zero h).2.2.2.2.2.2.2.2.1 (.inl rfl)))
    · by_cases hv : val.data.toList = []
      · obtain rfl := ba_nil hv
        exact kinds_add t r k key key n kind w hkey (by omega) hL hp hr (fine 3 ⟨#[]⟩ n (by omega) (by omega) (by decide) (fun _ => rfl) (by omega) (fun _ => hn3) (by omega))
      · exact kinds_add_v t r k key val n kind w hkey hval hL hp hr (ba_notempty hv) (fun h => hv ((Wr.right_zero h).2.2.2.2.2.2.2.2.1 (.inr rfl)))
    · by_cases h0 : n < 0
      · exact kinds_ins_lo t r k key val n kind w hkey hval hL hp hr h0 (fun h => by have := (Wr.right_zero h).2.2.2.2.2.2.2.2.2.2.2 rfl; simp only [wr] at this; omega)
      by_cases h1 : 1000 < n
      · exact kinds_ins_hi t r k key val n kind w hkey hval hL hp hr h1 (fun h => by have := (Wr.right_zero h).2.2.2.2.2.2.2.2.2.2.2 rfl; simp only [wr] at this; omega)
      · exact kinds_ins t r k key val n kind w hkey hval hL hp hr (by omega) (by omega) (fine 4 val n (by omega) (by omega) hvl (by omega) (by omega) (by omega) (by omega))
  · have hk : ∀ W, Below w.heap.size w W → Calls Tryd.prog 11 #[] W fun e w' => e = .returned (.bool true) ∧ Below W.heap.size W w' := fun W h => tailed W (hL.below h)
    have hR := fun W => write_right t r k key val n W
    rw [errW_no hr] at hR
    generalize Wr.right (wr t r k key val n) = cc at *
    clear hr
    unfold wrV at *
    replace hk := Lib.hid hk
    replace hR := Lib.hid hR
    clear hL q w1
    by_cases hsum : 900 < key.size + val.size
    · have d1 : decide ((900 : Int) < (key.size : Int) + (val.size : Int)) = true := by simp; omega
      go_enter Tryd.func5, Tryd.ntmps5
      go_wp2_with fail
      have q0 := row_at #[.int .i64 t, .int .i64 r, .int .i64 k, .string key, .string val, .int .i64 n] 25 (rfl : w.heap.size = w.heap.size)
      have qb : Below w.heap.size w (w.alloc (Obj.cells #[.int .i64 t, .int .i64 r, .int .i64 k, .string key, .string val, .int .i64 n] 25)) := by (repeat (first | exact Below.refl _ _ | assumption | refine bal ?_ _ | refine bdr ?_ | refine bdn ?_ _ | refine bst ?_ (by first | assumption | exact Nat.le_refl _ | omega) _ | refine bch ?_ (by assumption)))
      generalize w.alloc (Obj.cells #[.int .i64 t, .int .i64 r, .int .i64 k, .string key, .string val, .int .i64 n] 25) = w1 at *
      refine (hk.out _ qb).mono ?_
      rintro e w2 ⟨rfl, hb2⟩
      replace q0 := q0.below hb2
      (have c0 := q0.cell 0; have c1 := q0.cell 1; have c2 := q0.cell 2; have c3 := q0.cell 3; have c4 := q0.cell 4; have c5 := q0.cell 5; simp only [List.set_cons_succ, List.set_cons_zero, List.getElem?_cons_zero, List.getElem?_cons_succ] at c0 c1 c2 c3 c4 c5)
      clear q0
      go_wp2
      go_ret
      exact ⟨rfl, by (repeat (first | exact Below.refl _ _ | assumption | refine bal ?_ _ | refine bdr ?_ | refine bdn ?_ _ | refine bst ?_ (by first | assumption | exact Nat.le_refl _ | omega) _ | refine bch ?_ (by assumption)))⟩
    · have d1 : decide ((900 : Int) < (key.size : Int) + (val.size : Int)) = false := by simp; omega
      go_enter Tryd.func5, Tryd.ntmps5
      go_wp2_with fail
      have q0 := row_at #[.int .i64 t, .int .i64 r, .int .i64 k, .string key, .string val, .int .i64 n] 25 (rfl : w.heap.size = w.heap.size)
      have qb : Below w.heap.size w (w.alloc (Obj.cells #[.int .i64 t, .int .i64 r, .int .i64 k, .string key, .string val, .int .i64 n] 25)) := by (repeat (first | exact Below.refl _ _ | assumption | refine bal ?_ _ | refine bdr ?_ | refine bdn ?_ _ | refine bst ?_ (by first | assumption | exact Nat.le_refl _ | omega) _ | refine bch ?_ (by assumption)))
      generalize w.alloc (Obj.cells #[.int .i64 t, .int .i64 r, .int .i64 k, .string key, .string val, .int .i64 n] 25) = w1 at *
      refine (hk.out _ qb).mono ?_
      rintro e w2 ⟨rfl, hb2⟩
      replace q0 := q0.below hb2
      (have c0 := q0.cell 0; have c1 := q0.cell 1; have c2 := q0.cell 2; have c3 := q0.cell 3; have c4 := q0.cell 4; have c5 := q0.cell 5; simp only [List.set_cons_succ, List.set_cons_zero, List.getElem?_cons_zero, List.getElem?_cons_succ] at c0 c1 c2 c3 c4 c5)
      clear q0
      go_wp2_with fail
      refine (hR.out _).mono ?_
      rintro e w3 ⟨rfl, hb3⟩
      go_wp2
      go_ret
      exact ⟨rfl, by (repeat (first | exact Below.refl _ _ | assumption | refine bal ?_ _ | refine bdr ?_ | refine bdn ?_ _ | refine bst ?_ (by first | assumption | exact Nat.le_refl _ | omega) _ | refine bch ?_ (by assumption)))⟩
set_option maxHeartbeats 4000000 in
set_option maxRecDepth 100000 in
theorem write_only (t r k : Int) (key val : ByteArray) (n : Int) (s : ByteArray) (w : World) (h1 : key.size ≤ 140737488351232) (h3 : s.size ≤ 140737488351232) (hL : Laid w) :
    Calls Tryd.prog 4 #[wrV t r k key val n, .string s] w fun e w' => e = .returned (.bool true) ∧ Below w.heap.size w w' := by
  have hk : ∀ W, Below w.heap.size w W → Calls Tryd.prog 11 #[] W fun e w' => e = .returned (.bool true) ∧ Below W.heap.size W w' := fun W h => tailed W (hL.below h)
  replace hk := Lib.hid hk
  by_cases hsum : 900 < key.size + s.size
  · unfold wrV
    have d1 : decide ((900 : Int) < (key.size : Int) + (s.size : Int)) = true := by simp; omega
    go_enter Tryd.func4, Tryd.ntmps4
    go_wp2_with fail
    have q0 := row_at #[.int .i64 t, .int .i64 r, .int .i64 k, .string key, .string val, .int .i64 n] 25 (rfl : w.heap.size = w.heap.size)
    have qb : Below w.heap.size w (w.alloc (Obj.cells #[.int .i64 t, .int .i64 r, .int .i64 k, .string key, .string val, .int .i64 n] 25)) := by (repeat (first | exact Below.refl _ _ | assumption | refine bal ?_ _ | refine bdr ?_ | refine bdn ?_ _ | refine bst ?_ (by first | assumption | exact Nat.le_refl _ | omega) _ | refine bch ?_ (by assumption)))
    generalize w.alloc (Obj.cells #[.int .i64 t, .int .i64 r, .int .i64 k, .string key, .string val, .int .i64 n] 25) = w1 at *
    refine (hk.out _ qb).mono ?_
    rintro e w2 ⟨rfl, hb2⟩
    replace q0 := q0.below hb2
    (have c0 := q0.cell 0; have c1 := q0.cell 1; have c2 := q0.cell 2; have c3 := q0.cell 3; have c4 := q0.cell 4; have c5 := q0.cell 5; simp only [List.set_cons_succ, List.set_cons_zero, List.getElem?_cons_zero, List.getElem?_cons_succ] at c0 c1 c2 c3 c4 c5)
    clear q0
    go_wp2
    go_ret
    exact ⟨rfl, by (repeat (first | exact Below.refl _ _ | assumption | refine bal ?_ _ | refine bdr ?_ | refine bdn ?_ _ | refine bst ?_ (by first | assumption | exact Nat.le_refl _ | omega) _ | refine bch ?_ (by assumption)))⟩
  · have d1 : decide ((900 : Int) < (key.size : Int) + (s.size : Int)) = false := by simp; omega
    have hF := fun W h => write_fill t r k key val n s W (size_reach _ h3) h
    cases hf : Wr.fill (wr t r k key ⟨#[]⟩ 0) s.data.toList with
    | bad e =>
      rw [hf] at hF
      unfold fillVal wrV at hF
      unfold wrV
      replace hF := Lib.hid hF
      clear hf
      go_enter Tryd.func4, Tryd.ntmps4
      go_wp2_with fail
      have q0 := row_at #[.int .i64 t, .int .i64 r, .int .i64 k, .string key, .string val, .int .i64 n] 25 (rfl : w.heap.size = w.heap.size)
      have qb : Below w.heap.size w (w.alloc (Obj.cells #[.int .i64 t, .int .i64 r, .int .i64 k, .string key, .string val, .int .i64 n] 25)) := by (repeat (first | exact Below.refl _ _ | assumption | refine bal ?_ _ | refine bdr ?_ | refine bdn ?_ _ | refine bst ?_ (by first | assumption | exact Nat.le_refl _ | omega) _ | refine bch ?_ (by assumption)))
      generalize w.alloc (Obj.cells #[.int .i64 t, .int .i64 r, .int .i64 k, .string key, .string val, .int .i64 n] 25) = w1 at *
      refine (hk.out _ qb).mono ?_
      rintro e w2 ⟨rfl, hb2⟩
      replace q0 := q0.below hb2
      (have c0 := q0.cell 0; have c1 := q0.cell 1; have c2 := q0.cell 2; have c3 := q0.cell 3; have c4 := q0.cell 4; have c5 := q0.cell 5; simp only [List.set_cons_succ, List.set_cons_zero, List.getElem?_cons_zero, List.getElem?_cons_succ] at c0 c1 c2 c3 c4 c5)
      clear q0
      go_wp2_with fail
      refine (hF.out _ (hL.below (by (repeat (first | exact Below.refl _ _ | assumption | refine bal ?_ _ | refine bdr ?_ | refine bdn ?_ _ | refine bst ?_ (by first | assumption | exact Nat.le_refl _ | omega) _ | refine bch ?_ (by assumption)))))).mono ?_
      rintro e w3 ⟨rfl, hb3⟩
      go_wp2
      go_ret
      exact ⟨rfl, by (repeat (first | exact Below.refl _ _ | assumption | refine bal ?_ _ | refine bdr ?_ | refine bdn ?_ _ | refine bst ?_ (by first | assumption | exact Nat.le_refl _ | omega) _ | refine bch ?_ (by assumption)))⟩
    | ok y cnt =>
      obtain ⟨hr, hcnt, htl, e1, e2, e3, e4⟩ := Wr.fill_ok hf
      obtain ⟨yt, yr, yk, ykey, v, m⟩ := y
      simp only [wr] at e1 e2 e3 e4
      subst e1 e2 e3 e4
      rw [ba_len] at hcnt
      have hT := fun W => write_tail_ok yt yr yk key ⟨v.toArray⟩ m W hr
      have hR := fun W => write_right yt yr yk key ⟨v.toArray⟩ m W
      rw [show Wr.right (wr yt yr yk key ⟨v.toArray⟩ m) = 0 from hr, errW_ok] at hR
      have htl : Wr.tail (wr yt yr yk key ⟨v.toArray⟩ m) = s.data.toList.take cnt := htl
      have he : (Wr.tail (wr yt yr yk key ⟨v.toArray⟩ m) == (s.extract 0 cnt).toList) = true := by rw [htl, ByteArray.toList_eq]; simp
      rw [hf] at hF
      have hF : ∀ W, Laid W → Calls Tryd.prog 14 #[wrV yt yr yk key val n, .string s] W fun e w' => e = .returned (.tuple #[wrV yt yr yk key ⟨v.toArray⟩ m, .int .i64 cnt, .nilIface]) ∧ Below W.heap.size W w' := hF
      clear hf hr htl
      have hb2' : decide ((cnt : Int) ≤ (s.size : Int)) = true := by simp; omega
      generalize Wr.tail (wr yt yr yk key ⟨v.toArray⟩ m) = T at *
      unfold wrV at *
      replace hF := Lib.hid hF
      replace hT := Lib.hid hT
      replace hR := Lib.hid hR
      go_enter Tryd.func4, Tryd.ntmps4
      go_wp2_with fail
      have q0 := row_at #[.int .i64 yt, .int .i64 yr, .int .i64 yk, .string key, .string val, .int .i64 n] 25 (rfl : w.heap.size = w.heap.size)
      have qb : Below w.heap.size w (w.alloc (Obj.cells #[.int .i64 yt, .int .i64 yr, .int .i64 yk, .string key, .string val, .int .i64 n] 25)) := by (repeat (first | exact Below.refl _ _ | assumption | refine bal ?_ _ | refine bdr ?_ | refine bdn ?_ _ | refine bst ?_ (by first | assumption | exact Nat.le_refl _ | omega) _ | refine bch ?_ (by assumption)))
      generalize w.alloc (Obj.cells #[.int .i64 yt, .int .i64 yr, .int .i64 yk, .string key, .string val, .int .i64 n] 25) = w1 at *
      refine (hk.out _ qb).mono ?_
      rintro e w2 ⟨rfl, hb2⟩
      replace q0 := q0.below hb2
      (have c0 := q0.cell 0; have c1 := q0.cell 1; have c2 := q0.cell 2; have c3 := q0.cell 3; have c4 := q0.cell 4; have c5 := q0.cell 5; simp only [List.set_cons_succ, List.set_cons_zero, List.getElem?_cons_zero, List.getElem?_cons_succ] at c0 c1 c2 c3 c4 c5)
      replace q0 := Lib.hid q0
      go_wp2_with fail
      refine (hF.out _ (hL.below (by (repeat (first | exact Below.refl _ _ | assumption | refine bal ?_ _ | refine bdr ?_ | refine bdn ?_ _ | refine bst ?_ (by first | assumption | exact Nat.le_refl _ | omega) _ | refine bch ?_ (by assumption)))))).mono ?_
      rintro e w3 ⟨rfl, hb3⟩
      clear c0 c1 c2 c3 c4 c5
      have qb3 : Below w.heap.size w w3 := by (repeat (first | exact Below.refl _ _ | assumption | refine bal ?_ _ | refine bdr ?_ | refine bdn ?_ _ | refine bst ?_ (by first | assumption | exact Nat.le_refl _ | omega) _ | refine bch ?_ (by assumption)))
      clear hb2 qb
      go_wp2_with fail
      have r0 := row_at #[.int .i64 yt, .int .i64 yr, .int .i64 yk, .string key, .string ⟨v.toArray⟩, .int .i64 m] 25 (rfl : w3.heap.size = w3.heap.size)
      replace q0 := (q0.out.below hb3).alloc (Obj.cells #[.int .i64 yt, .int .i64 yr, .int .i64 yk, .string key, .string ⟨v.toArray⟩, .int .i64 m] 25)
      have qb4 : Below w.heap.size w (w3.alloc (Obj.cells #[.int .i64 yt, .int .i64 yr, .int .i64 yk, .string key, .string ⟨v.toArray⟩, .int .i64 m] 25)) := by (repeat (first | exact Below.refl _ _ | assumption | refine bal ?_ _ | refine bdr ?_ | refine bdn ?_ _ | refine bst ?_ (by first | assumption | exact Nat.le_refl _ | omega) _ | refine bch ?_ (by assumption)))
      have hz4 : w.heap.size ≤ w3.heap.size := qb3.size
      clear qb3 hb3
      generalize w3.alloc (Obj.cells #[.int .i64 yt, .int .i64 yr, .int .i64 yk, .string key, .string ⟨v.toArray⟩, .int .i64 m] 25) = w4 at *
      generalize w3.heap.size = g at *
      refine (hT.out _).mono ?_
      rintro e w5 ⟨rfl, hb5⟩
      replace q0 := q0.below hb5
      replace r0 := r0.below hb5
      (have d0 := r0.cell 0; have d1 := r0.cell 1; have d2 := r0.cell 2; have d3 := r0.cell 3; have d4 := r0.cell 4; have d5 := r0.cell 5; simp only [List.set_cons_succ, List.set_cons_zero, List.getElem?_cons_zero, List.getElem?_cons_succ] at d0 d1 d2 d3 d4 d5)
      have q0' := Lib.hid q0
      have r0' := Lib.hid r0
      clear q0 r0
      go_wp2_with fail
      refine (hR.out _).mono ?_
      rintro e w6 ⟨rfl, hb6⟩
      have q0 := q0'.out.below hb6
      have r0 := r0'.out.below hb6
      clear d0 d1 d2 d3 d4 d5 q0' r0'
      (have c0 := q0.cell 0; have c1 := q0.cell 1; have c2 := q0.cell 2; have c3 := q0.cell 3; have c4 := q0.cell 4; have c5 := q0.cell 5; simp only [List.set_cons_succ, List.set_cons_zero, List.getElem?_cons_zero, List.getElem?_cons_succ] at c0 c1 c2 c3 c4 c5)
      (have d0 := r0.cell 0; have d1 := r0.cell 1; have d2 := r0.cell 2; have d3 := r0.cell 3; have d4 := r0.cell 4; have d5 := r0.cell 5; simp only [List.set_cons_succ, List.set_cons_zero, List.getElem?_cons_zero, List.getElem?_cons_succ] at d0 d1 d2 d3 d4 d5)
      clear q0 r0
      go_wp2
      go_ret
      exact ⟨rfl, by (repeat (first | exact Below.refl _ _ | assumption | refine bal ?_ _ | refine bdr ?_ | refine bdn ?_ _ | refine bst ?_ (by first | assumption | exact Nat.le_refl _ | omega) _ | refine bch ?_ (by assumption)))⟩
theorem WriteOnly_walk (t r k : Int) (key val : ByteArray) (n : Int) (s : ByteArray) (w : World) (q : WrBOk ⟨t, r, k, key, val, n⟩) (h3 : s.size ≤ 140737488351232) (hL : Laid w) :
    Calls Tryd.prog 4 #[wrV t r k key val n, .string s] w fun e w' => e = .returned (.bool true) ∧ Below w.heap.size w w' := write_only t r k key val n s w q.2.2.1 h3 hL
end Go.Proofs.YtonblpcbpfhlmaaDoor
