/- The walk of vector.Read. -/
import Derived.Test.YtdbpiabcpjgblaaGreatDoorK11
import Derived.Test.YtdbpiabcpjgblaaGreatDoorK26
import Derived.Test.YtdbpiabcpjgblaaGreatDoorK04
import Derived.Test.YtdbpiabcpjgblaaGreatDoorK01
namespace Go.Proofs.YtdbpiabcpjgblaaGreatDoor
open Go.RowKit
set_option linter.unusedVariables false
set_option linter.unusedSimpArgs false
namespace Vec
theorem rr_bad {S : List UInt8} {c : Nat} {first : Bool} {nx : Int} {p e : Nat} {acc : List Entry} (h : Vary.int (S.drop p) 200 = .bad e) : Part.fin (Part.ahead acc p (rruns (c + 1) first nx (S.drop p))) = .bad e := by
  rw [rruns, h]; rfl
theorem rr_bad2 {S : List UInt8} {c : Nat} {first : Bool} {nx : Int} {p e g j : Nat} {acc : List Entry} (h : Vary.int (S.drop p) 200 = .ok g j) (h2 : Vary.int (S.drop (p + j)) 16 = .bad e) : Part.fin (Part.ahead acc p (rruns (c + 1) first nx (S.drop p))) = .bad e := by
  rw [rruns, h]
  simp only [List.drop_drop, h2]
  rfl
theorem rr_step {S : List UInt8} {c : Nat} {first : Bool} {nx : Int} {p g j m i : Nat} {acc : List Entry} (h : Vary.int (S.drop p) 200 = .ok g j) (h2 : Vary.int (S.drop (p + j)) 16 = .ok m i) :
    Part.ahead acc p (rruns (c + 1) first nx (S.drop p)) = Part.ahead acc (p + j + i) ((rtimes (m + 1) (nx + g + (if first then 0 else 1)) (S.drop (p + j + i))).andThen fun q => rruns c false (nx + g + (if first then 0 else 1) + (m + 1 : Nat)) (S.drop (p + j + i + q))) := by
  rw [rruns, h]
  simp only [List.drop_drop, h2]
  rw [ahead_ahead, List.append_nil]
  simp only [Nat.add_assoc]
theorem rt_bad {S : List UInt8} {c : Nat} {nx : Int} {p e : Nat} {acc : List Entry} {R : Nat → Part} (h : Vary.int (S.drop p) 1099511627776 = .bad e) : Part.fin (Part.ahead acc p ((rtimes (c + 1) nx (S.drop p)).andThen fun q => R (p + q))) = .bad e := by
  rw [rtimes, h]; rfl
theorem rt_step {S : List UInt8} {c : Nat} {nx : Int} {p t j : Nat} {acc : List Entry} {R : Nat → Part} (h : Vary.int (S.drop p) 1099511627776 = .ok t j) :
    Part.ahead acc p ((rtimes (c + 1) nx (S.drop p)).andThen fun q => R (p + q)) = Part.ahead (acc ++ [⟨nx, t⟩]) (p + j) ((rtimes c (nx + 1) (S.drop (p + j))).andThen fun q => R (p + j + q)) := by
  rw [rtimes, h]
  simp only [List.drop_drop]
  cases rtimes c (nx + 1) (S.drop (p + j)) with
  | bad e => rfl
  | ok l k =>
    show Part.ahead acc p (Part.ahead ([⟨nx, t⟩] ++ l) (j + k) (R (p + (j + k)))) = Part.ahead (acc ++ [⟨nx, t⟩]) (p + j) (Part.ahead l k (R (p + j + k)))
    rw [ahead_ahead, ahead_ahead]
    simp only [Nat.add_assoc, List.append_assoc]
theorem rt_end {S : List UInt8} {nx : Int} {p : Nat} {acc : List Entry} {R : Nat → Part} : Part.ahead acc p ((rtimes 0 nx (S.drop p)).andThen fun q => R (p + q)) = Part.ahead acc p (R p) := by
  simp only [rtimes, Part.andThen, ahead_nil, Nat.add_zero]
theorem rr_end {S : List UInt8} {first : Bool} {nx : Int} {p : Nat} {acc : List Entry} : Part.fin (Part.ahead acc p (rruns 0 first nx (S.drop p))) = if right acc = .ok then .ok acc p else .bad (right acc).code := by
  simp only [rruns, Part.ahead, Part.fin, List.append_nil, Nat.add_zero]
theorem read_start {S : List UInt8} {n j : Nat} (h : Vary.int S 16 = .ok n j) : Part.fin (Part.ahead [] j (rruns n true 0 (S.drop j))) = read S := by
  rw [read, h]
theorem read_bad {S : List UInt8} {e : Nat} (h : Vary.int S 16 = .bad e) : read S = .bad e := by
  rw [read, h]
end Vec
def RetPart (x : Vec.Part) (w : World) (e : Ending) (w' : World) : Prop :=
  (match x with
  | .bad r => e = .returned (.tuple #[.slice none 0 0, .int .i64 0, errV r])
  | .ok l k => ∃ v, e = .returned (.tuple #[v, .int .i64 k, .nilIface]) ∧ VecIs w' v l) ∧ Below w.heap.size w w'
/-- It lies in memory that was made since. -/
def Fresh (B : Nat) (v : Value) : Prop := ∀ k, v.ownBlock = some k → B ≤ k
theorem owns_fresh {w : World} {base : Nat} {e : TypeId} {sz n : Nat} {v : Value} {xs : List Value} (h : w.ownsRow base e sz v n xs) : Fresh base v := fun k hk => by
  rcases h.2 with ⟨rfl, -⟩ | ⟨g, cap, cur, rfl, hb, -⟩
  · cases hk
  · injection hk with hk; rw [← hk]; exact hb
def RetPartF (x : Vec.Part) (w : World) (e : Ending) (w' : World) : Prop :=
  (match x with
  | .bad r => e = .returned (.tuple #[.slice none 0 0, .int .i64 0, errV r])
  | .ok l k => ∃ v, e = .returned (.tuple #[v, .int .i64 k, .nilIface]) ∧ VecIs w' v l ∧ Fresh w.heap.size v) ∧ Below w.heap.size w w'
theorem vary_at (s : ByteArray) (p : Nat) (most : Int) (w : World) (hs : s.size ≤ 1000000) (hp : p ≤ s.size) (hm : most ≤ 9223372036854775807) :
    Calls Tryz.prog 107 #[.string (s.extract p s.size), .int .i64 most] w fun e w' => e = .returned (intVal (Vary.int (s.data.toList.drop p) most)) ∧ w = w' := by
  have h := vary_int (s.extract p s.size) most w (by simp only [ByteArray.size_extract]; unfold maxLen; omega) hm
  have e : (s.extract p s.size).data.toList = s.data.toList.drop p := by
    rw [ByteArray.data_extract, Array.toList_extract, List.extract_eq_take_drop, List.take_of_length_le (by rw [List.length_drop, Array.length_toList]; show s.size - p ≤ _; omega)]
  rw [e] at h
  exact h
theorem int_le {b : List UInt8} {m : Int} {t j : Nat} (h : Vary.int b m = .ok t j) : 1 ≤ j ∧ j ≤ b.length ∧ (t : Int) ≤ m := by
  obtain ⟨h1, h2⟩ := Vec.int_get h
  obtain ⟨h3, h4, _, _⟩ := Vary.get_ok _ _ _ h1
  exact ⟨h3, h4, h2⟩
theorem owns_set {w : World} {base : Nat} {e : TypeId} {sz n : Nat} {v : Value} {xs : List Value} (h : w.ownsRow base e sz v n xs) {p : Addr} (hp : v.ownBlock ≠ some p.block) (u : Value) : (w.setCell p u).ownsRow base e sz v n xs := by
  obtain ⟨h1, h2⟩ := h
  refine ⟨h1, ?_⟩
  rcases h2 with hn | ⟨g, cap, cur, rfl, hb, hg, rest⟩
  · exact .inl hn
  · exact .inr ⟨g, cap, cur, rfl, hb, (Below.heap_setCell w p u g (fun he => hp (by rw [← he]; rfl))).trans hg, rest⟩
theorem byWVecRd1 {p : Prop} (h : p := by
  rw [hmc] at hfin
  have hC := hat.out z hz 1099511627776 (by omega)
  cases hg3 : Vary.int (S.drop z) 1099511627776 with
  | bad e =>
    have hE2 := Lib.hid (hfin.out.symm.trans (Vec.rt_bad hg3))
    rw [hg3] at hC
    replace hC := Lib.hid hC
    clear hfin
    go_wp2_with fail
    refine (hC.out _).mono ?_
    rintro _ w4 ⟨rfl, rfl⟩
    go_wp2
    go_ret3
    rw [hE2.out]
    exact ⟨rfl, hbel⟩
  | ok t d =>
    obtain ⟨d1, d2, d3⟩ := hle.out z hz _ t d hg3
    have hfin2 := Lib.hid (((congrArg Vec.Part.fin (Vec.rt_step hg3)).symm).trans hfin.out)
    rw [hg3] at hC
    replace hC := Lib.hid hC
    clear hfin hmc
    have hvt : intVal (.ok t d) = .tuple #[.int .i64 t, .int .i64 d, .nilIface] := rfl
    go_wp2_with fail
    refine (hC.out _).mono ?_
    rintro _ w4 ⟨rfl, rfl⟩
    go_wp2_with (at_builtin; go_must (refine app_new rfl _ _ 22 45 rfl w.heap.size (.agg #[.int .i64 0, .int .i64 0]) 2 16 Tryz.underlying22 (by kernel_rfl) rfl (by omega) _ _ _ rfl hown _ rfl rfl ?_ (by omega) (by omega) hsz ?_))
    · first | exact ⟨rfl, rfl⟩ | rfl | simp [Value.oneCell']
    intro v2 w5 hown5 hb5 _
    have hown6 := own_snoc (x := ⟨((N0 + c : Nat) : Int), (t : Int)⟩) hown5
    clear hown5 hown
    go_wp2
    go_roundw
    case rel =>
      refine ⟨c + 1, z + d, acc ++ [⟨((N0 + c : Nat) : Int), (t : Int)⟩], by omega, by go_num, d2, by go_num, by go_num, by rw [List.length_append]; simp; omega, ?_, hown6, hbel.trans hb5⟩
      have := hfin2.out
      rw [show ((N0 + c : Nat) : Int) + 1 = ((N0 + (c + 1) : Nat) : Int) by omega] at this
      exact Lib.hid this
    case measure => simp [intOf]; omega) : p := h
set_option maxHeartbeats 8000000 in
set_option maxRecDepth 100000 in
theorem vector_readF (s : ByteArray) (w : World) (hs : s.size ≤ 1000000) (hL : Laid w) :
    Calls Tryz.prog 149 #[.string s] w (RetPartF (Vec.read s.data.toList) w) := by
  have hll : s.data.toList.length = s.size := Array.length_toList
  have i0 : ∀ (x y : Value) (w : World), (Instr.index 229 (.agg #[x, y]) (.int .i64 0)).run Tryz.prog w = .ok x w := fun _ _ _ => by kernel_rfl
  have i1 : ∀ (x y : Value) (w : World), (Instr.index 229 (.agg #[x, y]) (.int .i64 1)).run Tryz.prog w = .ok y w := fun _ _ _ => by kernel_rfl
  have h0 := vary_int s 16 w (by unfold maxLen; omega) (by omega)
  have hat := fun p (hp : p ≤ s.size) most (hm : most ≤ 9223372036854775807) W => vary_at s p most W hs hp hm
  have hle : ∀ p (hp : p ≤ s.size) (m : Int) t j, Vary.int (s.data.toList.drop p) m = .ok t j → 1 ≤ j ∧ p + j ≤ s.size ∧ (t : Int) ≤ m := fun p hp m t j h => by
    obtain ⟨h1, h2, h3⟩ := int_le h
    rw [List.length_drop, hll] at h2
    exact ⟨h1, by omega, h3⟩
  have hle0 : ∀ (m : Int) t j, Vary.int s.data.toList m = .ok t j → 1 ≤ j ∧ j ≤ s.size ∧ (t : Int) ≤ m := fun m t j h => by
    obtain ⟨h1, h2, h3⟩ := int_le h
    rw [hll] at h2
    exact ⟨h1, h2, h3⟩
  generalize s.data.toList = S at *
  replace hat := Lib.hid hat
  replace hle := Lib.hid hle
  clear hll
  cases hi : Vary.int S 16 with
  | bad e =>
    have hr := Lib.hid (Vec.read_bad hi)
    rw [hi] at h0
    replace h0 := Lib.hid h0
    have hv : intVal (.bad e) = .tuple #[.int .i64 0, .int .i64 0, .iface 66 (.int .i64 e)] := rfl
    go_enter Tryz.func149, Tryz.ntmps149
    go_wp2_with fail
    refine h0.out.mono ?_
    rintro _ w1 ⟨rfl, rfl⟩
    go_wp2
    go_ret3
    rw [hr.out]
    exact ⟨rfl, Below.refl _ _⟩
  | ok n j =>
    have hr := Lib.hid (Vec.read_start hi)
    obtain ⟨k1, k2, k3⟩ := hle0 16 n j hi
    rw [hi] at h0
    replace h0 := Lib.hid h0
    have hv : intVal (.ok n j) = .tuple #[.int .i64 n, .int .i64 j, .nilIface] := rfl
    clear hle0
    generalize hE : Vec.read S = E at *
    replace hE := Lib.hid hE
    go_enter Tryz.func149, Tryz.ntmps149
    go_wp2_with fail
    refine h0.out.mono ?_
    rintro _ w1 ⟨rfl, rfl⟩
    go_wp2
    go_loopw [6, 8, 9, 31] (fun p o x i wr => ∃ (k q : Nat) (nx : Nat) (acc : List Vec.Entry), k ≤ n ∧ i = .int .i64 k ∧ q ≤ s.size ∧ p = .int .i64 q ∧ x = .int .i64 nx ∧ nx ≤ 300 * k ∧ acc.length ≤ 20 * k ∧
      Hid (Vec.Part.fin (Vec.Part.ahead acc q (Vec.rruns (n - k) (decide (k = 0)) nx (S.drop q))) = E) ∧ wr.ownsRow w.heap.size 45 2 o acc.length (acc.flatMap entCells) ∧ Below w.heap.size w wr) (fun _ _ _ i _ => n - (intOf i).toNat)
    case atStart => exact ⟨0, j, 0, [], by omega, rfl, k2, rfl, rfl, by omega, by simp, Lib.hid (by simpa using hr.out), World.ownsRow_nil _ _ _ _, by exact blw⟩
    case round =>
      obtain ⟨k, q, nx, acc, hk, rfl, hq, rfl, rfl, hnx, hac, hfin, hown, hbel⟩ := hrel
      have hsz := hbel.size
      by_cases hlt : k < n
      · have hnk : n - k = (n - (k + 1)) + 1 := by omega
        rw [hnk] at hfin
        have hA := hat.out q hq 200 (by omega)
        have hvb : ∀ e : Nat, intVal (.bad e) = .tuple #[.int .i64 0, .int .i64 0, .iface 66 (.int .i64 e)] := fun _ => rfl
        cases hg : Vary.int (S.drop q) 200 with
        | bad e =>
          have hE2 := Lib.hid (hfin.out.symm.trans (Vec.rr_bad hg))
          rw [hg] at hA
          replace hA := Lib.hid hA
          clear hfin
          go_wp2_with fail
          refine wp_loop_rounds 3 ?_
          rw [rounds_succ]
          go_wp2_with fail
          refine (hA.out _).mono ?_
          rintro _ w2 ⟨rfl, rfl⟩
          go_wp2
          go_ret3
          rw [hE2.out]
          exact ⟨rfl, by exact blw⟩
        | ok g a =>
          obtain ⟨a1, a2, a3⟩ := hle.out q hq _ g a hg
          have hB := hat.out (q + a) a2 16 (by omega)
          rw [hg] at hA
          replace hA := Lib.hid hA
          have hvg : intVal (.ok g a) = .tuple #[.int .i64 g, .int .i64 a, .nilIface] := rfl
          go_wp2_with fail
          have q0 := row_at #[.int .i64 0, .int .i64 0] 229 (rfl : wr.heap.size = wr.heap.size)
          have hown1 := hown.alloc (Obj.cells #[.int .i64 0, .int .i64 0] 229)
          have hbel1 := bal hbel (Obj.cells #[.int .i64 0, .int .i64 0] 229)
          have hne := owns_lt hown wr.heap.size (Nat.le_refl _)
          generalize wr.alloc (Obj.cells #[.int .i64 0, .int .i64 0] 229) = w1 at *
          generalize wr.heap.size = gb at *
          clear hown hbel
          obtain ⟨c0, c1⟩ := q0.c2
          (have f0 := q0.frozen 0 (by simp); have f1 := q0.frozen 1 (by simp))
          refine wp_loop_rounds 3 ?_
          rw [rounds_succ]
          go_wp2_with fail
          refine (hA.out _).mono ?_
          rintro _ w2 ⟨rfl, rfl⟩
          go_wp2_with fail
          have q1 := q0.set 0 (.int .i64 g)
          have hown2 := owns_set hown1 (p := ⟨gb, 0, none⟩) hne (.int .i64 g)
          have hbel2 := bst hbel1 (p := ⟨gb, 0, none⟩) hsz (.int .i64 g)
          clear c0 c1 f0 f1 q0 hown1 hbel1
          generalize w1.setCell ⟨gb, 0, none⟩ (.int .i64 g) = w2 at *
          obtain ⟨c0, c1⟩ := q1.c2
          (have f0 := q1.frozen 0 (by simp); have f1 := q1.frozen 1 (by simp))
          cases hg2 : Vary.int (S.drop (q + a)) 16 with
          | bad e =>
            have hE2 := Lib.hid (hfin.out.symm.trans (Vec.rr_bad2 hg hg2))
            rw [hg2] at hB
            replace hB := Lib.hid hB
            clear hfin
            rw [rounds_succ]
            go_wp2_with fail
            refine (hB.out _).mono ?_
            rintro _ w3 ⟨rfl, rfl⟩
            go_wp2
            go_ret3
            rw [hE2.out]
            exact ⟨rfl, hbel2⟩
          | ok m b =>
            obtain ⟨b1, b2, b3⟩ := hle.out (q + a) a2 _ m b hg2
            have hfin2 := Lib.hid (((congrArg Vec.Part.fin (Vec.rr_step hg hg2)).symm).trans hfin.out)
            clear hfin
            rw [hg2] at hB
            replace hB := Lib.hid hB
            have hvm : intVal (.ok m b) = .tuple #[.int .i64 m, .int .i64 b, .nilIface] := rfl
            rw [rounds_succ]
            go_wp2_with fail
            refine (hB.out _).mono ?_
            rintro _ w3 ⟨rfl, rfl⟩
            go_wp2_with fail
            have q2 := q1.set 1 (.int .i64 m)
            have hown3 := owns_set hown2 (p := ⟨gb, 1, none⟩) hne (.int .i64 m)
            have hbel3 := bst hbel2 (p := ⟨gb, 1, none⟩) hsz (.int .i64 m)
            clear c0 c1 f0 f1 q1 hown2 hbel2
            generalize w2.setCell ⟨gb, 1, none⟩ (.int .i64 m) = w3 at *
            obtain ⟨c0, c1⟩ := q2.c2
            rw [rounds_succ]
            by_cases hk0 : k = 0
            · subst hk0
              obtain ⟨N0, hN0⟩ : ∃ N0, N0 = nx + g := ⟨_, rfl⟩
              obtain ⟨R, hR⟩ : ∃ R : Nat → Vec.Part, R = fun z => Vec.rruns (n - (0 + 1)) false ((N0 + (m + 1) : Nat) : Int) (S.drop z) := ⟨_, rfl⟩
              have hfin : Hid (Vec.Part.fin (Vec.Part.ahead acc (q + a + b) ((Vec.rtimes (m + 1) (N0 : Int) (S.drop (q + a + b))).andThen fun t => R (q + a + b + t))) = E) := Lib.hid (by
                have := hfin2.out
                rw [hR, hN0]
                simpa using this)
              have hNs : ((nx : Int) + (g : Int)) = (N0 : Int) := by omega
              have hN1 : N0 ≤ 500 := by omega
              replace hR := Lib.hid hR
              replace hN0 := Lib.hid hN0
              clear hfin2
              simp only [Int.cast_ofNat_Int]
              go_wp2_with fail
              go_loopw [6, 8, 9, 69] (fun p o x i wz => ∃ (c z : Nat) (acc : List Vec.Entry), c ≤ m + 1 ∧ i = .int .i64 c ∧ z ≤ s.size ∧ p = .int .i64 z ∧ x = .int .i64 (N0 + c : Nat) ∧ acc.length ≤ 20 * 0 + c ∧
                Hid (Vec.Part.fin (Vec.Part.ahead acc z ((Vec.rtimes (m + 1 - c) ((N0 + c : Nat) : Int) (S.drop z)).andThen fun t => R (z + t))) = E) ∧ wz.ownsRow w.heap.size 45 2 o acc.length (acc.flatMap entCells) ∧ Below w.heap.size w wz) (fun _ _ _ i _ => m + 1 - (intOf i).toNat)
              case atStart => exact ⟨0, q + a + b, acc, by omega, rfl, b2, by go_num, by go_num, by omega, Lib.hid (by simpa using hfin.out), hown3, by exact blw⟩
              case round =>
                clear hown3 hac hfin hbel3
                rename_i wz
                obtain ⟨c, z, acc, hcm, rfl, hz, rfl, rfl, hac, hfin, hown, hbel⟩ := hrel
                have hsz := hbel.size
                by_cases hlt2 : c < m + 1
                · have hmc : m + 1 - c = (m + 1 - (c + 1)) + 1 := by omega
                  exact byWVecRd1
                · obtain rfl : c = m + 1 := by omega
                  have hfin2 := hfin.out
                  rw [Nat.sub_self, Vec.rt_end] at hfin2
                  replace hfin2 := Lib.hid hfin2
                  clear hfin
                  go_wp2
                  go_roundw
                  case rel => exact ⟨0 + 1, z, N0 + (m + 1), acc, by omega, by go_num, hz, rfl, rfl, by omega, by omega, Lib.hid (by rw [hR.out] at hfin2; simpa using hfin2.out), hown, hbel⟩
                  case measure => simp [intOf]; omega
            · obtain ⟨N0, hN0⟩ : ∃ N0, N0 = nx + g + 1 := ⟨_, rfl⟩
              obtain ⟨R, hR⟩ : ∃ R : Nat → Vec.Part, R = fun z => Vec.rruns (n - (k + 1)) false ((N0 + (m + 1) : Nat) : Int) (S.drop z) := ⟨_, rfl⟩
              have hfin : Hid (Vec.Part.fin (Vec.Part.ahead acc (q + a + b) ((Vec.rtimes (m + 1) (N0 : Int) (S.drop (q + a + b))).andThen fun t => R (q + a + b + t))) = E) := Lib.hid (by
                have := hfin2.out
                rw [hR, hN0]
                simpa [hk0] using this)
              have hNs : ((nx : Int) + (g : Int)) + 1 = (N0 : Int) := by omega
              have hN1 : N0 ≤ 300 * k + 201 := by omega
              replace hR := Lib.hid hR
              replace hN0 := Lib.hid hN0
              clear hfin2
              have hk1 : decide (0 < k) = true := by simp; omega
              go_wp2_with fail
              go_loopw [6, 8, 9, 69] (fun p o x i wz => ∃ (c z : Nat) (acc : List Vec.Entry), c ≤ m + 1 ∧ i = .int .i64 c ∧ z ≤ s.size ∧ p = .int .i64 z ∧ x = .int .i64 (N0 + c : Nat) ∧ acc.length ≤ 20 * k + c ∧
                Hid (Vec.Part.fin (Vec.Part.ahead acc z ((Vec.rtimes (m + 1 - c) ((N0 + c : Nat) : Int) (S.drop z)).andThen fun t => R (z + t))) = E) ∧ wz.ownsRow w.heap.size 45 2 o acc.length (acc.flatMap entCells) ∧ Below w.heap.size w wz) (fun _ _ _ i _ => m + 1 - (intOf i).toNat)
              case atStart => exact ⟨0, q + a + b, acc, by omega, rfl, b2, by go_num, by go_num, by omega, Lib.hid (by simpa using hfin.out), hown3, by exact blw⟩
              case round =>
                clear hown3 hac hfin hbel3
                rename_i wz
                obtain ⟨c, z, acc, hcm, rfl, hz, rfl, rfl, hac, hfin, hown, hbel⟩ := hrel
                have hsz := hbel.size
                by_cases hlt2 : c < m + 1
                · have hmc : m + 1 - c = (m + 1 - (c + 1)) + 1 := by omega
                  exact byWVecRd1
                · obtain rfl : c = m + 1 := by omega
                  have hfin2 := hfin.out
                  rw [Nat.sub_self, Vec.rt_end] at hfin2
                  replace hfin2 := Lib.hid hfin2
                  clear hfin
                  go_wp2
                  go_roundw
                  case rel => exact ⟨k + 1, z, N0 + (m + 1), acc, by omega, by go_num, hz, rfl, rfl, by omega, by omega, Lib.hid (by rw [hR.out] at hfin2; simpa using hfin2.out), hown, hbel⟩
                  case measure => simp [intOf]; omega
      · obtain rfl : k = n := by omega
        have hfin2 := hfin.out
        rw [Nat.sub_self, Vec.rr_end] at hfin2
        have hac2 : acc.length ≤ 140737488351232 := by omega
        have hvi : ∀ W, wr = W → ∃ o, W.ownsRow w.heap.size 45 2 o acc.length (acc.flatMap entCells) := fun W h => ⟨_, h ▸ hown⟩
        clear hfin hvi
        obtain ⟨o', c', hoc⟩ := owns_slice hown
        have hvec := ListIs.of_owns hown
        have hfr := Lib.hid (owns_fresh hown)
        rw [hoc] at hvec hfr
        subst hoc
        have hvR := vector_right _ acc wr hvec hac2
        have hvecH := Lib.hid hvec
        replace hvR := Lib.hid hvR
        clear hvec hown
        by_cases hrt : Vec.right acc = .ok
        · rw [if_pos hrt] at hfin2
          replace hfin2 := Lib.hid hfin2
          replace hrt := Lib.hid hrt
          go_wp2_with fail
          refine hvR.out.mono ?_
          rintro _ w4 ⟨v4, rfl, hv4, hb4⟩
          rw [hrt.out] at hv4
          have hv4 : v4 = .nilIface := hv4
          subst hv4
          go_wp2
          go_ret3
          rw [← hfin2.out]
          exact ⟨⟨_, rfl, hvecH.out.below (by omega) hb4, hfr.out⟩, bch hbel hb4⟩
        · rw [if_neg hrt] at hfin2
          have hcn : ∀ v, ErrRep wr v (Vec.right acc) → v ≠ .nilIface := fun v hv => by
            cases hx : Vec.right acc with
            | ok => exact absurd hx hrt
            | no e => rw [hx] at hv; have hv : v = errV e := hv; rw [hv]; intro h; cases h
            | at_ e i => rw [hx] at hv; obtain ⟨g, hv, -⟩ := hv; rw [hv]; intro h; cases h
          replace hfin2 := Lib.hid hfin2
          cases hx : Vec.right acc with
          | ok => exact absurd hx hrt
          | no e =>
            rw [hx] at hfin2 hvR
            clear hcn hrt
            go_wp2_with fail
            refine hvR.out.mono ?_
            rintro _ w4 ⟨v4, rfl, hv4, hb4⟩
            have hv4 : v4 = .iface 66 (.int .i64 e) := hv4
            subst hv4
            go_wp2_with (go_at_call 36; go_must (refine (tell_errno _ _ (by exact hL.below (by exact blw))).mono ?_); rintro e w' ⟨rfl, hb⟩)
            go_ret3
            rw [← hfin2.out]
            exact ⟨rfl, by exact blw⟩
          | at_ e i =>
            rw [hx] at hfin2 hvR
            clear hcn hrt
            go_wp2_with fail
            refine hvR.out.mono ?_
            rintro _ w4 ⟨v4, rfl, hv4, hb4⟩
            obtain ⟨gg, rfl, hrow⟩ := hv4
            have hc0 := hrow.cell 0
            replace hc0 := Lib.hid hc0
            clear hrow
            go_wp2_with fail
            refine (tell_at e gg _ (hL.below (by exact blw)) (by exact hc0.out)).mono ?_
            rintro _ w5 ⟨rfl, hb5⟩
            go_wp2
            go_ret3
            rw [← hfin2.out]
            exact ⟨rfl, by exact blw⟩
end Go.Proofs.YtdbpiabcpjgblaaGreatDoor
