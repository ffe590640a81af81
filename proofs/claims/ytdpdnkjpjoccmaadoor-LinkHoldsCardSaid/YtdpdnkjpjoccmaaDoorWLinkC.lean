/- Links told by where they may lie; the walks of link.Run, keep.strung, keep.short. -/
import Derived.Test.YtdpdnkjpjoccmaaDoorWStep
import Derived.Test.YtdpdnkjpjoccmaaDoorWPick
namespace Go.Proofs.YtdpdnkjpjoccmaaDoor
open Go.RowKit
set_option linter.unusedVariables false
set_option linter.unusedSimpArgs false
def stepCells (v : Link.Stp) : List Value := [.int .i64 v.k, .int .i64 v.N, .int .u64 v.m]
theorem stepCells_len (v : Link.Stp) : (stepCells v).length = 3 := rfl
abbrev StepsIs (w : World) (v : Value) (l : List Link.Stp) : Prop := ListIs stepCells 3 w v l
def StpOk (v : Link.Stp) : Prop := (Lit.int .i64 v.k).wf = true ∧ (Lit.int .i64 v.N).wf = true ∧ v.m < 18446744073709551616
/-- A step as it comes in. -/
structure StpB where
  k : Int
  N : Int
  m : Int
def stpBCells (v : StpB) : List Value := [.int .i64 v.k, .int .i64 v.N, .int .u64 v.m]
def StpBOk (v : StpB) : Prop := (Lit.int .i64 v.k).wf = true ∧ (Lit.int .i64 v.N).wf = true ∧ (Lit.int .u64 v.m).wf = true
def StpB.to (v : StpB) : Link.Stp := ⟨v.k, v.N, v.m.toNat⟩
theorem stp_to {x : StpB} (q : StpBOk x) : stepCells x.to = stpBCells x ∧ StpOk x.to := by
  obtain ⟨c, hc, hl⟩ := nat_u64 q.2.2
  unfold stepCells stpBCells StpB.to StpOk
  simp only
  rw [hc]
  exact ⟨by simp, q.1, q.2.1, by simp; omega⟩
theorem steps_of {w : World} {v : Value} {l : List StpB} (h : ListIs stpBCells 3 w v l) (q : ∀ x ∈ l, StpBOk x) : StepsIs w v (l.map StpB.to) ∧ (∀ y ∈ l.map StpB.to, StpOk y) := by
  have e : (l.map StpB.to).flatMap stepCells = l.flatMap stpBCells := by
    rw [List.flatMap_map]
    clear h
    induction l with
    | nil => rfl
    | cons x l ih => rw [List.flatMap_cons, List.flatMap_cons, (stp_to (q x (List.mem_cons_self ..))).1, ih (fun y hy => q y (List.mem_cons_of_mem _ hy))]
  refine ⟨?_, fun y hy => ?_⟩
  · unfold StepsIs ListIs
    rw [List.length_map, e]; exact h
  · obtain ⟨x, hx, rfl⟩ := List.mem_map.1 hy
    exact (stp_to (q x hx)).2
/-- Sizes that go. -/
structure Fits (s : ByteArray) (n : Nat) : Prop where
  h1 : s.size ≠ 0
  h2 : s.size ≤ 4096
  h3 : 1 ≤ n
  h4 : n ≤ 256
/-- A link that lies in Z, and has been told of so many steps at most. -/
structure LinkZ (w : World) (l : Nat) (Z : Nat → Prop) (s : ByteArray) (n : Nat) (L : Link.St) (c : Nat) : Prop where
  is : LinkIs w l Z s n L
  good : Link.Good s L
  mark : L.R.mark ≤ c
theorem LinkIs.mono {w : World} {l : Nat} {Z Z' : Nat → Prop} {s : ByteArray} {n : Nat} {L : Link.St} (h : LinkIs w l Z s n L) (hZ : ∀ k, Z k → Z' k) : LinkIs w l Z' s n L := by
  obtain ⟨p, vp, O, h, hO⟩ := h
  exact ⟨p, vp, O, h, fun k hk => hZ k (hO k hk)⟩
theorem LinkZ.mono {w : World} {l c c' : Nat} {Z Z' : Nat → Prop} {s : ByteArray} {n : Nat} {L : Link.St} (h : LinkZ w l Z s n L c) (hZ : ∀ k, Z k → Z' k) (hc : c ≤ c') : LinkZ w l Z' s n L c' := ⟨h.is.mono hZ, h.good, Nat.le_trans h.mark hc⟩
theorem LinkIs.below {w w' : World} {l : Nat} {Z : Nat → Prop} {s : ByteArray} {n : Nat} {L : Link.St} (h : LinkIs w l Z s n L) (hb : Below w.heap.size w w') : LinkIs w' l Z s n L := by
  obtain ⟨p, vp, O, h, hO⟩ := h
  exact ⟨p, vp, O, h.below hb, hO⟩
theorem LinkZ.below {w w' : World} {l c : Nat} {Z : Nat → Prop} {s : ByteArray} {n : Nat} {L : Link.St} (h : LinkZ w l Z s n L c) (hb : Below w.heap.size w w') : LinkZ w' l Z s n L c := ⟨h.is.below hb, h.good, h.mark⟩
theorem link_stepZ (w : World) (l : Nat) (Z : Nat → Prop) (s : ByteArray) (n c : Nat) (L : Link.St) (h : LinkZ w l Z s n L c) (F : Fits s n) (hc : c ≤ 900000) (v : Link.Stp) (hv : StpOk v) :
    Calls Tryd.prog 28 #[.pointer (some ⟨l, 0, none⟩), .agg #[.int .i64 v.k, .int .i64 v.N, .int .u64 v.m]] w fun e w' => (∃ r, e = .returned r ∧ ((Link.step s n L v.k v.N v.m).2 = true → r = .nilIface) ∧ ((Link.step s n L v.k v.N v.m).2 = false → ∃ x, r = errN x)) ∧ LinkZ w' l (fun k => Z k ∨ w.heap.size ≤ k) s n (Link.step s n L v.k v.N v.m).1 (c + 1) ∧ Only Z w w' := by
  obtain ⟨⟨p, vp, O, h, hO⟩, hG, hm⟩ := h
  refine (link_step w l p vp O s n L h hG F.h1 F.h2 F.h3 F.h4 (by omega) v.N hv.2.1 v.m hv.2.2 v.k).mono ?_
  rintro e w' ⟨hr, O', h', ho, hO'⟩
  obtain ⟨g1, g2⟩ := Link.step_good s n L v.k v.N v.m hG F.h1 F.h2 (by omega)
  refine ⟨hr, ⟨⟨p, vp, O', h', fun k hk => ?_⟩, g1, by omega⟩, ho.mono (fun k _ hk => hO k (by rcases hk with hk | hk; exact Or.inl hk; exact Or.inr (Or.inl hk)))⟩
  rcases hk with hk | hk | hk
  · exact Or.inl (hO k (Or.inl hk))
  · rcases hO' k hk with hk | hk
    · exact Or.inl (hO k (Or.inr (Or.inl hk)))
    · exact Or.inr hk
  · exact Or.inl (hO k (Or.inr (Or.inr hk)))
/-- All of it lies below the heap's end. -/
theorem LinkZ.bound {w : World} {l c : Nat} {Z : Nat → Prop} {s : ByteArray} {n : Nat} {L : Link.St} (h : LinkZ w l Z s n L c) (F : Fits s n) : LinkZ w l (fun k => Z k ∧ k < w.heap.size) s n L c := by
  obtain ⟨⟨p, vp, O, h, hO⟩, hG, hm⟩ := h
  exact ⟨⟨p, vp, O, h, fun k hk => ⟨hO k hk, by
    rcases hk with rfl | hk | hk
    · exact h.row.lt
    · exact h.recv.lt k hk
    · exact h.pcs.own_lt strCells_len (by omega) (by rw [linesTo_len]; exact (Chunk.lt_cuts F.h3).2 (by have := F.h1; omega)) k hk⟩⟩, hG, hm⟩
/-- The link's own first cell. -/
theorem LinkZ.open_ {w : World} {l c : Nat} {Z : Nat → Prop} {s : ByteArray} {n : Nat} {L : Link.St} (h : LinkZ w l Z s n L c) : ∃ p O, w.cell? ⟨l, 0, none⟩ = some (.pointer (some ⟨p, 0, none⟩)) ∧ RecvIs w p O 0 L.R := by
  obtain ⟨p, vp, O, h', hO⟩ := h.is
  exact ⟨p, O, h'.row.cell 0, h'.recv⟩
theorem LinkZ.len {w : World} {l c : Nat} {Z : Nat → Prop} {s : ByteArray} {n : Nat} {L : Link.St} (h : LinkZ w l Z s n L c) (F : Fits s n) : L.R.came.length ≤ 4096 := by
  have := F.h2
  by_cases h0 : L.R.came = []
  · rw [h0]; simp
  · have := (h.good.inv.some_ h0).2.len2
    rw [Link.size_len] at this
    have e : (L.R.data, L.R.came).2.length = L.R.came.length := rfl
    omega
/-- Link.Left over such a link. -/
theorem link_LeftZ (w : World) (l : Nat) (Z : Nat → Prop) (s : ByteArray) (n c : Nat) (L : Link.St) (h : LinkZ w l Z s n L c) (F : Fits s n) :
    Calls Tryd.prog 54 #[.pointer (some ⟨l, 0, none⟩)] w fun e w' => e = .returned (.int .i64 (Link.left s n L)) ∧ Below w.heap.size w w' := by
  obtain ⟨⟨p, vp, O, h, hO⟩, hG, hm⟩ := h
  exact link_Left w l p vp O s n L h hG.frm F.h2 F.h3 F.h4 (Link.left_all s n L hG F.h3) (cuts_le s n F.h2 F.h3)
def steps (s : ByteArray) (n : Nat) (L : Link.St) (l : List Link.Stp) : Link.St := (Link.run s n L l).1
theorem steps_snoc (s : ByteArray) (n : Nat) (L : Link.St) (l : List Link.Stp) (v : Link.Stp) : steps s n L (l ++ [v]) = (Link.step s n (steps s n L l) v.k v.N v.m).1 := by
  unfold steps; rw [Link.run_append]; rfl
def goods (s : ByteArray) (n : Nat) (L : Link.St) (l : List Link.Stp) : Nat := (Link.run s n L l).2
theorem goods_snoc (s : ByteArray) (n : Nat) (L : Link.St) (l : List Link.Stp) (v : Link.Stp) : goods s n L (l ++ [v]) = goods s n L l + (if (Link.step s n (steps s n L l) v.k v.N v.m).2 then 1 else 0) := by
  unfold goods; rw [Link.run_append]; rfl
theorem goods_le (s : ByteArray) (n : Nat) (l : List Link.Stp) : ∀ L, goods s n L l ≤ l.length := by
  induction l with
  | nil => intro L; exact Nat.le_refl _
  | cons v l ih =>
    intro L
    have := ih (Link.step s n L v.k v.N v.m).1
    unfold goods at *
    simp only [Link.run, List.length_cons]
    split <;> omega
theorem step_cells {w : World} {b off : Nat} {c : Link.Stp} {k : Nat} (h : ∀ i u, (stepCells c)[i]? = some u → w.cell? ⟨b, off + k * 3 + i, none⟩ = some u) :
    w.cell? ⟨b, off + k * 3, none⟩ = some (.int .i64 c.k) ∧ w.cell? ⟨b, off + k * 3 + 1, none⟩ = some (.int .i64 c.N) ∧ w.cell? ⟨b, off + k * 3 + 2, none⟩ = some (.int .u64 c.m) :=
  ⟨h 0 _ rfl, h 1 _ rfl, h 2 _ rfl⟩
set_option maxHeartbeats 4000000 in
set_option maxRecDepth 20000 in
theorem link_run (w : World) (l : Nat) (Z : Nat → Prop) (s : ByteArray) (n c : Nat) (L : Link.St) (h : LinkZ w l Z s n L c) (F : Fits s n) (v : Value) (T : List Link.Stp) (hv : StepsIs w v T) (hT : ∀ x ∈ T, StpOk x) (hvZ : ∀ k, v.ownBlock = some k → ¬ Z k) (hl : T.length ≤ 1000) (hc : c ≤ 800000) :
    Calls Tryd.prog 53 #[.pointer (some ⟨l, 0, none⟩), v] w fun e w' => e = .returned (.int .i64 (goods s n L T)) ∧ LinkZ w' l (fun k => Z k ∨ w.heap.size ≤ k) s n (steps s n L T) (c + T.length) ∧ Only Z w w' := by
  obtain ⟨o, cp, rfl, hca, hcell⟩ := hv.at stepCells_len
  replace hcell := Lib.hid hcell
  replace hT := Lib.hid hT
  replace h := Lib.hid h
  clear hv hca
  go_enter Tryd.func53, Tryd.ntmps53
  go_wp2
  go_loopw [5, 10] (fun m i wr => ∃ k : Nat, k ≤ T.length ∧ i = .int .i64 k ∧ m = .int .i64 (goods s n L (T.take k)) ∧ LinkZ wr l (fun k => Z k ∨ w.heap.size ≤ k) s n (steps s n L (T.take k)) (c + k) ∧ Only Z w wr) (fun _ i _ => T.length - (intOf i).toNat)
  case atStart => exact ⟨0, by omega, rfl, rfl, by first | exact h.out.mono (fun k hk => Or.inl hk) (by omega) | exact (h.out.below (by (repeat (first | exact Below.refl _ _ | assumption | refine bal ?_ _ | refine bdr ?_ | refine bdn ?_ _ | refine bst ?_ (by first | assumption | exact Nat.le_refl _ | omega) _ | refine bch ?_ (by assumption))))).mono (fun k hk => Or.inl hk) (by omega), by first | exact Only.refl _ _ | exact (Only.refl _ _).drew⟩
  case round =>
    obtain ⟨k, hk, rfl, rfl, hL, hon⟩ := hrel
    have hgl := goods_le s n (T.take k) L
    rw [List.length_take] at hgl
    have hsz := hon.size
    by_cases hlt : k < T.length
    · obtain ⟨b, off, rfl, hb, hcl⟩ := hcell.out k hlt
      obtain ⟨k0, k1, k2⟩ := step_cells hcl
      have hbZ : ¬ Z b := hvZ b rfl
      replace k0 := hon.cell k0 hbZ
      replace k1 := hon.cell k1 hbZ
      replace k2 := hon.cell k2 hbZ
      have htk : T.take (k + 1) = T.take k ++ [T[k]] := List.take_succ_eq_append_getElem hlt
      have hok := hT.out _ (List.getElem_mem hlt)
      have e1 := Lib.hid (steps_snoc s n L (T.take k) T[k])
      have e2 := Lib.hid (goods_snoc s n L (T.take k) T[k])
      rw [← htk] at e1 e2
      have hst := Lib.hid (link_stepZ (wr.alloc (.cells #[.int .i64 T[k].k, .int .i64 T[k].N, .int .u64 T[k].m] 53)) l _ s n (c + k) _ (hL.below (bal (Below.refl _ _) _)) F (by omega) T[k] hok)
      have hba : Below wr.heap.size wr (wr.alloc (.cells #[.int .i64 T[k].k, .int .i64 T[k].N, .int .u64 T[k].m] 53)) := bal (Below.refl _ _) _
      generalize T[k] = x at *
      generalize steps s n L (T.take k) = K at *
      generalize goods s n L (T.take k) = G at *
      generalize hT1 : T.take (k + 1) = T1 at *
      replace hT1 := Lib.hid hT1
      clear hcl htk
      replace hok := Lib.hid hok
      replace hL := Lib.hid hL
      go_wp2_with fail
      refine hst.out.mono ?_
      rintro e w2 ⟨⟨r, rfl, hr1, hr2⟩, hL2, ho2⟩
      have hon2 : Only Z w w2 := (hon.chain hba).step ho2 (fun j hj => by rcases hj with hj | hj; exact Or.inl hj; exact Or.inr hj)
      have hL3 : LinkZ w2 l (fun k => Z k ∨ w.heap.size ≤ k) s n (Link.step s n K x.k x.N x.m).1 (c + (k + 1)) := hL2.mono (fun j hj => by
        rcases hj with hj | hj
        · exact hj
        · exact Or.inr (Nat.le_trans hsz (Nat.le_trans hba.size hj))) (by omega)
      cases hb2 : (Link.step s n K x.k x.N x.m).2 with
      | true =>
        obtain rfl := hr1 hb2
        rw [hb2] at e2
        replace hb2 := Lib.hid hb2
        clear hr1 hr2 hL2
        replace hL3 := Lib.hid hL3
        go_wp2
        go_roundw
        case rel => exact ⟨k + 1, by omega, by go_num, by rw [hT1.out, e2.out]; simp, by rw [hT1.out, e1.out]; exact hL3.out, hon2⟩
        case measure => simp [intOf]; omega
      | false =>
        obtain ⟨y, rfl⟩ := hr2 hb2
        rw [hb2] at e2
        replace hb2 := Lib.hid hb2
        clear hr1 hr2 hL2
        replace hL3 := Lib.hid hL3
        unfold errN
        go_wp2
        go_roundw
        case rel => exact ⟨k + 1, by omega, by go_num, by rw [hT1.out, e2.out]; simp, by rw [hT1.out, e1.out]; exact hL3.out, hon2⟩
        case measure => simp [intOf]; omega
    · obtain rfl : k = T.length := by omega
      rw [List.take_of_length_le (Nat.le_refl _)] at hL ⊢
      replace hL := Lib.hid hL
      go_wp2
      go_ret
      exact ⟨rfl, hL.out, hon⟩
set_option maxHeartbeats 4000000 in
set_option maxRecDepth 20000 in
theorem keep_strung (w : World) (s : ByteArray) (a : Int) (v : Value) (T : List Link.Stp) (hv : StepsIs w v T) (hT : ∀ x ∈ T, StpOk x) (hl : T.length ≤ 1000) (h1 : s.size ≠ 0) (h2 : s.size ≤ 4096) :
    Calls Tryd.prog 27 #[.string s, .int .i64 a, v] w fun e w' => (∃ l, e = .returned (.pointer (some ⟨l, 0, none⟩)) ∧ LinkZ w' l (fun k => w.heap.size ≤ k) s (1 + pickN a 64) (steps s (1 + pickN a 64) Link.new T) T.length) ∧ Below w.heap.size w w' := by
  have hp := pickN_lt a 64 (by omega)
  have hpk := Lib.hid (fun W => keep_pick a 64 64 W rfl (by omega) (by omega))
  obtain ⟨n, hn⟩ : ∃ n, n = 1 + pickN a 64 := ⟨_, rfl⟩
  have hn2 : (1 : Int) + (pickN a 64 : Nat) = (n : Int) := by omega
  have hnl : 1 ≤ n ∧ n ≤ 256 := by omega
  have F : Fits s n := ⟨h1, h2, hnl.1, hnl.2⟩
  have hnw := Lib.hid (fun W => link_new s n W h1 h2 hnl.1 hnl.2)
  rw [← hn]
  replace hn := Lib.hid hn
  obtain ⟨o, cp, rfl, hca, hcell⟩ := hv.at stepCells_len
  replace hcell := Lib.hid hcell
  replace hT := Lib.hid hT
  clear hv hca
  generalize pickN a 64 = pk at *
  go_enter Tryd.func27, Tryd.ntmps27
  go_wp2_with fail
  refine (hpk.out _).mono ?_
  rintro e w1 ⟨rfl, rfl⟩
  go_wp2_with fail
  refine (hnw.out _).mono ?_
  rintro e w2 ⟨⟨l, rfl, hL0⟩, hb2⟩
  have hL : LinkZ w2 l (fun k => w.heap.size ≤ k) s n Link.new 0 := ⟨hL0, Link.good_new s, Nat.le_refl _⟩
  clear hL0
  replace hL := Lib.hid hL
  go_wp2
  go_loopw [27] (fun i wr => ∃ k : Nat, k ≤ T.length ∧ i = .int .i64 k ∧ LinkZ wr l (fun k => w.heap.size ≤ k) s n (steps s n Link.new (T.take k)) k ∧ Below w.heap.size w wr) (fun i _ => T.length - (intOf i).toNat)
  case atStart => exact ⟨0, by omega, rfl, by first | exact hL.out | exact hL.out.below (by (repeat (first | exact Below.refl _ _ | assumption | refine bal ?_ _ | refine bdr ?_ | refine bdn ?_ _ | refine bst ?_ (by first | assumption | exact Nat.le_refl _ | omega) _ | refine bch ?_ (by assumption)))), by (repeat (first | exact Below.refl _ _ | assumption | refine bal ?_ _ | refine bdr ?_ | refine bdn ?_ _ | refine bst ?_ (by first | assumption | exact Nat.le_refl _ | omega) _ | refine bch ?_ (by assumption)))⟩
  case round =>
    obtain ⟨k, hk, rfl, hL, hbel⟩ := hrel
    have hsz := hbel.size
    by_cases hlt : k < T.length
    · obtain ⟨b, off, rfl, hb, hcl⟩ := hcell.out k hlt
      obtain ⟨k0, k1, k2⟩ := step_cells hcl
      replace k0 := cell_below hbel k0
      replace k1 := cell_below hbel k1
      replace k2 := cell_below hbel k2
      have htk : T.take (k + 1) = T.take k ++ [T[k]] := List.take_succ_eq_append_getElem hlt
      have hok := hT.out _ (List.getElem_mem hlt)
      have e1 := Lib.hid (steps_snoc s n Link.new (T.take k) T[k])
      rw [← htk] at e1
      have hst := Lib.hid (link_stepZ (wr.alloc (.cells #[.int .i64 T[k].k, .int .i64 T[k].N, .int .u64 T[k].m] 53)) l _ s n k _ (hL.below (bal (Below.refl _ _) _)) F (by omega) T[k] hok)
      have hba : Below wr.heap.size wr (wr.alloc (.cells #[.int .i64 T[k].k, .int .i64 T[k].N, .int .u64 T[k].m] 53)) := bal (Below.refl _ _) _
      generalize T[k] = x at *
      generalize steps s n Link.new (T.take k) = K at *
      generalize hT1 : T.take (k + 1) = T1 at *
      replace hT1 := Lib.hid hT1
      clear hcl htk
      replace hok := Lib.hid hok
      replace hL := Lib.hid hL
      go_wp2_with fail
      refine hst.out.mono ?_
      rintro e w4 ⟨⟨r, rfl, _, _⟩, hL2, ho2⟩
      have hbel2 : Below w.heap.size w w4 := (bch hbel hba).trans (ho2.below (B := w.heap.size) (fun j hj => hj) (by have := hba.size; omega))
      have hL3 : LinkZ w4 l (fun k => w.heap.size ≤ k) s n (Link.step s n K x.k x.N x.m).1 (k + 1) := hL2.mono (fun j hj => by
        rcases hj with hj | hj
        · exact hj
        · have := hba.size; omega) (by omega)
      replace hL3 := Lib.hid hL3
      clear hL2
      go_wp2
      go_roundw
      case rel => exact ⟨k + 1, by omega, by go_num, by rw [hT1.out, e1.out]; exact hL3.out, hbel2⟩
      case measure => simp [intOf]; omega
    · obtain rfl : k = T.length := by omega
      rw [List.take_of_length_le (Nat.le_refl _)] at hL
      replace hL := Lib.hid hL
      go_wp2
      go_ret
      exact ⟨⟨l, rfl, hL.out⟩, hbel⟩
set_option maxHeartbeats 1000000 in
theorem keep_short (w : World) (s : ByteArray) (v : Value) (T : List Link.Stp) (hv : StepsIs w v T) (hs : s.size ≤ 140737488351232) (hl : T.length ≤ 140737488351232) :
    Calls Tryd.prog 26 #[.string s, v] w fun e w' => e = .returned (.bool (decide (s.size ≠ 0 ∧ s.size ≤ 600 ∧ T.length ≤ 60))) ∧ Below w.heap.size w w' := by
  obtain ⟨o, cp, rfl, hca, _⟩ := hv.at stepCells_len
  clear hca hv
  by_cases h0 : s.size = 0
  · have he := empty_size h0
    have hr : decide (s.size ≠ 0 ∧ s.size ≤ 600 ∧ T.length ≤ 60) = false := decide_eq_false (fun h => h.1 h0)
    rw [hr]
    go_enter Tryd.func26, Tryd.ntmps26
    go_wp2
    go_ret
    exact ⟨rfl, by (repeat (first | exact Below.refl _ _ | assumption | refine bal ?_ _ | refine bdr ?_ | refine bdn ?_ _ | refine bst ?_ (by first | assumption | exact Nat.le_refl _ | omega) _ | refine bch ?_ (by assumption)))⟩
  · have he := nonempty_size h0
    by_cases h6 : s.size ≤ 600
    · have d1 : decide ((s.size : Int) ≤ 600) = true := by simp; omega
      by_cases h7 : T.length ≤ 60
      · have d2 : decide ((T.length : Int) ≤ 60) = true := by simp; omega
        have hr : decide (s.size ≠ 0 ∧ s.size ≤ 600 ∧ T.length ≤ 60) = true := decide_eq_true ⟨h0, h6, h7⟩
        rw [hr]
        replace h0 := Lib.hid h0
        go_enter Tryd.func26, Tryd.ntmps26
        go_wp2
        go_ret
        exact ⟨rfl, by (repeat (first | exact Below.refl _ _ | assumption | refine bal ?_ _ | refine bdr ?_ | refine bdn ?_ _ | refine bst ?_ (by first | assumption | exact Nat.le_refl _ | omega) _ | refine bch ?_ (by assumption)))⟩
      · have d2 : decide ((T.length : Int) ≤ 60) = false := by simp; omega
        have hr : decide (s.size ≠ 0 ∧ s.size ≤ 600 ∧ T.length ≤ 60) = false := decide_eq_false (fun h => by have := h.2; omega)
        rw [hr]
        replace h0 := Lib.hid h0
        go_enter Tryd.func26, Tryd.ntmps26
        go_wp2
        go_ret
        exact ⟨rfl, by (repeat (first | exact Below.refl _ _ | assumption | refine bal ?_ _ | refine bdr ?_ | refine bdn ?_ _ | refine bst ?_ (by first | assumption | exact Nat.le_refl _ | omega) _ | refine bch ?_ (by assumption)))⟩
    · have d1 : decide ((s.size : Int) ≤ 600) = false := by simp; omega
      have hr : decide (s.size ≠ 0 ∧ s.size ≤ 600 ∧ T.length ≤ 60) = false := decide_eq_false (fun h => by have := h.2; omega)
      rw [hr]
      replace h0 := Lib.hid h0
      go_enter Tryd.func26, Tryd.ntmps26
      go_wp2
      go_ret
      exact ⟨rfl, by (repeat (first | exact Below.refl _ _ | assumption | refine bal ?_ _ | refine bdr ?_ | refine bdn ?_ _ | refine bst ?_ (by first | assumption | exact Nat.le_refl _ | omega) _ | refine bch ?_ (by assumption)))⟩
end Go.Proofs.YtdpdnkjpjoccmaaDoor
