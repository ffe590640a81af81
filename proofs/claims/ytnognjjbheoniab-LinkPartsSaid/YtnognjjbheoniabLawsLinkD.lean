/- The walk of LinkParts; printed by gen_parts.py. -/
import Derived.Test.YtnognjjbheoniabLawsLinkA
namespace Go.Proofs.Ytnognjjbheoniab
open Go.RowKit
set_option linter.unusedVariables false
set_option linter.unusedSimpArgs false
/-- A link that lies in Z, with its receiver at p. -/
structure LinkQ (w : World) (l p : Nat) (Z : Nat → Prop) (s : ByteArray) (n : Nat) (L : Link.St) (c : Nat) : Prop where
  is : ∃ vp O, LinkAt w l p vp O s n L ∧ ∀ k, (k = l ∨ O k ∨ vp.ownBlock = some k) → Z k
  good : Link.Good s L
  mark : L.R.mark ≤ c
theorem LinkQ.of {w : World} {l c : Nat} {Z : Nat → Prop} {s : ByteArray} {n : Nat} {L : Link.St} (h : LinkZ w l Z s n L c) : ∃ p, LinkQ w l p Z s n L c := by
  obtain ⟨⟨p, vp, O, h, hO⟩, hG, hm⟩ := h
  exact ⟨p, ⟨vp, O, h, hO⟩, hG, hm⟩
theorem LinkQ.toZ {w : World} {l p c : Nat} {Z : Nat → Prop} {s : ByteArray} {n : Nat} {L : Link.St} (h : LinkQ w l p Z s n L c) : LinkZ w l Z s n L c := by
  obtain ⟨⟨vp, O, h, hO⟩, hG, hm⟩ := h
  exact ⟨⟨p, vp, O, h, hO⟩, hG, hm⟩
theorem LinkQ.mono {w : World} {l p c c' : Nat} {Z Z' : Nat → Prop} {s : ByteArray} {n : Nat} {L : Link.St} (h : LinkQ w l p Z s n L c) (hZ : ∀ k, Z k → Z' k) (hc : c ≤ c') : LinkQ w l p Z' s n L c' := by
  obtain ⟨⟨vp, O, h, hO⟩, hG, hm⟩ := h
  exact ⟨⟨vp, O, h, fun k hk => hZ k (hO k hk)⟩, hG, Nat.le_trans hm hc⟩
theorem LinkQ.only {w w' : World} {l p c : Nat} {Z S : Nat → Prop} {s : ByteArray} {n : Nat} {L : Link.St} (h : LinkQ w l p Z s n L c) (ho : Only S w w') (hd : ∀ k, Z k → ¬ S k) : LinkQ w' l p Z s n L c := by
  obtain ⟨⟨vp, O, h, hO⟩, hG, hm⟩ := h
  exact ⟨⟨vp, O, h.only ho (hd l (hO l (Or.inl rfl))) (fun k hk => hd k (hO k (Or.inr (Or.inl hk)))) (fun k hk => hd k (hO k (Or.inr (Or.inr hk)))), hO⟩, hG, hm⟩
theorem LinkQ.below {w w' : World} {l p c : Nat} {Z : Nat → Prop} {s : ByteArray} {n : Nat} {L : Link.St} (h : LinkQ w l p Z s n L c) (hb : Below w.heap.size w w') : LinkQ w' l p Z s n L c := by
  obtain ⟨⟨vp, O, h, hO⟩, hG, hm⟩ := h
  exact ⟨⟨vp, O, h.below hb, hO⟩, hG, hm⟩
theorem LinkQ.cell {w : World} {l p c : Nat} {Z : Nat → Prop} {s : ByteArray} {n : Nat} {L : Link.St} (h : LinkQ w l p Z s n L c) : w.cell? ⟨l, 0, none⟩ = some (.pointer (some ⟨p, 0, none⟩)) := by
  obtain ⟨⟨vp, O, h, hO⟩, hG, hm⟩ := h
  exact h.row.cell 0
theorem LinkQ.bound {w : World} {l p c : Nat} {Z : Nat → Prop} {s : ByteArray} {n : Nat} {L : Link.St} (h : LinkQ w l p Z s n L c) (F : Fits s n) : LinkQ w l p (fun k => Z k ∧ k < w.heap.size) s n L c := by
  obtain ⟨⟨vp, O, h, hO⟩, hG, hm⟩ := h
  exact ⟨⟨vp, O, h, fun k hk => ⟨hO k hk, by
    rcases hk with rfl | hk | hk
    · exact h.row.lt
    · exact h.recv.lt k hk
    · exact h.pcs.own_lt strCells_len (by omega) (by rw [linesTo_len]; exact (Chunk.lt_cuts F.h3).2 (by have := F.h1; omega)) k hk⟩⟩, hG, hm⟩
theorem LinkQ.recv {w : World} {l p c : Nat} {Z : Nat → Prop} {s : ByteArray} {n : Nat} {L : Link.St} (h : LinkQ w l p Z s n L c) : ∃ O, RecvIs w p O 0 L.R := by
  obtain ⟨⟨vp, O, h, hO⟩, hG, hm⟩ := h
  exact ⟨O, h.recv⟩
theorem link_stepQ (w : World) (l p : Nat) (Z : Nat → Prop) (s : ByteArray) (n c : Nat) (L : Link.St) (h : LinkQ w l p Z s n L c) (F : Fits s n) (hc : c ≤ 900000) (v : Link.Stp) (hv : StpOk v) :
    Calls Try.prog 13 #[.pointer (some ⟨l, 0, none⟩), .agg #[.int .i64 v.k, .int .i64 v.N, .int .u64 v.m]] w fun e w' => (∃ r, e = .returned r ∧ ((Link.step s n L v.k v.N v.m).2 = true → r = .nilIface) ∧ ((Link.step s n L v.k v.N v.m).2 = false → ∃ x, r = errN x)) ∧ LinkQ w' l p (fun k => Z k ∨ w.heap.size ≤ k) s n (Link.step s n L v.k v.N v.m).1 (c + 1) ∧ Only Z w w' := by
  obtain ⟨⟨vp, O, h, hO⟩, hG, hm⟩ := h
  refine (link_step w l p vp O s n L h hG F.h1 F.h2 F.h3 F.h4 (by omega) v.N hv.2.1 v.m hv.2.2 v.k).mono ?_
  rintro e w' ⟨hr, O', h', ho, hO'⟩
  obtain ⟨g1, g2⟩ := Link.step_good s n L v.k v.N v.m hG F.h1 F.h2 (by omega)
  refine ⟨hr, ⟨⟨vp, O', h', fun k hk => ?_⟩, g1, by omega⟩, ho.mono (fun k _ hk => hO k (by rcases hk with hk | hk; exact Or.inl hk; exact Or.inr (Or.inl hk)))⟩
  rcases hk with hk | hk | hk
  · exact Or.inl (hO k (Or.inl hk))
  · rcases hO' k hk with hk | hk
    · exact Or.inl (hO k (Or.inr (Or.inl hk)))
    · exact Or.inr hk
  · exact Or.inl (hO k (Or.inr (Or.inr hk)))
set_option maxHeartbeats 4000000 in
set_option maxRecDepth 20000 in
theorem link_runQ (w : World) (l p : Nat) (Z : Nat → Prop) (s : ByteArray) (n c : Nat) (L : Link.St) (h : LinkQ w l p Z s n L c) (F : Fits s n) (v : Value) (T : List Link.Stp) (hv : StepsIs w v T) (hT : ∀ x ∈ T, StpOk x) (hvZ : 0 < T.length → ∀ k, v.ownBlock = some k → ¬ Z k) (hl : T.length ≤ 1000) (hc : c ≤ 800000) :
    Calls Try.prog 17 #[.pointer (some ⟨l, 0, none⟩), v] w fun e w' => e = .returned (.int .i64 (goods s n L T)) ∧ LinkQ w' l p (fun k => Z k ∨ w.heap.size ≤ k) s n (steps s n L T) (c + T.length) ∧ Only Z w w' := by
  obtain ⟨o, cp, rfl, hca, hcell⟩ := hv.at stepCells_len
  replace hcell := Lib.hid hcell
  replace hT := Lib.hid hT
  replace h := Lib.hid h
  clear hv hca
  go_enter Try.func17, Try.ntmps17
  go_wp2
  go_loopw [5, 10] (fun m i wr => ∃ k : Nat, k ≤ T.length ∧ i = .int .i64 k ∧ m = .int .i64 (goods s n L (T.take k)) ∧ LinkQ wr l p (fun k => Z k ∨ w.heap.size ≤ k) s n (steps s n L (T.take k)) (c + k) ∧ Only Z w wr) (fun _ i _ => T.length - (intOf i).toNat)
  case atStart => exact ⟨0, by omega, rfl, rfl, by first | exact h.out.mono (fun k hk => Or.inl hk) (by omega) | exact (h.out.below (by (repeat (first | exact Below.refl _ _ | assumption | refine bal ?_ _ | refine bdr ?_ | refine bdn ?_ _ | refine bst ?_ (by first | assumption | exact Nat.le_refl _ | omega) _ | refine bch ?_ (by assumption))))).mono (fun k hk => Or.inl hk) (by omega), by first | exact Only.refl _ _ | exact (Only.refl _ _).drew⟩
  case round =>
    obtain ⟨k, hk, rfl, rfl, hL, hon⟩ := hrel
    have hgl := goods_le s n (T.take k) L
    rw [List.length_take] at hgl
    have hsz := hon.size
    by_cases hlt : k < T.length
    · obtain ⟨b, off, rfl, hb, hcl⟩ := hcell.out k hlt
      obtain ⟨k0, k1, k2⟩ := step_cells hcl
      have hbZ : ¬ Z b := hvZ (by omega) b rfl
      replace k0 := hon.cell k0 hbZ
      replace k1 := hon.cell k1 hbZ
      replace k2 := hon.cell k2 hbZ
      have htk : T.take (k + 1) = T.take k ++ [T[k]] := List.take_succ_eq_append_getElem hlt
      have hok := hT.out _ (List.getElem_mem hlt)
      have e1 := Lib.hid (steps_snoc s n L (T.take k) T[k])
      have e2 := Lib.hid (goods_snoc s n L (T.take k) T[k])
      rw [← htk] at e1 e2
      have hst := Lib.hid (link_stepQ (wr.alloc (.cells #[.int .i64 T[k].k, .int .i64 T[k].N, .int .u64 T[k].m] 37)) l p _ s n (c + k) _ (hL.below (bal (Below.refl _ _) _)) F (by omega) T[k] hok)
      have hba : Below wr.heap.size wr (wr.alloc (.cells #[.int .i64 T[k].k, .int .i64 T[k].N, .int .u64 T[k].m] 37)) := bal (Below.refl _ _) _
      generalize T[k] = x at *
      generalize steps s n L (T.take k) = K at *
      generalize goods s n L (T.take k) = G at *
      generalize hT1 : T.take (k + 1) = T1 at *
      replace hT1 := Lib.hid hT1
      clear hcl htk
      replace hok := Lib.hid hok
      replace hL := Lib.hid hL
      go_wp2_with fail
      refine hst.out.mono ?_
      rintro e w2 ⟨⟨r, rfl, hr1, hr2⟩, hL2, ho2⟩
      have hon2 : Only Z w w2 := (hon.chain hba).step ho2 (fun j hj => by rcases hj with hj | hj; exact Or.inl hj; exact Or.inr hj)
      have hL3 : LinkQ w2 l p (fun k => Z k ∨ w.heap.size ≤ k) s n (Link.step s n K x.k x.N x.m).1 (c + (k + 1)) := hL2.mono (fun j hj => by
        rcases hj with hj | hj
        · exact hj
        · exact Or.inr (Nat.le_trans hsz (Nat.le_trans hba.size hj))) (by omega)
      cases hb2 : (Link.step s n K x.k x.N x.m).2 with
      | true =>
        obtain rfl := hr1 hb2
        rw [hb2] at e2
        replace hb2 := Lib.hid hb2
        clear hr1 hr2 hL2
        replace hL3 := Lib.hid hL3
        go_wp2
        go_roundw
        case rel => exact ⟨k + 1, by omega, by go_num, by rw [hT1.out, e2.out]; simp, by rw [hT1.out, e1.out]; exact hL3.out, hon2⟩
        case measure => simp [intOf]; omega
      | false =>
        obtain ⟨y, rfl⟩ := hr2 hb2
        rw [hb2] at e2
        replace hb2 := Lib.hid hb2
        clear hr1 hr2 hL2
        replace hL3 := Lib.hid hL3
        unfold errN
        go_wp2
        go_roundw
        case rel => exact ⟨k + 1, by omega, by go_num, by rw [hT1.out, e2.out]; simp, by rw [hT1.out, e1.out]; exact hL3.out, hon2⟩
        case measure => simp [intOf]; omega
    · obtain rfl : k = T.length := by omega
      rw [List.take_of_length_le (Nat.le_refl _)] at hL ⊢
      replace hL := Lib.hid hL
      go_wp2
      go_ret
      exact ⟨rfl, hL.out, hon⟩
theorem run_to (w : World) (o : Option Addr) (n cap q : Nat) (hq : q ≤ n) (h : n ≤ cap) (hm : cap ≤ maxLen) : (Instr.slice 22 (.slice o n cap) none (some (.int .i64 q)) none).run Try.prog w = .ok (.slice o q cap) w := by
  unfold maxLen at hm
  have e1 : (q : Int) ≤ (cap : Int) := by omega
  have e2 : q ≤ cap := by omega
  go_simp
theorem run_on (w : World) (b off n cap q : Nat) (hq : q ≤ n) (h : n ≤ cap) (hm : cap ≤ maxLen) : (Instr.slice 22 (.slice (some ⟨b, off, none⟩) n cap) (some (.int .i64 q)) none none).run Try.prog w = .ok (.slice (some (if cap = q then ⟨b, off, none⟩ else ⟨b, off + q * 3, none⟩)) (n - q) (cap - q)) w := by
  unfold maxLen at hm
  by_cases h1 : cap = q
  · subst h1
    have e : n = cap := by omega
    subst e
    go_simp
  · have e1 : q ≤ cap := by omega
    have e2 : (q : Int) ≤ (n : Int) := by omega
    go_simp
theorem run_zero (o : Option Addr) (cp : Nat) : ∃ b, (∀ W, (Instr.slice 22 (.slice o 0 cp) (some (.int .i64 ((0 : Nat) : Int))) none none).run Try.prog W = .ok b W) ∧ ∃ o' c', b = .slice o' 0 c' := by
  cases o with
  | none => exact ⟨.slice none 0 cp, fun W => by go_simp, _, _, rfl⟩
  | some a => exact ⟨.slice (some a) 0 cp, fun W => by go_simp, _, _, rfl⟩
/-- Both parts of a list of steps. -/
theorem two_parts {w : World} {v : Value} {T : List Link.Stp} (hv : StepsIs w v T) (h0 : 0 < T.length) (hl : T.length ≤ 1000) (q : Nat) (hq : q ≤ T.length) : ∃ a b, (∀ W, (Instr.slice 22 v none (some (.int .i64 q)) none).run Try.prog W = .ok a W) ∧ (∀ W, (Instr.slice 22 v (some (.int .i64 q)) none none).run Try.prog W = .ok b W) ∧ StepsIs w a (T.take q) ∧ StepsIs w b (T.drop q) ∧ (∀ k, a.ownBlock = some k → k < w.heap.size) ∧ (∀ k, b.ownBlock = some k → k < w.heap.size) := by
  have hv' := hv
  obtain ⟨o, cp, rfl, hca, hcell⟩ := hv.at stepCells_len
  obtain ⟨h1, h2⟩ := hca h0
  obtain ⟨b, off, rfl, hb, _⟩ := hcell 0 h0
  have hbw := hb (by omega)
  refine ⟨_, _, fun W => run_to W _ T.length cp q hq h1 h2, fun W => run_on W b off T.length cp q hq h1 h2, hv'.take stepCells_len q hq, ?_, fun k hk => ?_, fun k hk => ?_⟩
  · by_cases hc : cp = q
    · rw [if_pos hc]
      have e : T.drop q = [] := List.drop_of_length_le (by omega)
      unfold StepsIs
      rw [e, show T.length - q = 0 by omega]
      exact ⟨rfl, .inl ⟨rfl, _, _, rfl⟩⟩
    · rw [if_neg hc]
      exact hv'.drop stepCells_len q hq _ _ rfl (by omega) (by omega)
  · have : b = k := by simpa [Value.ownBlock] using hk
    omega
  · have : b = k := by
      by_cases hc : cp = q
      · rw [if_pos hc] at hk; simpa [Value.ownBlock] using hk
      · rw [if_neg hc] at hk; simpa [Value.ownBlock] using hk
    omega
theorem parts_goods (s : ByteArray) (n : Nat) (L : Link.St) (T : List Link.Stp) (q : Nat) : goods s n L T = goods s n L (T.take q) + goods s n (steps s n L (T.take q)) (T.drop q) ∧ steps s n L T = steps s n (steps s n L (T.take q)) (T.drop q) := by
  have h := Link.run_append s n (T.take q) (T.drop q) L
  rw [List.take_append_drop] at h
  unfold goods steps
  rw [h]
  exact ⟨rfl, rfl⟩
set_option maxHeartbeats 8000000 in
set_option maxRecDepth 20000 in
theorem parts_main (a0 : ByteArray) (a1 : Int) (v2 : Value) (T : List Link.Stp) (a3 : Int) (w : World) (w0 : a0.size ≤ 140737488351232) (hT : StepsIs w v2 T) (hok : ∀ x ∈ T, StpOk x) (h1 : a0.size ≠ 0) (h2 : a0.size ≤ 600) (h3 : T.length ≤ 60)
    (a b : Value) (at_ : Nat) (hat : at_ = pickN a3 (T.length + 1)) (ra : ∀ W, (Instr.slice 22 v2 none (some (.int .i64 at_)) none).run Try.prog W = .ok a W) (rb : ∀ W, (Instr.slice 22 v2 (some (.int .i64 at_)) none none).run Try.prog W = .ok b W) (ha : StepsIs w a (T.take at_)) (hb0 : StepsIs w b (T.drop at_)) (hav : 0 < (T.take at_).length → ∀ k, a.ownBlock = some k → k < w.heap.size) (hbv : 0 < (T.drop at_).length → ∀ k, b.ownBlock = some k → k < w.heap.size) (hvv : 0 < T.length → ∀ k, v2.ownBlock = some k → k < w.heap.size) (hlen : ∃ o c, v2 = .slice o T.length c) :
    Calls Try.prog 7 #[.string a0, .int .i64 a1, v2, .int .i64 a3] w fun e w' => e = .returned (.bool true) ∧ Below w.heap.size w w' := by
  have hLk := Lib.hid (linked w)
  have hSh := Lib.hid (fun W (hW : Below w.heap.size w W) => keep_short W a0 v2 T (hT.below (by omega) hW) w0 (by omega))
  rw [decide_eq_true (show a0.size ≠ 0 ∧ a0.size ≤ 600 ∧ T.length ≤ 60 from ⟨h1, h2, h3⟩)] at hSh
  have hSt := Lib.hid (fun W => keep_strung W a0 a1 (.slice none 0 0) [] (ListIs.nil _ _ _) (fun x hx => by cases hx) (by simp) h1 (by omega))
  have hp := pickN_lt a1 64 (by omega)
  have F : Fits a0 (1 + pickN a1 64) := ⟨h1, by omega, by omega, by omega⟩
  have hpk := Lib.hid (fun W => keep_pick a3 ((T.length : Int) + 1) (T.length + 1) W (by omega) (by omega) (by omega))
  rw [← hat] at hpk
  have hat2 : at_ ≤ T.length := by have := pickN_lt a3 (T.length + 1) (by omega); omega
  generalize 1 + pickN a1 64 = n at *
  obtain ⟨g1, g2⟩ := parts_goods a0 n Link.new T at_
  have hle1 := goods_le a0 n (T.take at_) Link.new
  have hle2 := goods_le a0 n (T.drop at_) (steps a0 n Link.new (T.take at_))
  rw [List.length_take] at hle1
  rw [List.length_drop] at hle2
  have hl1 : (T.take at_).length ≤ 60 := by rw [List.length_take]; omega
  have hl2 : (T.drop at_).length ≤ 60 := by rw [List.length_drop]; omega
  have hok1 : ∀ x ∈ T.take at_, StpOk x := fun x hx => hok x (List.mem_of_mem_take hx)
  have hok2 : ∀ x ∈ T.drop at_, StpOk x := fun x hx => hok x (List.mem_of_mem_drop hx)
  generalize hT1 : T.take at_ = T1 at *
  generalize hT2 : T.drop at_ = T2 at *
  replace hT1 := Lib.hid hT1
  replace hT2 := Lib.hid hT2
  replace hat := Lib.hid hat
  replace hok := Lib.hid hok
  replace hok1 := Lib.hid hok1
  replace hok2 := Lib.hid hok2
  replace hav := Lib.hid hav
  replace hbv := Lib.hid hbv
  replace hvv := Lib.hid hvv
  replace g1 := Lib.hid g1
  replace g2 := Lib.hid g2
  have ha' := Lib.hid ha
  have hb' := Lib.hid hb0
  have hT' := Lib.hid hT
  clear hT ha hb0
  obtain ⟨o, cp, rfl⟩ := hlen
  go_enter Try.func7, Try.ntmps7
  go_wp2_with fail
  refine hLk.out.mono ?_
  rintro e wa ⟨rfl, hba⟩
  go_wp2_with fail
  refine (hSh.out _ hba).mono ?_
  rintro e wb ⟨rfl, hbb⟩
  go_wp2_with fail
  refine (hpk.out _).mono ?_
  rintro e w' ⟨rfl, rfl⟩
  go_wp2_with fail
  refine (hSt.out _).mono ?_
  rintro e wc ⟨⟨la, rfl, hLa⟩, hbc⟩
  go_wp2_with fail
  refine (hSt.out _).mono ?_
  rintro e wd ⟨⟨lb, rfl, hLb⟩, hbd⟩
  have s1 := hba.size
  have s2 := hbb.size
  have s3 := hbc.size
  have s4 := hbd.size
  have hwb := bch hba hbb
  have hwd := bch (bch hwb hbc) hbd
  obtain ⟨pa, hQa⟩ := LinkQ.of ((hLa.bound F).below hbd)
  obtain ⟨pb, hQb⟩ := LinkQ.of (hLb.bound F)
  replace hQa : LinkQ wd la pa (fun k => wb.heap.size ≤ k ∧ k < wc.heap.size) a0 n Link.new 0 := hQa
  replace hQb : LinkQ wd lb pb (fun k => wc.heap.size ≤ k ∧ k < wd.heap.size) a0 n Link.new 0 := hQb
  have ca := hQa.cell
  have cb := hQb.cell
  clear hLa hLb
  replace hQa := Lib.hid hQa
  replace hQb := Lib.hid hQb
  generalize hG : goods a0 n Link.new T = G at *
  generalize hG1 : goods a0 n Link.new T1 = G1 at *
  generalize hG2 : goods a0 n (steps a0 n Link.new T1) T2 = G2 at *
  have hsum : (G1 : Int) + (G2 : Int) = (G : Int) := by have := g1.out; omega
  have hsumw : IntKind.i64.wrap ((G1 : Int) + (G2 : Int)) = (G : Int) := by rw [hsum, IntKind.wrap_i64]; have := g1.out; omega
  have hGw : IntKind.i64.wrap (G : Int) = (G : Int) := by rw [IntKind.wrap_i64]; have := g1.out; omega
  replace hG := Lib.hid hG
  replace hG1 := Lib.hid hG1
  replace hG2 := Lib.hid hG2
  go_wp2_with fail
  have hS0 : TwoV ⟨la, 0, none⟩ (.pointer (some ⟨pa, 0, none⟩)) ⟨lb, 0, none⟩ (.pointer (some ⟨pb, 0, none⟩)) wd.drew := ⟨ca, cb, trivial⟩
  (refine wp_region_held_drew (S := TwoV ⟨la, 0, none⟩ (.pointer (some ⟨pa, 0, none⟩)) ⟨lb, 0, none⟩ (.pointer (some ⟨pb, 0, none⟩))) (by kernel_rfl) ?_ (fun hHeld => ?_); ((try dsimp only); exact hS0))
  (refine held_take (i := 0) (v := ?_) rfl (by kernel_rfl) (by kernel_rfl) (by kernel_rfl) (fun _ _ _ h => h) (by kernel_rfl) (by assumption) ?_ ?_; rotate_left; (focus (intro w hSw; (obtain ⟨hSw1, hSw2, hSw3⟩ := hSw); (try dsimp only at hSw1 hSw2); go_simp; (try with_reducible rfl); done)); (simp only [Act.put, List.setIfInBounds_toArray, List.set_cons_zero, List.set_cons_succ]); refine held_take (i := 1) (v := ?_) rfl (by kernel_rfl) (by kernel_rfl) (by kernel_rfl) (fun _ _ _ h => h) (by kernel_rfl) (by assumption) ?_ ?_; rotate_left; (focus (intro w hSw; (obtain ⟨hSw1, hSw2, hSw3⟩ := hSw); (try dsimp only at hSw1 hSw2); go_simp; (try with_reducible rfl); done)); (simp only [Act.put, List.setIfInBounds_toArray, List.set_cons_zero, List.set_cons_succ]); refine held_take (i := 3) (v := ?_) rfl (by kernel_rfl) (by kernel_rfl) (by kernel_rfl) (fun _ _ _ h => h) (by kernel_rfl) (by assumption) ?_ ?_; rotate_left; (focus (intro w hSw; (obtain ⟨hSw1, hSw2, hSw3⟩ := hSw); (try dsimp only at hSw1 hSw2); go_simp; (try with_reducible rfl); done)); (simp only [Act.put, List.setIfInBounds_toArray, List.set_cons_zero, List.set_cons_succ]); refine held_take (i := 4) (v := ?_) rfl (by kernel_rfl) (by kernel_rfl) (by kernel_rfl) (fun _ _ _ h => h) (by kernel_rfl) (by assumption) ?_ ?_; rotate_left; (focus (intro w hSw; (obtain ⟨hSw1, hSw2, hSw3⟩ := hSw); (try dsimp only at hSw1 hSw2); go_simp; (try with_reducible rfl); done)); (simp only [Act.put, List.setIfInBounds_toArray, List.set_cons_zero, List.set_cons_succ]); refine held_take (i := 5) (v := ?_) rfl (by kernel_rfl) (by kernel_rfl) (by kernel_rfl) (fun _ _ _ h => h) (by kernel_rfl) (by assumption) ?_ ?_; rotate_left; (focus (intro w hSw; (obtain ⟨hSw1, hSw2, hSw3⟩ := hSw); (try dsimp only at hSw1 hSw2); go_simp; (try with_reducible rfl); done)); (simp only [Act.put, List.setIfInBounds_toArray, List.set_cons_zero, List.set_cons_succ]); refine held_take (i := 6) (v := ?_) rfl (by kernel_rfl) (by kernel_rfl) (by kernel_rfl) (fun _ _ _ h => h) (by kernel_rfl) (by assumption) ?_ ?_; rotate_left; (focus (intro w hSw; (obtain ⟨hSw1, hSw2, hSw3⟩ := hSw); (try dsimp only at hSw1 hSw2); go_simp; (try with_reducible rfl); done)); (simp only [Act.put, List.setIfInBounds_toArray, List.set_cons_zero, List.set_cons_succ]); refine held_take (i := 8) (v := ?_) rfl (by kernel_rfl) (by kernel_rfl) (by kernel_rfl) (fun _ _ _ h => h) (by kernel_rfl) (by assumption) ?_ ?_; rotate_left; (focus (intro w hSw; (obtain ⟨hSw1, hSw2, hSw3⟩ := hSw); (try dsimp only at hSw1 hSw2); go_simp; (try with_reducible rfl); done)); (simp only [Act.put, List.setIfInBounds_toArray, List.set_cons_zero, List.set_cons_succ]); refine held_take (i := 9) (v := ?_) rfl (by kernel_rfl) (by kernel_rfl) (by kernel_rfl) (fun _ _ _ h => h) (by kernel_rfl) (by assumption) ?_ ?_; rotate_left; (focus (intro w hSw; (obtain ⟨hSw1, hSw2, hSw3⟩ := hSw); (try dsimp only at hSw1 hSw2); go_simp; (try with_reducible rfl); done)); (simp only [Act.put, List.setIfInBounds_toArray, List.set_cons_zero, List.set_cons_succ]); refine held_take (i := 10) (v := ?_) rfl (by kernel_rfl) (by kernel_rfl) (by kernel_rfl) (fun _ _ _ h => h) (by kernel_rfl) (by assumption) ?_ ?_; rotate_left; (focus (intro w hSw; (obtain ⟨hSw1, hSw2, hSw3⟩ := hSw); (try dsimp only at hSw1 hSw2); go_simp; (try with_reducible rfl); done)); (simp only [Act.put, List.setIfInBounds_toArray, List.set_cons_zero, List.set_cons_succ]); refine held_take (i := 11) (v := ?_) rfl (by kernel_rfl) (by kernel_rfl) (by kernel_rfl) (fun _ _ _ h => h) (by kernel_rfl) (by assumption) ?_ ?_; rotate_left; (focus (intro w hSw; (obtain ⟨hSw1, hSw2, hSw3⟩ := hSw); (try dsimp only at hSw1 hSw2); go_simp; (try with_reducible rfl); done)); (simp only [Act.put, List.setIfInBounds_toArray, List.set_cons_zero, List.set_cons_succ]))
  (refine wpAnyH_ready (P := Try.prog) (md := .any) (rs := [2]) (by kernel_rfl) (by simp) ?_; refine held_cons rfl (by kernel_rfl) (fun K hK => ?_) AllReadyH.nil; ((go_simp; refine (link_runQ wd.drew la pa _ a0 n 0 Link.new (hQa.out.below (bdr (Below.refl _ _))) F _ T (hT'.out.below (by omega) (bdr hwd)) hok.out (fun hz k hk => by have := hvv.out hz k hk; show ¬ (wb.heap.size ≤ k ∧ k < wc.heap.size); omega) (by omega) (by omega)).mono ?_; rintro _ we ⟨rfl, hQa1, hoa⟩; have hQb1 := (hQb.out.below (bdr (Below.refl _ _))).only hoa (fun k hk => by show ¬ (wb.heap.size ≤ k ∧ k < wc.heap.size); omega); rw [g2.out] at hQa1; rw [hG.out]; replace hQa1 := Lib.hid hQa1; replace hQb1 := Lib.hid hQb1); refine hK.out _ _ ?_ (fun hHeld => ?_); ((try dsimp only); exact ⟨hQa1.out.cell, hQb1.out.cell, trivial⟩); clear hK K; (try clear hHeld0); (try rename_i hHeld0)))
  have s5 : wd.heap.size ≤ we.heap.size := hoa.size
  have hwe : Below w.heap.size w we := (bdr hwd).trans (hoa.below (B := w.heap.size) (fun k hk => by have := hk.1; omega) (by show w.heap.size ≤ wd.heap.size; omega))
  have hQa2 := Lib.hid ((hQa1.out.bound F).mono (Z' := fun k => (wb.heap.size ≤ k ∧ k < wc.heap.size) ∨ (wd.heap.size ≤ k ∧ k < we.heap.size)) (fun k hk => by
    rcases hk with ⟨hk | hk, h3⟩
    · exact Or.inl hk
    · exact Or.inr ⟨hk, h3⟩) (Nat.le_refl _))
  (refine wpAnyH_ready (P := Try.prog) (md := .any) (rs := [7]) (by kernel_rfl) (by simp) ?_; refine held_cons rfl (by kernel_rfl) (fun K hK => ?_) AllReadyH.nil; ((go_simp; refine (link_runQ we lb pb _ a0 n 0 Link.new hQb1.out F _ T1 (ha'.out.below (by omega) hwe) hok1.out (fun hz k hk => by have := hav.out hz k hk; show ¬ (wc.heap.size ≤ k ∧ k < wd.heap.size); omega) (by omega) (by omega)).mono ?_; rintro _ wf ⟨rfl, hQb2, hob⟩; have hQa3 := hQa2.out.only hob (fun k hk => by show ¬ (wc.heap.size ≤ k ∧ k < wd.heap.size); omega); rw [hG1.out]; replace hQa3 := Lib.hid hQa3; replace hQb2 := Lib.hid hQb2); refine hK.out _ _ ?_ (fun hHeld => ?_); ((try dsimp only); exact ⟨hQa3.out.cell, hQb2.out.cell, trivial⟩); clear hK K; (try clear hHeld0); (try rename_i hHeld0)))
  have s6 : we.heap.size ≤ wf.heap.size := hob.size
  have hwf : Below w.heap.size w wf := hwe.trans (hob.below (B := w.heap.size) (fun k hk => by have := hk.1; omega) (by omega))
  (refine wpAnyH_ready (P := Try.prog) (md := .any) (rs := [12]) (by kernel_rfl) (by simp) ?_; refine held_cons rfl (by kernel_rfl) (fun K hK => ?_) AllReadyH.nil; ((go_simp; refine (link_runQ wf lb pb _ a0 n _ _ hQb2.out F _ T2 (hb'.out.below (by omega) hwf) hok2.out (fun hz k hk => by have := hbv.out hz k hk; show ¬ ((wc.heap.size ≤ k ∧ k < wd.heap.size) ∨ we.heap.size ≤ k); omega) (by omega) (by omega)).mono ?_; rintro _ wg ⟨rfl, hQb3, hoc⟩; have hQa4 := hQa3.out.only hoc (fun k hk => by show ¬ ((wc.heap.size ≤ k ∧ k < wd.heap.size) ∨ we.heap.size ≤ k); omega); rw [hG2.out]; replace hQa4 := Lib.hid hQa4; replace hQb3 := Lib.hid hQb3); refine hK.out _ _ ?_ (fun hHeld => ?_); ((try dsimp only); exact ⟨hQa4.out.cell, hQb3.out.cell, trivial⟩); clear hK K; (try clear hHeld0); (try rename_i hHeld0)))
  have hwg : Below w.heap.size w wg := hwf.trans (hoc.below (B := w.heap.size) (fun k hk => by rcases hk with hk | hk; have := hk.1; omega; omega) (by omega))
  obtain ⟨Oa, hRa⟩ := hQa4.out.recv
  obtain ⟨Ob, hRb⟩ := hQb3.out.recv
  have hlA := hQa4.out.toZ.len F
  have hOA := Lib.hid (fun W (hW : Below wg.heap.size wg W) => recv_offer W pa 0 Oa _ (hRa.below hW) hlA)
  have hOB := Lib.hid (fun W (hW : Below wg.heap.size wg W) => recv_offer W pb 0 Ob _ (hRb.below hW) hlA)
  have hSA := Lib.hid (fun W (hW : Below wg.heap.size wg W) => recv_safe W pa 0 Oa _ (hRa.below hW))
  have hSB := Lib.hid (fun W (hW : Below wg.heap.size wg W) => recv_safe W pb 0 Ob _ (hRb.below hW))
  have hLA := Lib.hid (fun W (hW : Below wg.heap.size wg W) => link_LeftZ W la _ a0 n _ _ (hQa4.out.below hW).toZ F)
  have hLB := Lib.hid (fun W (hW : Below wg.heap.size wg W) => link_LeftZ W lb _ a0 n _ _ (hQb3.out.below hW).toZ F)
  clear hRa hRb hlA
  generalize Recv.Rec.offer (steps a0 n (steps a0 n Link.new T1) T2).R = fo at *
  generalize (steps a0 n (steps a0 n Link.new T1) T2).R.safe = fs at *
  generalize Link.left a0 n (steps a0 n (steps a0 n Link.new T1) T2) = fl at *
  have qo : ((fo : Int) == (fo : Int)) = true := by simp
  have qs : ((fs : Int) == (fs : Int)) = true := by simp
  have ql : ((fl : Int) == (fl : Int)) = true := by simp
  (refine held_take (i := 13) (v := ?_) rfl (by kernel_rfl) (by kernel_rfl) (by kernel_rfl) (fun _ _ _ h => h) (by kernel_rfl) (by assumption) ?_ ?_; rotate_left; (focus (intro w hSw; (obtain ⟨hSw1, hSw2, hSw3⟩ := hSw); (try dsimp only at hSw1 hSw2); go_simp; (try with_reducible rfl); done)); (simp only [Act.put, List.setIfInBounds_toArray, List.set_cons_zero, List.set_cons_succ]); refine held_take (i := 14) (v := ?_) rfl (by kernel_rfl) (by kernel_rfl) (by kernel_rfl) (fun _ _ _ h => h) (by kernel_rfl) (by assumption) ?_ ?_; rotate_left; (focus (intro w hSw; (obtain ⟨hSw1, hSw2, hSw3⟩ := hSw); (try dsimp only at hSw1 hSw2); go_simp; (try with_reducible rfl); done)); (simp only [Act.put, List.setIfInBounds_toArray, List.set_cons_zero, List.set_cons_succ]); refine held_take (i := 15) (v := ?_) rfl (by kernel_rfl) (by kernel_rfl) (by kernel_rfl) (fun _ _ _ h => h) (by kernel_rfl) (by assumption) ?_ ?_; rotate_left; (focus (intro w hSw; (obtain ⟨hSw1, hSw2, hSw3⟩ := hSw); (try dsimp only at hSw1 hSw2); go_simp; (try with_reducible rfl); done)); (simp only [Act.put, List.setIfInBounds_toArray, List.set_cons_zero, List.set_cons_succ]); refine held_take (i := 16) (v := ?_) rfl (by kernel_rfl) (by kernel_rfl) (by kernel_rfl) (fun _ _ _ h => h) (by kernel_rfl) (by assumption) ?_ ?_; rotate_left; (focus (intro w hSw; (obtain ⟨hSw1, hSw2, hSw3⟩ := hSw); (try dsimp only at hSw1 hSw2); go_simp; (try with_reducible rfl); done)); (simp only [Act.put, List.setIfInBounds_toArray, List.set_cons_zero, List.set_cons_succ]); refine held_take (i := 17) (v := ?_) rfl (by kernel_rfl) (by kernel_rfl) (by kernel_rfl) (fun _ _ _ h => h) (by kernel_rfl) (by assumption) ?_ ?_; rotate_left; (focus (intro w hSw; (obtain ⟨hSw1, hSw2, hSw3⟩ := hSw); (try dsimp only at hSw1 hSw2); go_simp; (try with_reducible rfl); done)); (simp only [Act.put, List.setIfInBounds_toArray, List.set_cons_zero, List.set_cons_succ]); refine held_take (i := 18) (v := ?_) rfl (by kernel_rfl) (by kernel_rfl) (by kernel_rfl) (fun _ _ _ h => h) (by kernel_rfl) (by assumption) ?_ ?_; rotate_left; (focus (intro w hSw; (obtain ⟨hSw1, hSw2, hSw3⟩ := hSw); (try dsimp only at hSw1 hSw2); go_simp; (try with_reducible rfl); done)); (simp only [Act.put, List.setIfInBounds_toArray, List.set_cons_zero, List.set_cons_succ]); refine held_take (i := 19) (v := ?_) rfl (by kernel_rfl) (by kernel_rfl) (by kernel_rfl) (fun _ _ _ h => h) (by kernel_rfl) (by assumption) ?_ ?_; rotate_left; (focus (intro w hSw; (obtain ⟨hSw1, hSw2, hSw3⟩ := hSw); (try dsimp only at hSw1 hSw2); go_simp; (try with_reducible rfl); done)); (simp only [Act.put, List.setIfInBounds_toArray, List.set_cons_zero, List.set_cons_succ]); refine held_take (i := 21) (v := ?_) rfl (by kernel_rfl) (by kernel_rfl) (by kernel_rfl) (fun _ _ _ h => h) (by kernel_rfl) (by assumption) ?_ ?_; rotate_left; (focus (intro w hSw; (obtain ⟨hSw1, hSw2, hSw3⟩ := hSw); (try dsimp only at hSw1 hSw2); go_simp; (try with_reducible rfl); done)); (simp only [Act.put, List.setIfInBounds_toArray, List.set_cons_zero, List.set_cons_succ]); refine held_take (i := 22) (v := ?_) rfl (by kernel_rfl) (by kernel_rfl) (by kernel_rfl) (fun _ _ _ h => h) (by kernel_rfl) (by assumption) ?_ ?_; rotate_left; (focus (intro w hSw; (obtain ⟨hSw1, hSw2, hSw3⟩ := hSw); (try dsimp only at hSw1 hSw2); go_simp; (try with_reducible rfl); done)); (simp only [Act.put, List.setIfInBounds_toArray, List.set_cons_zero, List.set_cons_succ]); refine held_take (i := 23) (v := ?_) rfl (by kernel_rfl) (by kernel_rfl) (by kernel_rfl) (fun _ _ _ h => h) (by kernel_rfl) (by assumption) ?_ ?_; rotate_left; (focus (intro w hSw; (obtain ⟨hSw1, hSw2, hSw3⟩ := hSw); (try dsimp only at hSw1 hSw2); go_simp; (try with_reducible rfl); done)); (simp only [Act.put, List.setIfInBounds_toArray, List.set_cons_zero, List.set_cons_succ]); refine held_take (i := 24) (v := ?_) rfl (by kernel_rfl) (by kernel_rfl) (by kernel_rfl) (fun _ _ _ h => h) (by kernel_rfl) (by assumption) ?_ ?_; rotate_left; (focus (intro w hSw; (obtain ⟨hSw1, hSw2, hSw3⟩ := hSw); (try dsimp only at hSw1 hSw2); go_simp; (try with_reducible rfl); done)); (simp only [Act.put, List.setIfInBounds_toArray, List.set_cons_zero, List.set_cons_succ]))
  (refine wpAnyH_ready (P := Try.prog) (md := .any) (rs := [20]) (by kernel_rfl) (by simp) ?_; refine held_cons rfl (by kernel_rfl) (fun K hK => ?_) AllReadyH.nil; ((go_simp; refine (hOA.out wg (Below.refl _ _)).mono ?_; rintro _ x1 ⟨rfl, b1⟩); refine hK.out _ _ ?_ (fun hHeld => ?_); ((try dsimp only); exact ⟨cell_below b1 hHeld.1, cell_below b1 hHeld.2.1, trivial⟩); clear hK K; (try clear hHeld0); (try rename_i hHeld0)))
  (refine wpAnyH_ready (P := Try.prog) (md := .any) (rs := [25]) (by kernel_rfl) (by simp) ?_; refine held_cons rfl (by kernel_rfl) (fun K hK => ?_) AllReadyH.nil; ((go_simp; refine (hOB.out x1 b1).mono ?_; rintro _ x2 ⟨rfl, b2⟩); refine hK.out _ _ ?_ (fun hHeld => ?_); ((try dsimp only); exact ⟨cell_below b2 hHeld.1, cell_below b2 hHeld.2.1, trivial⟩); clear hK K; (try clear hHeld0); (try rename_i hHeld0)))
  have b12 := bch b1 b2
  (refine held_take (i := 26) (v := ?_) rfl (by kernel_rfl) (by kernel_rfl) (by kernel_rfl) (fun _ _ _ h => h) (by kernel_rfl) (by assumption) ?_ ?_; rotate_left; (focus (intro w hSw; (obtain ⟨hSw1, hSw2, hSw3⟩ := hSw); (try dsimp only at hSw1 hSw2); go_simp; (try with_reducible rfl); done)); (simp only [Act.put, List.setIfInBounds_toArray, List.set_cons_zero, List.set_cons_succ]); refine held_take (i := 27) (v := ?_) rfl (by kernel_rfl) (by kernel_rfl) (by kernel_rfl) (fun _ _ _ h => h) (by kernel_rfl) (by assumption) ?_ ?_; rotate_left; (focus (intro w hSw; (obtain ⟨hSw1, hSw2, hSw3⟩ := hSw); (try dsimp only at hSw1 hSw2); go_simp; (try with_reducible rfl); done)); (simp only [Act.put, List.setIfInBounds_toArray, List.set_cons_zero, List.set_cons_succ]); refine held_take (i := 28) (v := ?_) rfl (by kernel_rfl) (by kernel_rfl) (by kernel_rfl) (fun _ _ _ h => h) (by kernel_rfl) (by assumption) ?_ ?_; rotate_left; (focus (intro w hSw; (obtain ⟨hSw1, hSw2, hSw3⟩ := hSw); (try dsimp only at hSw1 hSw2); go_simp; (try with_reducible rfl); done)); (simp only [Act.put, List.setIfInBounds_toArray, List.set_cons_zero, List.set_cons_succ]); refine held_take (i := 29) (v := ?_) rfl (by kernel_rfl) (by kernel_rfl) (by kernel_rfl) (fun _ _ _ h => h) (by kernel_rfl) (by assumption) ?_ ?_; rotate_left; (focus (intro w hSw; (obtain ⟨hSw1, hSw2, hSw3⟩ := hSw); (try dsimp only at hSw1 hSw2); go_simp; (try with_reducible rfl); done)); (simp only [Act.put, List.setIfInBounds_toArray, List.set_cons_zero, List.set_cons_succ]); refine held_take (i := 30) (v := ?_) rfl (by kernel_rfl) (by kernel_rfl) (by kernel_rfl) (fun _ _ _ h => h) (by kernel_rfl) (by assumption) ?_ ?_; rotate_left; (focus (intro w hSw; (obtain ⟨hSw1, hSw2, hSw3⟩ := hSw); (try dsimp only at hSw1 hSw2); go_simp; (try with_reducible rfl); done)); (simp only [Act.put, List.setIfInBounds_toArray, List.set_cons_zero, List.set_cons_succ]); refine held_take (i := 31) (v := ?_) rfl (by kernel_rfl) (by kernel_rfl) (by kernel_rfl) (fun _ _ _ h => h) (by kernel_rfl) (by assumption) ?_ ?_; rotate_left; (focus (intro w hSw; (obtain ⟨hSw1, hSw2, hSw3⟩ := hSw); (try dsimp only at hSw1 hSw2); go_simp; (try with_reducible rfl); done)); (simp only [Act.put, List.setIfInBounds_toArray, List.set_cons_zero, List.set_cons_succ]); refine held_take (i := 32) (v := ?_) rfl (by kernel_rfl) (by kernel_rfl) (by kernel_rfl) (fun _ _ _ h => h) (by kernel_rfl) (by assumption) ?_ ?_; rotate_left; (focus (intro w hSw; (obtain ⟨hSw1, hSw2, hSw3⟩ := hSw); (try dsimp only at hSw1 hSw2); go_simp; (try with_reducible rfl); done)); (simp only [Act.put, List.setIfInBounds_toArray, List.set_cons_zero, List.set_cons_succ]); refine held_take (i := 34) (v := ?_) rfl (by kernel_rfl) (by kernel_rfl) (by kernel_rfl) (fun _ _ _ h => h) (by kernel_rfl) (by assumption) ?_ ?_; rotate_left; (focus (intro w hSw; (obtain ⟨hSw1, hSw2, hSw3⟩ := hSw); (try dsimp only at hSw1 hSw2); go_simp; (try with_reducible rfl); done)); (simp only [Act.put, List.setIfInBounds_toArray, List.set_cons_zero, List.set_cons_succ]); refine held_take (i := 35) (v := ?_) rfl (by kernel_rfl) (by kernel_rfl) (by kernel_rfl) (fun _ _ _ h => h) (by kernel_rfl) (by assumption) ?_ ?_; rotate_left; (focus (intro w hSw; (obtain ⟨hSw1, hSw2, hSw3⟩ := hSw); (try dsimp only at hSw1 hSw2); go_simp; (try with_reducible rfl); done)); (simp only [Act.put, List.setIfInBounds_toArray, List.set_cons_zero, List.set_cons_succ]); refine held_take (i := 36) (v := ?_) rfl (by kernel_rfl) (by kernel_rfl) (by kernel_rfl) (fun _ _ _ h => h) (by kernel_rfl) (by assumption) ?_ ?_; rotate_left; (focus (intro w hSw; (obtain ⟨hSw1, hSw2, hSw3⟩ := hSw); (try dsimp only at hSw1 hSw2); go_simp; (try with_reducible rfl); done)); (simp only [Act.put, List.setIfInBounds_toArray, List.set_cons_zero, List.set_cons_succ]); refine held_take (i := 37) (v := ?_) rfl (by kernel_rfl) (by kernel_rfl) (by kernel_rfl) (fun _ _ _ h => h) (by kernel_rfl) (by assumption) ?_ ?_; rotate_left; (focus (intro w hSw; (obtain ⟨hSw1, hSw2, hSw3⟩ := hSw); (try dsimp only at hSw1 hSw2); go_simp; (try with_reducible rfl); done)); (simp only [Act.put, List.setIfInBounds_toArray, List.set_cons_zero, List.set_cons_succ]))
  (refine wpAnyH_ready (P := Try.prog) (md := .any) (rs := [33]) (by kernel_rfl) (by simp) ?_; refine held_cons rfl (by kernel_rfl) (fun K hK => ?_) AllReadyH.nil; ((go_simp; refine (hSA.out x2 b12).mono ?_; rintro _ x3 ⟨rfl, b3⟩); refine hK.out _ _ ?_ (fun hHeld => ?_); ((try dsimp only); exact ⟨cell_below b3 hHeld.1, cell_below b3 hHeld.2.1, trivial⟩); clear hK K; (try clear hHeld0); (try rename_i hHeld0)))
  have b13 := bch b12 b3
  (refine wpAnyH_ready (P := Try.prog) (md := .any) (rs := [38]) (by kernel_rfl) (by simp) ?_; refine held_cons rfl (by kernel_rfl) (fun K hK => ?_) AllReadyH.nil; ((go_simp; refine (hSB.out x3 b13).mono ?_; rintro _ x4 ⟨rfl, b4⟩); refine hK.out _ _ ?_ (fun hHeld => ?_); ((try dsimp only); exact ⟨cell_below b4 hHeld.1, cell_below b4 hHeld.2.1, trivial⟩); clear hK K; (try clear hHeld0); (try rename_i hHeld0)))
  have b14 := bch b13 b4
  (refine held_take (i := 39) (v := ?_) rfl (by kernel_rfl) (by kernel_rfl) (by kernel_rfl) (fun _ _ _ h => h) (by kernel_rfl) (by assumption) ?_ ?_; rotate_left; (focus (intro w hSw; (obtain ⟨hSw1, hSw2, hSw3⟩ := hSw); (try dsimp only at hSw1 hSw2); go_simp; (try with_reducible rfl); done)); (simp only [Act.put, List.setIfInBounds_toArray, List.set_cons_zero, List.set_cons_succ]); refine held_take (i := 40) (v := ?_) rfl (by kernel_rfl) (by kernel_rfl) (by kernel_rfl) (fun _ _ _ h => h) (by kernel_rfl) (by assumption) ?_ ?_; rotate_left; (focus (intro w hSw; (obtain ⟨hSw1, hSw2, hSw3⟩ := hSw); (try dsimp only at hSw1 hSw2); go_simp; (try with_reducible rfl); done)); (simp only [Act.put, List.setIfInBounds_toArray, List.set_cons_zero, List.set_cons_succ]); refine held_take (i := 41) (v := ?_) rfl (by kernel_rfl) (by kernel_rfl) (by kernel_rfl) (fun _ _ _ h => h) (by kernel_rfl) (by assumption) ?_ ?_; rotate_left; (focus (intro w hSw; (obtain ⟨hSw1, hSw2, hSw3⟩ := hSw); (try dsimp only at hSw1 hSw2); go_simp; (try with_reducible rfl); done)); (simp only [Act.put, List.setIfInBounds_toArray, List.set_cons_zero, List.set_cons_succ]); refine held_take (i := 42) (v := ?_) rfl (by kernel_rfl) (by kernel_rfl) (by kernel_rfl) (fun _ _ _ h => h) (by kernel_rfl) (by assumption) ?_ ?_; rotate_left; (focus (intro w hSw; (obtain ⟨hSw1, hSw2, hSw3⟩ := hSw); (try dsimp only at hSw1 hSw2); go_simp; (try with_reducible rfl); done)); (simp only [Act.put, List.setIfInBounds_toArray, List.set_cons_zero, List.set_cons_succ]); refine held_take (i := 44) (v := ?_) rfl (by kernel_rfl) (by kernel_rfl) (by kernel_rfl) (fun _ _ _ h => h) (by kernel_rfl) (by assumption) ?_ ?_; rotate_left; (focus (intro w hSw; (obtain ⟨hSw1, hSw2, hSw3⟩ := hSw); (try dsimp only at hSw1 hSw2); go_simp; (try with_reducible rfl); done)); (simp only [Act.put, List.setIfInBounds_toArray, List.set_cons_zero, List.set_cons_succ]))
  (refine wpAnyH_ready (P := Try.prog) (md := .any) (rs := [43]) (by kernel_rfl) (by simp) ?_; refine held_cons rfl (by kernel_rfl) (fun K hK => ?_) AllReadyH.nil; ((go_simp; refine (hLA.out x4 b14).mono ?_; rintro _ x5 ⟨rfl, b5⟩); refine hK.out _ _ ?_ (fun hHeld => ?_); ((try dsimp only); exact ⟨cell_below b5 hHeld.1, cell_below b5 hHeld.2.1, trivial⟩); clear hK K; (try clear hHeld0); (try rename_i hHeld0)))
  have b15 := bch b14 b5
  (refine wpAnyH_ready (P := Try.prog) (md := .any) (rs := [45]) (by kernel_rfl) (by simp) ?_; refine held_cons rfl (by kernel_rfl) (fun K hK => ?_) AllReadyH.nil; ((go_simp; refine (hLB.out x5 b15).mono ?_; rintro _ x6 ⟨rfl, b6⟩); refine hK.out _ _ ?_ (fun hHeld => ?_); ((try dsimp only); exact ⟨cell_below b6 hHeld.1, cell_below b6 hHeld.2.1, trivial⟩); clear hK K; (try clear hHeld0); (try rename_i hHeld0)))
  have b16 := bch b15 b6
  (refine held_take (i := 46) (v := ?_) rfl (by kernel_rfl) (by kernel_rfl) (by kernel_rfl) (fun _ _ _ h => h) (by kernel_rfl) (by assumption) ?_ ?_; rotate_left; (focus (intro w hSw; (obtain ⟨hSw1, hSw2, hSw3⟩ := hSw); (try dsimp only at hSw1 hSw2); go_simp; (try with_reducible rfl); done)); (simp only [Act.put, List.setIfInBounds_toArray, List.set_cons_zero, List.set_cons_succ]); refine held_take (i := 47) (v := ?_) rfl (by kernel_rfl) (by kernel_rfl) (by kernel_rfl) (fun _ _ _ h => h) (by kernel_rfl) (by assumption) ?_ ?_; rotate_left; (focus (intro w hSw; (obtain ⟨hSw1, hSw2, hSw3⟩ := hSw); (try dsimp only at hSw1 hSw2); go_simp; (try with_reducible rfl); done)); (simp only [Act.put, List.setIfInBounds_toArray, List.set_cons_zero, List.set_cons_succ]); refine held_take (i := 48) (v := ?_) rfl (by kernel_rfl) (by kernel_rfl) (by kernel_rfl) (fun _ _ _ h => h) (by kernel_rfl) (by assumption) ?_ ?_; rotate_left; (focus (intro w hSw; (obtain ⟨hSw1, hSw2, hSw3⟩ := hSw); (try dsimp only at hSw1 hSw2); go_simp; (try with_reducible rfl); done)); (simp only [Act.put, List.setIfInBounds_toArray, List.set_cons_zero, List.set_cons_succ]))
  (refine wpAnyH_done (by kernel_rfl) ?_ _)
  go_wp2
  go_ret
  exact ⟨rfl, bch hwg b16⟩
set_option maxHeartbeats 1000000 in
theorem LinkParts_walk (a0 : ByteArray) (a1 : Int) (v2 : Value) (l2 : List StpB) (a3 : Int) (w : World) (w0 : a0.size ≤ 140737488351232) (w1 : (Lit.int .i64 a1).wf = true) (L2 : ListIs stpBCells 3 w v2 l2) (q2 : ∀ x ∈ l2, StpBOk x) (z2 : l2.length ≤ 140737488351232) (w3 : (Lit.int .i64 a3).wf = true) :
    Calls Try.prog 7 #[.string a0, .int .i64 a1, v2, .int .i64 a3] w fun e w' => e = .returned (.bool true) ∧ Below w.heap.size w w' := by
  obtain ⟨hT, hok⟩ := steps_of L2 q2
  have hTl : (l2.map StpB.to).length = l2.length := List.length_map _
  generalize l2.map StpB.to = T at *
  by_cases hsh : a0.size ≠ 0 ∧ a0.size ≤ 600 ∧ T.length ≤ 60
  · obtain ⟨h1, h2, h3⟩ := hsh
    by_cases h0 : T.length = 0
    · have hTn : T = [] := List.eq_nil_of_length_eq_zero h0
      subst hTn
      obtain ⟨o, cp, rfl, _, _⟩ := hT.at stepCells_len
      have hp1 : pickN a3 (([] : List Link.Stp).length + 1) = 0 := by have := pickN_lt a3 1 (by omega); show pickN a3 1 = 0; omega
      obtain ⟨a, ra, ha⟩ : ∃ a, (∀ W, (Instr.slice 22 (.slice o 0 cp) none (some (.int .i64 ((0 : Nat) : Int))) none).run Try.prog W = .ok a W) ∧ ∃ o' c', a = .slice o' 0 c' := ⟨.slice o 0 cp, fun W => by go_simp, _, _, rfl⟩
      obtain ⟨b, rb, hb⟩ : ∃ b, (∀ W, (Instr.slice 22 (.slice o 0 cp) (some (.int .i64 ((0 : Nat) : Int))) none none).run Try.prog W = .ok b W) ∧ ∃ o' c', b = .slice o' 0 c' := run_zero o cp
      obtain ⟨oa', ca', rfl⟩ := ha
      obtain ⟨ob', cb', rfl⟩ := hb
      exact parts_main a0 a1 (.slice o 0 cp) [] a3 w w0 hT hok h1 h2 h3 _ _ 0 hp1.symm ra rb ⟨rfl, .inl ⟨rfl, _, _, rfl⟩⟩ ⟨rfl, .inl ⟨rfl, _, _, rfl⟩⟩ (fun h => absurd h (by simp)) (fun h => absurd h (by simp)) (fun h => absurd h (by simp)) ⟨_, _, rfl⟩
    · obtain ⟨a, b, ra, rb, ha, hb, hav, hbv⟩ := two_parts hT (by omega) (by omega) (pickN a3 (T.length + 1)) (by have := pickN_lt a3 (T.length + 1) (by omega); omega)
      obtain ⟨o, cp, hv, _, _⟩ := hT.at stepCells_len
      exact parts_main a0 a1 v2 T a3 w w0 hT hok h1 h2 h3 a b _ rfl ra rb ha hb (fun _ => hav) (fun _ => hbv) (fun _ => hT.own_lt stepCells_len (by omega) (by omega)) ⟨o, cp, hv⟩
  · have hLk := Lib.hid (linked w)
    have hSh := Lib.hid (fun W (hW : Below w.heap.size w W) => keep_short W a0 v2 T (hT.below (by omega) hW) w0 (by omega))
    rw [decide_eq_false hsh] at hSh
    replace hsh := Lib.hid hsh
    clear hTl hT hok L2 q2
    go_enter Try.func7, Try.ntmps7
    go_wp2_with fail
    refine hLk.out.mono ?_
    rintro e wa ⟨rfl, hba⟩
    go_wp2_with fail
    refine (hSh.out _ hba).mono ?_
    rintro e wb ⟨rfl, hbb⟩
    go_wp2
    go_ret
    exact ⟨rfl, bch hba hbb⟩
end Go.Proofs.Ytnognjjbheoniab
