/- The walk of the law StoreParts. -/
import Derived.Test.YtpmedolndkidcaaDoorWStored
import Derived.Test.YtpmedolndkidcaaDoorWConcatWr
namespace Go.Proofs.YtpmedolndkidcaaDoor
open Go.RowKit
set_option linter.unusedVariables false
set_option linter.unusedSimpArgs false
/-- Two lists of writes in a slice of slices. -/
theorem parts2 {w : World} {va vb : Value} {a b : List WrB} (ha : WrsIs w va a) (hb : WrsIs w vb b) (t : TypeId) : Parts_wr (w.alloc (.cells #[va, vb] t)) (.slice (some ⟨w.heap.size, 0, none⟩) 2 2) [va, vb] [a, b] where
  at_ := ListIs.of_alloc (f := fun u : Value => [u]) w t [va, vb] #[va, vb] rfl (fun _ => rfl) (by simp [maxLen]) 2 rfl
  len := rfl
  each := fun k h h2 => by
    match k, h, h2 with
    | 0, _, _ => exact ListIs.below ha (by omega) (bal (Below.refl _ _) _)
    | 1, _, _ => exact ListIs.below hb (by omega) (bal (Below.refl _ _) _)
theorem celL_of {w : World} {base base' : Nat} {v : Value} {L : List CelB} (h : w.ownsRow base 32 5 v L.length (L.flatMap celCells)) (hs : ∀ x ∈ L, w.ownsRow base' 9 1 (.slice x.la x.ln x.lc) x.cel.val.list.length (x.cel.val.list.flatMap strCells)) : CelL w v L :=
  ⟨ListIs.of_owns h, fun x hx => ListIs.of_owns (hs x hx)⟩
/-- How long lists of cells can be. -/
theorem cells_le {l : List St.W} {C : List St.Cel} (hl : ∀ x ∈ l, St.Good x) (h : St.IsCells C (St.at_ l)) : C.length ≤ l.length ∧ ∀ c ∈ C, c.val.list.length ≤ l.length := by
  constructor
  · have hn : (C.map (·.key)).Nodup := by
      rw [List.Nodup, List.pairwise_map]
      exact h.1.imp fun hab e => by rw [e, St.lt_irrefl] at hab; cases hab
    have hs : (C.map (·.key)) ⊆ l.map (·.key) := fun k hk => by
      obtain ⟨c, hc, rfl⟩ := List.mem_map.1 hk
      obtain ⟨h1, h2⟩ := (h.2 c).1 hc
      rw [← h2] at h1
      obtain ⟨x, hx, e⟩ := St.at_mem h1
      exact List.mem_map.2 ⟨x, hx, e⟩
    have := hn.length_le_of_subset hs
    simpa using this
  · intro c hc
    rw [← ((h.2 c).1 hc).2]
    exact (St.at_fits l hl c.key).len
theorem good_sws {l : List WrB} (h : ∀ x ∈ l, Right_ x) : ∀ x ∈ l.map WrB.sw, St.Good x := fun x hx => by
  obtain ⟨y, hy, rfl⟩ := List.mem_map.1 hx
  exact good_sw (h y hy)
theorem celB_le {l : List WrB} {L : List CelB} (hl : ∀ x ∈ l, Right_ x) (hn : l.length ≤ 1000) (h : St.IsCells (L.map CelB.cel) (St.at_ (l.map WrB.sw))) : L.length ≤ 1000 ∧ ∀ x ∈ L, x.cel.val.list.length ≤ 1000 := by
  obtain ⟨h1, h2⟩ := cells_le (good_sws hl) h
  rw [List.length_map, List.length_map] at h1
  refine ⟨by omega, fun x hx => ?_⟩
  have := h2 _ (List.mem_map.2 ⟨x, hx, rfl⟩)
  rw [List.length_map] at this
  omega
/-- Writes done in a store, of a list that lies beside it. -/
def RunP (w0 : World) (base : Nat) (l : List WrB) (p b k : Nat) (wr : World) : Prop := ∃ f, StoreIs wr base p b k f ∧ (∀ s, vals f s = St.at_ ((l.take k).map WrB.sw) s) ∧ (∀ j, Mine b f j → j = b ∨ w0.heap.size ≤ j) ∧ Only (fun j => j = b) w0 wr
theorem runP_step {w0 w2 w' : World} {base p b k : Nat} {l : List WrB} {f : ByteArray → Option Slot} (hk : k < l.length) (hS : StoreIs w2 base p b k f) (hv : ∀ s, vals f s = St.at_ ((l.take k).map WrB.sw) s) (hm : ∀ j, Mine b f j → j = b ∨ w0.heap.size ≤ j) (ho : Only (fun j => j = b) w0 w2) (hd : Did l[k] w2 base p b k f w') : RunP w0 base l p b (k + 1) w' := by
  obtain ⟨f', h1, h2, h3, h4⟩ := hd
  refine ⟨f', h1, fun s => ?_, fun j hj => ?_, ho.step h3 hm⟩
  · rw [h2, List.take_succ_eq_append_getElem hk, List.map_append, List.map_singleton, St.at_snoc, hv]
    rfl
  · rcases h4 j hj with h | h
    · exact hm j h
    · exact .inr (Nat.le_trans ho.size h)
set_option maxHeartbeats 8000000 in
set_option maxRecDepth 20000 in
theorem StoreParts_walk (va : Value) (a : List WrB) (vb : Value) (b : List WrB) (w : World) (ha : ListIs wrBCells 6 w va a) (qa : ∀ x ∈ a, WrBOk x) (za : a.length ≤ 140737488351232) (hb : ListIs wrBCells 6 w vb b) (qb : ∀ x ∈ b, WrBOk x) (zb : b.length ≤ 140737488351232) (hL : Laid w) :
    Calls Tryd.prog 7 #[va, vb] w fun e w' => e = .returned (.bool true) ∧ Below w.heap.size w w' := by
  have hSt := Lib.hid keep_stored
  have hRa := Lib.hid (fun W (hW : Below w.heap.size w W) => keep_right va a W (ListIs.below ha (by omega) hW) za)
  have hRb := Lib.hid (fun W (hW : Below w.heap.size w W) => keep_right vb b W (ListIs.below hb (by omega) hW) zb)
  clear ha hb qa qb hL
  have hN := Lib.hid store_new
  go_enter Tryd.func7, Tryd.ntmps7
  go_wp2_with fail
  refine (hSt.out w).mono ?_
  rintro _ w1 ⟨rfl, hb1⟩
  go_wp2_with fail
  refine (hRa.out _ hb1).mono ?_
  rintro _ w2 ⟨ua, A, rfl, hA, hAr, hA60, hb2⟩
  have hbw2 := bch hb1 hb2
  go_wp2_with fail
  refine (hRb.out _ hbw2).mono ?_
  rintro _ w3 ⟨ub, B, rfl, hB, hBr, hB60, hb3⟩
  have hbw3 := bch hbw2 hb3
  obtain ⟨oa, ca, rfl⟩ := owns_slice_ hA
  obtain ⟨ob, cb, rfl⟩ := owns_slice_ hB
  have hA3 : WrsIs w3 _ A := ListIs.of_owns (owns_below hA hb3)
  have hB3 : WrsIs w3 _ B := ListIs.of_owns hB
  clear hA hB hb1 hb2 hb3 hbw2 hRa hRb hSt
  go_wp2_with fail
  refine (hN.out _).mono ?_
  rintro _ w4 ⟨p, b0, rfl, hS0, hp, hb4⟩
  have hbw4 := bch hbw3 hb4
  have hA3o := Lib.hid hA3
  have hB3o := Lib.hid hB3
  replace hA3 := hA3.below hb4
  replace hB3 := hB3.below hb4
  have hAB : ∀ x ∈ A ++ B, Right_ x := fun x hx => by
    rcases List.mem_append.1 hx with hx | hx
    · exact (hAr x hx).1
    · exact (hBr x hx).1
  have hABl : (A ++ B).length ≤ 120 := by rw [List.length_append]; omega
  have hCo := Lib.hid (fun W hA hB => concat_wr _ _ [A, B] _ (parts2 (w := W) (va := .slice oa A.length ca) (vb := .slice ob B.length cb) hA hB 22) (by simp) (by simp only [List.flatten_cons, List.flatten_nil, List.append_nil]; omega))
  go_wp2_with fail
  refine (hCo.out _ hA3 hB3).mono ?_
  rintro _ w5 ⟨⟨v5, rfl, hO5⟩, hb5⟩
  simp only [List.flatten_cons, List.flatten_nil, List.append_nil] at hO5
  replace hb5 := bch (bal (Below.refl w4.heap.size w4) _) hb5
  have hS5 := Lib.hid (hS0.below hb5)
  have hbw5 := bch hbw4 hb5
  have hA5 := Lib.hid (hA3.below hb5)
  have hB5 := Lib.hid (hB3.below hb5)
  have hO5b := map_ne_own hS5.out.map hO5
  obtain ⟨o5, c5, hv5, -, hcell⟩ := ListIs.at (ListIs.of_owns hO5 : WrsIs w5 v5 (A ++ B)) wrBCells_len
  have hne : ∀ k (hk : k < (A ++ B).length) b1 off, o5 = some ⟨b1, off, none⟩ → b1 ≠ b0 := fun k hk b1 off e1 e2 => by
    subst e2; subst e1; subst hv5; exact hO5b rfl
  subst hv5
  generalize hAeq : A ++ B = l at *
  replace hAeq := Lib.hid hAeq
  replace hcell := Lib.hid hcell
  replace hne := Lib.hid hne
  replace hAB := Lib.hid hAB
  have hp5 := hp
  have h3w := hbw3.size
  have hb35 := Lib.hid (bch hb4 hb5)
  have h5s := hb35.out.size
  clear hO5 hO5b hA3 hB3 hS0 hb5 hb4 hbw3 hbw4 hN hAr hBr
  go_wp2
  go_loopw [22] (fun i wr => ∃ k : Nat, k ≤ l.length ∧ i = .int .i64 k ∧ RunP w5 w3.heap.size l p b0 k wr) (fun i _ => l.length - (intOf i).toNat)
  case atStart => exact ⟨0, by omega, rfl, _, hS5.out, fun s => rfl, (fun j hj => by
    rcases hj with rfl | ⟨s, x, hx, -⟩
    · exact .inl rfl
    · cases hx), Only.refl _ _⟩
  case round =>
    obtain ⟨k, hk, rfl, f, hS, hvs, hm, ho⟩ := hrel
    replace hvs := Lib.hid hvs
    replace hm := Lib.hid hm
    by_cases hlt : k < l.length
    · obtain ⟨b1, f1, rfl, hb1', hc1⟩ := hcell.out k hlt
      have hb1' := hb1' (by omega)
      have hbb := hne.out k hlt b1 f1 rfl
      have hcc : ∀ (j : Nat) (u : Value), (wrBCells l[k])[j]? = some u → wr.cell? ⟨b1, f1 + k * 6 + j, none⟩ = some u := fun j u hu => ho.cell (p := ⟨b1, f1 + k * 6 + j, none⟩) (hc1 j u hu) hbb
      have c0 : wr.cell? ⟨b1, f1 + k * 6, none⟩ = _ := hcc 0 _ rfl
      have c1 := hcc 1 _ rfl
      have c2 := hcc 2 _ rfl
      have c3 := hcc 3 _ rfl
      have c4 := hcc 4 _ rfl
      have c5 := hcc 5 _ rfl
      have hx := hAB.out _ (List.getElem_mem hlt)
      obtain ⟨x, hxe⟩ : ∃ x, x = l[k] := ⟨_, rfl⟩
      rw [← hxe] at c0 c1 c2 c3 c4 c5 hx
      have hDo := Lib.hid (fun W (hW : StoreIs W w3.heap.size p b0 k f) => store_do x W w3.heap.size p b0 k f hW hx (by omega))
      have hbw1 : b1 < wr.heap.size := Nat.lt_of_lt_of_le hb1' ho.size
      clear hcc hc1 hbb
      replace hS := Lib.hid hS
      replace ho := Lib.hid ho
      replace hxe := Lib.hid hxe
      replace hx := Lib.hid hx
      go_wp2_with (go_at_call 27; refine (hDo.out _ (hS.out.below (by (repeat (first | exact Below.refl _ _ | assumption | refine bal ?_ _ | refine bdr ?_ | refine bdn ?_ _ | refine bst ?_ (by first | assumption | exact Nat.le_refl _ | omega) _ | refine bch ?_ (by assumption)))))).mono ?_; rintro _ w7 ⟨rfl, hd⟩)
      go_roundw
      case rel =>
        refine ⟨k + 1, by omega, by go_num, ?_⟩
        rw [hxe.out] at hd
        exact runP_step hlt (hS.out.below (by (repeat (first | exact Below.refl _ _ | assumption | refine bal ?_ _ | refine bdr ?_ | refine bdn ?_ _ | refine bst ?_ (by first | assumption | exact Nat.le_refl _ | omega) _ | refine bch ?_ (by assumption))))) hvs.out hm.out (ho.out.chain (by (repeat (first | exact Below.refl _ _ | assumption | refine bal ?_ _ | refine bdr ?_ | refine bdn ?_ _ | refine bst ?_ (by first | assumption | exact Nat.le_refl _ | omega) _ | refine bch ?_ (by assumption))))) hd
      case measure => simp [intOf]; omega
    · obtain rfl : k = l.length := by omega
      rw [List.take_length] at hvs
      have hlo : w3.heap.size ≤ b0 := hS5.out.lo
      have hb3r : Below w3.heap.size w3 wr := hb35.out.trans (ho.below (fun j hj => by rw [hj]; exact hlo) h5s)
      have hbr : Below w.heap.size w wr := hbw5.trans (ho.below (fun j hj => by rw [hj]; omega) (by omega))
      have hAr := Lib.hid (hA3o.out.below hb3r)
      have hBr := Lib.hid (hB3o.out.below hb3r)
      have hS' := Lib.hid hS
      replace hvs := Lib.hid hvs
      clear hS ho hm hb3r hA5 hB5 hS5 hcell hne
      go_wp2_with fail
      refine (hCo.out _ hAr.out hBr.out).mono ?_
      rintro _ w8 ⟨⟨v8, rfl, hO8⟩, hb8⟩
      simp only [List.flatten_cons, List.flatten_nil, List.append_nil] at hO8
      rw [hAeq.out] at hO8
      replace hb8 := bch (bal (Below.refl wr.heap.size wr) _) hb8
      go_wp2_with fail
      refine (store_of v8 l w8 (ListIs.of_owns hO8) hAB.out (by omega)).mono ?_
      rintro _ w9 ⟨v9, L9, rfl, hO9, hS9, hI9, hb9⟩
      replace hb8 := bch hb8 hb9
      clear hO8
      have hC9 := store_cells w9 w3.heap.size p b0 l.length f (hS'.out.below hb8) (by omega)
      replace hO9 := Lib.hid hO9
      replace hS9 := Lib.hid hS9
      replace hI9 := Lib.hid hI9
      replace hC9 := Lib.hid hC9
      clear hb9
      go_wp2_with fail
      refine hC9.out.mono ?_
      rintro _ w10 ⟨v10, L10, rfl, hO10, hS10, hI10, hb10⟩
      have he : L10.map CelB.cel = L9.map CelB.cel := (hI10.congr hvs.out).unique hI9.out
      obtain ⟨hn1, hn2⟩ := celB_le hAB.out (by omega) (hI10.congr hvs.out)
      have hsc := Lib.hid (same_cells v10 v9 L10 L9 w10 (celL_of hO10 hS10) ((celL_of hO9.out hS9.out).below hb10) he hn1 hn2)
      replace hb8 := bch hb8 hb10
      clear hO10 hS10 hI10 hb10 hC9 he hn1 hn2
      go_wp2_with fail
      refine hsc.out.mono ?_
      rintro _ w11 ⟨rfl, hb11⟩
      go_wp2
      go_ret
      exact ⟨rfl, bch hbr (bch hb8 hb11)⟩
end Go.Proofs.YtpmedolndkidcaaDoor
