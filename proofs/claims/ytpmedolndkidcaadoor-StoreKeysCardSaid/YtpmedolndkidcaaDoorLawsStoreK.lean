/- The walk of the law StoreKeys. -/
import Derived.Test.YtpmedolndkidcaaDoorLawsStoreP
import Derived.Test.YtpmedolndkidcaaDoorWConcatC
import Derived.Test.YtpmedolndkidcaaDoorApp
namespace Go.Proofs.YtpmedolndkidcaaDoor
open Go.RowKit
open Go.Sort hiding Below
set_option linter.unusedVariables false
set_option linter.unusedSimpArgs false
set_option maxHeartbeats 1000000 in
theorem keys_less (x y : CelB) (W : World) : Calls Tryd.prog 31 #[.agg (celCells x).toArray, .agg (celCells y).toArray] W fun e w' => e = .returned (.int .i64 (cmpCel x y)) ∧ ∃ q os', w' = grow (W.drewN q) os' := by
  have hc := fun W => Tryd.strings_Compare x.cel.key y.cel.key W
  change ∀ W, Calls Tryd.prog 32 _ _ _ at hc
  unfold celCells
  have hr : Hid (Lib.compareBytes x.cel.key.data.toList y.cel.key.data.toList = cmpCel x y) := Lib.hid rfl
  generalize Lib.compareBytes x.cel.key.data.toList y.cel.key.data.toList = r at hc hr
  replace hc := Lib.hid hc
  go_enter Tryd.func31, Tryd.ntmps31
  go_wp2_with (go_at_call 32; refine (hc.out _).mono ?_; rintro e w' ⟨rfl, rfl⟩)
  go_ret
  exact ⟨ret_int hr.out, 0, _, by rw [alloc_eq_grow, alloc_eq_grow, grow_grow]; rfl⟩
def Part (w : World) (A : List WrB) (key : ByteArray) (k : Nat) (m o : Value) (wr : World) : Prop :=
  wr.ownsRow w.heap.size 36 6 m ((A.take k).filter fun y => decide (y.key = key)).length (((A.take k).filter fun y => decide (y.key = key)).flatMap wrBCells) ∧
  wr.ownsRow w.heap.size 36 6 o ((A.take k).filter fun y => !decide (y.key = key)).length (((A.take k).filter fun y => !decide (y.key = key)).flatMap wrBCells) ∧
  (∀ g, m.ownBlock = some g → o.ownBlock ≠ some g) ∧ Below w.heap.size w wr
theorem part_mine {w wb w5 : World} {A : List WrB} {key : ByteArray} {k : Nat} {m o m5 : Value} (hk : k < A.length) (hy : A[k].key = key)
    (hM : wb.ownsRow w.heap.size 36 6 m ((A.take k).filter fun y => decide (y.key = key)).length (((A.take k).filter fun y => decide (y.key = key)).flatMap wrBCells)) (hO : wb.ownsRow w.heap.size 36 6 o ((A.take k).filter fun y => !decide (y.key = key)).length (((A.take k).filter fun y => !decide (y.key = key)).flatMap wrBCells))
    (hD : ∀ g, m.ownBlock = some g → o.ownBlock ≠ some g) (hb : Below w.heap.size w wb)
    (h5 : w5.ownsRow w.heap.size 36 6 m5 (((A.take k).filter fun y => decide (y.key = key)).length + 1) (((A.take k).filter fun y => decide (y.key = key)).flatMap wrBCells ++ wrBCells A[k])) (hg : wb.grownBy w5 m.ownBlock) (hbk : m5.ownBlock = m.ownBlock ∨ m5.ownBlock = some (wb.heap.size + 1)) (hb5 : Below w.heap.size wb w5) : Part w A key (k + 1) m5 o w5 := by
  have e1 : (A.take (k + 1)).filter (fun y => decide (y.key = key)) = (A.take k).filter (fun y => decide (y.key = key)) ++ [A[k]] := by
    rw [List.take_succ_eq_append_getElem hk, List.filter_append]; simp [hy]
  have e2 : (A.take (k + 1)).filter (fun y => !decide (y.key = key)) = (A.take k).filter (fun y => !decide (y.key = key)) := by
    rw [List.take_succ_eq_append_getElem hk, List.filter_append]; simp [hy]
  unfold Part
  rw [e1, e2]
  refine ⟨by rw [List.length_append, List.flatMap_append]; simpa using h5, hO.kept hg ?_, fun g hg5 e => ?_, hb.trans hb5⟩
  · cases ho : o.ownBlock with
    | none => exact .inl rfl
    | some g => exact .inr fun e => hD g e.symm ho
  · rcases hbk with h | h
    · exact hD g (h ▸ hg5) e
    · rw [h] at hg5
      injection hg5 with hg5
      have := (hO.lt g e).2
      omega
theorem part_other {w wb w5 : World} {A : List WrB} {key : ByteArray} {k : Nat} {m o o5 : Value} (hk : k < A.length) (hy : A[k].key ≠ key)
    (hM : wb.ownsRow w.heap.size 36 6 m ((A.take k).filter fun y => decide (y.key = key)).length (((A.take k).filter fun y => decide (y.key = key)).flatMap wrBCells)) (hO : wb.ownsRow w.heap.size 36 6 o ((A.take k).filter fun y => !decide (y.key = key)).length (((A.take k).filter fun y => !decide (y.key = key)).flatMap wrBCells))
    (hD : ∀ g, m.ownBlock = some g → o.ownBlock ≠ some g) (hb : Below w.heap.size w wb)
    (h5 : w5.ownsRow w.heap.size 36 6 o5 (((A.take k).filter fun y => !decide (y.key = key)).length + 1) (((A.take k).filter fun y => !decide (y.key = key)).flatMap wrBCells ++ wrBCells A[k])) (hg : wb.grownBy w5 o.ownBlock) (hbk : o5.ownBlock = o.ownBlock ∨ o5.ownBlock = some (wb.heap.size + 1)) (hb5 : Below w.heap.size wb w5) : Part w A key (k + 1) m o5 w5 := by
  have e1 : (A.take (k + 1)).filter (fun y => decide (y.key = key)) = (A.take k).filter (fun y => decide (y.key = key)) := by
    rw [List.take_succ_eq_append_getElem hk, List.filter_append]; simp [hy]
  have e2 : (A.take (k + 1)).filter (fun y => !decide (y.key = key)) = (A.take k).filter (fun y => !decide (y.key = key)) ++ [A[k]] := by
    rw [List.take_succ_eq_append_getElem hk, List.filter_append]; simp [hy]
  unfold Part
  rw [e1, e2]
  refine ⟨hM.kept hg ?_, by rw [List.length_append, List.flatMap_append]; simpa using h5, fun g hgm e => ?_, hb.trans hb5⟩
  · cases hm : m.ownBlock with
    | none => exact .inl rfl
    | some g => exact .inr fun e => hD g hm e.symm
  · rcases hbk with h | h
    · exact hD g hgm (h ▸ e)
    · rw [h] at e
      injection e with e
      have := (hM.lt g hgm).2
      omega
theorem parts2c {w : World} {va vb : Value} {a b : List CelB} (ha : ListIs celCells 5 w va a) (hb : ListIs celCells 5 w vb b) (t : TypeId) : Parts_cel (w.alloc (.cells #[va, vb] t)) (.slice (some ⟨w.heap.size, 0, none⟩) 2 2) [va, vb] [a, b] where
  at_ := ListIs.of_alloc (f := fun u : Value => [u]) w t [va, vb] #[va, vb] rfl (fun _ => rfl) (by simp [maxLen]) 2 rfl
  len := rfl
  each := fun k h h2 => by
    match k, h, h2 with
    | 0, _, _ => exact ListIs.below ha (by omega) (bal (Below.refl _ _) _)
    | 1, _, _ => exact ListIs.below hb (by omega) (bal (Below.refl _ _) _)
theorem sw_filter (A : List WrB) (key : ByteArray) : (A.filter fun y => decide (y.key = key)).map WrB.sw = (A.map WrB.sw).filter (fun x => decide (x.key = key)) ∧ (A.filter fun y => !decide (y.key = key)).map WrB.sw = (A.map WrB.sw).filter (fun x => !decide (x.key = key)) := by
  constructor <;> (rw [List.filter_map]; rfl)
set_option maxHeartbeats 20000000 in
set_option maxRecDepth 20000 in
theorem StoreKeys_walk (v : Value) (l : List WrB) (key : ByteArray) (w : World) (hl : ListIs wrBCells 6 w v l) (q : ∀ x ∈ l, WrBOk x) (z : l.length ≤ 140737488351232) (hks : key.size ≤ 140737488351232) (hL : Laid w) :
    Calls Tryd.prog 8 #[v, .string key] w fun e w' => e = .returned (.bool true) ∧ Below w.heap.size w w' := by
  have hSt := Lib.hid keep_stored
  have hRa := Lib.hid (fun W (hW : Below w.heap.size w W) => keep_right v l W (ListIs.below hl (by omega) hW) z)
  clear hl q hL
  go_enter Tryd.func8, Tryd.ntmps8
  go_wp2_with fail
  refine (hSt.out w).mono ?_
  rintro _ w1 ⟨rfl, hb1⟩
  go_wp2_with fail
  refine (hRa.out _ hb1).mono ?_
  rintro _ w2 ⟨ua, A, rfl, hA, hAr0, hA60, hb2⟩
  have hbw2 := bch hb1 hb2
  obtain ⟨oa, ca, rfl⟩ := owns_slice_ hA
  have hA2 : WrsIs w2 _ A := ListIs.of_owns hA
  have hAr := Lib.hid (fun x hx => (hAr0 x hx).1)
  clear hA hb1 hb2 hRa hSt hAr0
  obtain ⟨o1, c1, e1, -, hcA⟩ := ListIs.at hA2 wrBCells_len
  injection e1 with e1 _ e2
  subst e1; subst e2
  replace hcA := Lib.hid hcA
  replace hA2 := Lib.hid hA2
  go_wp2
  go_loopw [5, 6, 22] (fun m o i wr => ∃ k : Nat, k ≤ A.length ∧ i = .int .i64 k ∧ Part w2 A key k m o wr) (fun _ _ i _ => A.length - (intOf i).toNat)
  case atStart => exact ⟨0, by omega, rfl, World.ownsRow_nil _ _ _ _, World.ownsRow_nil _ _ _ _, (fun g h => by cases h), Below.refl _ _⟩
  case round =>
    obtain ⟨k, hk, rfl, hM, hO, hD, hb⟩ := hrel
    have hs := hb.size
    by_cases hlt : k < A.length
    · obtain ⟨b1, f1, rfl, hb1, hc1⟩ := hcA.out k hlt
      have hb1 := hb1 (by omega)
      have hcc : ∀ (j : Nat) (u : Value), (wrBCells A[k])[j]? = some u → wr.cell? ⟨b1, f1 + k * 6 + j, none⟩ = some u := fun j u hu => (hb.cell (p := ⟨b1, f1 + k * 6 + j, none⟩) hb1).trans (hc1 j u hu)
      have hlM := List.length_filter_le (fun y : WrB => decide (y.key = key)) (A.take k)
      have hlO := List.length_filter_le (fun y : WrB => !decide (y.key = key)) (A.take k)
      have hpm := fun (wb w5 : World) (m5 : Value) h => part_mine (w := w2) (wb := wb) (w5 := w5) (m5 := m5) (m := u5) (o := u6) (key := key) hlt h
      have hpo := fun (wb w5 : World) (o5 : Value) h => part_other (w := w2) (wb := wb) (w5 := w5) (o5 := o5) (m := u5) (o := u6) (key := key) hlt h
      have htk : (A.take k).length ≤ 60 := by rw [List.length_take]; omega
      generalize A[k] = x at *
      obtain ⟨yt, yr, yk, ykey, yval, yn⟩ := x
      have c0 : wr.cell? ⟨b1, f1 + k * 6, none⟩ = _ := hcc 0 _ rfl
      have c1 := hcc 1 _ rfl
      have c2 := hcc 2 _ rfl
      have c3 := hcc 3 _ rfl
      have c4 := hcc 4 _ rfl
      have c5 := hcc 5 _ rfl
      (try simp only at c0 c1 c2 c3 c4 c5 hpm hpo)
      have hb1w : b1 < wr.heap.size := Nat.lt_of_lt_of_le hb1 hb.size
      clear hcc hc1
      have hbA : Below w2.heap.size w2 (wr.alloc (Obj.cells #[.int .i64 yt, .int .i64 yr, .int .i64 yk, .string ykey, .string yval, .int .i64 yn] 36)) := bal hb _
      have hsA := hbA.size
      have hMA := hM.alloc (Obj.cells #[.int .i64 yt, .int .i64 yr, .int .i64 yk, .string ykey, .string yval, .int .i64 yn] 36)
      have hOA := hO.alloc (Obj.cells #[.int .i64 yt, .int .i64 yr, .int .i64 yk, .string ykey, .string yval, .int .i64 yn] 36)
      have hgs := Lib.hid (show wr.heap.size + 1 = (wr.alloc (Obj.cells #[.int .i64 yt, .int .i64 yr, .int .i64 yk, .string ykey, .string yval, .int .i64 yn] 36)).heap.size by simp)
      clear hM hO
      generalize hMl : (A.take k).filter (fun y => decide (y.key = key)) = M at *
      generalize hOl : (A.take k).filter (fun y => !decide (y.key = key)) = O at *
      replace hMl := Lib.hid hMl
      replace hOl := Lib.hid hOl
      replace hMA := Lib.hid hMA
      replace hOA := Lib.hid hOA
      replace hbA := Lib.hid hbA
      replace hD := Lib.hid hD
      replace hpm := Lib.hid hpm
      replace hpo := Lib.hid hpo
      by_cases hkey : ykey = key
      · subst hkey
        go_wp2_with ((at_builtin; go_must (refine app_one_g rfl _ _ 22 36 rfl (w2.heap.size) (.agg #[.int .i64 0, .int .i64 0, .int .i64 0, .string ⟨#[]⟩, .string ⟨#[]⟩, .int .i64 0]) 6 64 Tryd.underlying22 (by kernel_rfl) rfl _ _ _ rfl hMA.out _ _ hgs.out rfl rfl ?_ (by omega) (by omega) hsA ?_)); (focus (intro u hu; simp only [List.mem_cons, List.not_mem_nil, or_false] at hu; rcases hu with rfl | rfl | rfl | rfl | rfl | rfl <;> rfl)); intro v5 w5 hO5 hg5 hbk5 hne5 hb5)
        go_roundw
        case rel => exact ⟨k + 1, by omega, by go_num, hpm.out _ _ _ rfl hMA.out hOA.out hD.out hbA.out hO5 hg5 hbk5 hb5⟩
        case measure => simp [intOf]; omega
      · have hkk := ba_list_ne hkey
        have hkey' := Lib.hid hkey
        clear hkey
        go_wp2_with ((at_builtin; go_must (refine app_one_g rfl _ _ 22 36 rfl (w2.heap.size) (.agg #[.int .i64 0, .int .i64 0, .int .i64 0, .string ⟨#[]⟩, .string ⟨#[]⟩, .int .i64 0]) 6 64 Tryd.underlying22 (by kernel_rfl) rfl _ _ _ rfl hOA.out _ _ hgs.out rfl rfl ?_ (by omega) (by omega) hsA ?_)); (focus (intro u hu; simp only [List.mem_cons, List.not_mem_nil, or_false] at hu; rcases hu with rfl | rfl | rfl | rfl | rfl | rfl <;> rfl)); intro v5 w5 hO5 hg5 hbk5 hne5 hb5)
        go_roundw
        case rel => exact ⟨k + 1, by omega, by go_num, hpo.out _ _ _ hkey'.out hMA.out hOA.out hD.out hbA.out hO5 hg5 hbk5 hb5⟩
        case measure => simp [intOf]; omega
    · obtain rfl : k = A.length := by omega
      rw [List.take_length] at hM hO
      have hMr : ∀ x ∈ A.filter (fun y => decide (y.key = key)), Right_ x := fun x hx => hAr.out x (List.mem_filter.1 hx).1
      have hOr : ∀ x ∈ A.filter (fun y => !decide (y.key = key)), Right_ x := fun x hx => hAr.out x (List.mem_filter.1 hx).1
      obtain ⟨hsf1, hsf2⟩ := sw_filter A key
      have hlM := List.length_filter_le (fun y : WrB => decide (y.key = key)) A
      have hlO := List.length_filter_le (fun y : WrB => !decide (y.key = key)) A
      generalize hMl : A.filter (fun y => decide (y.key = key)) = M at *
      generalize hOl : A.filter (fun y => !decide (y.key = key)) = O at *
      replace hMl := Lib.hid hMl
      replace hOl := Lib.hid hOl
      have hOfA := Lib.hid (fun W (hW : Below w2.heap.size w2 W) => store_of _ A W (hA2.out.below hW) hAr.out (by omega))
      have hOfM := Lib.hid (fun W (hW : Below wr.heap.size wr W) => store_of _ M W (ListIs.below (ListIs.of_owns hM) (by omega) hW) hMr (by omega))
      have hOfO := Lib.hid (fun W (hW : Below wr.heap.size wr W) => store_of _ O W (ListIs.below (ListIs.of_owns hO) (by omega) hW) hOr (by omega))
      replace hM := Lib.hid hM
      replace hO := Lib.hid hO
      replace hMr := Lib.hid hMr
      replace hOr := Lib.hid hOr
      replace hsf1 := Lib.hid hsf1
      replace hsf2 := Lib.hid hsf2
      clear hD
      have hbr := bch hbw2 hb
      go_wp2_with fail
      refine (hOfA.out _ hb).mono ?_
      rintro _ w5 ⟨va, LA, rfl, hOA, hSA, hIA, hb5⟩
      replace hOA := Lib.hid hOA
      replace hSA := Lib.hid hSA
      replace hIA := Lib.hid hIA
      go_wp2_with fail
      refine (hOfM.out _ hb5).mono ?_
      rintro _ w6 ⟨vb, LB, rfl, hOB, hSB, hIB, hb6⟩
      have hb56 := bch hb5 hb6
      go_wp2_with fail
      refine (hOfO.out _ hb56).mono ?_
      rintro _ w7 ⟨vc, LC, rfl, hOC, hSC, hIC, hb7⟩
      have hb57 := bch hb56 hb7
      rw [hsf1.out] at hIB
      rw [hsf2.out] at hIC
      obtain ⟨hnA1, hnA2⟩ := celB_le hAr.out (by omega) hIA.out
      have hnB : LB.length ≤ 60 := by
        have h := (cells_le (good_sws hMr.out) (hsf1.out.symm ▸ hIB)).1
        rw [List.length_map, List.length_map] at h; omega
      have hnC : LC.length ≤ 60 := by
        have h := (cells_le (good_sws hOr.out) (hsf2.out.symm ▸ hIC)).1
        rw [List.length_map, List.length_map] at h; omega
      obtain ⟨ob, cb, rfl⟩ := owns_slice_ hOB
      obtain ⟨oc, cc, rfl⟩ := owns_slice_ hOC
      have hSB7 := fun x hx => owns_below (hSB x hx) hb7
      have hLB : ListIs celCells 5 w7 (.slice ob LB.length cb) LB := (ListIs.of_owns hOB).below (by omega) hb7
      have hLC : ListIs celCells 5 w7 (.slice oc LC.length cc) LC := ListIs.of_owns hOC
      have hCo := Lib.hid (concat_cel _ _ [LB, LC] _ (parts2c (w := w7) hLB hLC 25) (by simp) (by simp only [List.flatten_cons, List.flatten_nil, List.append_nil, List.length_append]; omega))
      replace hSB7 := Lib.hid hSB7
      replace hSC := Lib.hid hSC
      replace hIB := Lib.hid hIB
      replace hIC := Lib.hid hIC
      have s5 := hb5.size
      have s6 := hb6.size
      have s7 := hb7.size
      have hA7 := Lib.hid ((celL_of hOA.out hSA.out).below (bch hb6 hb7))
      clear hOB hOC hSB hLB hLC hOfA hOfM hOfO hb5 hb6 hb56
      go_wp2_with fail
      refine hCo.out.mono ?_
      rintro _ w8 ⟨⟨v8, rfl, hO8⟩, hb8⟩
      simp only [List.flatten_cons, List.flatten_nil, List.append_nil] at hO8
      replace hb8 := bch (bal (Below.refl w7.heap.size w7) _) hb8
      have hS8 : ∀ x ∈ LB ++ LC, w8.ownsRow wr.heap.size 9 1 (.slice x.la x.ln x.lc) x.cel.val.list.length (x.cel.val.list.flatMap strCells) := fun x hx => by
        rcases List.mem_append.1 hx with hx | hx
        · exact owns_below (owns_base (hSB7.out x hx) (by omega)) hb8
        · exact owns_below (owns_base (hSC.out x hx) (by omega)) hb8
      have hso := Lib.hid (sort_cells 31 (enters_of Tryd.func31 (by kernel_rfl) rfl) keys_less v8 (LB ++ LC) _ w8 hO8 (by rw [List.length_append]; omega))
      have hO8' := Lib.hid hO8
      replace hS8 := Lib.hid hS8
      have hb78 := bch hb57 hb8
      have hv8lo : ∀ j, v8.ownBlock = some j → w7.heap.size ≤ j := fun j hj => by
        have h1 := (hO8.lt j hj).1
        have h3 : w7.heap.size ≤ (w7.alloc (Obj.cells #[Value.slice ob LB.length cb, Value.slice oc LC.length cc] 25)).heap.size := (World.grownBy_alloc w7 _ none).size
        omega
      replace hv8lo := Lib.hid hv8lo
      clear hO8 hCo
      go_wp2_with fail
      refine hso.out.mono ?_
      rintro _ w9 ⟨rfl, L', hp, hs9, hO9, hon⟩
      have hb79 : Below w7.heap.size w7 w9 := hb8.trans (hon.below hv8lo.out hb8.size)
      have hb9 : Below wr.heap.size wr w9 := bch hb57 hb79
      have hS9 : ∀ x ∈ L', w9.ownsRow wr.heap.size 9 1 (.slice x.la x.ln x.lc) x.cel.val.list.length (x.cel.val.list.flatMap strCells) := fun x hx => owns_only (hS8.out x (hp.mem_iff.1 hx)) hon fun k hk e => own_ne_own hO8'.out (hS8.out x (hp.mem_iff.1 hx)) (by decide) k e hk
      have hI9 : St.IsCells (L'.map CelB.cel) (St.at_ (A.map WrB.sw)) := St.cells_both (A.map WrB.sw) key hIB.out hIC.out (by rw [← List.map_append]; exact hp.map _) (List.pairwise_map.2 hs9)
      have he : LA.map CelB.cel = L'.map CelB.cel := hIA.out.unique hI9
      have hB9 : CelL w9 v8 L' := celL_of hO9 hS9
      have hsc := Lib.hid (same_cells va v8 LA L' w9 (hA7.out.below hb79) hB9 he hnA1 hnA2)
      clear hO9 hS9 hI9 he hB9 hs9 hp hon hb79 hA7
      go_wp2_with fail
      refine hsc.out.mono ?_
      rintro _ w11 ⟨rfl, hb11⟩
      go_wp2
      go_ret
      exact ⟨rfl, bch hbr (bch hb9 hb11)⟩
end Go.Proofs.YtpmedolndkidcaaDoor
