/- The walk of the law StoreLists. -/
import Derived.Test.YtognjohloobliaaDoorWStored
import Derived.Test.YtognjohloobliaaDoorWRightK
import Derived.Test.YtognjohloobliaaDoorWSortedV
import Derived.Test.YtognjohloobliaaDoorPlainLists
import Derived.Test.YtognjohloobliaaDoorApp
import Derived.Test.YtognjohloobliaaDoorLast
namespace Go.Proofs.YtognjohloobliaaDoor
open Go.RowKit
set_option linter.unusedVariables false
set_option linter.unusedSimpArgs false
theorem owns_apart {w : World} {base base' : Nat} {e e' : TypeId} (hne : e ≠ e') {sz sz' n n' : Nat} {v v' : Value} {xs xs' : List Value} (h : w.ownsRow base e sz v n xs) (h' : w.ownsRow base' e' sz' v' n' xs') : ∀ i, v.ownBlock = some i → v'.ownBlock ≠ some i := by
  intro i hi hi'
  rcases h.2 with ⟨rfl, _⟩ | ⟨g, cap, cur, rfl, _, hg, _⟩
  · cases hi
  · rcases h'.2 with ⟨rfl, _⟩ | ⟨g', cap', cur', rfl, _, hg', _⟩
    · cases hi'
    · have e1 : g = i := by simpa [Value.ownBlock] using hi
      have e2 : g' = i := by simpa [Value.ownBlock] using hi'
      subst e1 e2
      rw [hg] at hg'
      injection hg' with hg'
      injection hg' with _ hg' _
      exact hne hg'
theorem op_updatev {P : Program} {k e t : TypeId} {w : World} {b n : Nat} {f : ByteArray → Option Value} {o : Oper} {a : Act} {K : Act → World → Prop} {Q : Exit → Act → World → Prop} (m x v : Operand) (hop : o.op = Op.mapUpdate t m x v) (h : MapV P k w b n f) (hk : P.underlying k = some .string) (ht : P.underlying t = some (.map k e)) (hn : n < 1000000000) (s : ByteArray) (hs : s.size ≤ maxLen) (y : Value)
    (hm : a.eval m = .map (some b)) (hx : a.eval x = .string s) (hv : a.eval v = y)
    (hK : ∀ w', MapV P k w' b (n + 1) (fun s' => if s' = s then some y else f s') → w.grownBy w' (some b) → K (a.put o.dst undef) w') : Oper.wp P o a w K Q := by
  obtain ⟨w', hrun, r1, r2⟩ := h.update hk ht (by unfold maxLen; omega) s hs y
  unfold Oper.wp
  simp [execOp, hop, hm, hx, hv, hrun, Result.andThen]
  exact hK w' r1 r2
theorem op_app1 {P : Program} {w0 : World} {o : Oper} {a : Act} {K : Act → World → Prop} {Q : Exit → Act → World → Prop} (hgd : o.guard = none) (s x : Operand) (t e : TypeId)
    (ho : o.op = .call { callee := .builtin .append, args := #[s, x], argTypes := #[t, t] }) (base : Nat) (z : Value) (size bytes : Nat)
    (ht : P.underlying t = some (.slice e)) (hinfo : (P.info? e).map (fun i => (i.zero, i.size, i.bytes)) = some (some z, size, bytes)) (hzs : z.cells.size = size)
    (v : Value) (n : Nat) (xs : List Value) (hs : a.eval s = v) (hown : w0.ownsRow base e size v n xs)
    (us : Array Value) (g : Nat) (hg : g = w0.heap.size) (hx : a.eval x = .slice (some ⟨g, 0, none⟩) 1 1) (hus : us.size = size) (h1 : ∀ u ∈ us.toList, u.oneCell' = true)
    (h63 : n + 1 ≤ 1000000000) (hby : bytes ≤ 1000) (hbase : base ≤ w0.heap.size)
    (h : ∀ v' w', w'.ownsRow base e size v' (n + 1) (xs ++ us.toList) → w0.grownBy w' v.ownBlock → (v'.ownBlock = v.ownBlock ∨ v'.ownBlock = some (w0.heap.size + 1)) → v' ≠ .slice none 0 0 → Below base w0 w' → K (a.put o.dst v') w') :
    Oper.wp P o a (w0.alloc (.cells us e)) K Q := by
  have hh := step_app_one (P := P) (Q := Q) (ops := #[]) (E := True) hgd s x t e ho base z size bytes ht hinfo hzs v n xs hs hown us g hg hx hus h1 h63 hby hbase h
  rwa [if_pos (by simp [Region.wanted, hgd])] at hh
theorem look_run {P : Program} {k e t : TypeId} {w : World} {b n : Nat} {f : ByteArray → Option Value} {o : Oper} {a : Act} (m x : Operand) (hop : o.op = Op.lookup t m x false) (h : MapV P k w b n f) (hk : P.underlying k = some .string) (ht : P.underlying t = some (.map k e)) (z : Value) (hz : (zeroValue e).run P w = .ok z w) (s : ByteArray) (hs : s.size ≤ maxLen) (y : Value) (hr : (f s).getD z = y)
    (hm : a.eval m = .map (some b)) (hx : a.eval x = .string s) : (execOp a.eval o).run P w = .ok (.value y) w := by
  have hrun := h.look hk ht z hz s hs
  rw [hr] at hrun
  simp [execOp, hop, hm, hx, hrun, Result.andThen]
def und (M : List WrB) (s : ByteArray) : List ByteArray := St.under (M.map WrB.sw) s
theorem und_snoc (M : List WrB) (x : WrB) (s : ByteArray) : und (M ++ [x]) s = if x.key = s then und M s ++ [x.val] else und M s := by
  unfold und; rw [List.map_append, List.map_singleton, St.under_snoc]; rfl
theorem und_len (M : List WrB) (s : ByteArray) : (und M s).length ≤ M.length := by
  unfold und St.under
  rw [List.length_map]
  exact Nat.le_trans (List.length_filter_le _ _) (by simp)
/-- A map of slices of the call's own: what was inserted, key by key. -/
structure Lists (w : World) (base b k : Nat) (M : List WrB) (f : ByteArray → Option Value) : Prop where
  map : MapV Tryd.prog 9 w b k f
  has : ∀ s, (f s).isSome = true ↔ ∃ x ∈ M, x.key = s
  row : ∀ s, w.ownsRow base 9 1 ((f s).getD (.slice none 0 0)) (und M s).length ((und M s).flatMap strCells)
  apart : ∀ s s' i, s ≠ s' → ((f s).getD (.slice none 0 0)).ownBlock = some i → ((f s').getD (.slice none 0 0)).ownBlock ≠ some i
theorem Lists.below {w w' : World} {base b k : Nat} {M : List WrB} {f : ByteArray → Option Value} (h : Lists w base b k M f) (hb : Below w.heap.size w w') : Lists w' base b k M f :=
  ⟨h.map.below hb, h.has, fun s => owns_below (h.row s) hb, h.apart⟩
theorem Lists.mono {w : World} {base b k k' : Nat} {M : List WrB} {f : ByteArray → Option Value} (h : Lists w base b k M f) (hk : k ≤ k') : Lists w base b k' M f := ⟨h.map.mono hk, h.has, h.row, h.apart⟩
/-- A row of another type grows. -/
theorem Lists.grown {w w' : World} {base b k : Nat} {M : List WrB} {f : ByteArray → Option Value} (h : Lists w base b k M f) {v : Value} (hg : w.grownBy w' v.ownBlock) (h1 : v.ownBlock ≠ some b) (h2 : ∀ s i, ((f s).getD (.slice none 0 0)).ownBlock = some i → v.ownBlock ≠ some i) : Lists w' base b k M f :=
  ⟨h.map.grown hg (fun e => h1 e.symm), h.has, fun s => (h.row s).kept hg (by
    cases ho : ((f s).getD (.slice none 0 0)).ownBlock with
    | none => exact .inl rfl
    | some i => exact .inr fun e => h2 s i ho e.symm), h.apart⟩
/-- One more. -/
theorem Lists.put {w5 w8 w9 : World} {base b k : Nat} {M : List WrB} {x : WrB} {f : ByteArray → Option Value} (h : Lists w5 base b k M f) {v8 : Value} (hx : x.k = 4) (hO8 : w8.ownsRow base 9 1 v8 ((und M x.key).length + 1) ((und M x.key).flatMap strCells ++ [.string x.val]))
    (hg8 : w5.grownBy w8 ((f x.key).getD (.slice none 0 0)).ownBlock) (hbk8 : v8.ownBlock = ((f x.key).getD (.slice none 0 0)).ownBlock ∨ v8.ownBlock = some (w5.heap.size + 1))
    (hM8 : MapV Tryd.prog 9 w8 b k f) (hM9 : MapV Tryd.prog 9 w9 b (k + 1) (fun s' => if s' = x.key then some v8 else f s')) (hg9 : w8.grownBy w9 (some b)) :
    Lists w9 base b (k + 1) (M ++ [x]) (fun s' => if s' = x.key then some v8 else f s') := by
  have hkeep : ∀ {v : Value} {n : Nat} {xs : List Value}, w8.ownsRow base 9 1 v n xs → w9.ownsRow base 9 1 v n xs := fun {v n xs} hv => hv.kept hg9 (by
    cases ho : v.ownBlock with
    | none => exact .inl rfl
    | some i => exact .inr fun e => map_ne_own hM8 hv (ho.trans e))
  have hnew : ∀ s i, s ≠ x.key → v8.ownBlock = some i → ((f s).getD (.slice none 0 0)).ownBlock ≠ some i := fun s i hs h1 h2 => by
    rcases hbk8 with e | e
    · exact h.apart s x.key i hs h2 (e.symm.trans h1)
    · rw [h1] at e; injection e with e
      have := ((h.row s).lt i h2).2
      omega
  refine ⟨hM9, fun s => ?_, fun s => ?_, fun s s' i hss h1 h2 => ?_⟩
  · by_cases hs : s = x.key
    · subst hs; simp
    · rw [if_neg hs, h.has]
      constructor
      · rintro ⟨y, hy, e⟩; exact ⟨y, List.mem_append_left _ hy, e⟩
      · rintro ⟨y, hy, e⟩
        rcases List.mem_append.1 hy with hy | hy
        · exact ⟨y, hy, e⟩
        · rw [List.mem_singleton] at hy; subst hy; exact absurd e.symm hs
  · rw [und_snoc]
    by_cases hs : s = x.key
    · subst hs
      rw [if_pos rfl, if_pos rfl, List.length_append, List.flatMap_append, List.flatMap_singleton]
      exact hkeep hO8
    · rw [if_neg hs, if_neg (fun e => hs e.symm)]
      exact hkeep ((h.row s).kept hg8 (by
        cases ho : ((f s).getD (.slice none 0 0)).ownBlock with
        | none => exact .inl rfl
        | some i => exact .inr fun e => h.apart s x.key i hs ho e.symm))
  · by_cases hs : s = x.key
    · subst hs
      rw [if_pos rfl] at h1
      rw [if_neg (fun e => hss e.symm)] at h2
      exact hnew s' i (fun e => hss e.symm) h1 h2
    · rw [if_neg hs] at h1
      by_cases hs' : s' = x.key
      · subst hs'
        rw [if_pos rfl] at h2
        exact hnew s i hs h2 h1
      · rw [if_neg hs'] at h2
        exact h.apart s s' i hss h1 h2
theorem strs_low {w : World} {o : Option Addr} {c : Nat} {zs : List ByteArray} {n : Nat} (h : StrsIs w (.slice o n c) zs) : zs.length = 0 ∨ ∃ b off, o = some ⟨b, off, none⟩ ∧ StrsLow w.heap.size w b off zs := by
  obtain ⟨o1, c1, e, -, hc⟩ := ListIs.at h strCells_len
  injection e with e1 e2 e3
  subst e1
  by_cases hz : zs.length = 0
  · exact .inl hz
  · obtain ⟨b, f, rfl, hb, -⟩ := hc 0 (by omega)
    refine .inr ⟨b, f, rfl, hb (by decide), fun k hk => ?_⟩
    obtain ⟨b', f', e, -, h2⟩ := hc k hk
    injection e with e
    injection e with e1 e2
    subst e1 e2
    simpa using h2 0 (.string zs[k]) rfl
def Adds (w3 : World) (b : Nat) (A : List WrB) (k : Nat) (v : Value) (wr : World) : Prop :=
  wr.ownsRow w3.heap.size 29 6 v ((A.take k).filter fun y => decide (y.k = 4)).length (((A.take k).filter fun y => decide (y.k = 4)).flatMap wrBCells) ∧ (∃ f, Lists wr w3.heap.size b k ((A.take k).filter fun y => decide (y.k = 4)) f) ∧ Only (fun j => j = b) w3 wr
set_option maxHeartbeats 20000000 in
set_option maxRecDepth 20000 in
theorem StoreLists_walk (v : Value) (l : List WrB) (w : World) (hl : ListIs wrBCells 6 w v l) (q : ∀ x ∈ l, WrBOk x) (z : l.length ≤ 140737488351232) (hL : Laid w) :
    Calls Tryd.prog 3 #[v] w fun e w' => e = .returned (.bool true) ∧ Below w.heap.size w w' := by
  have hmm := @run_makeMap Tryd.prog
  have hSt := Lib.hid keep_stored
  have hRa := Lib.hid (fun W (hW : Below w.heap.size w W) => keep_right v l W (ListIs.below hl (by omega) hW) z)
  clear hl q hL
  go_enter Tryd.func3, Tryd.ntmps3
  go_wp2_with fail
  refine (hSt.out w).mono ?_
  rintro _ w1 ⟨rfl, hb1⟩
  go_wp2_with fail
  have hM0 : MapV Tryd.prog 9 (w1.alloc (.map #[] 0)) w1.heap.size 0 (fun _ => none) := MapV.made w1 Tryd.prog 9
  have hb1m := bal hb1 (.map #[] 0)
  have hbb : w1.heap.size < (w1.alloc (.map #[] 0)).heap.size := hM0.lt
  have hb1s := hb1.size
  obtain ⟨b, hbe⟩ : ∃ b, b = w1.heap.size := ⟨_, rfl⟩
  rw [← hbe] at hM0 hbb ⊢
  generalize w1.alloc (.map #[] 0) = w1' at *
  refine (hRa.out _ hb1m).mono ?_
  rintro _ w3 ⟨ua, A, rfl, hA, hAr0, hA60, hb3⟩
  have hbw3 := bch hb1m hb3
  have hM3 := hM0.below hb3
  obtain ⟨oa, ca, rfl⟩ := owns_slice_ hA
  have hA3 : WrsIs w3 _ A := ListIs.of_owns hA
  have hAr := Lib.hid (fun x hx => (hAr0 x hx).1)
  have hAlo := fun i hi => (hA.lt i hi).1
  obtain ⟨o1, c1, e1, -, hcA⟩ := ListIs.at hA3 wrBCells_len
  injection e1 with e1 _ e2
  subst e1; subst e2
  have hcb : ∀ k (hk : k < A.length) b1 off, oa = some ⟨b1, off, none⟩ → b1 ≠ b := fun k hk b1 off e1 e2 => by
    have := hAlo b1 (by rw [e1]; rfl)
    omega
  have hS3 : Lists w3 w3.heap.size b 0 [] (fun _ => none) := ⟨hM3, fun s => by simp, fun s => World.ownsRow_nil _ _ _ _, fun s s' i hss h1 h2 => by cases h1⟩
  have hbw : w.heap.size ≤ b := by omega
  have hb3lt := hM3.lt
  replace hcA := Lib.hid hcA
  replace hcb := Lib.hid hcb
  replace hS3 := Lib.hid hS3
  replace hbe := Lib.hid hbe
  clear hA hA3 hAr0 hb1 hb3 hRa hSt hM0 hM3 hAlo hb1m hmm
  go_wp2
  go_loopw [3, 17] (fun v i wr => ∃ k : Nat, k ≤ A.length ∧ i = .int .i64 k ∧ Adds w3 b A k v wr) (fun _ i _ => A.length - (intOf i).toNat)
  case atStart => exact ⟨0, by omega, rfl, World.ownsRow_nil _ _ _ _, ⟨_, hS3.out⟩, Only.refl _ _⟩
  case round =>
    obtain ⟨k, hk, rfl, hO, ⟨f0, hS⟩, hon⟩ := hrel
    have hs := hon.size
    by_cases hlt : k < A.length
    · obtain ⟨b1, f1, rfl, hb1, hc1⟩ := hcA.out k hlt
      have hb1 := hb1 (by omega)
      have hbb1 := hcb.out k hlt b1 f1 rfl
      have hcc : ∀ (j : Nat) (u : Value), (wrBCells A[k])[j]? = some u → wr.cell? ⟨b1, f1 + k * 6 + j, none⟩ = some u := fun j u hu => hon.cell (p := ⟨b1, f1 + k * 6 + j, none⟩) (hc1 j u hu) hbb1
      have hlM := List.length_filter_le (fun y : WrB => decide (y.k = 4)) (A.take k)
      have htk : (A.take k).length ≤ 60 := by rw [List.length_take]; omega
      have hyes : A[k].k = 4 → (A.take (k + 1)).filter (fun y => decide (y.k = 4)) = (A.take k).filter (fun y => decide (y.k = 4)) ++ [A[k]] := fun h => by
        rw [List.take_succ_eq_append_getElem hlt, List.filter_append]; simp [h]
      have hno : A[k].k ≠ 4 → (A.take (k + 1)).filter (fun y => decide (y.k = 4)) = (A.take k).filter (fun y => decide (y.k = 4)) := fun h => by
        rw [List.take_succ_eq_append_getElem hlt, List.filter_append]; simp [h]
      have hgd := good_sw (hAr.out _ (List.getElem_mem hlt))
      generalize hMl : (A.take k).filter (fun y => decide (y.k = 4)) = M at *
      generalize hMl2 : (A.take (k + 1)).filter (fun y => decide (y.k = 4)) = M2 at *
      replace hMl := Lib.hid hMl
      replace hMl2 := Lib.hid hMl2
      generalize A[k] = x at *
      obtain ⟨yt, yr, yk, ykey, yval, yn⟩ := x
      have c0 : wr.cell? ⟨b1, f1 + k * 6, none⟩ = _ := hcc 0 _ rfl
      have c1 := hcc 1 _ rfl
      have c2 := hcc 2 _ rfl
      have c3 := hcc 3 _ rfl
      have c4 := hcc 4 _ rfl
      have c5 := hcc 5 _ rfl
      (try simp only at c0 c1 c2 c3 c4 c5 hyes hno)
      have hb1w : b1 < wr.heap.size := Nat.lt_of_lt_of_le hb1 hon.size
      have hks : ykey.size ≤ maxLen := by have h40 : ykey.size ≤ 40 := hgd.key; unfold maxLen; omega
      clear hcc hc1 hgd
      by_cases hk4 : yk = 4
      · subst hk4
        have hy := Lib.hid (hyes rfl)
        have hOA := hO.alloc (Obj.cells #[.int .i64 yt, .int .i64 yr, .int .i64 4, .string ykey, .string yval, .int .i64 yn] 29)
        have hSA := hS.below (bal (Below.refl _ _) (Obj.cells #[.int .i64 yt, .int .i64 yr, .int .i64 4, .string ykey, .string yval, .int .i64 yn] 29))
        have hgs := Lib.hid (show wr.heap.size + 1 = (wr.alloc (Obj.cells #[.int .i64 yt, .int .i64 yr, .int .i64 4, .string ykey, .string yval, .int .i64 yn] 29)).heap.size by simp)
        have q0 := row_at (w := wr) (g := wr.heap.size) #[.int .i64 yt, .int .i64 yr, .int .i64 4, .string ykey, .string yval, .int .i64 yn] 29 rfl
        have hsA : w3.heap.size ≤ (wr.alloc (Obj.cells #[.int .i64 yt, .int .i64 yr, .int .i64 4, .string ykey, .string yval, .int .i64 yn] 29)).heap.size := Nat.le_trans hs (World.grownBy_alloc wr _ none).size
        have honA := hon.alloc (Obj.cells #[.int .i64 yt, .int .i64 yr, .int .i64 4, .string ykey, .string yval, .int .i64 yn] 29)
        have hqne := owns_lt hO wr.heap.size (Nat.le_refl _)
        replace hOA := Lib.hid hOA
        replace hSA := Lib.hid hSA
        replace q0 := Lib.hid q0
        replace honA := Lib.hid honA
        clear hO hS hon hyes hno
        go_wp2_with (
            ((at_builtin; go_must (refine app_one_g rfl _ _ 22 29 rfl (w3.heap.size) (.agg #[.int .i64 0, .int .i64 0, .int .i64 0, .string ⟨#[]⟩, .string ⟨#[]⟩, .int .i64 0]) 6 64 Tryd.underlying22 (by kernel_rfl) rfl _ _ _ rfl hOA.out _ _ hgs.out rfl rfl ?_ (by omega) (by omega) hsA ?_)); (focus (intro u hu; simp only [List.mem_cons, List.not_mem_nil, or_false] at hu; rcases hu with rfl | rfl | rfl | rfl | rfl | rfl <;> rfl)); intro v5 w5 hO5 hg5 hbk5 hne5 hb5))
        have hg5' : (wr.alloc (Obj.cells #[.int .i64 yt, .int .i64 yr, .int .i64 4, .string ykey, .string yval, .int .i64 yn] 29)).grownBy w5 (Value.ownBlock u3) := hg5
        have q5 := q0.out.grown hg5' hqne
        have hL5 := hSA.out.grown hg5' (map_ne_own hSA.out.map hOA.out) (fun s i h1 h2 => owns_apart (by decide) (hSA.out.row s) hOA.out i h1 h2)
        have hon5 := honA.out.grown hg5' (fun j hj => .inr (hOA.out.lt j hj).1)
        have hml : (und M ykey).length ≤ 60 := Nat.le_trans (und_len _ _) (by omega)
        obtain ⟨Y, hY⟩ : ∃ Y, (f0 ykey).getD (.slice none 0 0) = Y := ⟨_, rfl⟩
        have hRow := hL5.row ykey
        rw [hY] at hRow
        have hxY := fun i hi => owns_apart (by decide) hO5 hRow i hi
        have hYx : Y.ownBlock ≠ some wr.heap.size := fun e => row_ne_own q5 hRow (by decide) e
        obtain ⟨d0, d1, d2, d3, d4, d5⟩ := q5.c6
        have hlo5 : w3.heap.size ≤ w5.drew.heap.size := by show w3.heap.size ≤ w5.heap.size; exact hon5.size
        have hYb : Y.ownBlock ≠ some b := map_ne_own hL5.map hRow
        have hS0 : w5.drew.cell? ⟨wr.heap.size, 3, none⟩ = some (.string ykey) ∧ w5.drew.cell? ⟨wr.heap.size, 4, none⟩ = some (.string yval) ∧ MapV Tryd.prog 9 w5.drew b k f0 := ⟨d3, d4, hL5.map⟩
        replace hL5 := Lib.hid (show Lists w5.drew w3.heap.size b k M f0 from ⟨hL5.map, hL5.has, hL5.row, hL5.apart⟩)
        replace hRow := Lib.hid (show w5.drew.ownsRow w3.heap.size 9 1 Y (und M ykey).length ((und M ykey).flatMap strCells) from hRow)
        replace hO5 := Lib.hid (show w5.drew.ownsRow w3.heap.size 29 6 v5 _ _ from hO5)
        replace hon5 := Lib.hid (hon5.drew)
        clear q5 hg5 hg5' hbk5 hb5 hOA hSA q0 honA hqne c0 c1 c2 c3 c4 c5 d0 d1 d2 d3 d4 d5
        (refine last_start (fun W => W.cell? ⟨wr.heap.size, 3, none⟩ = some (.string ykey) ∧ W.cell? ⟨wr.heap.size, 4, none⟩ = some (.string yval) ∧ MapV Tryd.prog 9 W b k f0) 11 (by kernel_rfl) ?_ (fun hHeld => ?_); ((try dsimp only); exact hS0))
        clear hS0
        (refine lkO 0 ?_; refine lkO 1 ?_; refine lkO 2 ?_; refine lkO 3 ?_; refine lkO 4 ?_; refine lkO 5 ?_; refine lkO 7 ?_; refine lkO 8 ?_)
        refine lkO 6 ?_ (v := Y) (hy := fun W hW => look_run _ _ rfl hW.2.2 Tryd.underlying9 Tryd.underlying24 (.slice none 0 0) (by kernel_rfl) ykey hks Y hY rfl rfl)
        (refine last_ready (P := Tryd.prog) (rs := [9]) (by kernel_rfl) (by simp) ?_; refine last_cons rfl (by kernel_rfl) (fun K hK => ?_) ReadyL.nil; (go_simp; refine hK.out _ _ ?_ (fun hHeld => ?_); ((try dsimp only); exact ⟨cell_below (bal (Below.refl _ _) _) hHeld.1, cell_below (bal (Below.refl _ _) _) hHeld.2.1, hHeld.2.2.alloc _⟩); clear hK K; (try clear hHeld0); (try rename_i hHeld0)))
        (refine last_ready (P := Tryd.prog) (rs := [10]) (by kernel_rfl) (by simp) ?_; refine last_cons rfl (by kernel_rfl) (fun K hK => ?_) ReadyL.nil; ((refine op_app1 (by rfl) _ _ 30 9 (by rfl) w3.heap.size (.string ⟨#[]⟩) 1 16 Tryd.underlying30 (by kernel_rfl) rfl _ _ _ (by rfl) hRow.out _ _ rfl (by rfl) rfl ?_ (by omega) (by omega) hlo5 ?_; (focus (intro u hu; simp only [List.mem_cons, List.not_mem_nil, or_false] at hu; rcases hu with rfl; rfl)); intro v8 w8 hO8 hg8 hbk8 hne8 hb8); refine hK.out _ _ ?_ (fun hHeld => ?_); ((try dsimp only); exact ⟨(Only.refl (fun j => Y.ownBlock = some j) w5.drew).grown hg8 (fun j hj => .inl hj) |>.cell hHeld0.1 hYx, (Only.refl (fun j => Y.ownBlock = some j) w5.drew).grown hg8 (fun j hj => .inl hj) |>.cell hHeld0.2.1 hYx, hHeld0.2.2.grown hg8 (fun e => hYb e.symm)⟩); clear hK K; (try clear hHeld0); (try rename_i hHeld0)))
        have hM8 := hHeld.2.2
        (refine last_ready (P := Tryd.prog) (rs := [11]) (by kernel_rfl) (by simp) ?_; refine last_end rfl (by kernel_rfl) (fun K hK => ?_); (refine op_updatev _ _ _ rfl hHeld.2.2 Tryd.underlying9 Tryd.underlying24 (by omega) ykey hks v8 rfl rfl rfl ?_; intro w9 hM9 hg9); refine hK.out _ _ ?_; clear hK K; refine last_done (by kernel_rfl) ?_ _)
        have hL9 := hL5.out.put (x := ⟨yt, yr, 4, ykey, yval, yn⟩) rfl hO8 (hY ▸ hg8) (hY ▸ hbk8) hM8 hM9 hg9
        go_wp2
        go_roundw
        case rel =>
          refine ⟨k + 1, by omega, by go_num, ?_⟩
          unfold Adds
          rw [hMl2.out, hy.out]
          refine ⟨?_, ⟨_, hL9⟩, (hon5.out.grown hg8 fun j hj => .inr (hRow.out.lt j hj).1).grown hg9 fun j hj => .inl (by injection hj with h; exact h.symm)⟩
          rw [List.length_append, List.flatMap_append, List.flatMap_singleton]
          have h8 := hO5.out.kept hg8 (by
            cases ho : v5.ownBlock with
            | none => exact .inl rfl
            | some i => exact .inr fun e => hxY i ho e.symm)
          exact h8.kept hg9 (by
            cases ho : v5.ownBlock with
            | none => exact .inl rfl
            | some i => exact .inr fun e => map_ne_own hM8 h8 (ho.trans e))
        case measure => simp [intOf]; omega
      · have hy := Lib.hid (hno hk4)
        have hO' := Lib.hid hO
        have hS' := Lib.hid hS
        have hon' := Lib.hid hon
        clear hO hS hon hyes hno
        go_wp2
        go_roundw
        case rel =>
          refine ⟨k + 1, by omega, by go_num, ?_⟩
          unfold Adds
          rw [hMl2.out, hy.out]
          exact ⟨hO'.out.alloc _, ⟨_, (hS'.out.below (bal (Below.refl _ _) _)).mono (by omega)⟩, hon'.out.alloc _⟩
        case measure => simp [intOf]; omega
    · obtain rfl : k = A.length := by omega
      rw [List.take_length] at hO hS
      have hM4 : ∀ x ∈ A.filter (fun y => decide (y.k = 4)), x.k = 4 := fun x hx => by simpa using (List.mem_filter.1 hx).2
      have hMr : ∀ x ∈ A.filter (fun y => decide (y.k = 4)), Right_ x := fun x hx => hAr.out x (List.mem_filter.1 hx).1
      have hlM := List.length_filter_le (fun y : WrB => decide (y.k = 4)) A
      generalize A.filter (fun y => decide (y.k = 4)) = M at *
      replace hM4 := Lib.hid hM4
      replace hMr := Lib.hid hMr
      have hbr : Below w.heap.size w wr := hbw3.trans (hon.below (fun j hj => by rw [hj]; exact hbw) hbw3.size)
      have hOf := Lib.hid (store_of u3 M wr (ListIs.of_owns hO) hMr.out (by omega))
      replace hS := Lib.hid hS
      clear hon hcA hcb hS3 hO
      go_wp2_with fail
      refine hOf.out.mono ?_
      rintro _ w5 ⟨v5, L5, rfl, hO5, hS5, hI5, hb5⟩
      have hw5 := bch hbr hb5
      have hL5 := hS.out.below hb5
      have hC5 : CelL w5 v5 L5 := celL_of hO5 hS5
      have hn := celB_le hMr.out (by omega) hI5
      have hM4' : ∀ x ∈ M.map WrB.sw, x.k = 4 := fun x hx => by
        obtain ⟨y, hy, rfl⟩ := List.mem_map.1 hx
        exact hM4.out y hy
      have hMr' := good_sws hMr.out
      have hperm : ∀ x ∈ L5, x.cel.val.list.Perm (und M x.cel.key) := fun x hx => by
        have h1 := ((hI5.2 x.cel).1 (List.mem_map.2 ⟨x, hx, rfl⟩)).2
        have h2 := (St.at_under hM4' x.cel.key).2.2
        rw [h1] at h2
        exact h2
      have hkm : ∀ x ∈ L5, x.cel.key.size ≤ maxLen := fun x hx => by
        obtain ⟨h1, h2⟩ := (hI5.2 x.cel).1 (List.mem_map.2 ⟨x, hx, rfl⟩)
        rw [← h2] at h1
        obtain ⟨y, hy, e⟩ := St.at_mem h1
        have := (hMr' y hy).key
        rw [← e]; unfold maxLen; omega
      obtain ⟨hk1, hk2⟩ := St.cells_keys hM4' hI5
      have hk3 : ∀ s, s ∈ (L5.map CelB.cel).map (·.key) ↔ (f0 s).isSome = true := fun s => by
        rw [hk2, hL5.has]
        constructor
        · rintro ⟨x, hx, e⟩
          obtain ⟨y, hy, rfl⟩ := List.mem_map.1 hx
          exact ⟨y, hy, e⟩
        · rintro ⟨y, hy, e⟩
          exact ⟨_, List.mem_map.2 ⟨y, hy, rfl⟩, e⟩
      have hlen := fun W (hW : Below w5.heap.size w5 W) => (hL5.map.below hW).len Tryd.underlying24 _ hk1 hk3
      simp only [List.length_map] at hlen
      have hCs := hC5.2
      obtain ⟨o5, c5, rfl, -, hcL⟩ := hC5.1.at celCells_len
      replace hcL := Lib.hid hcL
      replace hCs := Lib.hid hCs
      replace hperm := Lib.hid hperm
      replace hkm := Lib.hid hkm
      replace hlen := Lib.hid hlen
      replace hL5 := Lib.hid hL5
      obtain ⟨hl5, hll5⟩ := hn
      replace hll5 := Lib.hid hll5
      clear hI5 hO5 hS5 hb5 hC5 hOf hM4' hMr' hk1 hk2 hk3 hS
      go_wp2
      go_loopw [47] (fun i wr' => ∃ k : Nat, k ≤ L5.length ∧ i = .int .i64 k ∧ Below w5.heap.size w5 wr') (fun i _ => L5.length - (intOf i).toNat)
      case atStart => exact ⟨0, by omega, rfl, Below.refl _ _⟩
      case round =>
        obtain ⟨k, hk, rfl, hb⟩ := hrel
        by_cases hlt : k < L5.length
        · obtain ⟨b1, f1, rfl, hb1, hc1⟩ := hcL.out k hlt
          have hb1 := hb1 (by omega)
          have g1 : ∀ (j : Nat) (u : Value), (celCells L5[k])[j]? = some u → wr.cell? ⟨b1, f1 + k * 5 + j, none⟩ = some u := fun j u hu => (hb.cell (p := ⟨b1, f1 + k * 5 + j, none⟩) hb1).trans (hc1 j u hu)
          have hkx := hkm.out _ (List.getElem_mem hlt)
          have hpm := hperm.out _ (List.getElem_mem hlt)
          have hSx : StrsIs wr _ _ := ListIs.below (hCs.out _ (List.getElem_mem hlt)) (by omega) hb
          have hlx := hll5.out _ (List.getElem_mem hlt)
          have hLr := hL5.out.below hb
          generalize L5[k] = x at *
          obtain ⟨⟨xk, xh, xt, xs, xl⟩, xa, xn, xc⟩ := x
          (try simp only at hkx hpm hSx hlx)
          obtain ⟨o9, c9, e9, -, -⟩ := ListIs.at hSx strCells_len
          injection e9 with e1 e2 e3
          subst e1 e2 e3
          have c0 : wr.cell? ⟨b1, f1 + k * 5, none⟩ = _ := g1 0 _ rfl
          have c1 := g1 1 _ rfl
          have c2 := g1 2 _ rfl
          have c3 := g1 3 _ rfl
          have c4 := g1 4 _ rfl
          (try simp only at c0 c1 c2 c3 c4)
          have hb1w : b1 < wr.heap.size := Nat.lt_of_lt_of_le hb1 hb.size
          obtain ⟨oy, cy, hY⟩ := owns_slice_ (hLr.row xk)
          have hul := und_len M xk
          have hYs : StrsIs wr (.slice oy (und M xk).length cy) (und M xk) := hY ▸ ListIs.of_owns (hLr.row xk)
          have hse := srt_perm hpm
          replace hSx := Lib.hid hSx
          replace hYs := Lib.hid hYs
          replace hse := Lib.hid hse
          replace hLr := Lib.hid hLr
          replace hb := Lib.hid hb
          clear g1 hc1 hpm
          go_wp2_with fail
          have hbS : Below wr.heap.size wr (wr.alloc (Obj.cells #[.string xk, .bool xh, .string xt, .int .i64 xs, .slice xa xl.length xc] 37)) := bal (Below.refl _ _) _
          have qS := row_at (w := wr) (g := wr.heap.size) #[.string xk, .bool xh, .string xt, .int .i64 xs, .slice xa xl.length xc] 37 rfl
          obtain ⟨gx, hgx⟩ : ∃ g, g = wr.heap.size := ⟨_, rfl⟩
          rw [← hgx] at qS ⊢
          generalize wr.alloc (Obj.cells #[.string xk, .bool xh, .string xt, .int .i64 xs, .slice xa xl.length xc] 37) = wS at *
          obtain ⟨d0, d1, d2, d3, d4⟩ := qS.c5
          replace hSx := Lib.hid (show StrsIs wS.drew (.slice xa xl.length xc) xl from ListIs.below hSx.out (by omega) (bdr hbS))
          replace hYs := Lib.hid (show StrsIs wS.drew (.slice oy (und M xk).length cy) (und M xk) from ListIs.below hYs.out (by omega) (bdr hbS))
          have hMp := Lib.hid (show MapV Tryd.prog 9 wS.drew b A.length f0 from (hLr.out.map.below (bdr hbS)))
          have hb9 := Lib.hid (bch hb.out (bdr hbS))
          replace hgx := Lib.hid hgx
          have hS0 : Below wS.drew.heap.size wS.drew wS.drew ∧ wS.drew.cell? ⟨gx, 0, none⟩ = some (.string xk) ∧ wS.drew.cell? ⟨gx, 4, none⟩ = some (.slice xa xl.length xc) := ⟨Below.refl _ _, d0, d4⟩
          clear d0 d1 d2 d3 d4 c0 c1 c2 c3 c4 qS hbS hLr
          (refine wp_region_held_drew (S := (fun W => Below wS.drew.heap.size wS.drew W ∧ W.cell? ⟨gx, 0, none⟩ = some (.string xk) ∧ W.cell? ⟨gx, 4, none⟩ = some (.slice xa xl.length xc))) (by kernel_rfl) ?_ (fun hHeld => ?_); ((try dsimp only); exact hS0))
          clear hS0
          (refine tkO 0 ?_; refine tkO 1 ?_; refine tkO 4 ?_; refine tkO 5 ?_; refine tkO 6 ?_)
          refine tkO 7 ?_ (v := .slice oy (und M xk).length cy) (hy := fun W hW => look_run _ _ rfl (hMp.out.below hW.1) Tryd.underlying9 Tryd.underlying24 (.slice none 0 0) (by kernel_rfl) xk hkx _ hY rfl rfl)
          (refine tdoO 2 (fun K hK => ?_); ((go_simp; refine (slices_values xa xl.length xc _).mono ?_; rintro _ wA ⟨rfl, hwA⟩; have hbA := (show Below wS.drew.heap.size wS.drew wA from hwA ▸ bal (Below.refl _ _) _)); refine hK.out _ _ ?_ (fun hHeld => ?_); ((try dsimp only); exact ⟨hbA, hwA ▸ cell_below (bal (Below.refl _ _) _) hHeld.2.1, hwA ▸ cell_below (bal (Below.refl _ _) _) hHeld.2.2⟩); clear hK K; (try clear hHeld0); (try rename_i hHeld0)))
          have hS1 := Lib.hid (sorted_values wS.drew.heap.size xa xc xl (by omega) wA (hwA ▸ (row_at (w := wS.drew) (g := wS.drew.heap.size) #[.slice xa xl.length xc] 30 rfl).cell 0) (strs_low (ListIs.below hSx.out (by omega) hbA)))
          clear hwA hbA
          (refine tdoO 3 (fun K hK => ?_); ((go_simp; refine hS1.out.mono ?_; rintro _ wB ⟨⟨vB, rfl, hvB⟩, hbB⟩); refine hK.out _ _ ?_ (fun hHeld => ?_); ((try dsimp only); exact ⟨bch hHeld.1 hbB, cell_below hbB hHeld.2.1, cell_below hbB hHeld.2.2⟩); clear hK K; (try clear hHeld0); (try rename_i hHeld0)))
          clear hS1 hbB
          (refine tdoO 8 (fun K hK => ?_); ((go_simp; refine (slices_values oy (und M xk).length cy _).mono ?_; rintro _ wC ⟨rfl, hwC⟩; have hbC := (show Below wB.heap.size wB wC from hwC ▸ bal (Below.refl _ _) _)); refine hK.out _ _ ?_ (fun hHeld => ?_); ((try dsimp only); exact ⟨bch hHeld.1 hbC, cell_below hbC hHeld.2.1, cell_below hbC hHeld.2.2⟩); clear hK K; (try clear hHeld0); (try rename_i hHeld0)))
          have hS2 := Lib.hid (sorted_values wB.heap.size oy cy (und M xk) (by omega) wC (hwC ▸ (row_at (w := wB) (g := wB.heap.size) #[.slice oy (und M xk).length cy] 30 rfl).cell 0) (strs_low (ListIs.below hYs.out (by omega) hHeld.1)))
          replace hvB := ListIs.below hvB (by omega) hbC
          clear hwC hbC
          (refine tdoO 9 (fun K hK => ?_); ((go_simp; refine hS2.out.mono ?_; rintro _ wD ⟨⟨vD, rfl, hvD⟩, hbD⟩); refine hK.out _ _ ?_ (fun hHeld => ?_); ((try dsimp only); exact ⟨bch hHeld.1 hbD, cell_below hbD hHeld.2.1, cell_below hbD hHeld.2.2⟩); clear hK K; (try clear hHeld0); (try rename_i hHeld0)))
          have hE := eq_strs vB vD (srt xl) (srt (und M xk)) wD (ListIs.below hvB (by omega) hbD) hvD (by rw [srt_len]; omega) (by rw [srt_len]; omega)
          rw [decide_eq_true hse.out] at hE
          replace hE := Lib.hid hE
          clear hvB hvD hbD hS2
          (refine tdoO 10 (fun K hK => ?_); ((go_simp; refine hE.out.mono ?_; rintro _ wE ⟨rfl, hbE⟩); refine hK.out _ _ ?_ (fun hHeld => ?_); ((try dsimp only); exact ⟨bch hHeld.1 hbE, cell_below hbE hHeld.2.1, cell_below hbE hHeld.2.2⟩); clear hK K; (try clear hHeld0); (try rename_i hHeld0)))
          clear hE hbE
          (refine tkO 11 ?_)
          (refine wpAnyH_done (by kernel_rfl) ?_ _)
          have hfin := Lib.hid (bch hb9.out hHeld.1)
          clear hHeld hHeld0
          go_wp2
          go_roundw
          case rel => exact ⟨k + 1, by omega, by go_num, hfin.out⟩
          case measure => simp [intOf]; omega
        · obtain rfl : k = L5.length := by omega
          have hle := hlen.out wr hb
          have hfin := Lib.hid (bch hw5 hb)
          clear hb
          go_wp2
          go_ret
          exact ⟨rfl, hfin.out⟩
end Go.Proofs.YtognjohloobliaaDoor
