/- copy between rows of elements of any size; what slices.Insert makes of a row. -/
import Derived.Laws.CopyOwn
import Derived.Lib.AppendZeros
import Derived.Lib.AppendZerosOnto
import Derived.Lib.Overlaps
import Derived.Test.YtognjohloobliaaGreatDoorJ01
namespace Go.Proofs.YtognjohloobliaaGreatDoor
open Go.RowKit
set_option linter.unusedVariables false
set_option linter.unusedSimpArgs false
theorem run_copy_rowK {P : Program} (w : World) (dT sT ty elem : TypeId) (g o dLen dCap : Nat) (a : Addr) (sLen sCap : Nat) (cur : Array Value) (t : TypeId) (cs : List Value) (sz k : Nat)
  (hu : P.underlying dT = some (.slice elem)) (hs : (P.info? elem).map (·.size) = some sz)
  (hg : w.heap[g]? = some (.cells cur t (0, 0))) (hk : k = Nat.min sLen dLen) (hn : cs.length = k * sz)
  (hsrc : ∀ j v, cs[j]? = some v → w.cell? (a.add j) = some v) (hfit : o + cs.length ≤ cur.size) (h1 : ∀ v ∈ cs, v.oneCell' = true) :
  (Builtin.copy_ #[dT, sT] ty #[.slice (some ⟨g, o, none⟩) dLen dCap, .slice (some a) sLen sCap]).run P w =
   .ok (goInt k) (w.setRow g (cur.toList.take o ++ cs ++ cur.toList.drop (o + cs.length)).toArray) := by
 have hl := run_loadCells_list (P := P) w a cs hsrc
 have hst := run_storeCells_at P g o t cs 0 cur w hg (by simpa using hfit) h1
 rw [hn] at hl
 cases hq : P.info? elem with
 | none => simp [hq] at hs
 | some i =>
  have hi : i.size = sz := by simpa [hq] using hs
  simp [Builtin.copy_, run_underlying hu, Builtin.lenOf, Builtin.firstCells, sizeOf, typeInfo, hq, hi, ← hk, hl, hst]
theorem copy_stepK {P : Program} {o : Oper} {a : Act} {w : World} {K : Act → World → Prop} {Q : Exit → Act → World → Prop} (d s : Operand) (dT sT : TypeId)
  (ho : o.op = .call { callee := .builtin .copy, args := #[d, s], argTypes := #[dT, sT] }) (elem : TypeId) (hu : P.underlying dT = some (.slice elem)) (sz : Nat) (hsz : (P.info? elem).map (·.size) = some sz)
  (g off gs f dLen dCap sLen sCap : Nat) (hd : a.eval d = .slice (some ⟨g, off, none⟩) dLen dCap) (hs : a.eval s = .slice (some ⟨gs, f, none⟩) sLen sCap)
  (cur : List Value) (t : TypeId) (hg : w.heap[g]? = some (.cells cur.toArray t (0, 0))) (cs : List Value) (k : Nat) (hk : k = Nat.min sLen dLen) (hn : cs.length = k * sz)
  (hsrc : ∀ j v, cs[j]? = some v → w.cell? ⟨gs, f + j, none⟩ = some v)
  (hfit : off + cs.length ≤ cur.length) (h1 : ∀ v ∈ cs, v.oneCell' = true)
  (h : ∀ w', w'.heap[g]? = some (.cells (splice cur off cs).toArray t (0, 0)) → Only (fun k => k = g) w w' → K (a.put o.dst (goInt k)) w') : Oper.wp P o a w K Q := by
 have hrun := run_copy_rowK (P := P) w dT sT o.type elem g off dLen dCap ⟨gs, f, none⟩ sLen sCap cur.toArray t cs sz k hu hsz hg hk hn (fun j v hj => by rw [Addr.add_lit]; exact hsrc j v hj) (by simpa using hfit) h1
 unfold Oper.wp
 simp [execOp, ho, resolve, invoke, builtin, hd, hs, hrun, Result.andThen]
 refine h _ (show _ = _ by simpa [splice] using setRow_heap w g _ _ t _ hg) ⟨rfl, rfl, rfl, by simp [World.setRow], fun k _ hk => setRow_other w g k _ (fun e => hk e)⟩
theorem wpList_copyK {P : Program} {ops : Array Oper} {rest : List Oper} {o : Oper} {a : Act} {w : World} {Q : Exit → Act → World → Prop} (hgd : o.guard = none) (d s : Operand) (dT sT : TypeId)
  (ho : o.op = .call { callee := .builtin .copy, args := #[d, s], argTypes := #[dT, sT] }) (elem : TypeId) (hu : P.underlying dT = some (.slice elem)) (sz : Nat) (hsz : (P.info? elem).map (·.size) = some sz)
  (g off gs f dLen dCap sLen sCap : Nat) (hd : a.eval d = .slice (some ⟨g, off, none⟩) dLen dCap) (hs : a.eval s = .slice (some ⟨gs, f, none⟩) sLen sCap)
  (cur : List Value) (t : TypeId) (hg : w.heap[g]? = some (.cells cur.toArray t (0, 0))) (cs : List Value) (k : Nat) (hk : k = Nat.min sLen dLen) (hn : cs.length = k * sz)
  (hsrc : ∀ j v, cs[j]? = some v → w.cell? ⟨gs, f + j, none⟩ = some v)
  (hfit : off + cs.length ≤ cur.length) (h1 : ∀ v ∈ cs, v.oneCell' = true)
  (h : ∀ w', w'.heap[g]? = some (.cells (splice cur off cs).toArray t (0, 0)) → Only (fun k => k = g) w w' → wpList P ops Q rest (a.put o.dst (goInt k)) w') : wpList P ops Q (o :: rest) a w :=
 wpList_plain hgd fun _ hK => copy_stepK d s dT sT ho elem hu sz hsz g off gs f dLen dCap sLen sCap hd hs cur t hg cs k hk hn hsrc hfit h1 (fun w' h1 h2 => hK _ _ (h w' h1 h2))
/-- Cells of a row, by where it lies. -/
theorem heap_cell {w : World} {g : Nat} {cur : List Value} {t : TypeId} (hg : w.heap[g]? = some (.cells cur.toArray t (0, 0))) (j : Nat) : w.cell? ⟨g, j, none⟩ = cur[j]? := by
 simp [World.cell?, hg]
theorem heap_only {S : Nat → Prop} {w w' : World} {g : Nat} {cur : List Value} {t : TypeId} (hg : w.heap[g]? = some (.cells cur.toArray t (0, 0))) (ho : Only S w w') (hn : ¬ S g) : w'.heap[g]? = some (.cells cur.toArray t (0, 0)) := by
 rw [ho.block g (Array.getElem?_eq_some_iff.1 hg).1 hn]; exact hg
theorem Only.drewL {S : Nat → Prop} {w w' : World} (h : Only S w.drew w') : Only S w w' := (Only.refl S w).drew.trans h
theorem owns_slice_ {w : World} {base : Nat} {e : TypeId} {sz n : Nat} {v : Value} {xs : List Value} (h : w.ownsRow base e sz v n xs) : ∃ o c, v = .slice o n c := by
 rcases h.2 with ⟨rfl, rfl⟩ | ⟨g, cap, cur, rfl, _⟩
 ·exact ⟨none, 0, rfl⟩
 ·exact ⟨_, cap, rfl⟩
theorem owns_cap {w : World} {base : Nat} {e : TypeId} {sz n c : Nat} {o : Option Addr} {xs : List Value} (h : w.ownsRow base e sz (.slice o n c) n xs) : n ≤ c := by
 rcases h.2 with ⟨h1, h2⟩ | ⟨g, cap, cur, h1, _, _, h2, _⟩
 ·omega
 ·injection h1 with _ _ h1; omega
theorem splice_len (l : List Value) (o : Nat) (cs : List Value) (h : o + cs.length ≤ l.length) : (splice l o cs).length = l.length := by
 unfold splice
 simp only [List.length_append, List.length_take, List.length_drop]; omega
/-- Both copies of an insertion where there is room. -/
theorem ins_room (cur us : List Value) (n i sz cap : Nat) (hi : i < n) (hus : us.length = sz) (hcur : cur.length = cap * sz) (hr : n + 1 ≤ cap) :
  (splice (splice cur ((i + 1) * sz) ((cur.take (n * sz)).drop (i * sz))) (i * sz) us).take ((n + 1) * sz) = (cur.take (n * sz)).take (i * sz) ++ us ++ (cur.take (n * sz)).drop (i * sz) := by
 have a1 : i * sz ≤ n * sz := Nat.mul_le_mul_right _ (by omega)
 have a2 : (n + 1) * sz ≤ cap * sz := Nat.mul_le_mul_right _ hr
 have a3 : (i + 1) * sz = i * sz + sz := by rw [Nat.add_mul, Nat.one_mul]
 have a4 : (n + 1) * sz = n * sz + sz := by rw [Nat.add_mul, Nat.one_mul]
 rw [a4] at a2
 rw [a3, a4]
 generalize i * sz = I at *
 generalize n * sz = N at *
 have b1 : ((cur.take N).drop I).length = N - I := by simp only [List.length_drop, List.length_take]; omega
 have c1 : (cur.take (I + sz)).length = I + sz := by rw [List.length_take]; omega
 have e1 : splice cur (I + sz) ((cur.take N).drop I) = cur.take (I + sz) ++ ((cur.take N).drop I ++ cur.drop (I + sz + (N - I))) := by
  unfold splice
  rw [b1]
  (try simp only [List.append_assoc])
 rw [e1]
 generalize cur.drop (I + sz + (N - I)) = D
 have e2 : splice (cur.take (I + sz) ++ ((cur.take N).drop I ++ D)) I us = cur.take I ++ us ++ ((cur.take N).drop I ++ D) := by
  unfold splice
  rw [hus, List.drop_left' c1, List.take_append_of_le_length (by omega), List.take_take, Nat.min_eq_left (by omega)]
  (try simp only [List.append_assoc])
 rw [e2, ← List.append_assoc, List.take_left' (by simp only [List.length_append, List.length_take, b1, hus]; omega), List.take_take, Nat.min_eq_left a1]
/-- Both copies of an insertion into a new row. -/
theorem ins_grow (X Z us R : List Value) (n i sz : Nat) (hi : i < n) (hus : us.length = sz) (hX : X.length = n * sz) (hZ : Z.length = (n + 1 - i) * sz) :
  (splice (splice (X.take (i * sz) ++ Z ++ R) (i * sz) us) ((i + 1) * sz) (X.drop (i * sz))).take ((n + 1) * sz) = X.take (i * sz) ++ us ++ X.drop (i * sz) := by
 have a1 : i * sz ≤ n * sz := Nat.mul_le_mul_right _ (by omega)
 have a3 : (i + 1) * sz = i * sz + sz := by rw [Nat.add_mul, Nat.one_mul]
 have a4 : (n + 1) * sz = n * sz + sz := by rw [Nat.add_mul, Nat.one_mul]
 have a5 : (n + 1 - i) * sz = n * sz + sz - i * sz := by rw [Nat.sub_mul, a4]
 rw [a5] at hZ
 rw [a3, a4]
 generalize i * sz = I at *
 generalize n * sz = N at *
 have b0 : (X.take I).length = I := by rw [List.length_take]; omega
 have b1 : (X.drop I).length = N - I := by rw [List.length_drop]; omega
 have e1 : splice (X.take I ++ Z ++ R) I us = (X.take I ++ us) ++ (Z ++ R).drop sz := by
  unfold splice
  rw [List.append_assoc, List.take_left' b0, hus, List.drop_append, b0, List.drop_of_length_le (by omega), List.nil_append, show I + sz - I = sz by omega]
  (try simp only [List.append_assoc])
 rw [e1]
 have c1 : (X.take I ++ us).length = I + sz := by rw [List.length_append, b0, hus]
 have e2 : splice ((X.take I ++ us) ++ (Z ++ R).drop sz) (I + sz) (X.drop I) = (X.take I ++ us) ++ X.drop I ++ ((X.take I ++ us) ++ (Z ++ R).drop sz).drop (I + sz + (N - I)) := by
  unfold splice
  rw [List.take_left' c1, b1]
  (try simp only [List.append_assoc])
 rw [e2, List.take_left' (by rw [List.length_append, c1, b1]; omega)]
end Go.Proofs.YtognjohloobliaaGreatDoor
