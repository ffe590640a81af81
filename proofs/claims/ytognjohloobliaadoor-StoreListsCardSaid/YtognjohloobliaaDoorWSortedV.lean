/- slices.Sorted(slices.Values(..)) of strings. -/
import Derived.Test.YtognjohloobliaaDoorWIter
namespace Go.Proofs.YtognjohloobliaaDoor
open Go.RowKit Go.Shelf Go.Sort
set_option linter.unusedVariables false
set_option linter.unusedSimpArgs false
def leL (x y : List UInt8) : Bool := decide (x ≤ y)
/-- Strings, sorted. -/
def srt (l : List ByteArray) : List ByteArray := ((l.map fun b => b.data.toList).mergeSort fun x y => decide (x ≤ y)).map fun l => ⟨l.toArray⟩
theorem srt_len (l : List ByteArray) : (srt l).length = l.length := by unfold srt; simp
theorem srt_perm {a b : List ByteArray} (h : a.Perm b) : srt a = srt b := by
  unfold srt
  congr 1
  have htr : ∀ (x y z : List UInt8), decide (x ≤ y) = true → decide (y ≤ z) = true → decide (x ≤ z) = true := fun x y z h1 h2 => by
    simp only [decide_eq_true_eq] at *; exact List.le_trans h1 h2
  have hto : ∀ (x y : List UInt8), (decide (x ≤ y) || decide (y ≤ x)) = true := fun x y => by
    simp only [Bool.or_eq_true, decide_eq_true_eq]; exact List.le_total x y
  refine List.Perm.eq_of_pairwise (le := fun x y : List UInt8 => decide (x ≤ y) = true) (fun x y _ _ h1 h2 => ?_) (List.pairwise_mergeSort htr hto _) (List.pairwise_mergeSort htr hto _) ?_
  · simp only [decide_eq_true_eq] at h1 h2; exact List.le_antisymm h1 h2
  · exact ((List.mergeSort_perm _ _).trans (h.map _)).trans (List.mergeSort_perm _ _).symm
theorem enc_all (l : List ByteArray) : l.map Value.string = (l.map fun b => b.data.toList).map encStr := by
  rw [List.map_map]
  exact List.map_congr_left fun b _ => by simp [encStr]
theorem enc_srt (l : List ByteArray) : ((l.map fun b => b.data.toList).mergeSort fun x y => decide (x ≤ y)).map encStr = (srt l).flatMap strCells := by
  unfold srt
  generalize ((l.map fun b => b.data.toList).mergeSort fun x y => decide (x ≤ y)) = ss
  induction ss with
  | nil => rfl
  | cons x ss ih => rw [List.map_cons, List.map_cons, List.flatMap_cons, ← ih]; rfl
set_option maxRecDepth 100000 in
set_option maxHeartbeats 2000000 in
theorem sorted_values (Bs : Nat) (o : Option Addr) (cap : Nat) (zs : List ByteArray) (hlen : zs.length ≤ 1000000) (w : World) (hBs : w.cell? ⟨Bs, 0, none⟩ = some (.slice o zs.length cap)) (hI : zs.length = 0 ∨ ∃ b off, o = some ⟨b, off, none⟩ ∧ StrsLow w.heap.size w b off zs) :
    Calls Tryd.prog 8 #[.func (.func 17) #[] #[.pointer (some ⟨Bs, 0, none⟩)]] w fun e w' => (∃ v, e = .returned v ∧ StrsIs w' v (srt zs)) ∧ Below w.heap.size w w' := by
  have hA := Lib.hid (append_seq Bs o cap zs hlen w hBs hI)
  have hC : Calls Tryd.prog 15 #[.func (.func 17) #[] #[.pointer (some ⟨Bs, 0, none⟩)]] w fun e w' => ∃ v, e = .returned v ∧ w'.ownsRow w.heap.size 9 1 v zs.length (zs.map Value.string) ∧ Below w.heap.size w w' := by
    go_enter Tryd.func15, Tryd.ntmps15
    go_wp2_with fail
    refine hA.out.mono ?_
    rintro _ w2 ⟨v, rfl, h1, h2⟩
    replace h1 := Lib.hid h1
    go_wp2
    go_ret
    exact ⟨v, rfl, h1.out, h2⟩
  clear hBs hI hA
  replace hC := Lib.hid hC
  go_enter Tryd.func8, Tryd.ntmps8
  go_wp2_with fail
  refine hC.out.mono ?_
  rintro _ w2 ⟨v, rfl, hrow, hb⟩
  rw [enc_all] at hrow
  have hl : ((zs.map fun b => b.data.toList).mergeSort fun x y => decide (x ≤ y)).length = (zs.map fun b => b.data.toList).length := by simp
  have hrow2 := hrow.2
  rw [show zs.length = (zs.map fun b => b.data.toList).length by simp] at hrow2
  rcases hrow2 with ⟨rfl, hz⟩ | ⟨gb, c2, cur, rfl, hbase, hgb, r1, r2, r3, r4⟩
  · have hzs : zs = [] := by simpa using hz
    subst hzs
    have hS := Lib.hid (Tryd.slices_Sort_string_none none 0 w2)
    clear hrow hl hz
    go_wp2_with fail
    refine hS.out.mono ?_
    rintro _ w3 ⟨rfl, rfl⟩
    go_wp2
    go_ret
    exact ⟨⟨_, rfl, by rw [show srt [] = [] from by unfold srt; simp]; exact ListIs.nil _ _ _⟩, hb⟩
  · have hH : Holds encStr w2 gb 0 (zs.map fun b => b.data.toList).toArray := holds_of_block hgb (by simpa using r4)
    have hgl : gb < w2.heap.size := (Array.getElem?_eq_some_iff.1 hgb).1
    have hS := Tryd.slices_Sort_string gb 0 c2 (zs.map fun b => b.data.toList) w2 hH hgl (by simp; omega)
    simp only [List.length_map] at hS
    replace hS := Lib.hid hS
    have hF : ∀ n os, (grow (putRow encStr (Sort.ahead w2 n) gb 0 ((zs.map fun b => b.data.toList).mergeSort fun x y => decide (x ≤ y)).toArray) os).ownsRow w.heap.size 9 1 (.slice (some ⟨gb, 0, none⟩) (zs.map fun b => b.data.toList).length c2) (zs.map fun b => b.data.toList).length (((zs.map fun b => b.data.toList).mergeSort fun x y => decide (x ≤ y)).map encStr) := fun n os => ownsRow_sorted hl hbase hgb r1 r2 r3
    have hG := fun n os => hb.grown (grownBy_sorted (w := w2) (g := gb) (n := n) (os := os) ((zs.map fun b => b.data.toList).mergeSort fun x y => decide (x ≤ y)).toArray) hb.size (fun j hj => by cases hj; exact hbase)
    rw [enc_srt] at hF
    simp only [List.length_map] at hF
    replace hF := Lib.hid hF
    replace hG := Lib.hid hG
    clear hrow r1 r2 r3 r4 hH hgb hl hb
    go_wp2_with fail
    refine hS.out.mono ?_
    rintro _ w3 ⟨rfl, n, os, rfl⟩
    have hfin := hF.out n os
    have hfb := hG.out n os
    generalize grow (putRow encStr (Sort.ahead w2 n) gb 0 ((zs.map fun b => b.data.toList).mergeSort fun x y => decide (x ≤ y)).toArray) os = w3 at *
    replace hfin := Lib.hid hfin
    go_wp2
    go_ret
    refine ⟨⟨.slice (some ⟨gb, 0, none⟩) zs.length c2, rfl, ?_⟩, hfb⟩
    have h := hfin.out
    rw [← srt_len zs] at h ⊢
    exact ListIs.of_owns h
end Go.Proofs.YtognjohloobliaaDoor
