/- The walk of recv's Take; printed by gen_take.py. -/
import Derived.Test.YtdpdnkjpjoccmaaDoorWRecvC
import Derived.Test.YtdpdnkjpjoccmaaDoorWChunkR
namespace Go.Proofs.YtdpdnkjpjoccmaaDoor
open Go.RowKit
set_option linter.unusedVariables false
set_option linter.unusedSimpArgs false
namespace Recv
/-- One byte more. -/
def put1 (p : List UInt8 × List Bool) (i : Nat) (b : UInt8) : List UInt8 × List Bool := if p.2[i]? = some true then p else (p.1.set i b, p.2.set i true)
theorem fill_snoc (l : List UInt8) (y : UInt8) (i : Nat) (p : List UInt8 × List Bool) : fill (l ++ [y]) i p = put1 (fill l i p) (i + l.length) y := by
  induction l generalizing i p with
  | nil => rfl
  | cons b l ih =>
    rw [List.cons_append, fill, ih, fill, List.length_cons, show i + 1 + l.length = i + (l.length + 1) by omega]
end Recv
set_option maxHeartbeats 2000000 in
set_option maxRecDepth 20000 in
theorem recv_take_bad (w : World) (p : Nat) (s : ByteArray) (hs : s.size ≤ 1000000) (x : Nat) (hx : Chunk.read s.data.toList = .bad x) :
    Calls Tryd.prog 16 #[.pointer (some ⟨p, 0, none⟩), .string s] w fun e w' => e = .returned (errN x) ∧ Below w.heap.size w w' := by
  have hRd := chunk_read s w hs
  rw [hx] at hRd
  have hv : chunkVal (.bad x) = .tuple #[pieceVal noPiece, .iface 58 (.int .i64 x)] := rfl
  have hv2 : pieceVal noPiece = .agg #[.int .u32 0, .int .i64 0, .int .i64 0, .string ⟨#[]⟩] := rfl
  rw [hv, hv2] at hRd
  clear hx hv hv2
  replace hRd := Lib.hid hRd
  go_enter Tryd.func16, Tryd.ntmps16
  go_wp2_with fail
  refine hRd.out.mono ?_
  rintro e w2 ⟨rfl, hb2⟩
  go_wp2
  go_ret
  exact ⟨rfl, by (repeat (first | exact Below.refl _ _ | assumption | refine bal ?_ _ | refine bdr ?_ | refine bdn ?_ _ | refine bst ?_ (by first | assumption | exact Nat.le_refl _ | omega) _ | refine bch ?_ (by assumption)))⟩
set_option maxHeartbeats 4000000 in
set_option maxRecDepth 20000 in
theorem recv_take_more (w : World) (p m : Nat) (O : Nat → Prop) (R : Recv.Rec) (hR : RecvIs w p O m R) (s : ByteArray) (hs : s.size ≤ 1000000) (nm t at_ : Nat) (x : ByteArray) (hx : Chunk.read s.data.toList = .ok ⟨nm, t, at_, x⟩) (hnm : nm < 4294967296) (hf : Chunk.Fine ⟨nm, t, at_, x⟩) (h0 : R.came ≠ []) (h1 : R.name = nm) (h2 : R.came.length = t) :
    Calls Tryd.prog 16 #[.pointer (some ⟨p, 0, none⟩), .string s] w fun e w' => e = .returned .nilIface ∧ ∃ O' R', R.take nm t at_ x.data.toList = some R' ∧ RecvIs w' p O' m R' ∧ Only O w w' ∧ ∀ k, O' k → O k ∨ w.heap.size ≤ k := by
  have hRd := chunk_read s w hs
  rw [hx] at hRd
  have hv : chunkVal (.ok ⟨nm, t, at_, x⟩) = .tuple #[.agg #[.int .u32 nm, .int .i64 t, .int .i64 at_, .string x], .nilIface] := rfl
  rw [hv] at hRd
  clear hx hv
  obtain ⟨d, gs, b, g3', g4', v3, v4, hR⟩ := hR
  have ht1 : 1 ≤ t := by have := hf.t1; simp only at this; omega
  have ht2 : t ≤ 4096 := by have := hf.t2; simp only at this; omega
  have hfit : at_ + x.size ≤ t := by have := hf.fit; simp only at this; omega
  have hx2 : x.size ≤ 256 := hf.d2
  clear hf
  have hne : ((t : Int) == 0) = false := by rw [beq_eq_false_iff_ne]; omega
  have hpl := hR.row.lt
  have hop : R.opened nm t = R := by unfold Recv.Rec.opened; rw [if_neg h0]
  have htk : R.take nm t at_ x.data.toList = some { R with data := (Recv.fill x.data.toList at_ (R.data, R.came)).1, came := (Recv.fill x.data.toList at_ (R.data, R.came)).2 } := by
    unfold Recv.Rec.take
    rw [hop, if_neg (by rw [h1, h2]; omega)]
  have hwv : v3 = .slice (some ⟨g3', 0, none⟩) t t ∧ v4 = .slice (some ⟨g4', 0, none⟩) t t := by
    have hl3 : (byteVals R.data).length = t := by rw [← h2, ← hR.len]; simp [byteVals]
    have hl4 : (flags R.came).length = t := by rw [← h2]; simp [flags]
    constructor
    · rcases hR.dat with ⟨h, _⟩ | ⟨_, h, _⟩
      · rw [h] at hl3; simp at hl3; omega
      · rw [h, hl3]
    · rcases hR.cam with ⟨h, _⟩ | ⟨_, h, _⟩
      · rw [h] at hl4; simp at hl4; omega
      · rw [h, hl4]
  obtain ⟨rfl, rfl⟩ := hwv
  clear hop
  replace htk := Lib.hid htk
  replace hR := Lib.hid hR
  replace hRd := Lib.hid hRd
  go_enter Tryd.func16, Tryd.ntmps16
  go_wp2_with fail
  refine hRd.out.mono ?_
  rintro e w2 ⟨rfl, hb2⟩
  have hs2 := hb2.size
  have hbal := bal hb2 (.cells #[.int .u32 nm, .int .i64 t, .int .i64 at_, .string x] 37)
  have hAt := hR.out.below hbal
  have hbxz := row_alloc w2 #[.int .u32 nm, .int .i64 t, .int .i64 at_, .string x] 37
  have hoz : Only O w (w2.alloc (.cells #[.int .u32 nm, .int .i64 t, .int .i64 at_, .string x] 37)) := Only.of_below _ hbal
  have p2' : (w2.alloc (.cells #[.int .u32 nm, .int .i64 t, .int .i64 at_, .string x] 37)).cell? ⟨p, 2, none⟩ = some (.int .i64 R.came.length) := hAt.row.cell 2
  rw [h2] at p2'
  have hlt3 := hR.out.lt _ (hR.out.o5 h0).1
  have hlt4 := hR.out.lt _ (hR.out.o5 h0).2
  obtain ⟨gb, hgb0⟩ : ∃ gb, gb = w2.heap.size := ⟨_, rfl⟩
  have hgb : gb ≠ g3' ∧ gb ≠ g4' := by omega
  have hpne : ¬ p = w2.heap.size := by omega
  have hpne' : ¬ w2.heap.size = p := by omega
  have hOf : ∀ k, O k → O k ∨ w.heap.size ≤ k := fun k hk => Or.inl hk
  have hbx3 := hbxz.cell 3
  replace hbxz := Lib.hid hbxz
  replace hAt := Lib.hid hAt
  replace hoz := Lib.hid hoz
  clear hbal
  go_wp2_with fail
  generalize (w2.alloc (.cells #[.int .u32 nm, .int .i64 t, .int .i64 at_, .string x] 37)) = Wz at *
  rw [← hgb0] at *
  clear hgb0 hb2 p2' hbx3
  replace hbxz := hbxz.out
  replace hAt := hAt.out
  replace hoz := hoz.out
  replace htk := htk.out
  have hcne := h0
  have hlen := h2
  have hRn := h1
  obtain ⟨Ro, hRo⟩ : ∃ Ro, Ro = R := ⟨_, rfl⟩
  obtain ⟨O', hO'⟩ : ∃ O', O' = O := ⟨_, rfl⟩
  rw [← hRo] at hAt hcne hlen hRn
  rw [← hO'] at hAt
  have htk : R.take nm t at_ x.data.toList = some { Ro with data := (Recv.fill x.data.toList at_ (Ro.data, Ro.came)).1, came := (Recv.fill x.data.toList at_ (Ro.data, Ro.came)).2 } := by rw [hRo]; exact htk
  have hOf : ∀ k, O' k → O k ∨ w.heap.size ≤ k := by rw [hO']; exact hOf
  clear hRo hO'
  clear h0 h1 h2
  as_aux_lemma =>
    have hgd := hAt.n4 hcne
    have hoo := hAt.o5 hcne
    obtain ⟨D0, hD0⟩ : ∃ D0, D0 = Ro.data := ⟨_, rfl⟩
    obtain ⟨C0, hC0⟩ : ∃ C0, C0 = Ro.came := ⟨_, rfl⟩
    have hDl : D0.length = t := by rw [hD0, hAt.len]; exact hlen
    have hCl : C0.length = t := by rw [hC0]; exact hlen
    have hr3 : Row Wz g3' 5 (byteVals D0) := by
      rcases hAt.dat with ⟨h, _⟩ | ⟨_, _, h⟩
      · have := congrArg List.length h
        rw [← hD0] at this
        simp [byteVals, hDl] at this
        omega
      · rw [hD0]; exact h
    have hr4 : Row Wz g4' 4 (flags C0) := by
      rcases hAt.cam with ⟨h, _⟩ | ⟨_, _, h⟩
      · have := congrArg List.length h
        rw [← hC0] at this
        simp [flags, hCl] at this
        omega
      · rw [hC0]; exact h
    have p3 : Wz.cell? ⟨p, 3, none⟩ = some (.slice (some ⟨g3', 0, none⟩) t t) := hAt.row.cell 3
    have p4 : Wz.cell? ⟨p, 4, none⟩ = some (.slice (some ⟨g4', 0, none⟩) t t) := hAt.row.cell 4
    have b2 : Wz.cell? ⟨gb, 2, none⟩ = some (.int .i64 at_) := hbxz.cell 2
    have b3 : Wz.cell? ⟨gb, 3, none⟩ = some (.string x) := hbxz.cell 3
    have b0 : Wz.cell? ⟨gb, 0, none⟩ = some (.int .u32 nm) := hbxz.cell 0
    have b1 : Wz.cell? ⟨gb, 1, none⟩ = some (.int .i64 t) := hbxz.cell 1
    have p1 : Wz.cell? ⟨p, 1, none⟩ = some (.int .u32 Ro.name) := hAt.row.cell 1
    have p2 : Wz.cell? ⟨p, 2, none⟩ = some (.int .i64 Ro.came.length) := hAt.row.cell 2
    rw [hRn] at p1
    rw [hlen] at p2
    have hn1' : ((nm : Int) != (nm : Int)) = false := by simp
    have hn2' : ((t : Int) != (t : Int)) = false := by simp
    have hb3g : gb ≠ g3' ∧ gb ≠ g4' := hgb
    have hr3' := Lib.hid hr3
    have hr4' := Lib.hid hr4
    replace hAt := Lib.hid hAt
    replace hbxz := Lib.hid hbxz
    replace hoz := Lib.hid hoz
    replace hOf := Lib.hid hOf
    replace htk := Lib.hid htk
    clear hr3 hr4
    replace hD0 := Lib.hid hD0
    replace hC0 := Lib.hid hC0
    replace hRn := Lib.hid hRn
    replace hcne := Lib.hid hcne
    go_wp2_with fail
    go_quiet (fail)
    go_wp2
    go_loopw [63] (fun i wr => ∃ (k : Nat) (D : List UInt8) (C : List Bool), k ≤ x.size ∧ i = .int .i64 k ∧ (D, C) = Recv.fill (x.data.toList.take k) at_ (D0, C0) ∧ D.length = t ∧ C.length = t ∧ Row wr g3' 5 (byteVals D) ∧ Row wr g4' 4 (flags C) ∧ Only (fun j => j = g3' ∨ j = g4') Wz wr) (fun i _ => x.size - (intOf i).toNat)
    case atStart => exact ⟨0, D0, C0, by omega, rfl, rfl, hDl, hCl, hr3'.out, hr4'.out, by first | exact Only.refl _ _ | exact (Only.refl _ _).drew | exact (Only.refl _ _).drewN _⟩
    case round =>
      obtain ⟨k, D, C, hk, rfl, hfl, hDk, hCk, hR3, hR4, hon⟩ := hrel
      by_cases hlt : k < x.size
      · have e3 : wr.cell? ⟨p, 3, none⟩ = some (.slice (some ⟨g3', 0, none⟩) t t) := hon.cell (p := ⟨p, 3, none⟩) p3 (by show ¬ (p = g3' ∨ p = g4'); omega)
        have e4 : wr.cell? ⟨p, 4, none⟩ = some (.slice (some ⟨g4', 0, none⟩) t t) := hon.cell (p := ⟨p, 4, none⟩) p4 (by show ¬ (p = g3' ∨ p = g4'); omega)
        have e5 : wr.cell? ⟨gb, 2, none⟩ = some (.int .i64 at_) := hon.cell (p := ⟨gb, 2, none⟩) b2 (by show ¬ (gb = g3' ∨ gb = g4'); omega)
        have e6 : wr.cell? ⟨gb, 3, none⟩ = some (.string x) := hon.cell (p := ⟨gb, 3, none⟩) b3 (by show ¬ (gb = g3' ∨ gb = g4'); omega)
        have hik : at_ + k < t := by omega
        have htk1 : x.data.toList.take (k + 1) = x.data.toList.take k ++ [x[k]] := take_snoc x k hlt
        have hfl2 := Recv.fill_snoc (x.data.toList.take k) x[k] at_ (D0, C0)
        rw [← htk1, ← hfl, List.length_take, show min k x.data.toList.length = k by rw [Array.length_toList]; exact Nat.min_eq_left hk] at hfl2
        have e7 : wr.cell? ⟨g4', at_ + k, none⟩ = some (.bool (C[at_ + k]'(by omega))) := by rw [hR4.cell, flags, List.getElem?_map, List.getElem?_eq_getElem (by omega)]; rfl
        have e8 : wr.cell? ⟨g3', at_ + k, none⟩ = some (.int .u8 (D[at_ + k]'(by omega)).toNat) := by rw [hR3.cell, byteVals, List.getElem?_map, List.getElem?_eq_getElem (by omega)]; rfl
        have f7 := hR4.frozen (at_ + k) (by simp [flags]; omega)
        have f8 := hR3.frozen (at_ + k) (by simp [byteVals]; omega)
        have hCe : C[at_ + k]? = some (C[at_ + k]'(by omega)) := List.getElem?_eq_getElem (by omega)
        generalize (D[at_ + k]'(by omega)).toNat = oldb at *
        generalize hcb : C[at_ + k]'(by omega) = cb at *
        have hxl : x[k].toNat < 256 := x[k].toNat_lt
        have hwi : IntKind.i64.wrap ((at_ : Int) + (k : Int)) = (at_ : Int) + (k : Int) := by rw [IntKind.wrap_i64]; omega
        have hR3' := Lib.hid hR3
        have hR4' := Lib.hid hR4
        replace hfl := Lib.hid hfl
        clear hR3 hR4 htk1
        have hne34 : ¬ g3' = g4' := by omega
        have hne43 : ¬ g4' = g3' := by omega
        have hp3n : ¬ p = g3' := by omega
        have hp4n : ¬ p = g4' := by omega
        have hb3n : ¬ gb = g3' := by omega
        have hb4n : ¬ gb = g4' := by omega
        cases cb with
        | true =>
          have hfl3 : Hid (Recv.fill (x.data.toList.take (k + 1)) at_ (D0, C0) = (D, C)) := Lib.hid (by rw [hfl2]; unfold Recv.put1; rw [if_pos hCe])
          clear hfl2 hCe
          go_wp2_with fail
          go_quiet (fail)
          go_wp2
          go_roundw
          case rel => exact ⟨k + 1, D, C, by omega, by go_num, hfl3.out.symm, hDk, hCk, by first | exact hR3'.out | exact hR3'.out.drew, by first | exact hR4'.out | exact hR4'.out.drew, by first | exact hon | exact hon.drew | exact hon.drewN _⟩
          case measure => simp [intOf]; omega
        | false =>
          have hfl3 : Hid (Recv.fill (x.data.toList.take (k + 1)) at_ (D0, C0) = (D.set (at_ + k) x[k], C.set (at_ + k) true)) := Lib.hid (by rw [hfl2]; unfold Recv.put1; rw [if_neg (by rw [hCe]; simp)])
          clear hfl2 hCe
          go_wp2_with fail
          go_quiet (fail)
          go_wp2
          go_region
          go_wp2
          go_roundw
          case rel =>
            refine ⟨k + 1, D.set (at_ + k) x[k], C.set (at_ + k) true, by omega, by go_num, hfl3.out.symm, by rw [List.length_set]; exact hDk, by rw [List.length_set]; exact hCk, ?_, ?_, ?_⟩
            · have h := ((hR3'.out.set (at_ + k) (.int .u8 x[k].toNat)).other (p := ⟨g4', at_ + k, none⟩) (by show g4' ≠ g3'; omega) (.bool true))
              rw [show byteVals (D.set (at_ + k) x[k]) = (byteVals D).set (at_ + k) (.int .u8 x[k].toNat) by simp [byteVals, List.map_set]]
              first | exact h | exact h.drew
            · have h := ((hR4'.out.other (p := ⟨g3', at_ + k, none⟩) (by show g3' ≠ g4'; omega) (.int .u8 x[k].toNat)).set (at_ + k) (.bool true))
              rw [show flags (C.set (at_ + k) true) = (flags C).set (at_ + k) (.bool true) by simp [flags, List.map_set]]
              first | exact h | exact h.drew
            · refine Only.set (Only.set ?_ (p := ⟨g3', at_ + k, none⟩) (Or.inl (Or.inl rfl)) _) (p := ⟨g4', at_ + k, none⟩) (Or.inl (Or.inr rfl)) _
              first | exact hon | exact hon.drew | exact hon.drewN _
          case measure => simp [intOf]; omega
      · obtain rfl : k = x.size := by omega
        rw [show x.data.toList.take x.size = x.data.toList from List.take_of_length_le (by rw [Array.length_toList]; exact Nat.le_refl _)] at hfl
        replace hfl := Lib.hid hfl
        have hR3' := Lib.hid hR3
        have hR4' := Lib.hid hR4
        clear hR3 hR4
        go_wp2
        go_ret
        have hA := hAt.out
        have hCne : C ≠ [] := fun e => by rw [e] at hCk; simp at hCk; omega
        have hfin : (Recv.fill x.data.toList at_ (Ro.data, Ro.came)) = (D, C) := by rw [hfl.out, hD0.out, hC0.out]
        have hsz := hon.size
        refine ⟨rfl, O', { Ro with data := D, came := C }, by rw [htk.out, hfin], ⟨d, gs, b, g3', g4', .slice (some ⟨g3', 0, none⟩) t t, .slice (some ⟨g4', 0, none⟩) t t, { row := ?_, disk := hA.disk.only hon (by omega) (by omega) (by omega), dat := .inr ⟨?_, ?_, hR3'.out⟩, cam := .inr ⟨?_, ?_, hR4'.out⟩, len := by rw [hDk, hCk], o1 := hA.o1, o2 := hA.o2, o3 := hA.o3, o4 := hA.o4, o5 := fun _ => hoo, lt := fun k hk => Nat.lt_of_lt_of_le (hA.lt k hk) hsz, n1 := hA.n1, n2 := hA.n2, n3 := hA.n3, n4 := fun _ => hgd }⟩, ?_, hOf.out⟩
        · have h := hA.row.only hon (by omega)
          rw [hlen] at h
          show Row wr p _ [.pointer (some ⟨d, 0, none⟩), .int .u32 Ro.name, .int .i64 (C.length : Nat), .slice (some ⟨g3', 0, none⟩) t t, .slice (some ⟨g4', 0, none⟩) t t, .int .i64 Ro.saved, .int .i64 Ro.safe, .int .i64 Ro.mark]
          rw [hCk]
          exact h
        · intro e; have := congrArg List.length e; simp [byteVals, hDk] at this; omega
        · show Value.slice _ t t = _; rw [show (byteVals D).length = t by simp [byteVals, hDk]]
        · intro e; have := congrArg List.length e; simp [flags, hCk] at this; omega
        · show Value.slice _ t t = _; rw [show (flags C).length = t by simp [flags, hCk]]
        · refine hoz.out.step hon (fun j hj => ?_)
          rcases hj with rfl | rfl
          · exact hOf.out _ hoo.1
          · exact hOf.out _ hoo.2
set_option maxHeartbeats 8000000 in
set_option maxRecDepth 20000 in
theorem recv_take_open (w : World) (p m : Nat) (O : Nat → Prop) (R : Recv.Rec) (hR : RecvIs w p O m R) (s : ByteArray) (hs : s.size ≤ 1000000) (nm t at_ : Nat) (x : ByteArray) (hx : Chunk.read s.data.toList = .ok ⟨nm, t, at_, x⟩) (hnm : nm < 4294967296) (hf : Chunk.Fine ⟨nm, t, at_, x⟩) (h0 : R.came = []) :
    Calls Tryd.prog 16 #[.pointer (some ⟨p, 0, none⟩), .string s] w fun e w' => e = .returned .nilIface ∧ ∃ O' R', R.take nm t at_ x.data.toList = some R' ∧ RecvIs w' p O' m R' ∧ Only O w w' ∧ ∀ k, O' k → O k ∨ w.heap.size ≤ k := by
  have hRd := chunk_read s w hs
  rw [hx] at hRd
  have hv : chunkVal (.ok ⟨nm, t, at_, x⟩) = .tuple #[.agg #[.int .u32 nm, .int .i64 t, .int .i64 at_, .string x], .nilIface] := rfl
  rw [hv] at hRd
  clear hx hv
  obtain ⟨d, gs, b, g3, g4, v3, v4, hR⟩ := hR
  have ht1 : 1 ≤ t := by have := hf.t1; simp only at this; omega
  have ht2 : t ≤ 4096 := by have := hf.t2; simp only at this; omega
  have hfit : at_ + x.size ≤ t := by have := hf.fit; simp only at this; omega
  have hx2 : x.size ≤ 256 := hf.d2
  clear hf
  have hne : ((t : Int) == 0) = false := by rw [beq_eq_false_iff_ne]; omega
  have hcl : R.came.length = 0 := by rw [h0]; rfl
  have hpl := hR.row.lt
  replace hR := Lib.hid hR
  replace hRd := Lib.hid hRd
  have hmk := fun (W : World) => run_make_row' (P := Tryd.prog) 86 5 (.int .u8 0) 1 Tryd.underlying86 (by kernel_rfl) rfl .i64 .i64 t (by omega) (by omega) W
  have hmk2 := fun (W : World) => run_make_row' (P := Tryd.prog) 32 4 (.bool false) 1 Tryd.underlying32 (by kernel_rfl) rfl .i64 .i64 t (by omega) (by omega) W
  go_enter Tryd.func16, Tryd.ntmps16
  go_wp2_with fail
  refine hRd.out.mono ?_
  rintro e w2 ⟨rfl, hb2⟩
  have hrow2 := hR.out.row.below hb2
  rw [hcl] at hrow2
  have q := Lib.hid (hrow2.alloc (.cells #[.int .u32 nm, .int .i64 t, .int .i64 at_, .string x] 37))
  have hbx := Lib.hid (row_alloc w2 #[.int .u32 nm, .int .i64 t, .int .i64 at_, .string x] 37)
  have p2 : (w2.alloc (.cells #[.int .u32 nm, .int .i64 t, .int .i64 at_, .string x] 37)).cell? ⟨p, 2, none⟩ = some (.int .i64 0) := q.out.cell 2
  have p1 : (w2.alloc (.cells #[.int .u32 nm, .int .i64 t, .int .i64 at_, .string x] 37)).cell? ⟨p, 1, none⟩ = some (.int .u32 R.name) := q.out.cell 1
  have f1 := q.out.frozen 1 (by simp)
  have f2 := q.out.frozen 2 (by simp)
  have hs2 := hb2.size
  have hpne : ¬ p = w2.heap.size := by omega
  have hpne' : ¬ w2.heap.size = p := by omega
  have hrow5 := ((q.out.set 1 (.int .u32 nm)).set 2 (.int .i64 t)).drew
  have hbx5 := ((hbx.out.other (p := ⟨p, 1, none⟩) hpne (.int .u32 nm)).other (p := ⟨p, 2, none⟩) hpne (.int .i64 t)).drew
  have ho5 : Only (fun k => k = p) w ((((w2.alloc (.cells #[.int .u32 nm, .int .i64 t, .int .i64 at_, .string x] 37)).setCell ⟨p, 1, none⟩ (.int .u32 nm)).setCell ⟨p, 2, none⟩ (.int .i64 t)).drew) := ((((Only.of_below (fun k => k = p) hb2).alloc _).set (p := ⟨p, 1, none⟩) (Or.inl rfl) _).set (p := ⟨p, 2, none⟩) (Or.inl rfl) _).drew
  have hsz5 : ((((w2.alloc (.cells #[.int .u32 nm, .int .i64 t, .int .i64 at_, .string x] 37)).setCell ⟨p, 1, none⟩ (.int .u32 nm)).setCell ⟨p, 2, none⟩ (.int .i64 t)).drew).heap.size = w2.heap.size + 1 := by simp [World.setCell]
  replace hrow5 := Lib.hid hrow5
  replace hbx5 := Lib.hid hbx5
  replace ho5 := Lib.hid ho5
  replace hsz5 := Lib.hid hsz5
  go_wp2
  go_region
  clear p1 p2 f1 f2
  generalize hw5 : ((((w2.alloc (.cells #[.int .u32 nm, .int .i64 t, .int .i64 at_, .string x] 37)).setCell ⟨p, 1, none⟩ (.int .u32 nm)).setCell ⟨p, 2, none⟩ (.int .i64 t)).drew) = w5 at *
  clear hw5
  have r3 : w5.cell? ⟨p, 3, none⟩ = some v3 := hrow5.out.cell 3
  have r4 : w5.cell? ⟨p, 4, none⟩ = some v4 := hrow5.out.cell 4
  have r1 : w5.cell? ⟨w2.heap.size, 1, none⟩ = some (.int .i64 t) := hbx5.out.cell 1
  have f3 := hrow5.out.frozen 3 (by simp)
  have f4 := hrow5.out.frozen 4 (by simp)
  have hg5 : w2.heap.size < w5.heap.size := by have := hsz5.out; omega
  have hp5 : p < w5.heap.size := by have := hsz5.out; omega
  go_wp2_with fail
  go_region
  · have hrow6 := ((((hrow5.out.set 3 (.slice (some ⟨w5.heap.size, 0, none⟩) t t)).set 4 (.slice (some ⟨w5.heap.size + 1, 0, none⟩) t t)).alloc (.cells (madeCells #[.int .u8 0] t) 5)).alloc (.cells (madeCells #[.bool false] t) 4)).drew
    have hsz6 : ((w5.setCell ⟨p, 3, none⟩ (.slice (some ⟨w5.heap.size, 0, none⟩) t t)).setCell ⟨p, 4, none⟩ (.slice (some ⟨w5.heap.size + 1, 0, none⟩) t t)).heap.size = w5.heap.size := by simp [World.setCell]
    have hra := ((row_alloc ((w5.setCell ⟨p, 3, none⟩ (.slice (some ⟨w5.heap.size, 0, none⟩) t t)).setCell ⟨p, 4, none⟩ (.slice (some ⟨w5.heap.size + 1, 0, none⟩) t t)) (madeCells #[.int .u8 0] t) 5).alloc (.cells (madeCells #[.bool false] t) 4)).drew
    have hrb := (row_alloc (((w5.setCell ⟨p, 3, none⟩ (.slice (some ⟨w5.heap.size, 0, none⟩) t t)).setCell ⟨p, 4, none⟩ (.slice (some ⟨w5.heap.size + 1, 0, none⟩) t t)).alloc (.cells (madeCells #[.int .u8 0] t) 5)) (madeCells #[.bool false] t) 4).drew
    rw [show (((w5.setCell ⟨p, 3, none⟩ (.slice (some ⟨w5.heap.size, 0, none⟩) t t)).setCell ⟨p, 4, none⟩ (.slice (some ⟨w5.heap.size + 1, 0, none⟩) t t)).alloc (.cells (madeCells #[.int .u8 0] t) 5)).heap.size = w5.heap.size + 1 by rw [← hsz6]; simp] at hrb
    rw [hsz6] at hra
    rw [madeCells_one] at hra hrb
    have hbx6 := ((((hbx5.out.other (p := ⟨p, 3, none⟩) hpne (.slice (some ⟨w5.heap.size, 0, none⟩) t t)).other (p := ⟨p, 4, none⟩) hpne (.slice (some ⟨w5.heap.size + 1, 0, none⟩) t t)).alloc (.cells (madeCells #[.int .u8 0] t) 5)).alloc (.cells (madeCells #[.bool false] t) 4)).drew
    have ho6 := ((((ho5.out.set (p := ⟨p, 3, none⟩) (Or.inl rfl) (.slice (some ⟨w5.heap.size, 0, none⟩) t t)).set (p := ⟨p, 4, none⟩) (Or.inl rfl) (.slice (some ⟨w5.heap.size + 1, 0, none⟩) t t)).alloc (.cells (madeCells #[.int .u8 0] t) 5)).alloc (.cells (madeCells #[.bool false] t) 4)).drew
    have hsz7 : ((((((w5.setCell ⟨p, 3, none⟩ (.slice (some ⟨w5.heap.size, 0, none⟩) t t)).setCell ⟨p, 4, none⟩ (.slice (some ⟨w5.heap.size + 1, 0, none⟩) t t)).alloc (.cells (madeCells #[.int .u8 0] t) 5)).alloc (.cells (madeCells #[.bool false] t) 4)).drew)).heap.size = w5.heap.size + 2 := by rw [← hsz6]; simp
    generalize (((((w5.setCell ⟨p, 3, none⟩ (.slice (some ⟨w5.heap.size, 0, none⟩) t t)).setCell ⟨p, 4, none⟩ (.slice (some ⟨w5.heap.size + 1, 0, none⟩) t t)).alloc (.cells (madeCells #[.int .u8 0] t) 5)).alloc (.cells (madeCells #[.bool false] t) 4)).drew) = Wz at *
    clear r3 r4 r1 f3 f4 hrow5 hbx5 ho5 hsz6 hmk hmk2 hne
    have hwz : w.heap.size ≤ w5.heap.size := by have := hsz5.out; omega
    obtain ⟨g3', hg3'⟩ : ∃ g, g = w5.heap.size := ⟨_, rfl⟩
    obtain ⟨g4', hg4'⟩ : ∃ g, g = w5.heap.size + 1 := ⟨_, rfl⟩
    obtain ⟨gb, hgb0⟩ : ∃ gb, gb = w2.heap.size := ⟨_, rfl⟩
    have F : Hid (w.heap.size ≤ g3' ∧ w.heap.size ≤ g4' ∧ g3' ≠ g4' ∧ gb < g3' ∧ gb < g4' ∧ g3' < Wz.heap.size ∧ g4' < Wz.heap.size) := Lib.hid (by omega)
    rw [← hg4', ← hg3'] at hrow6
    rw [← hg3'] at hra
    rw [← hg4'] at hrb
    rw [← hgb0] at hbx6 ⊢
    clear hg3' hg4' hgb0 hsz7 hsz5 hwz hg5 hp5
    obtain ⟨q1, q2, q3, q4, q5, q6, q7⟩ := F.out
    have hgb : gb ≠ g3' ∧ gb ≠ g4' := by omega
    obtain ⟨Ro, hRo⟩ : ∃ Ro : Recv.Rec, Ro = { R with name := nm, data := List.replicate t 0, came := List.replicate t false } := ⟨_, rfl⟩
    have hop : R.opened nm t = Ro := by unfold Recv.Rec.opened; rw [if_pos h0, hRo]
    have hlen : Ro.came.length = t := by rw [hRo]; simp
    have hRn : Ro.name = nm := by rw [hRo]
    have hcne : Ro.came ≠ [] := fun e => by rw [e] at hlen; simp at hlen; omega
    have htk : R.take nm t at_ x.data.toList = some { Ro with data := (Recv.fill x.data.toList at_ (Ro.data, Ro.came)).1, came := (Recv.fill x.data.toList at_ (Ro.data, Ro.came)).2 } := by
      unfold Recv.Rec.take
      rw [hop, if_neg (by rw [hRn, hlen]; omega)]
    have hRR := hR.out
    have hlt := hRR.lt
    obtain ⟨O', hO'⟩ : ∃ O' : Nat → Prop, O' = fun k => O k ∨ k = g3' ∨ k = g4' := ⟨_, rfl⟩
    have hOf : ∀ k, O' k → O k ∨ w.heap.size ≤ k := by
      rw [hO']; intro k hk; rcases hk with hk | rfl | rfl
      · exact Or.inl hk
      · exact Or.inr (by omega)
      · exact Or.inr (by omega)
    have hoz : Only O w Wz := ho6.mono (fun k _ hk => by rw [hk]; exact hRR.o1)
    have hAt : RecvAt Wz p d gs b g3' g4' m (.slice (some ⟨g3', 0, none⟩) t t) (.slice (some ⟨g4', 0, none⟩) t t) O' Ro := by
      have l1 := hlt _ hRR.o1
      have l2 := hlt _ hRR.o2
      have l3 := hlt _ hRR.o3
      have l4 := hlt _ hRR.o4
      refine { row := ?_, disk := ?_, dat := .inr ⟨?_, ?_, ?_⟩, cam := .inr ⟨?_, ?_, ?_⟩, len := by rw [hRo]; simp, o1 := by rw [hO']; exact Or.inl hRR.o1, o2 := by rw [hO']; exact Or.inl hRR.o2, o3 := by rw [hO']; exact Or.inl hRR.o3, o4 := by rw [hO']; exact Or.inl hRR.o4, o5 := fun _ => by rw [hO']; exact ⟨Or.inr (Or.inl rfl), Or.inr (Or.inr rfl)⟩, lt := ?_, n1 := hRR.n1, n2 := hRR.n2, n3 := hRR.n3, n4 := fun _ => by omega }
      · rw [hlen, hRo]; exact hrow6
      · rw [hRo]
        have hn1 := hRR.n1
        have hn2 := hRR.n2
        have hn3 := hRR.n3
        exact hRR.disk.only ho6 (fun e => hn1 e.symm) (fun e => hn2 e.symm) (fun e => hn3 e.symm)
      · rw [hRo]; intro e; have := congrArg List.length e; simp [byteVals] at this; omega
      · rw [hRo]; simp [byteVals]
      · rw [hRo, show byteVals (List.replicate t 0) = List.replicate t (.int .u8 0) by simp [byteVals]]; exact hra
      · rw [hRo]; intro e; have := congrArg List.length e; simp [flags] at this; omega
      · rw [hRo]; simp [flags]
      · rw [hRo, show flags (List.replicate t false) = List.replicate t (.bool false) by simp [flags]]; exact hrb
      · rw [hO']; intro k hk; rcases hk with hk | rfl | rfl
        · have := hlt k hk; omega
        · omega
        · omega
    have hbxz := hbx6
    clear hRR hlt hrow6 hra hrb hbx6 ho6 hO' hop hRo h0 hcl hs2 hb2 hrow2 q hbx F q1 q2 q4 q5 q6 q7
    as_aux_lemma =>
      have hgd := hAt.n4 hcne
      have hoo := hAt.o5 hcne
      obtain ⟨D0, hD0⟩ : ∃ D0, D0 = Ro.data := ⟨_, rfl⟩
      obtain ⟨C0, hC0⟩ : ∃ C0, C0 = Ro.came := ⟨_, rfl⟩
      have hDl : D0.length = t := by rw [hD0, hAt.len]; exact hlen
      have hCl : C0.length = t := by rw [hC0]; exact hlen
      have hr3 : Row Wz g3' 5 (byteVals D0) := by
        rcases hAt.dat with ⟨h, _⟩ | ⟨_, _, h⟩
        · have := congrArg List.length h
          rw [← hD0] at this
          simp [byteVals, hDl] at this
          omega
        · rw [hD0]; exact h
      have hr4 : Row Wz g4' 4 (flags C0) := by
        rcases hAt.cam with ⟨h, _⟩ | ⟨_, _, h⟩
        · have := congrArg List.length h
          rw [← hC0] at this
          simp [flags, hCl] at this
          omega
        · rw [hC0]; exact h
      have p3 : Wz.cell? ⟨p, 3, none⟩ = some (.slice (some ⟨g3', 0, none⟩) t t) := hAt.row.cell 3
      have p4 : Wz.cell? ⟨p, 4, none⟩ = some (.slice (some ⟨g4', 0, none⟩) t t) := hAt.row.cell 4
      have b2 : Wz.cell? ⟨gb, 2, none⟩ = some (.int .i64 at_) := hbxz.cell 2
      have b3 : Wz.cell? ⟨gb, 3, none⟩ = some (.string x) := hbxz.cell 3
      have b0 : Wz.cell? ⟨gb, 0, none⟩ = some (.int .u32 nm) := hbxz.cell 0
      have b1 : Wz.cell? ⟨gb, 1, none⟩ = some (.int .i64 t) := hbxz.cell 1
      have p1 : Wz.cell? ⟨p, 1, none⟩ = some (.int .u32 Ro.name) := hAt.row.cell 1
      have p2 : Wz.cell? ⟨p, 2, none⟩ = some (.int .i64 Ro.came.length) := hAt.row.cell 2
      rw [hRn] at p1
      rw [hlen] at p2
      have hn1' : ((nm : Int) != (nm : Int)) = false := by simp
      have hn2' : ((t : Int) != (t : Int)) = false := by simp
      have hb3g : gb ≠ g3' ∧ gb ≠ g4' := hgb
      have hr3' := Lib.hid hr3
      have hr4' := Lib.hid hr4
      replace hAt := Lib.hid hAt
      replace hbxz := Lib.hid hbxz
      replace hoz := Lib.hid hoz
      replace hOf := Lib.hid hOf
      replace htk := Lib.hid htk
      clear hr3 hr4
      replace hD0 := Lib.hid hD0
      replace hC0 := Lib.hid hC0
      replace hRn := Lib.hid hRn
      replace hcne := Lib.hid hcne
      go_wp2_with fail
      go_quiet (fail)
      go_wp2
      go_loopw [63] (fun i wr => ∃ (k : Nat) (D : List UInt8) (C : List Bool), k ≤ x.size ∧ i = .int .i64 k ∧ (D, C) = Recv.fill (x.data.toList.take k) at_ (D0, C0) ∧ D.length = t ∧ C.length = t ∧ Row wr g3' 5 (byteVals D) ∧ Row wr g4' 4 (flags C) ∧ Only (fun j => j = g3' ∨ j = g4') Wz wr) (fun i _ => x.size - (intOf i).toNat)
      case atStart => exact ⟨0, D0, C0, by omega, rfl, rfl, hDl, hCl, hr3'.out, hr4'.out, by first | exact Only.refl _ _ | exact (Only.refl _ _).drew | exact (Only.refl _ _).drewN _⟩
      case round =>
        obtain ⟨k, D, C, hk, rfl, hfl, hDk, hCk, hR3, hR4, hon⟩ := hrel
        by_cases hlt : k < x.size
        · have e3 : wr.cell? ⟨p, 3, none⟩ = some (.slice (some ⟨g3', 0, none⟩) t t) := hon.cell (p := ⟨p, 3, none⟩) p3 (by show ¬ (p = g3' ∨ p = g4'); omega)
          have e4 : wr.cell? ⟨p, 4, none⟩ = some (.slice (some ⟨g4', 0, none⟩) t t) := hon.cell (p := ⟨p, 4, none⟩) p4 (by show ¬ (p = g3' ∨ p = g4'); omega)
          have e5 : wr.cell? ⟨gb, 2, none⟩ = some (.int .i64 at_) := hon.cell (p := ⟨gb, 2, none⟩) b2 (by show ¬ (gb = g3' ∨ gb = g4'); omega)
          have e6 : wr.cell? ⟨gb, 3, none⟩ = some (.string x) := hon.cell (p := ⟨gb, 3, none⟩) b3 (by show ¬ (gb = g3' ∨ gb = g4'); omega)
          have hik : at_ + k < t := by omega
          have htk1 : x.data.toList.take (k + 1) = x.data.toList.take k ++ [x[k]] := take_snoc x k hlt
          have hfl2 := Recv.fill_snoc (x.data.toList.take k) x[k] at_ (D0, C0)
          rw [← htk1, ← hfl, List.length_take, show min k x.data.toList.length = k by rw [Array.length_toList]; exact Nat.min_eq_left hk] at hfl2
          have e7 : wr.cell? ⟨g4', at_ + k, none⟩ = some (.bool (C[at_ + k]'(by omega))) := by rw [hR4.cell, flags, List.getElem?_map, List.getElem?_eq_getElem (by omega)]; rfl
          have e8 : wr.cell? ⟨g3', at_ + k, none⟩ = some (.int .u8 (D[at_ + k]'(by omega)).toNat) := by rw [hR3.cell, byteVals, List.getElem?_map, List.getElem?_eq_getElem (by omega)]; rfl
          have f7 := hR4.frozen (at_ + k) (by simp [flags]; omega)
          have f8 := hR3.frozen (at_ + k) (by simp [byteVals]; omega)
          have hCe : C[at_ + k]? = some (C[at_ + k]'(by omega)) := List.getElem?_eq_getElem (by omega)
          generalize (D[at_ + k]'(by omega)).toNat = oldb at *
          generalize hcb : C[at_ + k]'(by omega) = cb at *
          have hxl : x[k].toNat < 256 := x[k].toNat_lt
          have hwi : IntKind.i64.wrap ((at_ : Int) + (k : Int)) = (at_ : Int) + (k : Int) := by rw [IntKind.wrap_i64]; omega
          have hR3' := Lib.hid hR3
          have hR4' := Lib.hid hR4
          replace hfl := Lib.hid hfl
          clear hR3 hR4 htk1
          have hne34 : ¬ g3' = g4' := by omega
          have hne43 : ¬ g4' = g3' := by omega
          have hp3n : ¬ p = g3' := by omega
          have hp4n : ¬ p = g4' := by omega
          have hb3n : ¬ gb = g3' := by omega
          have hb4n : ¬ gb = g4' := by omega
          cases cb with
          | true =>
            have hfl3 : Hid (Recv.fill (x.data.toList.take (k + 1)) at_ (D0, C0) = (D, C)) := Lib.hid (by rw [hfl2]; unfold Recv.put1; rw [if_pos hCe])
            clear hfl2 hCe
            go_wp2_with fail
            go_quiet (fail)
            go_wp2
            go_roundw
            case rel => exact ⟨k + 1, D, C, by omega, by go_num, hfl3.out.symm, hDk, hCk, by first | exact hR3'.out | exact hR3'.out.drew, by first | exact hR4'.out | exact hR4'.out.drew, by first | exact hon | exact hon.drew | exact hon.drewN _⟩
            case measure => simp [intOf]; omega
          | false =>
            have hfl3 : Hid (Recv.fill (x.data.toList.take (k + 1)) at_ (D0, C0) = (D.set (at_ + k) x[k], C.set (at_ + k) true)) := Lib.hid (by rw [hfl2]; unfold Recv.put1; rw [if_neg (by rw [hCe]; simp)])
            clear hfl2 hCe
            go_wp2_with fail
            go_quiet (fail)
            go_wp2
            go_region
            go_wp2
            go_roundw
            case rel =>
              refine ⟨k + 1, D.set (at_ + k) x[k], C.set (at_ + k) true, by omega, by go_num, hfl3.out.symm, by rw [List.length_set]; exact hDk, by rw [List.length_set]; exact hCk, ?_, ?_, ?_⟩
              · have h := ((hR3'.out.set (at_ + k) (.int .u8 x[k].toNat)).other (p := ⟨g4', at_ + k, none⟩) (by show g4' ≠ g3'; omega) (.bool true))
                rw [show byteVals (D.set (at_ + k) x[k]) = (byteVals D).set (at_ + k) (.int .u8 x[k].toNat) by simp [byteVals, List.map_set]]
                first | exact h | exact h.drew
              · have h := ((hR4'.out.other (p := ⟨g3', at_ + k, none⟩) (by show g3' ≠ g4'; omega) (.int .u8 x[k].toNat)).set (at_ + k) (.bool true))
                rw [show flags (C.set (at_ + k) true) = (flags C).set (at_ + k) (.bool true) by simp [flags, List.map_set]]
                first | exact h | exact h.drew
              · refine Only.set (Only.set ?_ (p := ⟨g3', at_ + k, none⟩) (Or.inl (Or.inl rfl)) _) (p := ⟨g4', at_ + k, none⟩) (Or.inl (Or.inr rfl)) _
                first | exact hon | exact hon.drew | exact hon.drewN _
            case measure => simp [intOf]; omega
        · obtain rfl : k = x.size := by omega
          rw [show x.data.toList.take x.size = x.data.toList from List.take_of_length_le (by rw [Array.length_toList]; exact Nat.le_refl _)] at hfl
          replace hfl := Lib.hid hfl
          have hR3' := Lib.hid hR3
          have hR4' := Lib.hid hR4
          clear hR3 hR4
          go_wp2
          go_ret
          have hA := hAt.out
          have hCne : C ≠ [] := fun e => by rw [e] at hCk; simp at hCk; omega
          have hfin : (Recv.fill x.data.toList at_ (Ro.data, Ro.came)) = (D, C) := by rw [hfl.out, hD0.out, hC0.out]
          have hsz := hon.size
          refine ⟨rfl, O', { Ro with data := D, came := C }, by rw [htk.out, hfin], ⟨d, gs, b, g3', g4', .slice (some ⟨g3', 0, none⟩) t t, .slice (some ⟨g4', 0, none⟩) t t, { row := ?_, disk := hA.disk.only hon (by omega) (by omega) (by omega), dat := .inr ⟨?_, ?_, hR3'.out⟩, cam := .inr ⟨?_, ?_, hR4'.out⟩, len := by rw [hDk, hCk], o1 := hA.o1, o2 := hA.o2, o3 := hA.o3, o4 := hA.o4, o5 := fun _ => hoo, lt := fun k hk => Nat.lt_of_lt_of_le (hA.lt k hk) hsz, n1 := hA.n1, n2 := hA.n2, n3 := hA.n3, n4 := fun _ => hgd }⟩, ?_, hOf.out⟩
          · have h := hA.row.only hon (by omega)
            rw [hlen] at h
            show Row wr p _ [.pointer (some ⟨d, 0, none⟩), .int .u32 Ro.name, .int .i64 (C.length : Nat), .slice (some ⟨g3', 0, none⟩) t t, .slice (some ⟨g4', 0, none⟩) t t, .int .i64 Ro.saved, .int .i64 Ro.safe, .int .i64 Ro.mark]
            rw [hCk]
            exact h
          · intro e; have := congrArg List.length e; simp [byteVals, hDk] at this; omega
          · show Value.slice _ t t = _; rw [show (byteVals D).length = t by simp [byteVals, hDk]]
          · intro e; have := congrArg List.length e; simp [flags, hCk] at this; omega
          · show Value.slice _ t t = _; rw [show (flags C).length = t by simp [flags, hCk]]
          · refine hoz.out.step hon (fun j hj => ?_)
            rcases hj with rfl | rfl
            · exact hOf.out _ hoo.1
            · exact hOf.out _ hoo.2
  · have hrow6 := ((((hrow5.out.set 3 (.slice (some ⟨w5.heap.size + 1, 0, none⟩) t t)).set 4 (.slice (some ⟨w5.heap.size, 0, none⟩) t t)).alloc (.cells (madeCells #[.bool false] t) 4)).alloc (.cells (madeCells #[.int .u8 0] t) 5)).drew
    have hsz6 : ((w5.setCell ⟨p, 3, none⟩ (.slice (some ⟨w5.heap.size + 1, 0, none⟩) t t)).setCell ⟨p, 4, none⟩ (.slice (some ⟨w5.heap.size, 0, none⟩) t t)).heap.size = w5.heap.size := by simp [World.setCell]
    have hra := ((row_alloc ((w5.setCell ⟨p, 3, none⟩ (.slice (some ⟨w5.heap.size + 1, 0, none⟩) t t)).setCell ⟨p, 4, none⟩ (.slice (some ⟨w5.heap.size, 0, none⟩) t t)) (madeCells #[.bool false] t) 4).alloc (.cells (madeCells #[.int .u8 0] t) 5)).drew
    have hrb := (row_alloc (((w5.setCell ⟨p, 3, none⟩ (.slice (some ⟨w5.heap.size + 1, 0, none⟩) t t)).setCell ⟨p, 4, none⟩ (.slice (some ⟨w5.heap.size, 0, none⟩) t t)).alloc (.cells (madeCells #[.bool false] t) 4)) (madeCells #[.int .u8 0] t) 5).drew
    rw [show (((w5.setCell ⟨p, 3, none⟩ (.slice (some ⟨w5.heap.size + 1, 0, none⟩) t t)).setCell ⟨p, 4, none⟩ (.slice (some ⟨w5.heap.size, 0, none⟩) t t)).alloc (.cells (madeCells #[.bool false] t) 4)).heap.size = w5.heap.size + 1 by rw [← hsz6]; simp] at hrb
    rw [hsz6] at hra
    rw [madeCells_one] at hra hrb
    have hbx6 := ((((hbx5.out.other (p := ⟨p, 3, none⟩) hpne (.slice (some ⟨w5.heap.size + 1, 0, none⟩) t t)).other (p := ⟨p, 4, none⟩) hpne (.slice (some ⟨w5.heap.size, 0, none⟩) t t)).alloc (.cells (madeCells #[.bool false] t) 4)).alloc (.cells (madeCells #[.int .u8 0] t) 5)).drew
    have ho6 := ((((ho5.out.set (p := ⟨p, 3, none⟩) (Or.inl rfl) (.slice (some ⟨w5.heap.size + 1, 0, none⟩) t t)).set (p := ⟨p, 4, none⟩) (Or.inl rfl) (.slice (some ⟨w5.heap.size, 0, none⟩) t t)).alloc (.cells (madeCells #[.bool false] t) 4)).alloc (.cells (madeCells #[.int .u8 0] t) 5)).drew
    have hsz7 : ((((((w5.setCell ⟨p, 3, none⟩ (.slice (some ⟨w5.heap.size + 1, 0, none⟩) t t)).setCell ⟨p, 4, none⟩ (.slice (some ⟨w5.heap.size, 0, none⟩) t t)).alloc (.cells (madeCells #[.bool false] t) 4)).alloc (.cells (madeCells #[.int .u8 0] t) 5)).drew)).heap.size = w5.heap.size + 2 := by rw [← hsz6]; simp
    generalize (((((w5.setCell ⟨p, 3, none⟩ (.slice (some ⟨w5.heap.size + 1, 0, none⟩) t t)).setCell ⟨p, 4, none⟩ (.slice (some ⟨w5.heap.size, 0, none⟩) t t)).alloc (.cells (madeCells #[.bool false] t) 4)).alloc (.cells (madeCells #[.int .u8 0] t) 5)).drew) = Wz at *
    clear r3 r4 r1 f3 f4 hrow5 hbx5 ho5 hsz6 hmk hmk2 hne
    have hwz : w.heap.size ≤ w5.heap.size := by have := hsz5.out; omega
    obtain ⟨g3', hg3'⟩ : ∃ g, g = w5.heap.size + 1 := ⟨_, rfl⟩
    obtain ⟨g4', hg4'⟩ : ∃ g, g = w5.heap.size := ⟨_, rfl⟩
    obtain ⟨gb, hgb0⟩ : ∃ gb, gb = w2.heap.size := ⟨_, rfl⟩
    have F : Hid (w.heap.size ≤ g3' ∧ w.heap.size ≤ g4' ∧ g3' ≠ g4' ∧ gb < g3' ∧ gb < g4' ∧ g3' < Wz.heap.size ∧ g4' < Wz.heap.size) := Lib.hid (by omega)
    rw [← hg3', ← hg4'] at hrow6
    rw [← hg4'] at hra
    rw [← hg3'] at hrb
    rw [← hgb0] at hbx6 ⊢
    clear hg3' hg4' hgb0 hsz7 hsz5 hwz hg5 hp5
    obtain ⟨q1, q2, q3, q4, q5, q6, q7⟩ := F.out
    have hgb : gb ≠ g3' ∧ gb ≠ g4' := by omega
    obtain ⟨Ro, hRo⟩ : ∃ Ro : Recv.Rec, Ro = { R with name := nm, data := List.replicate t 0, came := List.replicate t false } := ⟨_, rfl⟩
    have hop : R.opened nm t = Ro := by unfold Recv.Rec.opened; rw [if_pos h0, hRo]
    have hlen : Ro.came.length = t := by rw [hRo]; simp
    have hRn : Ro.name = nm := by rw [hRo]
    have hcne : Ro.came ≠ [] := fun e => by rw [e] at hlen; simp at hlen; omega
    have htk : R.take nm t at_ x.data.toList = some { Ro with data := (Recv.fill x.data.toList at_ (Ro.data, Ro.came)).1, came := (Recv.fill x.data.toList at_ (Ro.data, Ro.came)).2 } := by
      unfold Recv.Rec.take
      rw [hop, if_neg (by rw [hRn, hlen]; omega)]
    have hRR := hR.out
    have hlt := hRR.lt
    obtain ⟨O', hO'⟩ : ∃ O' : Nat → Prop, O' = fun k => O k ∨ k = g3' ∨ k = g4' := ⟨_, rfl⟩
    have hOf : ∀ k, O' k → O k ∨ w.heap.size ≤ k := by
      rw [hO']; intro k hk; rcases hk with hk | rfl | rfl
      · exact Or.inl hk
      · exact Or.inr (by omega)
      · exact Or.inr (by omega)
    have hoz : Only O w Wz := ho6.mono (fun k _ hk => by rw [hk]; exact hRR.o1)
    have hAt : RecvAt Wz p d gs b g3' g4' m (.slice (some ⟨g3', 0, none⟩) t t) (.slice (some ⟨g4', 0, none⟩) t t) O' Ro := by
      have l1 := hlt _ hRR.o1
      have l2 := hlt _ hRR.o2
      have l3 := hlt _ hRR.o3
      have l4 := hlt _ hRR.o4
      refine { row := ?_, disk := ?_, dat := .inr ⟨?_, ?_, ?_⟩, cam := .inr ⟨?_, ?_, ?_⟩, len := by rw [hRo]; simp, o1 := by rw [hO']; exact Or.inl hRR.o1, o2 := by rw [hO']; exact Or.inl hRR.o2, o3 := by rw [hO']; exact Or.inl hRR.o3, o4 := by rw [hO']; exact Or.inl hRR.o4, o5 := fun _ => by rw [hO']; exact ⟨Or.inr (Or.inl rfl), Or.inr (Or.inr rfl)⟩, lt := ?_, n1 := hRR.n1, n2 := hRR.n2, n3 := hRR.n3, n4 := fun _ => by omega }
      · rw [hlen, hRo]; exact hrow6
      · rw [hRo]
        have hn1 := hRR.n1
        have hn2 := hRR.n2
        have hn3 := hRR.n3
        exact hRR.disk.only ho6 (fun e => hn1 e.symm) (fun e => hn2 e.symm) (fun e => hn3 e.symm)
      · rw [hRo]; intro e; have := congrArg List.length e; simp [byteVals] at this; omega
      · rw [hRo]; simp [byteVals]
      · rw [hRo, show byteVals (List.replicate t 0) = List.replicate t (.int .u8 0) by simp [byteVals]]; exact hrb
      · rw [hRo]; intro e; have := congrArg List.length e; simp [flags] at this; omega
      · rw [hRo]; simp [flags]
      · rw [hRo, show flags (List.replicate t false) = List.replicate t (.bool false) by simp [flags]]; exact hra
      · rw [hO']; intro k hk; rcases hk with hk | rfl | rfl
        · have := hlt k hk; omega
        · omega
        · omega
    have hbxz := hbx6
    clear hRR hlt hrow6 hra hrb hbx6 ho6 hO' hop hRo h0 hcl hs2 hb2 hrow2 q hbx F q1 q2 q4 q5 q6 q7
    as_aux_lemma =>
      have hgd := hAt.n4 hcne
      have hoo := hAt.o5 hcne
      obtain ⟨D0, hD0⟩ : ∃ D0, D0 = Ro.data := ⟨_, rfl⟩
      obtain ⟨C0, hC0⟩ : ∃ C0, C0 = Ro.came := ⟨_, rfl⟩
      have hDl : D0.length = t := by rw [hD0, hAt.len]; exact hlen
      have hCl : C0.length = t := by rw [hC0]; exact hlen
      have hr3 : Row Wz g3' 5 (byteVals D0) := by
        rcases hAt.dat with ⟨h, _⟩ | ⟨_, _, h⟩
        · have := congrArg List.length h
          rw [← hD0] at this
          simp [byteVals, hDl] at this
          omega
        · rw [hD0]; exact h
      have hr4 : Row Wz g4' 4 (flags C0) := by
        rcases hAt.cam with ⟨h, _⟩ | ⟨_, _, h⟩
        · have := congrArg List.length h
          rw [← hC0] at this
          simp [flags, hCl] at this
          omega
        · rw [hC0]; exact h
      have p3 : Wz.cell? ⟨p, 3, none⟩ = some (.slice (some ⟨g3', 0, none⟩) t t) := hAt.row.cell 3
      have p4 : Wz.cell? ⟨p, 4, none⟩ = some (.slice (some ⟨g4', 0, none⟩) t t) := hAt.row.cell 4
      have b2 : Wz.cell? ⟨gb, 2, none⟩ = some (.int .i64 at_) := hbxz.cell 2
      have b3 : Wz.cell? ⟨gb, 3, none⟩ = some (.string x) := hbxz.cell 3
      have b0 : Wz.cell? ⟨gb, 0, none⟩ = some (.int .u32 nm) := hbxz.cell 0
      have b1 : Wz.cell? ⟨gb, 1, none⟩ = some (.int .i64 t) := hbxz.cell 1
      have p1 : Wz.cell? ⟨p, 1, none⟩ = some (.int .u32 Ro.name) := hAt.row.cell 1
      have p2 : Wz.cell? ⟨p, 2, none⟩ = some (.int .i64 Ro.came.length) := hAt.row.cell 2
      rw [hRn] at p1
      rw [hlen] at p2
      have hn1' : ((nm : Int) != (nm : Int)) = false := by simp
      have hn2' : ((t : Int) != (t : Int)) = false := by simp
      have hb3g : gb ≠ g3' ∧ gb ≠ g4' := hgb
      have hr3' := Lib.hid hr3
      have hr4' := Lib.hid hr4
      replace hAt := Lib.hid hAt
      replace hbxz := Lib.hid hbxz
      replace hoz := Lib.hid hoz
      replace hOf := Lib.hid hOf
      replace htk := Lib.hid htk
      clear hr3 hr4
      replace hD0 := Lib.hid hD0
      replace hC0 := Lib.hid hC0
      replace hRn := Lib.hid hRn
      replace hcne := Lib.hid hcne
      go_wp2_with fail
      go_quiet (fail)
      go_wp2
      go_loopw [63] (fun i wr => ∃ (k : Nat) (D : List UInt8) (C : List Bool), k ≤ x.size ∧ i = .int .i64 k ∧ (D, C) = Recv.fill (x.data.toList.take k) at_ (D0, C0) ∧ D.length = t ∧ C.length = t ∧ Row wr g3' 5 (byteVals D) ∧ Row wr g4' 4 (flags C) ∧ Only (fun j => j = g3' ∨ j = g4') Wz wr) (fun i _ => x.size - (intOf i).toNat)
      case atStart => exact ⟨0, D0, C0, by omega, rfl, rfl, hDl, hCl, hr3'.out, hr4'.out, by first | exact Only.refl _ _ | exact (Only.refl _ _).drew | exact (Only.refl _ _).drewN _⟩
      case round =>
        obtain ⟨k, D, C, hk, rfl, hfl, hDk, hCk, hR3, hR4, hon⟩ := hrel
        by_cases hlt : k < x.size
        · have e3 : wr.cell? ⟨p, 3, none⟩ = some (.slice (some ⟨g3', 0, none⟩) t t) := hon.cell (p := ⟨p, 3, none⟩) p3 (by show ¬ (p = g3' ∨ p = g4'); omega)
          have e4 : wr.cell? ⟨p, 4, none⟩ = some (.slice (some ⟨g4', 0, none⟩) t t) := hon.cell (p := ⟨p, 4, none⟩) p4 (by show ¬ (p = g3' ∨ p = g4'); omega)
          have e5 : wr.cell? ⟨gb, 2, none⟩ = some (.int .i64 at_) := hon.cell (p := ⟨gb, 2, none⟩) b2 (by show ¬ (gb = g3' ∨ gb = g4'); omega)
          have e6 : wr.cell? ⟨gb, 3, none⟩ = some (.string x) := hon.cell (p := ⟨gb, 3, none⟩) b3 (by show ¬ (gb = g3' ∨ gb = g4'); omega)
          have hik : at_ + k < t := by omega
          have htk1 : x.data.toList.take (k + 1) = x.data.toList.take k ++ [x[k]] := take_snoc x k hlt
          have hfl2 := Recv.fill_snoc (x.data.toList.take k) x[k] at_ (D0, C0)
          rw [← htk1, ← hfl, List.length_take, show min k x.data.toList.length = k by rw [Array.length_toList]; exact Nat.min_eq_left hk] at hfl2
          have e7 : wr.cell? ⟨g4', at_ + k, none⟩ = some (.bool (C[at_ + k]'(by omega))) := by rw [hR4.cell, flags, List.getElem?_map, List.getElem?_eq_getElem (by omega)]; rfl
          have e8 : wr.cell? ⟨g3', at_ + k, none⟩ = some (.int .u8 (D[at_ + k]'(by omega)).toNat) := by rw [hR3.cell, byteVals, List.getElem?_map, List.getElem?_eq_getElem (by omega)]; rfl
          have f7 := hR4.frozen (at_ + k) (by simp [flags]; omega)
          have f8 := hR3.frozen (at_ + k) (by simp [byteVals]; omega)
          have hCe : C[at_ + k]? = some (C[at_ + k]'(by omega)) := List.getElem?_eq_getElem (by omega)
          generalize (D[at_ + k]'(by omega)).toNat = oldb at *
          generalize hcb : C[at_ + k]'(by omega) = cb at *
          have hxl : x[k].toNat < 256 := x[k].toNat_lt
          have hwi : IntKind.i64.wrap ((at_ : Int) + (k : Int)) = (at_ : Int) + (k : Int) := by rw [IntKind.wrap_i64]; omega
          have hR3' := Lib.hid hR3
          have hR4' := Lib.hid hR4
          replace hfl := Lib.hid hfl
          clear hR3 hR4 htk1
          have hne34 : ¬ g3' = g4' := by omega
          have hne43 : ¬ g4' = g3' := by omega
          have hp3n : ¬ p = g3' := by omega
          have hp4n : ¬ p = g4' := by omega
          have hb3n : ¬ gb = g3' := by omega
          have hb4n : ¬ gb = g4' := by omega
          cases cb with
          | true =>
            have hfl3 : Hid (Recv.fill (x.data.toList.take (k + 1)) at_ (D0, C0) = (D, C)) := Lib.hid (by rw [hfl2]; unfold Recv.put1; rw [if_pos hCe])
            clear hfl2 hCe
            go_wp2_with fail
            go_quiet (fail)
            go_wp2
            go_roundw
            case rel => exact ⟨k + 1, D, C, by omega, by go_num, hfl3.out.symm, hDk, hCk, by first | exact hR3'.out | exact hR3'.out.drew, by first | exact hR4'.out | exact hR4'.out.drew, by first | exact hon | exact hon.drew | exact hon.drewN _⟩
            case measure => simp [intOf]; omega
          | false =>
            have hfl3 : Hid (Recv.fill (x.data.toList.take (k + 1)) at_ (D0, C0) = (D.set (at_ + k) x[k], C.set (at_ + k) true)) := Lib.hid (by rw [hfl2]; unfold Recv.put1; rw [if_neg (by rw [hCe]; simp)])
            clear hfl2 hCe
            go_wp2_with fail
            go_quiet (fail)
            go_wp2
            go_region
            go_wp2
            go_roundw
            case rel =>
              refine ⟨k + 1, D.set (at_ + k) x[k], C.set (at_ + k) true, by omega, by go_num, hfl3.out.symm, by rw [List.length_set]; exact hDk, by rw [List.length_set]; exact hCk, ?_, ?_, ?_⟩
              · have h := ((hR3'.out.set (at_ + k) (.int .u8 x[k].toNat)).other (p := ⟨g4', at_ + k, none⟩) (by show g4' ≠ g3'; omega) (.bool true))
                rw [show byteVals (D.set (at_ + k) x[k]) = (byteVals D).set (at_ + k) (.int .u8 x[k].toNat) by simp [byteVals, List.map_set]]
                first | exact h | exact h.drew
              · have h := ((hR4'.out.other (p := ⟨g3', at_ + k, none⟩) (by show g3' ≠ g4'; omega) (.int .u8 x[k].toNat)).set (at_ + k) (.bool true))
                rw [show flags (C.set (at_ + k) true) = (flags C).set (at_ + k) (.bool true) by simp [flags, List.map_set]]
                first | exact h | exact h.drew
              · refine Only.set (Only.set ?_ (p := ⟨g3', at_ + k, none⟩) (Or.inl (Or.inl rfl)) _) (p := ⟨g4', at_ + k, none⟩) (Or.inl (Or.inr rfl)) _
                first | exact hon | exact hon.drew | exact hon.drewN _
            case measure => simp [intOf]; omega
        · obtain rfl : k = x.size := by omega
          rw [show x.data.toList.take x.size = x.data.toList from List.take_of_length_le (by rw [Array.length_toList]; exact Nat.le_refl _)] at hfl
          replace hfl := Lib.hid hfl
          have hR3' := Lib.hid hR3
          have hR4' := Lib.hid hR4
          clear hR3 hR4
          go_wp2
          go_ret
          have hA := hAt.out
          have hCne : C ≠ [] := fun e => by rw [e] at hCk; simp at hCk; omega
          have hfin : (Recv.fill x.data.toList at_ (Ro.data, Ro.came)) = (D, C) := by rw [hfl.out, hD0.out, hC0.out]
          have hsz := hon.size
          refine ⟨rfl, O', { Ro with data := D, came := C }, by rw [htk.out, hfin], ⟨d, gs, b, g3', g4', .slice (some ⟨g3', 0, none⟩) t t, .slice (some ⟨g4', 0, none⟩) t t, { row := ?_, disk := hA.disk.only hon (by omega) (by omega) (by omega), dat := .inr ⟨?_, ?_, hR3'.out⟩, cam := .inr ⟨?_, ?_, hR4'.out⟩, len := by rw [hDk, hCk], o1 := hA.o1, o2 := hA.o2, o3 := hA.o3, o4 := hA.o4, o5 := fun _ => hoo, lt := fun k hk => Nat.lt_of_lt_of_le (hA.lt k hk) hsz, n1 := hA.n1, n2 := hA.n2, n3 := hA.n3, n4 := fun _ => hgd }⟩, ?_, hOf.out⟩
          · have h := hA.row.only hon (by omega)
            rw [hlen] at h
            show Row wr p _ [.pointer (some ⟨d, 0, none⟩), .int .u32 Ro.name, .int .i64 (C.length : Nat), .slice (some ⟨g3', 0, none⟩) t t, .slice (some ⟨g4', 0, none⟩) t t, .int .i64 Ro.saved, .int .i64 Ro.safe, .int .i64 Ro.mark]
            rw [hCk]
            exact h
          · intro e; have := congrArg List.length e; simp [byteVals, hDk] at this; omega
          · show Value.slice _ t t = _; rw [show (byteVals D).length = t by simp [byteVals, hDk]]
          · intro e; have := congrArg List.length e; simp [flags, hCk] at this; omega
          · show Value.slice _ t t = _; rw [show (flags C).length = t by simp [flags, hCk]]
          · refine hoz.out.step hon (fun j hj => ?_)
            rcases hj with rfl | rfl
            · exact hOf.out _ hoo.1
            · exact hOf.out _ hoo.2
end Go.Proofs.YtdpdnkjpjoccmaaDoor
