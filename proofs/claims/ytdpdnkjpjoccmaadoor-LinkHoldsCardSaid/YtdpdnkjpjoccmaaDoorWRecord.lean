/- The walk of recv.record; printed by gen_record.py. -/
import Derived.Test.YtdpdnkjpjoccmaaDoorWChunkR
import Derived.Test.YtdpdnkjpjoccmaaDoorPlainRecv3
namespace Go.Proofs.YtdpdnkjpjoccmaaDoor
open Go.RowKit
set_option linter.unusedVariables false
set_option linter.unusedSimpArgs false
namespace Recv
theorem record_r {s : List UInt8} (h : s.head? ≠ some 82) : record s = none := by unfold record; rw [if_pos h]
theorem record_1 {s : List UInt8} {e : Nat} (h : s.head? = some 82) (h1 : Vary.int (s.drop 1) 1125899906842624 = .bad e) : record s = none := by
  unfold record; rw [if_neg (by simp [h])]; simp only [h1]
theorem record_2 {s : List UInt8} {m k e : Nat} (h : s.head? = some 82) (h1 : Vary.int (s.drop 1) 1125899906842624 = .ok m k) (h2 : Vary.int (s.drop (1 + k + 4)) 4096 = .bad e) : record s = none := by
  unfold record; rw [if_neg (by simp [h])]; simp only [h1]
  split
  · rfl
  · simp only [h2]
theorem record_3 {s : List UInt8} {m k t k2 e : Nat} (h : s.head? = some 82) (h1 : Vary.int (s.drop 1) 1125899906842624 = .ok m k) (h2 : Vary.int (s.drop (1 + k + 4)) 4096 = .ok t k2) (h3 : Vary.int (s.drop (1 + k + 4 + k2)) 4096 = .bad e) : record s = none := by
  unfold record; rw [if_neg (by simp [h])]; simp only [h1]
  split
  · rfl
  · simp only [h2, h3]
theorem record_4 {s : List UInt8} {m k t k2 c j e : Nat} (h : s.head? = some 82) (h1 : Vary.int (s.drop 1) 1125899906842624 = .ok m k) (h2 : Vary.int (s.drop (1 + k + 4)) 4096 = .ok t k2) (h3 : Vary.int (s.drop (1 + k + 4 + k2)) 4096 = .ok c j) (ho : Crc.opened (s.take (1 + k + 4 + k2 + j + 4)) = .inl e) : record s = none := by
  unfold record; rw [if_neg (by simp [h])]; simp only [h1]
  split
  · rfl
  · simp only [h2, h3]
    split
    · rfl
    · simp only [ho]
theorem record_5 {s : List UInt8} {m k t k2 c j : Nat} {u : List UInt8} (h : s.head? = some 82) (h1 : Vary.int (s.drop 1) 1125899906842624 = .ok m k) (h2 : Vary.int (s.drop (1 + k + 4)) 4096 = .ok t k2) (h3 : Vary.int (s.drop (1 + k + 4 + k2)) 4096 = .ok c j) (hl : 1 + k + 4 + k2 + j + 4 ≤ s.length) (ho : Crc.opened (s.take (1 + k + 4 + k2 + j + 4)) = .inr u) : record s = if 0 < t ∧ c ≤ t then some (m, Chunk.le4 (s.drop (1 + k)), t, c) else none := by
  unfold record; rw [if_neg (by simp [h])]; simp only [h1]
  rw [if_neg (by omega)]
  simp only [h2, h3]
  rw [if_neg (by omega)]
  simp only [ho]
end Recv
theorem int_okk {l : List UInt8} {most : Int} {n k : Nat} (h : Vary.int l most = .ok n k) : 1 ≤ k ∧ k ≤ l.length ∧ (n : Int) ≤ most ∧ (Vary.put n).length = k ∧ n < 18446744073709551616 := by
  cases hg : Vary.get l with
  | bad e => rw [Vary.int_bad hg] at h; cases h
  | ok a b =>
    by_cases hm : most < 0 ∨ most < (a : Int)
    · rw [Vary.int_range hg hm] at h; cases h
    · rw [Vary.int_ok hg hm] at h
      injection h with h1 h2
      subst h1 h2
      obtain ⟨p1, p2, p3, p4⟩ := Vary.get_ok _ _ _ hg
      refine ⟨p1, p2, by omega, ?_, p4⟩
      rw [p3, List.length_take]; omega
theorem put_len2 (t : Nat) (h : t ≤ 4096) : (Vary.put t).length ≤ 2 := by
  by_cases h : t < 128
  · rw [Vary.put_small h]; simp
  · rw [Vary.put_big h, Vary.put_small (by omega)]; simp
theorem ba_extract (s : ByteArray) (a b : Nat) : (s.extract a b).data.toList = (s.data.toList.drop a).take (b - a) := by
  rw [ByteArray.data_extract, Array.toList_extract]
theorem num_le4' (T : ByteArray) (t : List UInt8) (h : T.data.toList = t) (hs : T.size = 4) (h0 : 0 < T.size) (h1 : 1 < T.size) (h2 : 2 < T.size) (h3 : 3 < T.size) : Crc.num [T[0]'h0, T[1]'h1, T[2]'h2, T[3]'h3] = Crc.num t := by
  subst h
  obtain ⟨⟨l⟩⟩ := T
  match l, h3, hs with
  | [a, b1, b2, b3], _, _ => rfl
  | a :: b1 :: b2 :: b3 :: b4 :: r, _, hs => simp [ByteArray.size] at hs
/-- What a record tells. -/
def RecordIs (s : ByteArray) (w : World) (e : Ending) (w' : World) : Prop := (∃ (m nm t c : Nat) (ok : Bool), e = .returned (.tuple #[.int .i64 m, .int .u32 nm, .int .i64 t, .int .i64 c, .bool ok]) ∧ Recv.record s.data.toList = (if ok then some (m, nm, t, c) else none) ∧ m ≤ 1125899906842624 ∧ nm < 4294967296 ∧ t ≤ 4096 ∧ c ≤ 4096) ∧ Below w.heap.size w w'
theorem RecordIs.no {s : ByteArray} {w w' : World} {e : Ending} (m nm t c : Nat) (he : e = .returned (.tuple #[.int .i64 m, .int .u32 nm, .int .i64 t, .int .i64 c, .bool false])) (hr : Recv.record s.data.toList = none) (hm : m ≤ 1125899906842624) (hn : nm < 4294967296) (ht : t ≤ 4096) (hc : c ≤ 4096) (hb : Below w.heap.size w w') : RecordIs s w e w' :=
  ⟨⟨m, nm, t, c, false, he, hr, hm, hn, ht, hc⟩, hb⟩

set_option maxHeartbeats 2000000 in
set_option maxRecDepth 20000 in
theorem record_no (s : ByteArray) (w : World) (hs : s.size = 32) (h0 : s.data.toList.head? ≠ some 82) :
    Calls Tryd.prog 51 #[.string s] w (RecordIs s w) := by
  have hr := Lib.hid (Recv.record_r h0)
  have hk0 : 0 < s.size := by omega
  have hb : (((s[0]'hk0).toNat : Int) != 82) = true := by
    rw [bne_iff_ne]
    intro e
    apply h0
    obtain ⟨⟨l⟩⟩ := s
    match l, hk0 with
    | a :: r, _ =>
      have e2 : ((a.toNat : Nat) : Int) = 82 := e
      have : a = 82 := UInt8.toNat_inj.1 (by have : (82 : UInt8).toNat = 82 := rfl; omega)
      rw [this]; rfl
  replace hs := Lib.hid hs
  clear h0
  go_enter Tryd.func51, Tryd.ntmps51
  go_wp2
  refine bodyPost_ret (v := .tuple #[.int .i64 0, .int .u32 0, .int .i64 0, .int .i64 0, .bool false]) (by simp [results, Tryd.results51, go_sem]) rfl ?_
  exact RecordIs.no 0 0 0 0 rfl hr.out (by omega) (by omega) (by omega) (by omega) (by (repeat (first | exact Below.refl _ _ | assumption | refine bal ?_ _ | refine bdr ?_ | refine bdn ?_ _ | refine bst ?_ (by first | assumption | exact Nat.le_refl _ | omega) _ | refine bch ?_ (by assumption))))
set_option maxHeartbeats 2000000 in
set_option maxRecDepth 20000 in
theorem record_bad1 (s : ByteArray) (w : World) (hs : s.size = 32) (h0 : s.data.toList.head? = some 82) (x : Nat) (h1 : Vary.int (s.data.toList.drop 1) 1125899906842624 = .bad x) :
    Calls Tryd.prog 51 #[.string s] w (RecordIs s w) := by
  have hr := Lib.hid (Recv.record_1 h0 h1)
  have hk0 : 0 < s.size := by omega
  have hb : (((s[0]'hk0).toNat : Int) != 82) = false := by
    rw [bne_eq_false_iff_eq]
    obtain ⟨⟨l⟩⟩ := s
    match l, hk0, h0 with
    | a :: r, _, h0 => injection h0 with h0; subst h0; rfl
  have hs1 : 1 ≤ s.size := by omega
  obtain ⟨u1, u2⟩ := drop_str s _ rfl 1
  have hI1 := vary_of (s.extract 1 s.size) (s.data.toList.drop 1) u1 1125899906842624 w (by omega) (by omega)
  rw [h1] at hI1
  replace hI1 : Calls Tryd.prog 71 #[.string (s.extract 1 s.size), .int .i64 1125899906842624] w fun e w' => e = .returned (.tuple #[.int .i64 0, .int .i64 0, .iface 58 (.int .i64 x)]) ∧ w = w' := hI1
  replace hI1 := Lib.hid hI1
  replace hs := Lib.hid hs
  clear h0 h1 u1
  go_enter Tryd.func51, Tryd.ntmps51
  go_wp2_with fail
  refine hI1.out.mono ?_
  rintro e w' ⟨rfl, rfl⟩
  go_wp2
  refine bodyPost_ret (v := .tuple #[.int .i64 0, .int .u32 0, .int .i64 0, .int .i64 0, .bool false]) (by simp [results, Tryd.results51, go_sem]) rfl ?_
  exact RecordIs.no 0 0 0 0 rfl hr.out (by omega) (by omega) (by omega) (by omega) (by (repeat (first | exact Below.refl _ _ | assumption | refine bal ?_ _ | refine bdr ?_ | refine bdn ?_ _ | refine bst ?_ (by first | assumption | exact Nat.le_refl _ | omega) _ | refine bch ?_ (by assumption))))
set_option maxHeartbeats 4000000 in
set_option maxRecDepth 20000 in
theorem record_bad2 (s : ByteArray) (w : World) (hs : s.size = 32) (h0 : s.data.toList.head? = some 82) (m k : Nat) (h1 : Vary.int (s.data.toList.drop 1) 1125899906842624 = .ok m k) (x : Nat) (h2 : Vary.int (s.data.toList.drop (1 + k + 4)) 4096 = .bad x) :
    Calls Tryd.prog 51 #[.string s] w (RecordIs s w) := by
  have hr := Lib.hid (Recv.record_2 h0 h1 h2)
  have hk0 : 0 < s.size := by omega
  have hb : (((s[0]'hk0).toNat : Int) != 82) = false := by
    rw [bne_eq_false_iff_eq]
    obtain ⟨⟨l⟩⟩ := s
    match l, hk0, h0 with
    | a :: r, _, h0 => injection h0 with h0; subst h0; rfl
  have hs1 : 1 ≤ s.size := by omega
  obtain ⟨u1, u2⟩ := drop_str s _ rfl 1
  have hI1 := vary_of (s.extract 1 s.size) (s.data.toList.drop 1) u1 1125899906842624 w (by omega) (by omega)
  rw [h1] at hI1
  obtain ⟨k1, k2', km, kp, _⟩ := int_okk h1
  have hmm : m ≤ 1125899906842624 := by omega
  have hkl : k ≤ 10 := by rw [← kp]; exact Vary.put_len m (by omega)
  clear k2' km kp
  obtain ⟨a, ha⟩ : ∃ a, a = 1 + k + 4 := ⟨_, rfl⟩
  obtain ⟨b, hb1⟩ : ∃ b, b = 1 + k := ⟨_, rfl⟩
  have ha1 : a ≤ 15 := by omega
  have hba : b ≤ a := by omega
  have hb15 : b ≤ 15 := by omega
  have hba4 : a - b = 4 := by omega
  rw [← ha] at h2
  obtain ⟨v1, v2⟩ := drop_str s _ rfl a
  have hI2 := fun W => vary_of (s.extract a s.size) (s.data.toList.drop a) v1 4096 W (by omega) (by omega)
  rw [h2] at hI2
  have e1 : (1 : Int) + (k : Int) + 4 = (a : Int) := by omega
  have e2 : (a : Int) - 4 = (b : Int) := by omega
  have das : a ≤ s.size := by omega
  have dlt : ¬ s.size < a := by omega
  obtain ⟨T, hT⟩ : ∃ T, T = s.extract b a := ⟨_, rfl⟩
  have hTs : T.size = 4 := by rw [hT, ByteArray.size_extract]; omega
  have hTl : T.data.toList = (s.data.toList.drop b).take 4 := by rw [hT, ba_extract, hba4]
  have ht0 : (0 : Int) < (T.size : Int) := by omega
  have ht1 : (1 : Int) < (T.size : Int) := by omega
  have ht2 : (2 : Int) < (T.size : Int) := by omega
  have ht3 : (3 : Int) < (T.size : Int) := by omega
  have hk_0 : 0 < T.size := by omega
  have hk_1 : 1 < T.size := by omega
  have hk_2 : 2 < T.size := by omega
  have hk_3 : 3 < T.size := by omega
  have hnum := num_le4' T _ hTl hTs hk_0 hk_1 hk_2 hk_3
  obtain ⟨m2, m3, m4, n2, n3, nm, l1, l2, l3, l4, l5, l6, l7, l8, l9, l10, hnm, hnl⟩ := le4_facts (T[0]'hk_0) (T[1]'hk_1) (T[2]'hk_2) (T[3]'hk_3)
  have hnm2 : nm = Chunk.le4 (s.data.toList.drop b) := hnm.trans hnum
  clear hnm hnum hTl
  replace hTs := Lib.hid hTs
  have hT' : s.extract b a = T := hT.symm
  clear hT
  replace hI2 : ∀ W, Calls Tryd.prog 71 #[.string (s.extract a s.size), .int .i64 4096] W fun e w' => e = .returned (.tuple #[.int .i64 0, .int .i64 0, .iface 58 (.int .i64 x)]) ∧ W = w' := hI2
  have hmn1 : min (s.size : Int) (a : Int) = (a : Int) := by omega
  have hmn2 : (if a < s.size then (a : Int) else (s.size : Int)) = (a : Int) := by split <;> omega
  replace hI1 : Calls Tryd.prog 71 #[.string (s.extract 1 s.size), .int .i64 1125899906842624] w fun e w' => e = .returned (.tuple #[.int .i64 m, .int .i64 k, .nilIface]) ∧ w = w' := hI1
  replace hI1 := Lib.hid hI1
  replace hI2 := Lib.hid hI2
  replace hs := Lib.hid hs
  replace hnm2 := Lib.hid hnm2
  replace ha := Lib.hid ha
  replace hb1 := Lib.hid hb1
  replace hba4 := Lib.hid hba4
  clear h0 h1 h2 u1 v1
  go_enter Tryd.func51, Tryd.ntmps51
  go_wp2_with fail
  refine hI1.out.mono ?_
  rintro e w' ⟨rfl, rfl⟩
  go_wp2_with fail
  go_quiet (fail)
  clear l1 l2 l3 l4 l5 l6 l7 l8 l9 l10
  go_wp2_with fail
  refine (hI2.out _).mono ?_
  rintro e w' ⟨rfl, rfl⟩
  go_wp2_with fail
  refine (hI2.out _).mono ?_
  rintro e w' ⟨rfl, rfl⟩
  go_wp2
  refine bodyPost_ret (v := .tuple #[.int .i64 0, .int .u32 0, .int .i64 0, .int .i64 0, .bool false]) (by simp [results, Tryd.results51, go_sem]) rfl ?_
  exact RecordIs.no 0 0 0 0 rfl hr.out (by omega) (by omega) (by omega) (by omega) (by (repeat (first | exact Below.refl _ _ | assumption | refine bal ?_ _ | refine bdr ?_ | refine bdn ?_ _ | refine bst ?_ (by first | assumption | exact Nat.le_refl _ | omega) _ | refine bch ?_ (by assumption))))
set_option maxHeartbeats 4000000 in
set_option maxRecDepth 20000 in
theorem record_bad3 (s : ByteArray) (w : World) (hs : s.size = 32) (h0 : s.data.toList.head? = some 82) (m k : Nat) (h1 : Vary.int (s.data.toList.drop 1) 1125899906842624 = .ok m k) (t k2 : Nat) (h2 : Vary.int (s.data.toList.drop (1 + k + 4)) 4096 = .ok t k2) (x : Nat) (h3 : Vary.int (s.data.toList.drop (1 + k + 4 + k2)) 4096 = .bad x) :
    Calls Tryd.prog 51 #[.string s] w (RecordIs s w) := by
  have hr := Lib.hid (Recv.record_3 h0 h1 h2 h3)
  have hk0 : 0 < s.size := by omega
  have hb : (((s[0]'hk0).toNat : Int) != 82) = false := by
    rw [bne_eq_false_iff_eq]
    obtain ⟨⟨l⟩⟩ := s
    match l, hk0, h0 with
    | a :: r, _, h0 => injection h0 with h0; subst h0; rfl
  have hs1 : 1 ≤ s.size := by omega
  obtain ⟨u1, u2⟩ := drop_str s _ rfl 1
  have hI1 := vary_of (s.extract 1 s.size) (s.data.toList.drop 1) u1 1125899906842624 w (by omega) (by omega)
  rw [h1] at hI1
  obtain ⟨k1, k2', km, kp, _⟩ := int_okk h1
  have hmm : m ≤ 1125899906842624 := by omega
  have hkl : k ≤ 10 := by rw [← kp]; exact Vary.put_len m (by omega)
  clear k2' km kp
  obtain ⟨a, ha⟩ : ∃ a, a = 1 + k + 4 := ⟨_, rfl⟩
  obtain ⟨b, hb1⟩ : ∃ b, b = 1 + k := ⟨_, rfl⟩
  have ha1 : a ≤ 15 := by omega
  have hba : b ≤ a := by omega
  have hb15 : b ≤ 15 := by omega
  have hba4 : a - b = 4 := by omega
  rw [← ha] at h2
  obtain ⟨v1, v2⟩ := drop_str s _ rfl a
  have hI2 := fun W => vary_of (s.extract a s.size) (s.data.toList.drop a) v1 4096 W (by omega) (by omega)
  rw [h2] at hI2
  have e1 : (1 : Int) + (k : Int) + 4 = (a : Int) := by omega
  have e2 : (a : Int) - 4 = (b : Int) := by omega
  have das : a ≤ s.size := by omega
  have dlt : ¬ s.size < a := by omega
  obtain ⟨T, hT⟩ : ∃ T, T = s.extract b a := ⟨_, rfl⟩
  have hTs : T.size = 4 := by rw [hT, ByteArray.size_extract]; omega
  have hTl : T.data.toList = (s.data.toList.drop b).take 4 := by rw [hT, ba_extract, hba4]
  have ht0 : (0 : Int) < (T.size : Int) := by omega
  have ht1 : (1 : Int) < (T.size : Int) := by omega
  have ht2 : (2 : Int) < (T.size : Int) := by omega
  have ht3 : (3 : Int) < (T.size : Int) := by omega
  have hk_0 : 0 < T.size := by omega
  have hk_1 : 1 < T.size := by omega
  have hk_2 : 2 < T.size := by omega
  have hk_3 : 3 < T.size := by omega
  have hnum := num_le4' T _ hTl hTs hk_0 hk_1 hk_2 hk_3
  obtain ⟨m2, m3, m4, n2, n3, nm, l1, l2, l3, l4, l5, l6, l7, l8, l9, l10, hnm, hnl⟩ := le4_facts (T[0]'hk_0) (T[1]'hk_1) (T[2]'hk_2) (T[3]'hk_3)
  have hnm2 : nm = Chunk.le4 (s.data.toList.drop b) := hnm.trans hnum
  clear hnm hnum hTl
  replace hTs := Lib.hid hTs
  have hT' : s.extract b a = T := hT.symm
  clear hT
  replace hI2 : ∀ W, Calls Tryd.prog 71 #[.string (s.extract a s.size), .int .i64 4096] W fun e w' => e = .returned (.tuple #[.int .i64 t, .int .i64 k2, .nilIface]) ∧ W = w' := hI2
  obtain ⟨q1, _, qm, qp, _⟩ := int_okk h2
  have htt : t ≤ 4096 := by omega
  have hk2l : k2 ≤ 2 := by rw [← qp]; exact put_len2 t htt
  clear qm qp
  obtain ⟨g, hg⟩ : ∃ g, g = a + k2 := ⟨_, rfl⟩
  have hga : g ≤ 17 := by omega
  rw [← ha, ← hg] at h3
  obtain ⟨x1, x2⟩ := drop_str s _ rfl g
  have hI3 := fun W => vary_of (s.extract g s.size) (s.data.toList.drop g) x1 4096 W (by omega) (by omega)
  rw [h3] at hI3
  have e3 : (a : Int) + (k2 : Int) = (g : Int) := by omega
  have hmn1 : min (s.size : Int) (g : Int) = (g : Int) := by omega
  have hmn2 : (if g < s.size then (g : Int) else (s.size : Int)) = (g : Int) := by split <;> omega
  have dgs : g ≤ s.size := by omega
  replace hg := Lib.hid hg
  clear x1
  replace hI3 : ∀ W, Calls Tryd.prog 71 #[.string (s.extract g s.size), .int .i64 4096] W fun e w' => e = .returned (.tuple #[.int .i64 0, .int .i64 0, .iface 58 (.int .i64 x)]) ∧ W = w' := hI3
  replace hI3 := Lib.hid hI3
  clear h3
  replace hI1 : Calls Tryd.prog 71 #[.string (s.extract 1 s.size), .int .i64 1125899906842624] w fun e w' => e = .returned (.tuple #[.int .i64 m, .int .i64 k, .nilIface]) ∧ w = w' := hI1
  replace hI1 := Lib.hid hI1
  replace hI2 := Lib.hid hI2
  replace hs := Lib.hid hs
  replace hnm2 := Lib.hid hnm2
  replace ha := Lib.hid ha
  replace hb1 := Lib.hid hb1
  replace hba4 := Lib.hid hba4
  clear h0 h1 h2 u1 v1
  go_enter Tryd.func51, Tryd.ntmps51
  go_wp2_with fail
  refine hI1.out.mono ?_
  rintro e w' ⟨rfl, rfl⟩
  go_wp2_with fail
  go_quiet (fail)
  clear l1 l2 l3 l4 l5 l6 l7 l8 l9 l10
  clear e1
  go_wp2_with fail
  refine (hI2.out _).mono ?_
  rintro e w' ⟨rfl, rfl⟩
  go_wp2_with fail
  refine (hI3.out _).mono ?_
  rintro e w' ⟨rfl, rfl⟩
  go_wp2
  refine bodyPost_ret (v := .tuple #[.int .i64 0, .int .u32 0, .int .i64 0, .int .i64 0, .bool false]) (by simp [results, Tryd.results51, go_sem]) rfl ?_
  exact RecordIs.no 0 0 0 0 rfl hr.out (by omega) (by omega) (by omega) (by omega) (by (repeat (first | exact Below.refl _ _ | assumption | refine bal ?_ _ | refine bdr ?_ | refine bdn ?_ _ | refine bst ?_ (by first | assumption | exact Nat.le_refl _ | omega) _ | refine bch ?_ (by assumption))))
set_option maxHeartbeats 4000000 in
set_option maxRecDepth 20000 in
theorem record_bad4 (s : ByteArray) (w : World) (hs : s.size = 32) (h0 : s.data.toList.head? = some 82) (m k : Nat) (h1 : Vary.int (s.data.toList.drop 1) 1125899906842624 = .ok m k) (t k2 : Nat) (h2 : Vary.int (s.data.toList.drop (1 + k + 4)) 4096 = .ok t k2) (c j : Nat) (h3 : Vary.int (s.data.toList.drop (1 + k + 4 + k2)) 4096 = .ok c j) (x : Nat) (ho : Crc.opened (s.data.toList.take (1 + k + 4 + k2 + j + 4)) = .inl x) :
    Calls Tryd.prog 51 #[.string s] w (RecordIs s w) := by
  have hr := Lib.hid (Recv.record_4 h0 h1 h2 h3 ho)
  have hk0 : 0 < s.size := by omega
  have hb : (((s[0]'hk0).toNat : Int) != 82) = false := by
    rw [bne_eq_false_iff_eq]
    obtain ⟨⟨l⟩⟩ := s
    match l, hk0, h0 with
    | a :: r, _, h0 => injection h0 with h0; subst h0; rfl
  have hs1 : 1 ≤ s.size := by omega
  obtain ⟨u1, u2⟩ := drop_str s _ rfl 1
  have hI1 := vary_of (s.extract 1 s.size) (s.data.toList.drop 1) u1 1125899906842624 w (by omega) (by omega)
  rw [h1] at hI1
  obtain ⟨k1, k2', km, kp, _⟩ := int_okk h1
  have hmm : m ≤ 1125899906842624 := by omega
  have hkl : k ≤ 10 := by rw [← kp]; exact Vary.put_len m (by omega)
  clear k2' km kp
  obtain ⟨a, ha⟩ : ∃ a, a = 1 + k + 4 := ⟨_, rfl⟩
  obtain ⟨b, hb1⟩ : ∃ b, b = 1 + k := ⟨_, rfl⟩
  have ha1 : a ≤ 15 := by omega
  have hba : b ≤ a := by omega
  have hb15 : b ≤ 15 := by omega
  have hba4 : a - b = 4 := by omega
  rw [← ha] at h2
  obtain ⟨v1, v2⟩ := drop_str s _ rfl a
  have hI2 := fun W => vary_of (s.extract a s.size) (s.data.toList.drop a) v1 4096 W (by omega) (by omega)
  rw [h2] at hI2
  have e1 : (1 : Int) + (k : Int) + 4 = (a : Int) := by omega
  have e2 : (a : Int) - 4 = (b : Int) := by omega
  have das : a ≤ s.size := by omega
  have dlt : ¬ s.size < a := by omega
  obtain ⟨T, hT⟩ : ∃ T, T = s.extract b a := ⟨_, rfl⟩
  have hTs : T.size = 4 := by rw [hT, ByteArray.size_extract]; omega
  have hTl : T.data.toList = (s.data.toList.drop b).take 4 := by rw [hT, ba_extract, hba4]
  have ht0 : (0 : Int) < (T.size : Int) := by omega
  have ht1 : (1 : Int) < (T.size : Int) := by omega
  have ht2 : (2 : Int) < (T.size : Int) := by omega
  have ht3 : (3 : Int) < (T.size : Int) := by omega
  have hk_0 : 0 < T.size := by omega
  have hk_1 : 1 < T.size := by omega
  have hk_2 : 2 < T.size := by omega
  have hk_3 : 3 < T.size := by omega
  have hnum := num_le4' T _ hTl hTs hk_0 hk_1 hk_2 hk_3
  obtain ⟨m2, m3, m4, n2, n3, nm, l1, l2, l3, l4, l5, l6, l7, l8, l9, l10, hnm, hnl⟩ := le4_facts (T[0]'hk_0) (T[1]'hk_1) (T[2]'hk_2) (T[3]'hk_3)
  have hnm2 : nm = Chunk.le4 (s.data.toList.drop b) := hnm.trans hnum
  clear hnm hnum hTl
  replace hTs := Lib.hid hTs
  have hT' : s.extract b a = T := hT.symm
  clear hT
  replace hI2 : ∀ W, Calls Tryd.prog 71 #[.string (s.extract a s.size), .int .i64 4096] W fun e w' => e = .returned (.tuple #[.int .i64 t, .int .i64 k2, .nilIface]) ∧ W = w' := hI2
  obtain ⟨q1, _, qm, qp, _⟩ := int_okk h2
  have htt : t ≤ 4096 := by omega
  have hk2l : k2 ≤ 2 := by rw [← qp]; exact put_len2 t htt
  clear qm qp
  obtain ⟨g, hg⟩ : ∃ g, g = a + k2 := ⟨_, rfl⟩
  have hga : g ≤ 17 := by omega
  rw [← ha, ← hg] at h3
  obtain ⟨x1, x2⟩ := drop_str s _ rfl g
  have hI3 := fun W => vary_of (s.extract g s.size) (s.data.toList.drop g) x1 4096 W (by omega) (by omega)
  rw [h3] at hI3
  have e3 : (a : Int) + (k2 : Int) = (g : Int) := by omega
  have hmn1 : min (s.size : Int) (g : Int) = (g : Int) := by omega
  have hmn2 : (if g < s.size then (g : Int) else (s.size : Int)) = (g : Int) := by split <;> omega
  have dgs : g ≤ s.size := by omega
  replace hg := Lib.hid hg
  clear x1
  replace hI3 : ∀ W, Calls Tryd.prog 71 #[.string (s.extract g s.size), .int .i64 4096] W fun e w' => e = .returned (.tuple #[.int .i64 c, .int .i64 j, .nilIface]) ∧ W = w' := hI3
  obtain ⟨_, _, rm, rp, _⟩ := int_okk h3
  have hcc : c ≤ 4096 := by omega
  have hjl : j ≤ 2 := by rw [← rp]; exact put_len2 c hcc
  clear rm rp
  obtain ⟨n, hn⟩ : ∃ n, n = g + j + 4 := ⟨_, rfl⟩
  have hn32 : n ≤ 32 := by omega
  have dns : n ≤ s.size := by omega
  have dns2 : ¬ s.size < n := by omega
  have e4 : (g : Int) + (j : Int) + 4 = (n : Int) := by omega
  have hen : 1 + k + 4 + k2 + j + 4 = n := by rw [hn, hg.out, ha]
  rw [hen] at ho
  have hO := fun W => crc_open (s.extract 0 n) W (by rw [ByteArray.size_extract]; unfold maxLen; omega)
  rw [open_val, ba_extract, List.drop_zero, Nat.sub_zero, ho] at hO
  replace hI3 := Lib.hid hI3
  replace hn := Lib.hid hn
  clear h3 ho hen
  replace hO : ∀ W, Calls Tryd.prog 70 #[.string (s.extract 0 n)] W fun e w' => e = .returned (.tuple #[.string ⟨#[]⟩, .iface 58 (.int .i64 x)]) ∧ Below W.heap.size W w' := hO
  replace hO := Lib.hid hO
  replace hI1 : Calls Tryd.prog 71 #[.string (s.extract 1 s.size), .int .i64 1125899906842624] w fun e w' => e = .returned (.tuple #[.int .i64 m, .int .i64 k, .nilIface]) ∧ w = w' := hI1
  replace hI1 := Lib.hid hI1
  replace hI2 := Lib.hid hI2
  replace hs := Lib.hid hs
  replace hnm2 := Lib.hid hnm2
  replace ha := Lib.hid ha
  replace hb1 := Lib.hid hb1
  replace hba4 := Lib.hid hba4
  clear h0 h1 h2 u1 v1
  go_enter Tryd.func51, Tryd.ntmps51
  go_wp2_with fail
  refine hI1.out.mono ?_
  rintro e w' ⟨rfl, rfl⟩
  go_wp2_with fail
  go_quiet (fail)
  clear l1 l2 l3 l4 l5 l6 l7 l8 l9 l10
  clear e1
  go_wp2_with fail
  refine (hI2.out _).mono ?_
  rintro e w' ⟨rfl, rfl⟩
  go_wp2_with fail
  refine (hI3.out _).mono ?_
  rintro e w' ⟨rfl, rfl⟩
  go_wp2_with fail
  refine (hO.out _).mono ?_
  rintro e w2 ⟨rfl, hb2⟩
  go_wp2
  refine bodyPost_ret (v := .tuple #[.int .i64 m, .int .u32 nm, .int .i64 t, .int .i64 c, .bool false]) (by simp [results, Tryd.results51, go_sem]) rfl ?_
  exact RecordIs.no m nm t c rfl hr.out (by omega) hnl (by omega) (by omega) (by (repeat (first | exact Below.refl _ _ | assumption | refine bal ?_ _ | refine bdr ?_ | refine bdn ?_ _ | refine bst ?_ (by first | assumption | exact Nat.le_refl _ | omega) _ | refine bch ?_ (by assumption))))
set_option maxHeartbeats 4000000 in
set_option maxRecDepth 20000 in
theorem record_zero (s : ByteArray) (w : World) (hs : s.size = 32) (h0 : s.data.toList.head? = some 82) (m k : Nat) (h1 : Vary.int (s.data.toList.drop 1) 1125899906842624 = .ok m k) (t k2 : Nat) (h2 : Vary.int (s.data.toList.drop (1 + k + 4)) 4096 = .ok t k2) (c j : Nat) (h3 : Vary.int (s.data.toList.drop (1 + k + 4 + k2)) 4096 = .ok c j) (u : List UInt8) (ho : Crc.opened (s.data.toList.take (1 + k + 4 + k2 + j + 4)) = .inr u) (hz : t = 0) :
    Calls Tryd.prog 51 #[.string s] w (RecordIs s w) := by
  have hr := Lib.hid (Recv.record_5 h0 h1 h2 h3 (by obtain ⟨_, _, km, kp, _⟩ := int_okk h1; obtain ⟨_, _, qm, qp, _⟩ := int_okk h2; obtain ⟨_, _, rm, rp, _⟩ := int_okk h3; have := Vary.put_len m (by omega); have := put_len2 t (by omega); have := put_len2 c (by omega); rw [Array.length_toList]; have : s.data.size = 32 := hs; omega) ho)
  have hk0 : 0 < s.size := by omega
  have hb : (((s[0]'hk0).toNat : Int) != 82) = false := by
    rw [bne_eq_false_iff_eq]
    obtain ⟨⟨l⟩⟩ := s
    match l, hk0, h0 with
    | a :: r, _, h0 => injection h0 with h0; subst h0; rfl
  have hs1 : 1 ≤ s.size := by omega
  obtain ⟨u1, u2⟩ := drop_str s _ rfl 1
  have hI1 := vary_of (s.extract 1 s.size) (s.data.toList.drop 1) u1 1125899906842624 w (by omega) (by omega)
  rw [h1] at hI1
  obtain ⟨k1, k2', km, kp, _⟩ := int_okk h1
  have hmm : m ≤ 1125899906842624 := by omega
  have hkl : k ≤ 10 := by rw [← kp]; exact Vary.put_len m (by omega)
  clear k2' km kp
  obtain ⟨a, ha⟩ : ∃ a, a = 1 + k + 4 := ⟨_, rfl⟩
  obtain ⟨b, hb1⟩ : ∃ b, b = 1 + k := ⟨_, rfl⟩
  have ha1 : a ≤ 15 := by omega
  have hba : b ≤ a := by omega
  have hb15 : b ≤ 15 := by omega
  have hba4 : a - b = 4 := by omega
  rw [← ha] at h2
  obtain ⟨v1, v2⟩ := drop_str s _ rfl a
  have hI2 := fun W => vary_of (s.extract a s.size) (s.data.toList.drop a) v1 4096 W (by omega) (by omega)
  rw [h2] at hI2
  have e1 : (1 : Int) + (k : Int) + 4 = (a : Int) := by omega
  have e2 : (a : Int) - 4 = (b : Int) := by omega
  have das : a ≤ s.size := by omega
  have dlt : ¬ s.size < a := by omega
  obtain ⟨T, hT⟩ : ∃ T, T = s.extract b a := ⟨_, rfl⟩
  have hTs : T.size = 4 := by rw [hT, ByteArray.size_extract]; omega
  have hTl : T.data.toList = (s.data.toList.drop b).take 4 := by rw [hT, ba_extract, hba4]
  have ht0 : (0 : Int) < (T.size : Int) := by omega
  have ht1 : (1 : Int) < (T.size : Int) := by omega
  have ht2 : (2 : Int) < (T.size : Int) := by omega
  have ht3 : (3 : Int) < (T.size : Int) := by omega
  have hk_0 : 0 < T.size := by omega
  have hk_1 : 1 < T.size := by omega
  have hk_2 : 2 < T.size := by omega
  have hk_3 : 3 < T.size := by omega
  have hnum := num_le4' T _ hTl hTs hk_0 hk_1 hk_2 hk_3
  obtain ⟨m2, m3, m4, n2, n3, nm, l1, l2, l3, l4, l5, l6, l7, l8, l9, l10, hnm, hnl⟩ := le4_facts (T[0]'hk_0) (T[1]'hk_1) (T[2]'hk_2) (T[3]'hk_3)
  have hnm2 : nm = Chunk.le4 (s.data.toList.drop b) := hnm.trans hnum
  clear hnm hnum hTl
  replace hTs := Lib.hid hTs
  have hT' : s.extract b a = T := hT.symm
  clear hT
  replace hI2 : ∀ W, Calls Tryd.prog 71 #[.string (s.extract a s.size), .int .i64 4096] W fun e w' => e = .returned (.tuple #[.int .i64 t, .int .i64 k2, .nilIface]) ∧ W = w' := hI2
  obtain ⟨q1, _, qm, qp, _⟩ := int_okk h2
  have htt : t ≤ 4096 := by omega
  have hk2l : k2 ≤ 2 := by rw [← qp]; exact put_len2 t htt
  clear qm qp
  obtain ⟨g, hg⟩ : ∃ g, g = a + k2 := ⟨_, rfl⟩
  have hga : g ≤ 17 := by omega
  rw [← ha, ← hg] at h3
  obtain ⟨x1, x2⟩ := drop_str s _ rfl g
  have hI3 := fun W => vary_of (s.extract g s.size) (s.data.toList.drop g) x1 4096 W (by omega) (by omega)
  rw [h3] at hI3
  have e3 : (a : Int) + (k2 : Int) = (g : Int) := by omega
  have hmn1 : min (s.size : Int) (g : Int) = (g : Int) := by omega
  have hmn2 : (if g < s.size then (g : Int) else (s.size : Int)) = (g : Int) := by split <;> omega
  have dgs : g ≤ s.size := by omega
  replace hg := Lib.hid hg
  clear x1
  replace hI3 : ∀ W, Calls Tryd.prog 71 #[.string (s.extract g s.size), .int .i64 4096] W fun e w' => e = .returned (.tuple #[.int .i64 c, .int .i64 j, .nilIface]) ∧ W = w' := hI3
  obtain ⟨_, _, rm, rp, _⟩ := int_okk h3
  have hcc : c ≤ 4096 := by omega
  have hjl : j ≤ 2 := by rw [← rp]; exact put_len2 c hcc
  clear rm rp
  obtain ⟨n, hn⟩ : ∃ n, n = g + j + 4 := ⟨_, rfl⟩
  have hn32 : n ≤ 32 := by omega
  have dns : n ≤ s.size := by omega
  have dns2 : ¬ s.size < n := by omega
  have e4 : (g : Int) + (j : Int) + 4 = (n : Int) := by omega
  have hen : 1 + k + 4 + k2 + j + 4 = n := by rw [hn, hg.out, ha]
  rw [hen] at ho
  have hO := fun W => crc_open (s.extract 0 n) W (by rw [ByteArray.size_extract]; unfold maxLen; omega)
  rw [open_val, ba_extract, List.drop_zero, Nat.sub_zero, ho] at hO
  replace hI3 := Lib.hid hI3
  replace hn := Lib.hid hn
  clear h3 ho hen
  replace hO : ∀ W, Calls Tryd.prog 70 #[.string (s.extract 0 n)] W fun e w' => e = .returned (.tuple #[.string ⟨u.toArray⟩, .nilIface]) ∧ Below W.heap.size W w' := hO
  replace hO := Lib.hid hO
  have dz1 : decide ((0 : Int) < (t : Int)) = false := by simp; omega
  have dz4 : decide (0 < t) = false := by simp; omega
  have dz5 : ¬ 0 < t := by omega
  replace hr := Lib.hid (hr.out.trans (if_neg (by omega)))
  clear hz
  replace hI1 : Calls Tryd.prog 71 #[.string (s.extract 1 s.size), .int .i64 1125899906842624] w fun e w' => e = .returned (.tuple #[.int .i64 m, .int .i64 k, .nilIface]) ∧ w = w' := hI1
  replace hI1 := Lib.hid hI1
  replace hI2 := Lib.hid hI2
  replace hs := Lib.hid hs
  replace hnm2 := Lib.hid hnm2
  replace ha := Lib.hid ha
  replace hb1 := Lib.hid hb1
  replace hba4 := Lib.hid hba4
  clear h0 h1 h2 u1 v1
  go_enter Tryd.func51, Tryd.ntmps51
  go_wp2_with fail
  refine hI1.out.mono ?_
  rintro e w' ⟨rfl, rfl⟩
  go_wp2_with fail
  go_quiet (fail)
  clear l1 l2 l3 l4 l5 l6 l7 l8 l9 l10
  clear e1
  go_wp2_with fail
  refine (hI2.out _).mono ?_
  rintro e w' ⟨rfl, rfl⟩
  go_wp2_with fail
  refine (hI3.out _).mono ?_
  rintro e w' ⟨rfl, rfl⟩
  go_wp2_with fail
  refine (hO.out _).mono ?_
  rintro e w2 ⟨rfl, hb2⟩
  go_wp2
  refine bodyPost_ret (v := .tuple #[.int .i64 m, .int .u32 nm, .int .i64 t, .int .i64 c, .bool false]) (by simp [results, Tryd.results51, go_sem]) rfl ?_
  exact RecordIs.no m nm t c rfl hr.out (by omega) hnl (by omega) (by omega) (by (repeat (first | exact Below.refl _ _ | assumption | refine bal ?_ _ | refine bdr ?_ | refine bdn ?_ _ | refine bst ?_ (by first | assumption | exact Nat.le_refl _ | omega) _ | refine bch ?_ (by assumption))))
set_option maxHeartbeats 4000000 in
set_option maxRecDepth 20000 in
theorem record_more (s : ByteArray) (w : World) (hs : s.size = 32) (h0 : s.data.toList.head? = some 82) (m k : Nat) (h1 : Vary.int (s.data.toList.drop 1) 1125899906842624 = .ok m k) (t k2 : Nat) (h2 : Vary.int (s.data.toList.drop (1 + k + 4)) 4096 = .ok t k2) (c j : Nat) (h3 : Vary.int (s.data.toList.drop (1 + k + 4 + k2)) 4096 = .ok c j) (u : List UInt8) (ho : Crc.opened (s.data.toList.take (1 + k + 4 + k2 + j + 4)) = .inr u) (hz : 0 < t) (hz2 : ¬ c ≤ t) :
    Calls Tryd.prog 51 #[.string s] w (RecordIs s w) := by
  have hr := Lib.hid (Recv.record_5 h0 h1 h2 h3 (by obtain ⟨_, _, km, kp, _⟩ := int_okk h1; obtain ⟨_, _, qm, qp, _⟩ := int_okk h2; obtain ⟨_, _, rm, rp, _⟩ := int_okk h3; have := Vary.put_len m (by omega); have := put_len2 t (by omega); have := put_len2 c (by omega); rw [Array.length_toList]; have : s.data.size = 32 := hs; omega) ho)
  have hk0 : 0 < s.size := by omega
  have hb : (((s[0]'hk0).toNat : Int) != 82) = false := by
    rw [bne_eq_false_iff_eq]
    obtain ⟨⟨l⟩⟩ := s
    match l, hk0, h0 with
    | a :: r, _, h0 => injection h0 with h0; subst h0; rfl
  have hs1 : 1 ≤ s.size := by omega
  obtain ⟨u1, u2⟩ := drop_str s _ rfl 1
  have hI1 := vary_of (s.extract 1 s.size) (s.data.toList.drop 1) u1 1125899906842624 w (by omega) (by omega)
  rw [h1] at hI1
  obtain ⟨k1, k2', km, kp, _⟩ := int_okk h1
  have hmm : m ≤ 1125899906842624 := by omega
  have hkl : k ≤ 10 := by rw [← kp]; exact Vary.put_len m (by omega)
  clear k2' km kp
  obtain ⟨a, ha⟩ : ∃ a, a = 1 + k + 4 := ⟨_, rfl⟩
  obtain ⟨b, hb1⟩ : ∃ b, b = 1 + k := ⟨_, rfl⟩
  have ha1 : a ≤ 15 := by omega
  have hba : b ≤ a := by omega
  have hb15 : b ≤ 15 := by omega
  have hba4 : a - b = 4 := by omega
  rw [← ha] at h2
  obtain ⟨v1, v2⟩ := drop_str s _ rfl a
  have hI2 := fun W => vary_of (s.extract a s.size) (s.data.toList.drop a) v1 4096 W (by omega) (by omega)
  rw [h2] at hI2
  have e1 : (1 : Int) + (k : Int) + 4 = (a : Int) := by omega
  have e2 : (a : Int) - 4 = (b : Int) := by omega
  have das : a ≤ s.size := by omega
  have dlt : ¬ s.size < a := by omega
  obtain ⟨T, hT⟩ : ∃ T, T = s.extract b a := ⟨_, rfl⟩
  have hTs : T.size = 4 := by rw [hT, ByteArray.size_extract]; omega
  have hTl : T.data.toList = (s.data.toList.drop b).take 4 := by rw [hT, ba_extract, hba4]
  have ht0 : (0 : Int) < (T.size : Int) := by omega
  have ht1 : (1 : Int) < (T.size : Int) := by omega
  have ht2 : (2 : Int) < (T.size : Int) := by omega
  have ht3 : (3 : Int) < (T.size : Int) := by omega
  have hk_0 : 0 < T.size := by omega
  have hk_1 : 1 < T.size := by omega
  have hk_2 : 2 < T.size := by omega
  have hk_3 : 3 < T.size := by omega
  have hnum := num_le4' T _ hTl hTs hk_0 hk_1 hk_2 hk_3
  obtain ⟨m2, m3, m4, n2, n3, nm, l1, l2, l3, l4, l5, l6, l7, l8, l9, l10, hnm, hnl⟩ := le4_facts (T[0]'hk_0) (T[1]'hk_1) (T[2]'hk_2) (T[3]'hk_3)
  have hnm2 : nm = Chunk.le4 (s.data.toList.drop b) := hnm.trans hnum
  clear hnm hnum hTl
  replace hTs := Lib.hid hTs
  have hT' : s.extract b a = T := hT.symm
  clear hT
  replace hI2 : ∀ W, Calls Tryd.prog 71 #[.string (s.extract a s.size), .int .i64 4096] W fun e w' => e = .returned (.tuple #[.int .i64 t, .int .i64 k2, .nilIface]) ∧ W = w' := hI2
  obtain ⟨q1, _, qm, qp, _⟩ := int_okk h2
  have htt : t ≤ 4096 := by omega
  have hk2l : k2 ≤ 2 := by rw [← qp]; exact put_len2 t htt
  clear qm qp
  obtain ⟨g, hg⟩ : ∃ g, g = a + k2 := ⟨_, rfl⟩
  have hga : g ≤ 17 := by omega
  rw [← ha, ← hg] at h3
  obtain ⟨x1, x2⟩ := drop_str s _ rfl g
  have hI3 := fun W => vary_of (s.extract g s.size) (s.data.toList.drop g) x1 4096 W (by omega) (by omega)
  rw [h3] at hI3
  have e3 : (a : Int) + (k2 : Int) = (g : Int) := by omega
  have hmn1 : min (s.size : Int) (g : Int) = (g : Int) := by omega
  have hmn2 : (if g < s.size then (g : Int) else (s.size : Int)) = (g : Int) := by split <;> omega
  have dgs : g ≤ s.size := by omega
  replace hg := Lib.hid hg
  clear x1
  replace hI3 : ∀ W, Calls Tryd.prog 71 #[.string (s.extract g s.size), .int .i64 4096] W fun e w' => e = .returned (.tuple #[.int .i64 c, .int .i64 j, .nilIface]) ∧ W = w' := hI3
  obtain ⟨_, _, rm, rp, _⟩ := int_okk h3
  have hcc : c ≤ 4096 := by omega
  have hjl : j ≤ 2 := by rw [← rp]; exact put_len2 c hcc
  clear rm rp
  obtain ⟨n, hn⟩ : ∃ n, n = g + j + 4 := ⟨_, rfl⟩
  have hn32 : n ≤ 32 := by omega
  have dns : n ≤ s.size := by omega
  have dns2 : ¬ s.size < n := by omega
  have e4 : (g : Int) + (j : Int) + 4 = (n : Int) := by omega
  have hen : 1 + k + 4 + k2 + j + 4 = n := by rw [hn, hg.out, ha]
  rw [hen] at ho
  have hO := fun W => crc_open (s.extract 0 n) W (by rw [ByteArray.size_extract]; unfold maxLen; omega)
  rw [open_val, ba_extract, List.drop_zero, Nat.sub_zero, ho] at hO
  replace hI3 := Lib.hid hI3
  replace hn := Lib.hid hn
  clear h3 ho hen
  replace hO : ∀ W, Calls Tryd.prog 70 #[.string (s.extract 0 n)] W fun e w' => e = .returned (.tuple #[.string ⟨u.toArray⟩, .nilIface]) ∧ Below W.heap.size W w' := hO
  replace hO := Lib.hid hO
  have dz1 : decide ((0 : Int) < (t : Int)) = true := by simp; omega
  have dz2 : decide ((c : Int) ≤ (t : Int)) = false := by simp; omega
  have dz3 : decide (c ≤ t) = false := by simp; omega
  replace hI1 : Calls Tryd.prog 71 #[.string (s.extract 1 s.size), .int .i64 1125899906842624] w fun e w' => e = .returned (.tuple #[.int .i64 m, .int .i64 k, .nilIface]) ∧ w = w' := hI1
  replace hI1 := Lib.hid hI1
  replace hI2 := Lib.hid hI2
  replace hs := Lib.hid hs
  replace hnm2 := Lib.hid hnm2
  replace ha := Lib.hid ha
  replace hb1 := Lib.hid hb1
  replace hba4 := Lib.hid hba4
  clear h0 h1 h2 u1 v1
  go_enter Tryd.func51, Tryd.ntmps51
  go_wp2_with fail
  refine hI1.out.mono ?_
  rintro e w' ⟨rfl, rfl⟩
  go_wp2_with fail
  go_quiet (fail)
  clear l1 l2 l3 l4 l5 l6 l7 l8 l9 l10
  clear e1
  go_wp2_with fail
  refine (hI2.out _).mono ?_
  rintro e w' ⟨rfl, rfl⟩
  go_wp2_with fail
  refine (hI3.out _).mono ?_
  rintro e w' ⟨rfl, rfl⟩
  go_wp2_with fail
  refine (hO.out _).mono ?_
  rintro e w2 ⟨rfl, hb2⟩
  go_wp2
  refine bodyPost_ret (v := .tuple #[.int .i64 m, .int .u32 nm, .int .i64 t, .int .i64 c, .bool false]) (by simp [results, Tryd.results51, go_sem]) rfl ?_
  exact RecordIs.no m nm t c rfl (hr.out.trans (if_neg (by omega))) (by omega) hnl (by omega) (by omega) (by (repeat (first | exact Below.refl _ _ | assumption | refine bal ?_ _ | refine bdr ?_ | refine bdn ?_ _ | refine bst ?_ (by first | assumption | exact Nat.le_refl _ | omega) _ | refine bch ?_ (by assumption))))
set_option maxHeartbeats 4000000 in
set_option maxRecDepth 20000 in
theorem record_yes (s : ByteArray) (w : World) (hs : s.size = 32) (h0 : s.data.toList.head? = some 82) (m k : Nat) (h1 : Vary.int (s.data.toList.drop 1) 1125899906842624 = .ok m k) (t k2 : Nat) (h2 : Vary.int (s.data.toList.drop (1 + k + 4)) 4096 = .ok t k2) (c j : Nat) (h3 : Vary.int (s.data.toList.drop (1 + k + 4 + k2)) 4096 = .ok c j) (u : List UInt8) (ho : Crc.opened (s.data.toList.take (1 + k + 4 + k2 + j + 4)) = .inr u) (hz : 0 < t) (hz2 : c ≤ t) :
    Calls Tryd.prog 51 #[.string s] w (RecordIs s w) := by
  have hr := Lib.hid (Recv.record_5 h0 h1 h2 h3 (by obtain ⟨_, _, km, kp, _⟩ := int_okk h1; obtain ⟨_, _, qm, qp, _⟩ := int_okk h2; obtain ⟨_, _, rm, rp, _⟩ := int_okk h3; have := Vary.put_len m (by omega); have := put_len2 t (by omega); have := put_len2 c (by omega); rw [Array.length_toList]; have : s.data.size = 32 := hs; omega) ho)
  have hk0 : 0 < s.size := by omega
  have hb : (((s[0]'hk0).toNat : Int) != 82) = false := by
    rw [bne_eq_false_iff_eq]
    obtain ⟨⟨l⟩⟩ := s
    match l, hk0, h0 with
    | a :: r, _, h0 => injection h0 with h0; subst h0; rfl
  have hs1 : 1 ≤ s.size := by omega
  obtain ⟨u1, u2⟩ := drop_str s _ rfl 1
  have hI1 := vary_of (s.extract 1 s.size) (s.data.toList.drop 1) u1 1125899906842624 w (by omega) (by omega)
  rw [h1] at hI1
  obtain ⟨k1, k2', km, kp, _⟩ := int_okk h1
  have hmm : m ≤ 1125899906842624 := by omega
  have hkl : k ≤ 10 := by rw [← kp]; exact Vary.put_len m (by omega)
  clear k2' km kp
  obtain ⟨a, ha⟩ : ∃ a, a = 1 + k + 4 := ⟨_, rfl⟩
  obtain ⟨b, hb1⟩ : ∃ b, b = 1 + k := ⟨_, rfl⟩
  have ha1 : a ≤ 15 := by omega
  have hba : b ≤ a := by omega
  have hb15 : b ≤ 15 := by omega
  have hba4 : a - b = 4 := by omega
  rw [← ha] at h2
  obtain ⟨v1, v2⟩ := drop_str s _ rfl a
  have hI2 := fun W => vary_of (s.extract a s.size) (s.data.toList.drop a) v1 4096 W (by omega) (by omega)
  rw [h2] at hI2
  have e1 : (1 : Int) + (k : Int) + 4 = (a : Int) := by omega
  have e2 : (a : Int) - 4 = (b : Int) := by omega
  have das : a ≤ s.size := by omega
  have dlt : ¬ s.size < a := by omega
  obtain ⟨T, hT⟩ : ∃ T, T = s.extract b a := ⟨_, rfl⟩
  have hTs : T.size = 4 := by rw [hT, ByteArray.size_extract]; omega
  have hTl : T.data.toList = (s.data.toList.drop b).take 4 := by rw [hT, ba_extract, hba4]
  have ht0 : (0 : Int) < (T.size : Int) := by omega
  have ht1 : (1 : Int) < (T.size : Int) := by omega
  have ht2 : (2 : Int) < (T.size : Int) := by omega
  have ht3 : (3 : Int) < (T.size : Int) := by omega
  have hk_0 : 0 < T.size := by omega
  have hk_1 : 1 < T.size := by omega
  have hk_2 : 2 < T.size := by omega
  have hk_3 : 3 < T.size := by omega
  have hnum := num_le4' T _ hTl hTs hk_0 hk_1 hk_2 hk_3
  obtain ⟨m2, m3, m4, n2, n3, nm, l1, l2, l3, l4, l5, l6, l7, l8, l9, l10, hnm, hnl⟩ := le4_facts (T[0]'hk_0) (T[1]'hk_1) (T[2]'hk_2) (T[3]'hk_3)
  have hnm2 : nm = Chunk.le4 (s.data.toList.drop b) := hnm.trans hnum
  clear hnm hnum hTl
  replace hTs := Lib.hid hTs
  have hT' : s.extract b a = T := hT.symm
  clear hT
  replace hI2 : ∀ W, Calls Tryd.prog 71 #[.string (s.extract a s.size), .int .i64 4096] W fun e w' => e = .returned (.tuple #[.int .i64 t, .int .i64 k2, .nilIface]) ∧ W = w' := hI2
  obtain ⟨q1, _, qm, qp, _⟩ := int_okk h2
  have htt : t ≤ 4096 := by omega
  have hk2l : k2 ≤ 2 := by rw [← qp]; exact put_len2 t htt
  clear qm qp
  obtain ⟨g, hg⟩ : ∃ g, g = a + k2 := ⟨_, rfl⟩
  have hga : g ≤ 17 := by omega
  rw [← ha, ← hg] at h3
  obtain ⟨x1, x2⟩ := drop_str s _ rfl g
  have hI3 := fun W => vary_of (s.extract g s.size) (s.data.toList.drop g) x1 4096 W (by omega) (by omega)
  rw [h3] at hI3
  have e3 : (a : Int) + (k2 : Int) = (g : Int) := by omega
  have hmn1 : min (s.size : Int) (g : Int) = (g : Int) := by omega
  have hmn2 : (if g < s.size then (g : Int) else (s.size : Int)) = (g : Int) := by split <;> omega
  have dgs : g ≤ s.size := by omega
  replace hg := Lib.hid hg
  clear x1
  replace hI3 : ∀ W, Calls Tryd.prog 71 #[.string (s.extract g s.size), .int .i64 4096] W fun e w' => e = .returned (.tuple #[.int .i64 c, .int .i64 j, .nilIface]) ∧ W = w' := hI3
  obtain ⟨_, _, rm, rp, _⟩ := int_okk h3
  have hcc : c ≤ 4096 := by omega
  have hjl : j ≤ 2 := by rw [← rp]; exact put_len2 c hcc
  clear rm rp
  obtain ⟨n, hn⟩ : ∃ n, n = g + j + 4 := ⟨_, rfl⟩
  have hn32 : n ≤ 32 := by omega
  have dns : n ≤ s.size := by omega
  have dns2 : ¬ s.size < n := by omega
  have e4 : (g : Int) + (j : Int) + 4 = (n : Int) := by omega
  have hen : 1 + k + 4 + k2 + j + 4 = n := by rw [hn, hg.out, ha]
  rw [hen] at ho
  have hO := fun W => crc_open (s.extract 0 n) W (by rw [ByteArray.size_extract]; unfold maxLen; omega)
  rw [open_val, ba_extract, List.drop_zero, Nat.sub_zero, ho] at hO
  replace hI3 := Lib.hid hI3
  replace hn := Lib.hid hn
  clear h3 ho hen
  replace hO : ∀ W, Calls Tryd.prog 70 #[.string (s.extract 0 n)] W fun e w' => e = .returned (.tuple #[.string ⟨u.toArray⟩, .nilIface]) ∧ Below W.heap.size W w' := hO
  replace hO := Lib.hid hO
  have dz1 : decide ((0 : Int) < (t : Int)) = true := by simp; omega
  have dz2 : decide ((c : Int) ≤ (t : Int)) = true := by simp; omega
  have dz3 : decide (c ≤ t) = true := by simp; omega
  replace hI1 : Calls Tryd.prog 71 #[.string (s.extract 1 s.size), .int .i64 1125899906842624] w fun e w' => e = .returned (.tuple #[.int .i64 m, .int .i64 k, .nilIface]) ∧ w = w' := hI1
  replace hI1 := Lib.hid hI1
  replace hI2 := Lib.hid hI2
  replace hs := Lib.hid hs
  replace hnm2 := Lib.hid hnm2
  replace ha := Lib.hid ha
  replace hb1 := Lib.hid hb1
  replace hba4 := Lib.hid hba4
  clear h0 h1 h2 u1 v1
  go_enter Tryd.func51, Tryd.ntmps51
  go_wp2_with fail
  refine hI1.out.mono ?_
  rintro e w' ⟨rfl, rfl⟩
  go_wp2_with fail
  go_quiet (fail)
  clear l1 l2 l3 l4 l5 l6 l7 l8 l9 l10
  clear e1
  go_wp2_with fail
  refine (hI2.out _).mono ?_
  rintro e w' ⟨rfl, rfl⟩
  go_wp2_with fail
  refine (hI3.out _).mono ?_
  rintro e w' ⟨rfl, rfl⟩
  go_wp2_with fail
  refine (hO.out _).mono ?_
  rintro e w2 ⟨rfl, hb2⟩
  go_wp2
  refine bodyPost_ret (v := .tuple #[.int .i64 m, .int .u32 nm, .int .i64 t, .int .i64 c, .bool true]) (by simp [results, Tryd.results51, go_sem]) rfl ?_
  refine ⟨⟨m, nm, t, c, true, rfl, ?_, by omega, hnl, by omega, by omega⟩, by (repeat (first | exact Below.refl _ _ | assumption | refine bal ?_ _ | refine bdr ?_ | refine bdn ?_ _ | refine bst ?_ (by first | assumption | exact Nat.le_refl _ | omega) _ | refine bch ?_ (by assumption)))⟩
  rw [hr.out, if_pos ⟨hz, hz2⟩, hnm2.out, hb1.out]
  rfl
theorem recv_record (s : ByteArray) (w : World) (hs : s.size = 32) : Calls Tryd.prog 51 #[.string s] w (RecordIs s w) := by
  by_cases h0 : s.data.toList.head? = some 82
  · cases h1 : Vary.int (s.data.toList.drop 1) 1125899906842624 with
    | bad x => exact record_bad1 s w hs h0 x h1
    | ok m k =>
      cases h2 : Vary.int (s.data.toList.drop (1 + k + 4)) 4096 with
      | bad x => exact record_bad2 s w hs h0 m k h1 x h2
      | ok t k2 =>
        cases h3 : Vary.int (s.data.toList.drop (1 + k + 4 + k2)) 4096 with
        | bad x => exact record_bad3 s w hs h0 m k h1 t k2 h2 x h3
        | ok c j =>
          cases ho : Crc.opened (s.data.toList.take (1 + k + 4 + k2 + j + 4)) with
          | inl x => exact record_bad4 s w hs h0 m k h1 t k2 h2 c j h3 x ho
          | inr u =>
            by_cases hz : t = 0
            · exact record_zero s w hs h0 m k h1 t k2 h2 c j h3 u ho hz
            · by_cases hz2 : c ≤ t
              · exact record_yes s w hs h0 m k h1 t k2 h2 c j h3 u ho (by omega) hz2
              · exact record_more s w hs h0 m k h1 t k2 h2 c j h3 u ho (by omega) hz2
  · exact record_no s w hs h0
end Go.Proofs.YtdpdnkjpjoccmaaDoor
