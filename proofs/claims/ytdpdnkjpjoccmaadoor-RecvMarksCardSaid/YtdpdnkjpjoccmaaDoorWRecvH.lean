/- Who gets the pieces, told by where it lies; a piece of another thing. -/
import Derived.Test.YtdpdnkjpjoccmaaDoorWRecvT
import Derived.Test.YtdpdnkjpjoccmaaDoorWCrash
namespace Go.Proofs.YtdpdnkjpjoccmaaDoor
open Go.RowKit
set_option linter.unusedVariables false
set_option linter.unusedSimpArgs false
/-- Who gets the pieces lies from B on. -/
def RecvB (w : World) (p B m : Nat) (R : Recv.Rec) : Prop := ∃ O, RecvIs w p O m R ∧ ∀ k, O k → B ≤ k
theorem RecvB.below {w w' : World} {p B m : Nat} {R : Recv.Rec} (h : RecvB w p B m R) (hb : Below w.heap.size w w') : RecvB w' p B m R := by
  obtain ⟨O, h, hO⟩ := h
  exact ⟨O, h.below hb, hO⟩
theorem only_below {w w' : World} {O : Nat → Prop} {B : Nat} (ho : Only O w w') (hO : ∀ k, O k → B ≤ k) (hB : B ≤ w.heap.size) : Below B w w' := ho.below hO hB
theorem recv_newB (w : World) :
    Calls Tryd.prog 13 #[] w fun e w' => (∃ p, e = .returned (.pointer (some ⟨p, 0, none⟩)) ∧ RecvB w' p w.heap.size 0 Recv.new) ∧ Below w.heap.size w w' :=
  (recv_new w).mono fun _ _ ⟨⟨p, O, he, h, hO⟩, hb⟩ => ⟨⟨p, he, O, h, hO⟩, hb⟩
theorem recv_takeB (w : World) (p B m : Nat) (R : Recv.Rec) (hR : RecvB w p B m R) (hB : B ≤ w.heap.size) (s : ByteArray) (n i : Nat) (hI : Recv.Inv s.data.toList R) (h1 : s.size ≠ 0) (h2 : s.size ≤ 4096) (h3 : 1 ≤ n) (h4 : n ≤ 256) (hi : i * n < s.size) :
    Calls Tryd.prog 16 #[.pointer (some ⟨p, 0, none⟩), .string (lineAt s n i)] w fun e w' => e = .returned .nilIface ∧ RecvB w' p B m (Link.got s n R i) ∧ Below B w w' := by
  obtain ⟨O, h, hO⟩ := hR
  refine (recv_take_got w p m O R h s n i hI h1 h2 h3 h4 hi _ (line_data s n i)).mono ?_
  rintro e w' ⟨he, O', h', ho, hO'⟩
  refine ⟨he, ⟨O', h', fun k hk => ?_⟩, only_below ho hO hB⟩
  rcases hO' k hk with hk | hk
  · exact hO k hk
  · omega
/-- The same, where it lies in Z. -/
def RecvZ (w : World) (p : Nat) (Z : Nat → Prop) (m : Nat) (R : Recv.Rec) : Prop := ∃ O, RecvIs w p O m R ∧ ∀ k, O k → Z k
theorem RecvZ.below {w w' : World} {p m : Nat} {Z : Nat → Prop} {R : Recv.Rec} (h : RecvZ w p Z m R) (hb : Below w.heap.size w w') : RecvZ w' p Z m R := by
  obtain ⟨O, h, hO⟩ := h
  exact ⟨O, h.below hb, hO⟩
theorem RecvZ.mono {w : World} {p m : Nat} {Z Z' : Nat → Prop} {R : Recv.Rec} (h : RecvZ w p Z m R) (hZ : ∀ k, Z k → Z' k) : RecvZ w p Z' m R := by
  obtain ⟨O, h, hO⟩ := h
  exact ⟨O, h, fun k hk => hZ k (hO k hk)⟩
theorem RecvB.toZ {w : World} {p B m : Nat} {R : Recv.Rec} (h : RecvB w p B m R) : RecvZ w p (fun k => B ≤ k ∧ k < w.heap.size) m R := by
  obtain ⟨O, h, hO⟩ := h
  exact ⟨O, h, fun k hk => ⟨hO k hk, h.lt k hk⟩⟩
theorem RecvZ.toB {w : World} {p B m : Nat} {Z : Nat → Prop} {R : Recv.Rec} (h : RecvZ w p Z m R) (hZ : ∀ k, Z k → B ≤ k) : RecvB w p B m R := by
  obtain ⟨O, h, hO⟩ := h
  exact ⟨O, h, fun k hk => hZ k (hO k hk)⟩
theorem RecvZ.only {w w' : World} {p m : Nat} {Z S : Nat → Prop} {R : Recv.Rec} (h : RecvZ w p Z m R) (ho : Only S w w') (hd : ∀ k, Z k → ¬ S k) : RecvZ w' p Z m R := by
  obtain ⟨O, h, hO⟩ := h
  exact ⟨O, h.only ho (fun k hk => hd k (hO k hk)), hO⟩
theorem recv_takeZ (w : World) (p m : Nat) (Z : Nat → Prop) (R : Recv.Rec) (hR : RecvZ w p Z m R) (s : ByteArray) (n i : Nat) (hI : Recv.Inv s.data.toList R) (h1 : s.size ≠ 0) (h2 : s.size ≤ 4096) (h3 : 1 ≤ n) (h4 : n ≤ 256) (hi : i * n < s.size) :
    Calls Tryd.prog 16 #[.pointer (some ⟨p, 0, none⟩), .string (lineAt s n i)] w fun e w' => e = .returned .nilIface ∧ RecvZ w' p (fun k => Z k ∨ w.heap.size ≤ k) m (Link.got s n R i) ∧ Only Z w w' := by
  obtain ⟨O, h, hO⟩ := hR
  refine (recv_take_got w p m O R h s n i hI h1 h2 h3 h4 hi _ (line_data s n i)).mono ?_
  rintro e w' ⟨he, O', h', ho, hO'⟩
  refine ⟨he, ⟨O', h', fun k hk => ?_⟩, ho.mono (fun k _ hk => hO k hk)⟩
  rcases hO' k hk with hk | hk
  · exact Or.inl (hO k hk)
  · exact Or.inr hk
theorem recv_offerB (w : World) (p B m : Nat) (R : Recv.Rec) (hR : RecvB w p B m R) (hl : R.came.length ≤ 4096) :
    Calls Tryd.prog 18 #[.pointer (some ⟨p, 0, none⟩)] w fun e w' => e = .returned (.int .i64 R.offer) ∧ Below w.heap.size w w' := by
  obtain ⟨O, h, hO⟩ := hR
  exact recv_offer w p m O R h hl
theorem recv_safeB (w : World) (p B m : Nat) (R : Recv.Rec) (hR : RecvB w p B m R) :
    Calls Tryd.prog 24 #[.pointer (some ⟨p, 0, none⟩)] w fun e w' => e = .returned (.int .i64 R.safe) ∧ Below w.heap.size w w' := by
  obtain ⟨O, h, hO⟩ := hR
  exact recv_safe w p m O R h
theorem recv_crashB (w : World) (p B m : Nat) (R : Recv.Rec) (hR : RecvB w p B m R) (hB : B ≤ w.heap.size) (mask : Nat) (hmask : mask < 18446744073709551616) :
    Calls Tryd.prog 23 #[.pointer (some ⟨p, 0, none⟩), .int .u64 mask] w fun e w' => e = .returned (.int .i64 (R.crash (keepM mask)).safe) ∧ RecvB w' p B 0 (R.crash (keepM mask)) ∧ Below B w w' := by
  obtain ⟨O, h, hO⟩ := hR
  refine (recv_crash w p m O R h mask hmask).mono ?_
  rintro e w' ⟨he, ⟨O', h', hO'⟩, ho⟩
  refine ⟨he, ⟨O', h', fun k hk => ?_⟩, only_below ho hO hB⟩
  rcases hO' k hk with hk | hk
  · exact hO k hk
  · omega
theorem recv_saveB (w : World) (p B m : Nat) (R : Recv.Rec) (hR : RecvB w p B m R) (hB : B ≤ w.heap.size) (hl : R.came.length ≤ 4096) (hsv : R.saved ≤ 4096) (hm : m ≤ 900000) :
    Calls Tryd.prog 20 #[.pointer (some ⟨p, 0, none⟩)] w fun e w' => e = .returned (.tuple #[]) ∧ (∃ m', m' ≤ m + 130 ∧ RecvB w' p B m' R.save) ∧ Below B w w' := by
  obtain ⟨O, h, hO⟩ := hR
  exact (recv_save w p m O R h hl hsv hm).mono fun e w' ⟨he, ⟨m', hm', h'⟩, ho⟩ => ⟨he, ⟨m', hm', O, h', hO⟩, only_below ho hO hB⟩
theorem recv_flushB (w : World) (p B m : Nat) (R : Recv.Rec) (hR : RecvB w p B m R) (hB : B ≤ w.heap.size) :
    Calls Tryd.prog 21 #[.pointer (some ⟨p, 0, none⟩)] w fun e w' => e = .returned (.tuple #[]) ∧ RecvB w' p B 0 R.flush ∧ Below B w w' := by
  obtain ⟨O, h, hO⟩ := hR
  exact (recv_flush w p m O R h).mono fun e w' ⟨he, h', ho⟩ => ⟨he, ⟨O, h', hO⟩, only_below ho hO hB⟩
/-- What Text tells of one text. -/
theorem recv_textB (w : World) (p B m : Nat) (R : Recv.Rec) (hR : RecvB w p B m R) (s : ByteArray) (hI : Recv.Inv s.data.toList R) (h2 : s.size ≤ 4096) :
    Calls Tryd.prog 17 #[.pointer (some ⟨p, 0, none⟩)] w fun e w' => e = .returned (if R.came = [] then .tuple #[.string ⟨#[]⟩, errN 8] else if R.offer = s.size then .tuple #[.string s, .nilIface] else .tuple #[.string ⟨#[]⟩, errN 7]) ∧ Below w.heap.size w w' := by
  obtain ⟨O, h, hO⟩ := hR
  by_cases hc : R.came = []
  · rw [if_pos hc]
    exact recv_text_none w p m O R h (by rw [hc]; rfl)
  · rw [if_neg hc]
    have hl := (hI.some_ hc).2.len2
    rw [Link.size_len] at hl
    have hl' : R.came.length = s.size := hl
    by_cases ho : R.offer = s.size
    · rw [if_pos ho]
      obtain ⟨t1, t2⟩ := Link.text_is s R hI hc ho
      have h := recv_text_all w p m O R h (by omega) (fun e => hc (List.eq_nil_of_length_eq_zero e)) (by omega) t2
      rw [t1, ba_mk] at h
      exact h
    · rw [if_neg ho]
      have hle := Recv.inv_offer_le _ _ hI
      rw [Link.size_len] at hle
      exact recv_text_less w p m O R h (by omega) (by omega)
set_option maxHeartbeats 2000000 in
set_option maxRecDepth 20000 in
/-- A piece of another thing. -/
theorem recv_take_other (w : World) (p B m : Nat) (R : Recv.Rec) (hR : RecvB w p B m R) (hB : B ≤ w.heap.size) (s : ByteArray) (hs : s.size ≤ 1000000) (nm t at_ : Nat) (x : ByteArray) (hx : Chunk.read s.data.toList = .ok ⟨nm, t, at_, x⟩) (h0 : R.came ≠ []) (h1 : R.name ≠ nm) :
    Calls Tryd.prog 16 #[.pointer (some ⟨p, 0, none⟩), .string s] w fun e w' => e = .returned (errN 6) ∧ Below w.heap.size w w' := by
  have hRd := chunk_read s w hs
  rw [hx] at hRd
  have hv : chunkVal (.ok ⟨nm, t, at_, x⟩) = .tuple #[.agg #[.int .u32 nm, .int .i64 t, .int .i64 at_, .string x], .nilIface] := rfl
  rw [hv] at hRd
  clear hx hv
  obtain ⟨O, ⟨d, gs, b, g3, g4, v3, v4, hR⟩, hO⟩ := hR
  have hne : ((R.came.length : Int) == 0) = false := by
    simp only [beq_eq_false_iff_ne]
    intro e
    exact h0 (List.eq_nil_of_length_eq_zero (by omega))
  have hnn : ((nm : Int) != (R.name : Int)) = true := by
    rw [bne_iff_ne]; omega
  replace hR := Lib.hid hR
  replace hRd := Lib.hid hRd
  replace h0 := Lib.hid h0
  replace h1 := Lib.hid h1
  go_enter Tryd.func16, Tryd.ntmps16
  go_wp2_with fail
  refine hRd.out.mono ?_
  rintro e w2 ⟨rfl, hb2⟩
  have hbal := bal hb2 (.cells #[.int .u32 nm, .int .i64 t, .int .i64 at_, .string x] 37)
  have hAt := hR.out.below hbal
  have hbx := row_alloc w2 #[.int .u32 nm, .int .i64 t, .int .i64 at_, .string x] 37
  have p1 : (w2.alloc (.cells #[.int .u32 nm, .int .i64 t, .int .i64 at_, .string x] 37)).cell? ⟨p, 1, none⟩ = some (.int .u32 R.name) := hAt.row.cell 1
  have p2 : (w2.alloc (.cells #[.int .u32 nm, .int .i64 t, .int .i64 at_, .string x] 37)).cell? ⟨p, 2, none⟩ = some (.int .i64 R.came.length) := hAt.row.cell 2
  have b0 := hbx.cell 0
  have b1 := hbx.cell 1
  replace hbx := Lib.hid hbx
  replace hAt := Lib.hid hAt
  go_wp2_with fail
  generalize (w2.alloc (.cells #[.int .u32 nm, .int .i64 t, .int .i64 at_, .string x] 37)) = Wz at *
  have b0' : Wz.cell? ⟨w2.heap.size, 0, none⟩ = some (.int .u32 nm) := hbx.out.cell 0
  have b1' : Wz.cell? ⟨w2.heap.size, 1, none⟩ = some (.int .i64 t) := hbx.out.cell 1
  clear b0 b1
  go_quiet (fail)
  go_wp2
  go_ret
  exact ⟨rfl, by (repeat (first | exact Below.refl _ _ | assumption | refine bal ?_ _ | refine bdr ?_ | refine bdn ?_ _ | refine bst ?_ (by first | assumption | exact Nat.le_refl _ | omega) _ | refine bch ?_ (by assumption)))⟩
end Go.Proofs.YtdpdnkjpjoccmaaDoor
