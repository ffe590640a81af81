/- A link in memory; the walks of link.New, Left, left, piece. -/
import Derived.Test.YtdpdnkjpjoccmaaDoorWRecvT
import Derived.Test.YtdpdnkjpjoccmaaDoorWLink
namespace Go.Proofs.YtdpdnkjpjoccmaaDoor
open Go.RowKit
set_option linter.unusedVariables false
set_option linter.unusedSimpArgs false
def linesTo (s : ByteArray) (n k : Nat) : List ByteArray := (List.range k).map (lineAt s n)
theorem linesTo_len (s : ByteArray) (n k : Nat) : (linesTo s n k).length = k := by simp [linesTo]
theorem linesTo_succ (s : ByteArray) (n k : Nat) : linesTo s n (k + 1) = linesTo s n k ++ [lineAt s n k] := by unfold linesTo; rw [List.range_succ, List.map_append]; rfl
theorem linesTo_get (s : ByteArray) (n k i : Nat) (h : i < (linesTo s n k).length) : (linesTo s n k)[i] = lineAt s n i := by simp [linesTo]
abbrev lines (s : ByteArray) (n : Nat) : List ByteArray := linesTo s n (Chunk.cuts s.size n)
/-- A link in memory. -/
structure LinkAt (w : World) (l p : Nat) (vp : Value) (O : Nat → Prop) (s : ByteArray) (n : Nat) (L : Link.St) : Prop where
  row : Row w l 57 [.pointer (some ⟨p, 0, none⟩), vp, .int .i64 n, .int .i64 L.frm]
  pcs : StrsIs w vp (lines s n)
  recv : RecvIs w p O 0 L.R
  nl : ¬ O l
  npc : ∀ k, vp.ownBlock = some k → ¬ O k ∧ k ≠ l
def LinkIs (w : World) (l : Nat) (Z : Nat → Prop) (s : ByteArray) (n : Nat) (L : Link.St) : Prop := ∃ p vp O, LinkAt w l p vp O s n L ∧ ∀ k, (k = l ∨ O k ∨ vp.ownBlock = some k) → Z k
theorem LinkAt.only {w w' : World} {l p : Nat} {vp : Value} {O S : Nat → Prop} {s : ByteArray} {n : Nat} {L : Link.St} (h : LinkAt w l p vp O s n L) (ho : Only S w w') (h1 : ¬ S l) (h2 : ∀ k, O k → ¬ S k) (h3 : ∀ k, vp.ownBlock = some k → ¬ S k) : LinkAt w' l p vp O s n L :=
  { row := h.row.only ho h1, pcs := h.pcs.only ho h3, recv := h.recv.only ho h2, nl := h.nl, npc := h.npc }
theorem LinkAt.below {w w' : World} {l p : Nat} {vp : Value} {O : Nat → Prop} {s : ByteArray} {n : Nat} {L : Link.St} (h : LinkAt w l p vp O s n L) (hb : Below w.heap.size w w') : LinkAt w' l p vp O s n L :=
  { row := h.row.below hb, pcs := h.pcs.below (by omega) hb, recv := h.recv.below hb, nl := h.nl, npc := h.npc }
set_option maxHeartbeats 4000000 in
set_option maxRecDepth 20000 in
theorem link_new (s : ByteArray) (n : Nat) (w : World) (h1 : s.size ≠ 0) (h2 : s.size ≤ 4096) (h3 : 1 ≤ n) (h4 : n ≤ 256) :
    Calls Tryd.prog 52 #[.string s, .int .i64 n] w fun e w' => (∃ l, e = .returned (.tuple #[.pointer (some ⟨l, 0, none⟩), .nilIface]) ∧ LinkIs w' l (fun k => w.heap.size ≤ k) s n Link.new) ∧ Below w.heap.size w w' := by
  have hC := Lib.hid (chunk_cut s n w h1 h2 h3 h4)
  have hN := Lib.hid recv_new
  have hcut : Chunk.cuts s.size n ≤ 4096 := Nat.le_of_not_lt fun h => by
    have h5 := (Chunk.lt_cuts (n := s.size) (size := n) (k := 4096) h3).1 h
    have : 4096 * 1 ≤ 4096 * n := Nat.mul_le_mul_left _ h3
    omega
  have hpf := Lib.hid (fun k (hk : k < Chunk.cuts s.size n) => Chunk.pieceAt_fine s n k ((Chunk.lt_cuts h3).1 hk) h3 h4 h2)
  go_enter Tryd.func52, Tryd.ntmps52
  go_wp2_with fail
  refine hC.out.mono ?_
  rintro e w1 ⟨⟨v, rfl, hv⟩, hb1⟩
  go_wp2_with fail
  refine (hN.out _).mono ?_
  rintro e w2 ⟨⟨p, O, rfl, hR, hO⟩, hb2⟩
  have hv2 := hv.below (by omega) hb2
  have hs1 := hb1.size
  have hs2 := hb2.size
  have hrow := row_alloc w2 #[.pointer (some ⟨p, 0, none⟩), .slice none 0 0, .int .i64 n, .int .i64 0] 57
  have hba : Below w2.heap.size w2 (w2.alloc (.cells #[.pointer (some ⟨p, 0, none⟩), .slice none 0 0, .int .i64 n, .int .i64 0] 57)) := bal (Below.refl _ _) _
  have hv3 := hv2.below (by omega) hba
  have hR3 := hR.below hba
  have hltO := hR.lt
  have hbw : Below w.heap.size w (w2.alloc (.cells #[.pointer (some ⟨p, 0, none⟩), .slice none 0 0, .int .i64 n, .int .i64 0] 57)) := bal (bch hb1 hb2) _
  obtain ⟨oa, ca, rfl, hca, hcell⟩ := hv3.at pieceCells_len
  have hownl : ∀ b off, oa = some ⟨b, off, none⟩ → 0 < (Chunk.pieces s n (Chunk.cuts s.size n)).length → b < w2.heap.size := fun b off e h0 => by
    obtain ⟨oa', ca', hv', _, hc'⟩ := hv2.at pieceCells_len
    obtain ⟨b', off', e', hb', _⟩ := hc' 0 h0
    simp only [Value.slice.injEq] at hv'
    rw [hv'.1, e'] at e
    simp only [Option.some.injEq, Addr.mk.injEq] at e
    rw [← e.1]; exact hb' (by omega)
  rw [Chunk.pieces_len] at hca hownl
  have hsz3 : (w2.alloc (.cells #[.pointer (some ⟨p, 0, none⟩), .slice none 0 0, .int .i64 n, .int .i64 0] 57)).heap.size = w2.heap.size + 1 := by simp
  replace hcell := Lib.hid hcell
  replace hrow := Lib.hid hrow
  replace hR3 := Lib.hid hR3
  replace hltO := Lib.hid hltO
  replace hownl := Lib.hid hownl
  replace hO := Lib.hid hO
  have hpl : Hid ((Chunk.pieces s n (Chunk.cuts s.size n)).length = Chunk.cuts s.size n) := Lib.hid (Chunk.pieces_len _ _ _)
  clear hR hv hv2 hv3 hca hC hN
  go_wp2_with fail
  generalize (w2.alloc (.cells #[.pointer (some ⟨p, 0, none⟩), .slice none 0 0, .int .i64 n, .int .i64 0] 57)) = wB at *
  rw [hpl.out]
  generalize hlk : w2.heap.size = lk at *
  have hlw : w.heap.size ≤ lk := by omega
  clear hlk
  generalize hc : Chunk.cuts s.size n = c at *
  replace hc := Lib.hid hc
  go_loopw [28] (fun i wr => ∃ k : Nat, k ≤ c ∧ i = .int .i64 k ∧ ∃ vp, wr.ownsRow wB.heap.size 9 1 vp k ((linesTo s n k).flatMap strCells) ∧ Row wr lk 57 [.pointer (some ⟨p, 0, none⟩), vp, .int .i64 n, .int .i64 0] ∧ Only (fun k => k = lk) wB wr) (fun i _ => c - (intOf i).toNat)
  case atStart => exact ⟨0, by omega, rfl, .slice none 0 0, World.ownsRow_nil _ _ _ _, by first | exact hrow.out | exact hrow.out.drew, by first | exact Only.refl _ _ | exact (Only.refl _ _).drew⟩
  case round =>
    obtain ⟨k, hk, rfl, vp, hown, hr, hon⟩ := hrel
    have hsz := hon.size
    have hnl : ∀ j, vp.ownBlock = some j → wB.heap.size ≤ j := fun j hj => (hown.lt j hj).1
    by_cases hlt : k < c
    · obtain ⟨b, off, rfl, hb, hcl⟩ := hcell.out k (by rw [hpl.out]; exact hlt)
      rw [Chunk.pieces_get] at hcl
      obtain ⟨k0, k1, k2, k3⟩ := piece_cells' hcl
      have hbl : b < lk := hownl.out b off rfl (by omega)
      have hnb : ¬ b = lk := by omega
      replace k0 := hon.cell k0 hnb
      replace k1 := hon.cell k1 hnb
      replace k2 := hon.cell k2 hnb
      replace k3 := hon.cell k3 hnb
      have hfine := hpf.out k hlt
      have hW := fun W => chunk_write (Chunk.pieceAt s n k).name s.size (k * n) (Chunk.pieceAt s n k).data W (Chunk.pieceAt_name s n k) hfine
      have hline : Hid ((⟨(Chunk.write ⟨(Chunk.pieceAt s n k).name, s.size, ((k * n : Nat) : Int), (Chunk.pieceAt s n k).data⟩).toArray⟩ : ByteArray) = lineAt s n k) := Lib.hid rfl
      have e1 : (Chunk.pieceAt s n k).total = (s.size : Int) := rfl
      have e2 : (Chunk.pieceAt s n k).at_ = ((k * n : Nat) : Int) := rfl
      rw [e1] at k1
      rw [e2] at k2
      clear e1 e2 hfine hcl
      rw [hline.out] at hW
      replace hW := Lib.hid hW
      generalize (Chunk.pieceAt s n k).name = nm at *
      generalize (Chunk.pieceAt s n k).data = dt at *
      generalize k * n = kn at *
      have hsn := Lib.hid (linesTo_succ s n k)
      generalize lineAt s n k = ln at *
      replace hline := Lib.hid hline
      replace hr := Lib.hid hr
      replace hown := Lib.hid hown
      go_wp2_with fail
      refine (hW.out _).mono ?_
      rintro e w4 ⟨rfl, hb4⟩
      have hb4' : Below wr.heap.size wr w4 := bch (bal (Below.refl _ _) _) hb4
      have hr4 := hr.out.below hb4'
      have hown4 := owns_below hown.out hb4'
      have hon4 := hon.chain hb4'
      have hs4 := hon4.size
      have e4 : w4.cell? ⟨lk, 1, none⟩ = some vp := hr4.cell 1
      have hvl : vp.ownBlock ≠ some lk := fun e => by have := hnl lk e; omega
      replace hr4 := Lib.hid hr4
      go_wp2_with (first
        | ((at_builtin; go_must (refine app_one rfl _ _ 55 9 rfl (wB.heap.size) (.string ⟨#[]⟩) 1 16 Tryd.underlying55 (by kernel_rfl) rfl _ _ _ rfl hown4 _ rfl rfl ?_ (by omega) (by omega) hs4 ?_)); (focus (first | exact ⟨rfl, rfl⟩ | rfl | simp [Value.oneCell'])); intro v5 w5 hown5 hg5 hbk5 hne5 hb5; obtain ⟨g5, cap5, rfl⟩ := owns_addr hown5 hne5; have hr5 := hr4.out.grown hg5 hvl; have hon5 := hon4.grown hg5 (fun j hj => Or.inr (hnl j hj)); have e5 : w5.cell? ⟨lk, 1, none⟩ = some vp := hr5.cell 1; have f5 := hr5.frozen 1 (by simp); replace hr5 := Lib.hid hr5; replace hown5 := Lib.hid hown5; replace hg5 := Lib.hid hg5; replace hb5 := Lib.hid hb5))
      go_roundw
      case rel =>
        obtain ⟨v5, hv5e⟩ : ∃ v5, v5 = Value.slice (some ⟨g5, 0, none⟩) (k + 1) cap5 := ⟨_, rfl⟩
        rw [← hv5e] at hown5 ⊢
        have hv5 : v5.ownBlock ≠ some lk := fun e => by have := (hown5.out.lt lk e).1; omega
        refine ⟨k + 1, by omega, by go_num, v5, ?_, hr5.out.set 1 v5, hon5.set (p := ⟨lk, 1, none⟩) (Or.inl rfl) v5⟩
        rw [hsn.out, str_snoc]
        exact owns_only hown5.out ((Only.refl (fun j => j = lk) w5).set (p := ⟨lk, 1, none⟩) (Or.inl rfl) v5) (fun j hj e => hv5 (by rw [hj, e]))
      case measure => simp [intOf]; omega
    · obtain rfl : k = c := by omega
      replace hr := Lib.hid hr
      replace hown := Lib.hid hown
      go_wp2
      go_ret2
      refine ⟨⟨lk, rfl, p, vp, O, { row := hr.out, pcs := ?_, recv := hR3.out.only hon (fun j hj e => by have := hltO.out j hj; omega), nl := fun h => by have := hltO.out lk h; omega, npc := fun j hj => ⟨fun h => by have := hltO.out j h; have := hnl j hj; omega, by have := hnl j hj; omega⟩ }, fun j hj => ?_⟩, ?_⟩
      · have e : linesTo s n k = lines s n := by unfold lines; rw [hc.out]
        rw [← e]
        exact ListIs.of_owns (by rw [linesTo_len]; exact hown.out)
      · rcases hj with rfl | hj | hj
        · exact hlw
        · have := hO.out j hj; omega
        · have := hnl j hj; omega
      · exact hbw.trans (hon.below (B := w.heap.size) (fun j hj => by rw [hj]; exact hlw) (by omega))
end Go.Proofs.YtdpdnkjpjoccmaaDoor
