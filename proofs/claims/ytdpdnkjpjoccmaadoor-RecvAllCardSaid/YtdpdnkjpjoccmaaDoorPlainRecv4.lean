/- Plain laws of who gets the pieces, part four: which bytes came. -/
import Derived.Test.YtdpdnkjpjoccmaaDoorPlainLink2
namespace Go.Proofs.YtdpdnkjpjoccmaaDoor
namespace Recv
set_option linter.unusedVariables false
def bytesOf (n : Nat) (f : Nat → Bool) : List Bool := (List.range n).map f
theorem bytesOf_len (n : Nat) (f : Nat → Bool) : (bytesOf n f).length = n := by simp [bytesOf]
theorem bytesOf_get (n : Nat) (f : Nat → Bool) (j : Nat) (h : j < n) : (bytesOf n f)[j]? = some (f j) := by
  unfold bytesOf
  rw [List.getElem?_map, List.getElem?_range h]; rfl
/-- Of a text these bytes came. -/
structure Has (s : ByteArray) (R : Rec) (f : Nat → Bool) : Prop where
  inv : Inv s.data.toList R
  came : (R.came = [] ∧ ∀ j, j < s.size → f j = false) ∨ R.came = bytesOf s.size f
theorem has_new (s : ByteArray) : Has s new (fun _ => false) := ⟨inv_new _, .inl ⟨rfl, fun _ _ => rfl⟩⟩
theorem in_piece (s : ByteArray) (n i j : Nat) (hn : 1 ≤ n) (hi : i * n < s.size) (hj : j < s.size) : (i * n ≤ j ∧ j < i * n + (Chunk.pieceAt s n i).data.data.toList.length) ↔ j / n = i := by
  rw [Link.piece_list_len s n i hi]
  constructor
  · intro h
    exact (Nat.div_eq_iff (by omega)).2 ⟨by omega, by omega⟩
  · intro h
    subst h
    have d1 := Nat.div_add_mod j n
    have d2 := Nat.mod_lt j (show 0 < n by omega)
    rw [Nat.mul_comm] at d1
    omega
theorem has_got (s : ByteArray) (R : Rec) (f : Nat → Bool) (h : Has s R f) (hs : s.size ≠ 0) (n i : Nat) (hn : 1 ≤ n) (hi : i * n < s.size) :
    Has s (Link.got s n R i) (fun j => f j || decide (j / n = i)) ∧ (Link.got s n R i).came ≠ [] ∧ (Link.got s n R i).mark = R.mark ∧ (Link.got s n R i).safe = R.safe := by
  obtain ⟨_, h2, h3, h4, h5, h6, h7, h8⟩ := Link.got_spec s n R h.inv hs i
  refine ⟨⟨h2, .inr ?_⟩, h3, h4, h5⟩
  apply List.ext_getElem?
  intro j
  have hl : (Link.got s n R i).came.length = s.size := by
    have := (h2.some_ h3).2.len2
    rw [Link.size_len] at this; exact this
  by_cases hj : j < s.size
  · rw [bytesOf_get _ _ _ hj, h6]
    by_cases hin : j / n = i
    · rw [if_pos ((in_piece s n i j hn hi hj).2 hin)]; simp [hin]
    · rw [if_neg (fun e => hin ((in_piece s n i j hn hi hj).1 e))]
      have hf : (R.opened (Crc.sum s.data.toList) s.size).came[j]? = some (f j) := by
        rcases h.came with ⟨hc, hf⟩ | hc
        · unfold Rec.opened
          rw [if_pos hc]
          simp only [List.getElem?_replicate]
          rw [if_pos hj, hf j hj]
        · unfold Rec.opened
          rw [if_neg (by rw [hc]; intro e; have := congrArg List.length e; rw [bytesOf_len] at this; exact hs this), hc]
          exact bytesOf_get _ _ _ hj
      rw [hf]; simp [hin]
  · rw [List.getElem?_eq_none (by omega), List.getElem?_eq_none (by rw [bytesOf_len]; omega)]
theorem has_offer (s : ByteArray) (R : Rec) (f : Nat → Bool) (h : Has s R f) : R.offer = offer (bytesOf s.size f) := by
  unfold Rec.offer
  rcases h.came with ⟨hc, hf⟩ | hc
  · rw [hc]
    refine (offer_eq _ 0 (Nat.zero_le _) (fun j hj => by omega) (fun h0 => ?_)).symm
    rw [bytesOf_len] at h0
    rw [bytesOf_get _ _ _ h0, hf 0 h0]
    intro e; cases e
  · rw [hc]
theorem has_congr {s : ByteArray} {R : Rec} {f g : Nat → Bool} (h : Has s R f) (e : ∀ j, j < s.size → f j = g j) : Has s R g := by
  refine ⟨h.inv, ?_⟩
  rcases h.came with ⟨hc, hf⟩ | hc
  · exact .inl ⟨hc, fun j hj => by rw [← e j hj]; exact hf j hj⟩
  · right
    rw [hc]
    unfold bytesOf
    exact List.map_congr_left (fun j hj => e j (by simpa using hj))
/-- Pieces of a size. -/
theorem pieces_offer (s : ByteArray) (R : Rec) (n : Nat) (P : List Bool) (hn : 1 ≤ n) (hl : P.length = Chunk.cuts s.size n) (h : Has s R (fun j => P.getD (j / n) false)) : R.offer = min s.size (offer P * n) := by
  rw [has_offer s R _ h]
  have h1 := offer_pieces (bytesOf s.size (fun j => P.getD (j / n) false)) P n (by omega) (by rw [bytesOf_len]; exact hl) (fun j hj => by
    rw [bytesOf_len] at hj
    rw [bytesOf_get _ _ _ hj]
    have hlt : j / n < P.length := by
      rw [hl]
      refine (Chunk.lt_cuts hn).2 ?_
      have := Nat.div_mul_le_self j n
      omega
    rw [List.getElem?_eq_getElem hlt]
    simp [List.getD, List.getElem?_eq_getElem hlt])
  rw [bytesOf_len] at h1
  exact h1
theorem set_getD (P : List Bool) (i q : Nat) (hi : i < P.length) : (P.set i true).getD q false = (P.getD q false || decide (q = i)) := by
  simp only [List.getD]
  by_cases h : i = q
  · subst h; rw [List.getElem?_set_self hi]; simp
  · rw [List.getElem?_set_ne h]
    have : ¬ q = i := fun e => h e.symm
    simp [this]
/-- The pieces that came first. -/
def firsts (c k : Nat) : List Bool := List.replicate k true ++ List.replicate (c - k) false
theorem firsts_len (c k : Nat) (h : k ≤ c) : (firsts c k).length = c := by simp [firsts]; omega
theorem firsts_set (c k : Nat) (h : k < c) : (firsts c k).set k true = firsts c (k + 1) := by
  unfold firsts
  rw [List.set_append_right _ _ (by simp), List.length_replicate, Nat.sub_self, show c - k = (c - (k + 1)) + 1 by omega, List.replicate_succ, List.set_cons_zero, List.replicate_succ', List.append_assoc]
  rfl
theorem firsts_offer (c k : Nat) : offer (firsts c k) = k := offer_back k (c - k)
/-- The first k pieces, one behind the other. -/
def upto (s : ByteArray) (n : Nat) : Nat → Rec
  | 0 => new
  | k + 1 => Link.got s n (upto s n k) k
theorem upto_spec (s : ByteArray) (n : Nat) (hs : s.size ≠ 0) (hn : 1 ≤ n) (k : Nat) (hk : k ≤ Chunk.cuts s.size n) :
    Has s (upto s n k) (fun j => (firsts (Chunk.cuts s.size n) k).getD (j / n) false) ∧ (upto s n k).mark = 0 ∧ (upto s n k).safe = 0 ∧ (upto s n k).saved = 0 ∧ (0 < k → (upto s n k).came ≠ []) := by
  induction k with
  | zero =>
    refine ⟨has_congr (has_new s) (fun j hj => ?_), rfl, rfl, rfl, fun h => by omega⟩
    unfold firsts
    simp only [List.replicate_zero, List.nil_append, List.getD, List.getElem?_replicate]
    split <;> rfl
  | succ k ih =>
    obtain ⟨i1, i2, i3, i4, _⟩ := ih (by omega)
    obtain ⟨g1, g2, g3, g4⟩ := has_got s _ _ i1 hs n k hn ((Chunk.lt_cuts hn).1 (by omega))
    refine ⟨has_congr g1 (fun j hj => ?_), by show (Link.got s n (upto s n k) k).mark = 0; rw [g3]; exact i2, by show (Link.got s n (upto s n k) k).safe = 0; rw [g4]; exact i3, ?_, fun _ => g2⟩
    · rw [← firsts_set _ _ (by omega), set_getD _ _ _ (by rw [firsts_len _ _ (by omega)]; omega)]
    · have hle := g1.inv.le1
      show (Link.got s n (upto s n k) k).saved = 0
      obtain ⟨R', h1, h2, h3, h4, h5, h6, h7, h8, h9⟩ := inv_take s.data.toList _ i1.inv (k * n) _ (fun e => hs (by rw [← Link.size_len, e]; rfl)) (Link.piece_pre s n k)
      rw [Link.size_len] at h1
      have e : Link.got s n (upto s n k) k = R' := by unfold Link.got; rw [h1]; rfl
      rw [e, h7]; exact i4
theorem upto_offer (s : ByteArray) (n : Nat) (hs : s.size ≠ 0) (hn : 1 ≤ n) (k : Nat) (hk : k ≤ Chunk.cuts s.size n) : (upto s n k).offer = min s.size (k * n) := by
  have h := pieces_offer s _ n _ hn (firsts_len _ _ hk) (upto_spec s n hs hn k hk).1
  rw [firsts_offer] at h
  exact h
theorem cuts_all (s n : Nat) (hn : 1 ≤ n) : s ≤ Chunk.cuts s n * n := by
  refine Nat.le_of_not_lt fun h => ?_
  exact absurd ((Chunk.lt_cuts hn).2 h) (Nat.lt_irrefl _)
/-- Without a record all is lost. -/
theorem forgets (s : List UInt8) (R : Rec) (h : Inv s R) (hm : R.mark = 0) (keep : Nat → Bool) : (R.crash keep).came = [] ∧ (R.crash keep).safe = 0 := by
  rcases best_spec (R.disk.crash keep) with ⟨hb, h0, h1⟩ | ⟨i, m, nm, t, c, hi, hsi, hb, hmax⟩
  · have e : R.crash keep = ⟨0, [], [], 0, 0, 0, R.disk.crash keep⟩ := by unfold Rec.crash; simp only [hb]; rfl
    rw [e]
    exact ⟨rfl, rfl⟩
  · obtain ⟨X, hX, hXr⟩ := seen_ver _ _ _ hsi
    have := (h.recs i X m nm t c hi (ver_crash _ _ _ _ hX) hXr).2.2.2.1
    omega
theorem lasting_keep {R : Rec} {v : Nat} (h : Lasting R v) (keep : Nat → Bool) : Lasting (R.crash keep) v := by
  obtain ⟨i, x, m, nm, t, h1, h2, h3, h4⟩ := h
  exact ⟨i, x, m, nm, t, h1, (Disk.crash_out _ _ _ (not_dirty h3)).trans h2, rfl, h4⟩
/-- With one it lasts, behind two crashes. -/
theorem marks_twice (s : ByteArray) (R : Rec) (h : Inv s.data.toList R) (hc : R.came ≠ []) (hm : R.mark ≤ 1000) (hl : s.size ≤ 4096) (a b : Nat → Bool) :
    ((Link.sync R).crash a).safe = R.offer ∧ (((Link.sync R).crash a).crash b).safe = R.offer ∧ (((Link.sync R).crash a).crash b).offer = R.offer ∧ Inv s.data.toList (((Link.sync R).crash a).crash b) := by
  have hl' : s.data.toList.length ≤ 4096 := by rw [Link.size_len]; exact hl
  obtain ⟨s1, s2, s3⟩ := sync_same R
  obtain ⟨i1, i2⟩ := Link.sync_inv _ _ h (by omega) hl'
  have hlat : Latest (Link.sync R) R.offer := sync_latest _ _ h (by omega) hl' hc
  obtain ⟨c1, c2, c3⟩ := inv_crash _ _ i1 a hl'
  have l1 := lasting_crash _ _ i1 a _ hlat.lasting
  obtain ⟨d1, d2, d3⟩ := inv_crash _ _ c1 b hl'
  have l2 := lasting_crash _ _ c1 b _ (lasting_keep hlat.lasting a)
  have e : (Link.sync R).safe = R.offer := s2
  have o := (crash_offer b ((Link.sync R).crash a)).1
  exact ⟨by omega, by omega, by omega, d1⟩
end Recv
end Go.Proofs.YtdpdnkjpjoccmaaDoor
