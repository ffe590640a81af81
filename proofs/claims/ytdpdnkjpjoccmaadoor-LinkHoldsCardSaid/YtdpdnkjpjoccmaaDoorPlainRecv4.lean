/- Plain laws of a text with some bits turned: there and back; how many bits are others. -/
import Derived.Test.YtdpdnkjpjoccmaaDoorPlainBurst
import Derived.Test.YtdpdnkjpjoccmaaDoorPlainRecv3
import Derived.Test.YtdpdnkjpjoccmaaDoorPlainCut
namespace Go.Proofs.YtdpdnkjpjoccmaaDoor
namespace Link
open Crc
def turn (l : List UInt8) (m : Nat) : List UInt8 := if l.length < 4 then l else turns l (m / 4294967296 % (8 * l.length - 31)) m 32
theorem turn_len (l : List UInt8) (m : Nat) : (turn l m).length = l.length := by
  unfold turn; split
  · rfl
  · exact turns_len ..
theorem num_turn (l : List UInt8) (m : Nat) (h : ¬ l.length < 4) :
    num (turn l m) = num l ^^^ ((m % 4294967296) * 2 ^ (m / 4294967296 % (8 * l.length - 31))) := by
  have hm := Nat.mod_lt (m / 4294967296) (show 0 < 8 * l.length - 31 by omega)
  unfold turn
  rw [if_neg h, num_turns _ _ _ _ (by omega), show min 32 (8 * l.length - m / 4294967296 % (8 * l.length - 31)) = 32 by omega]
theorem turn_turn (l : List UInt8) (m : Nat) : turn (turn l m) m = l := by
  by_cases h : l.length < 4
  · have : turn l m = l := by unfold turn; rw [if_pos h]
    rw [this, this]
  · apply num_inj
    · rw [turn_len, turn_len]
    · rw [num_turn _ _ (by rw [turn_len]; exact h), num_turn _ _ h, turn_len, Nat.xor_assoc, Nat.xor_self, Nat.xor_zero]
/-- How many of the lowest k bits are set. -/
def pop (n : Nat) : Nat → Nat
  | 0 => 0
  | k + 1 => pop n k + n / 2 ^ k % 2
theorem pop_add (n a b : Nat) : pop n (a + b) = pop n a + pop (n / 2 ^ a) b := by
  induction b with
  | zero => rfl
  | succ b ih => rw [Nat.add_succ]; simp only [pop]; rw [ih, Nat.div_div_eq_div_mul, ← Nat.pow_add]; omega
theorem pop_nil (k : Nat) : pop 0 k = 0 := by
  induction k with
  | zero => rfl
  | succ k ih => simp [pop, ih]
theorem pop_mod (n k j : Nat) (h : j ≤ k) : pop (n % 2 ^ k) j = pop n j := by
  induction j with
  | zero => rfl
  | succ j ih =>
    simp only [pop]
    rw [ih (by omega)]
    congr 1
    have e : n % 2 ^ k / 2 ^ j % 2 = n / 2 ^ j % 2 := by
      have h1 : (n % 2 ^ k).testBit j = n.testBit j := by rw [Nat.testBit_mod_two_pow]; simp; omega
      rw [Nat.testBit_eq_decide_div_mod_eq, Nat.testBit_eq_decide_div_mod_eq] at h1
      have h2 := decide_eq_decide.1 h1
      omega
    exact e
theorem pop_shift (n f k : Nat) : pop (n * 2 ^ f) (f + k) = pop n k := by
  rw [pop_add, Nat.mul_div_cancel _ (Nat.two_pow_pos f)]
  have h := pop_mod (n * 2 ^ f) f f (Nat.le_refl _)
  rw [Nat.mul_mod_left, pop_nil] at h
  omega
theorem pop_small (n k j : Nat) (h : n < 2 ^ k) : pop n (k + j) = pop n k := by
  rw [pop_add, Nat.div_eq_of_lt h, pop_nil]; rfl
def dif : List UInt8 → Nat
  | [] => 0
  | c :: l => pop c.toNat 8 + dif l
theorem dif_num (l : List UInt8) : dif l = pop (num l) (8 * l.length) := by
  induction l with
  | nil => rfl
  | cons c l ih =>
    have hc := c.toNat_lt
    rw [List.length_cons, Nat.mul_add, Nat.mul_one, Nat.add_comm, pop_add]
    have h1 : num (c :: l) / 2 ^ 8 = num l := by simp only [num]; omega
    have h2 := pop_mod (num (c :: l)) 8 8 (Nat.le_refl _)
    have h3 : num (c :: l) % 2 ^ 8 = c.toNat := by simp only [num]; omega
    rw [h3] at h2
    rw [h1, ← h2]
    simp only [dif, ih]
theorem dif_append (a b : List UInt8) : dif (a ++ b) = dif a + dif b := by
  induction a with
  | nil => simp [dif]
  | cons c a ih => rw [List.cons_append]; simp only [dif, ih]; omega
/-- What is other, bit by bit, between the two texts, up to a byte. -/
def upto (s t : List UInt8) (i : Nat) : Nat := dif ((List.zipWith (· ^^^ ·) s t).take i)
theorem upto_succ (s t : List UInt8) (i : Nat) (h : i < s.length) (h2 : i < t.length) : upto s t (i + 1) = upto s t i + pop (s[i] ^^^ t[i]).toNat 8 := by
  unfold upto
  rw [List.take_succ_eq_append_getElem (by simp; omega), dif_append, List.getElem_zipWith]
  simp [dif]
theorem pop_le (n k : Nat) : pop n k ≤ k := by
  induction k with
  | zero => exact Nat.le_refl _
  | succ k ih => simp only [pop]; omega
theorem upto_le (s t : List UInt8) (i : Nat) : upto s t i ≤ 8 * i := by
  have : ∀ l : List UInt8, dif l ≤ 8 * l.length := by
    intro l; rw [dif_num]; exact pop_le _ _
  have h := this ((List.zipWith (· ^^^ ·) s t).take i)
  unfold upto
  have h2 := List.length_take_le i (List.zipWith (· ^^^ ·) s t)
  omega
theorem upto_same (l : List UInt8) (i : Nat) : upto l l i = 0 := by
  unfold upto
  have : ∀ m : List UInt8, (∀ x ∈ m, x = 0) → dif m = 0 := by
    intro m
    induction m with
    | nil => intro; rfl
    | cons c m ih => intro h; simp only [dif]; rw [ih (fun x hx => h x (List.mem_cons_of_mem _ hx)), h c (List.mem_cons_self ..), show (0 : UInt8).toNat = 0 from rfl, pop_nil]
  apply this
  intro x hx
  have := List.mem_of_mem_take hx
  obtain ⟨j, hj, e⟩ := List.mem_iff_getElem.1 this
  rw [← e, List.getElem_zipWith]; simp
theorem upto_short (l : List UInt8) (m i : Nat) (h : l.length < 4) : upto l (turn l m) i = 0 := by
  have : turn l m = l := by unfold turn; rw [if_pos h]
  rw [this, upto_same]
theorem upto_all (l : List UInt8) (m : Nat) (h : ¬ l.length < 4) : upto l (turn l m) l.length = pop m 32 := by
  have hm := Nat.mod_lt (m / 4294967296) (show 0 < 8 * l.length - 31 by omega)
  unfold upto
  have hl : (List.zipWith (· ^^^ ·) l (turn l m)).length = l.length := by simp [turn_len]
  rw [List.take_of_length_le (by omega), dif_num, hl, num_xor _ _ (turn_len l m).symm, num_turn _ _ h, ← Nat.xor_assoc, Nat.xor_self, Nat.zero_xor]
  generalize m / 4294967296 % (8 * l.length - 31) = f at *
  rw [show 8 * l.length = f + (32 + (8 * l.length - f - 32)) by omega, pop_shift, pop_small _ 32 _ (Nat.mod_lt _ (by omega))]
  exact pop_mod m 32 32 (Nat.le_refl _)
end Link
end Go.Proofs.YtdpdnkjpjoccmaaDoor
/- Plain laws of a link: scripts of steps. -/
namespace Go.Proofs.YtdpdnkjpjoccmaaDoor
namespace Link
open Recv
set_option linter.unusedVariables false
/-- Who gets the pieces, and from where on the sender goes on. -/
structure St where
  R : Rec
  frm : Nat
def left (s : ByteArray) (n : Nat) (L : St) : Nat := Chunk.cuts s.size n - L.frm / n
def which (s : ByteArray) (n : Nat) (L : St) (N : Int) : Nat := L.frm / n + (N % 18446744073709551616).toNat % left s n L
def got (s : ByteArray) (n : Nat) (R : Rec) (i : Nat) : Rec := (R.take (Crc.sum s.data.toList) s.size (i * n) (Chunk.pieceAt s n i).data.data.toList).getD R
def deliver (s : ByteArray) (n : Nat) (L : St) (N : Int) : St := if left s n L = 0 then L else { L with R := got s n L.R (which s n L N) }
/-- What is done ahead of a crash. -/
def ahead (R : Rec) (q : Nat) : Rec := if q = 0 then R else if q = 1 then R.save else if q = 2 then R.save.flush.marks else R.marks
def sync (R : Rec) : Rec := R.save.flush.marks.flush
def step (s : ByteArray) (n : Nat) (L : St) (k N : Int) (m : Nat) : St × Bool :=
  if k = 1 then (deliver s n L N, true)
  else if k = 5 then (if left s n L = 0 ∨ m % 4294967296 = 0 then (deliver s n L N, true) else (L, false))
  else if k = 2 then ({ L with R := sync L.R }, true)
  else if k = 3 then ({ L with R := (ahead L.R (N % 4).toNat).crash (keepM m) }, true)
  else if k = 4 then ({ L with frm := L.R.offer }, true)
  else (L, false)
structure Stp where
  k : Int
  N : Int
  m : Nat
def run (s : ByteArray) (n : Nat) : St → List Stp → St × Nat
  | L, [] => (L, 0)
  | L, v :: l => ((run s n (step s n L v.k v.N v.m).1 l).1, (if (step s n L v.k v.N v.m).2 then 1 else 0) + (run s n (step s n L v.k v.N v.m).1 l).2)
def new : St := ⟨Recv.new, 0⟩
structure Good (s : ByteArray) (L : St) : Prop where
  inv : Inv s.data.toList L.R
  frm : L.frm ≤ s.size
theorem good_new (s : ByteArray) : Good s new := ⟨inv_new _, Nat.zero_le _⟩
theorem piece_pre (s : ByteArray) (n i : Nat) : (Chunk.pieceAt s n i).data.data.toList <+: s.data.toList.drop (i * n) := by
  unfold Chunk.pieceAt
  simp only [ByteArray.data_extract, Array.toList_extract]
  exact List.take_prefix _ _
theorem size_len (s : ByteArray) : s.data.toList.length = s.size := Array.length_toList
theorem piece_list_len (s : ByteArray) (n i : Nat) (h : i * n < s.size) : (Chunk.pieceAt s n i).data.data.toList.length = min (s.size - i * n) n := by
  rw [size_len, Chunk.pieceAt_size s n i h]
/-- A piece comes. -/
theorem got_spec (s : ByteArray) (n : Nat) (R : Rec) (h : Inv s.data.toList R) (hs : s.size ≠ 0) (i : Nat) :
    R.take (Crc.sum s.data.toList) s.size (i * n) (Chunk.pieceAt s n i).data.data.toList = some (got s n R i) ∧ Inv s.data.toList (got s n R i) ∧ (got s n R i).came ≠ [] ∧ (got s n R i).mark = R.mark ∧ (got s n R i).safe = R.safe ∧ (∀ j, (got s n R i).came[j]? = if i * n ≤ j ∧ j < i * n + (Chunk.pieceAt s n i).data.data.toList.length then some true else (R.opened (Crc.sum s.data.toList) s.size).came[j]?) ∧ R.offer ≤ (got s n R i).offer ∧ (got s n R i).disk = R.disk := by
  obtain ⟨R', h1, h2, h3, h4, h5, h6, h7, h8, h9⟩ := inv_take s.data.toList R h (i * n) _ (fun e => hs (by rw [← size_len, e]; rfl)) (piece_pre s n i)
  rw [size_len] at h1 h8
  have e : got s n R i = R' := by unfold got; rw [h1]; rfl
  rw [e]
  exact ⟨h1, h2, h3, h4, h5, h8, h9, h6⟩
theorem ahead_inv (s : List UInt8) (R : Rec) (h : Inv s R) (q : Nat) (hm : R.mark ≤ 1000000) (hs : s.length ≤ 4096) : Inv s (ahead R q) ∧ (ahead R q).mark ≤ R.mark + 1 := by
  unfold ahead
  split
  · exact ⟨h, Nat.le_succ _⟩
  · split
    · exact ⟨inv_save s R h, Nat.le_succ _⟩
    · split
      · exact ⟨inv_mark s _ (inv_flush s _ (inv_save s R h) trivial) (by show R.mark ≤ _; omega) hs, marks_le R.save.flush⟩
      · exact ⟨inv_mark s R h (by omega) hs, marks_le R⟩
theorem sync_inv (s : List UInt8) (R : Rec) (h : Inv s R) (hm : R.mark ≤ 1000000) (hs : s.length ≤ 4096) : Inv s (sync R) ∧ (sync R).mark ≤ R.mark + 1 :=
  ⟨inv_flush s _ (inv_mark s _ (inv_flush s _ (inv_save s R h) trivial) (by show R.mark ≤ _; omega) hs) trivial, marks_le R.save.flush⟩
theorem deliver_good (s : ByteArray) (n : Nat) (L : St) (N : Int) (h : Good s L) (hs : s.size ≠ 0) : Good s (deliver s n L N) ∧ (deliver s n L N).R.mark = L.R.mark ∧ (deliver s n L N).frm = L.frm ∧ (deliver s n L N).R.safe = L.R.safe ∧ L.R.offer ≤ (deliver s n L N).R.offer := by
  unfold deliver
  split
  · exact ⟨h, rfl, rfl, rfl, Nat.le_refl _⟩
  · obtain ⟨_, h2, _, h4, h5, _, h7, _⟩ := got_spec s n L.R h.inv hs (which s n L N)
    exact ⟨⟨h2, h.frm⟩, h4, rfl, h5, h7⟩
theorem offer_le' (s : ByteArray) (L : St) (h : Good s L) : L.R.offer ≤ s.size := by
  have := inv_offer_le _ _ h.inv
  rw [size_len] at this; exact this
theorem step_good (s : ByteArray) (n : Nat) (L : St) (k N : Int) (m : Nat) (h : Good s L) (hs : s.size ≠ 0) (hl : s.size ≤ 4096) (hm : L.R.mark ≤ 1000000) :
    Good s (step s n L k N m).1 ∧ (step s n L k N m).1.R.mark ≤ L.R.mark + 1 := by
  have hl' : s.data.toList.length ≤ 4096 := by rw [size_len]; exact hl
  unfold step
  split
  · obtain ⟨a, b, _⟩ := deliver_good s n L N h hs
    exact ⟨a, by simp only; omega⟩
  · split
    · split
      · obtain ⟨a, b, _⟩ := deliver_good s n L N h hs
        exact ⟨a, by simp only; omega⟩
      · exact ⟨h, Nat.le_succ _⟩
    · split
      · obtain ⟨a, b⟩ := sync_inv _ _ h.inv hm hl'
        exact ⟨⟨a, h.frm⟩, b⟩
      · split
        · obtain ⟨a, b⟩ := ahead_inv _ _ h.inv (N % 4).toNat hm hl'
          obtain ⟨c, d, e⟩ := inv_crash _ _ a (keepM m) hl'
          exact ⟨⟨c, h.frm⟩, by simp only; omega⟩
        · split
          · exact ⟨⟨h.inv, offer_le' s L h⟩, Nat.le_succ _⟩
          · exact ⟨h, Nat.le_succ _⟩
/-- Nothing is taken back, but by a crash. -/
theorem step_grows (s : ByteArray) (n : Nat) (L : St) (k N : Int) (m : Nat) (h : Good s L) (hs : s.size ≠ 0) (hk : k ≠ 3) :
    L.R.offer ≤ (step s n L k N m).1.R.offer ∧ L.R.safe ≤ (step s n L k N m).1.R.safe := by
  have hd := deliver_good s n L N h hs
  have hi := h.inv
  unfold step
  split
  · exact ⟨hd.2.2.2.2, by simp only [hd.2.2.2.1]; exact Nat.le_refl _⟩
  · split
    · split
      · exact ⟨hd.2.2.2.2, by simp only [hd.2.2.2.1]; exact Nat.le_refl _⟩
      · exact ⟨Nat.le_refl _, Nat.le_refl _⟩
    · split
      · obtain ⟨a, b, c⟩ := sync_same L.R
        have h1 := hi.le1
        have h2 := hi.le2
        show _ ≤ (sync L.R).offer ∧ _ ≤ (sync L.R).safe
        unfold sync
        omega
      · split <;> exact ⟨Nat.le_refl _, Nat.le_refl _⟩
theorem step_crash (s : ByteArray) (n : Nat) (L : St) (N : Int) (m : Nat) : (step s n L 3 N m).1.R.safe = (step s n L 3 N m).1.R.offer := by
  unfold step
  rw [if_neg (by decide), if_neg (by decide), if_neg (by decide), if_pos rfl]
  exact (crash_offer _ _).1.symm
/-- Behind a Sync all lasts. -/
theorem lasts (s : ByteArray) (L : St) (h : Good s L) (hl : s.size ≤ 4096) (hm : L.R.mark ≤ 900000) (q m : Nat) :
    (sync L.R).safe = L.R.offer ∧ (sync L.R).offer = L.R.offer ∧ ((ahead (sync L.R) q).crash (keepM m)).offer = L.R.offer ∧ ((ahead (sync L.R) q).crash (keepM m)).safe = L.R.offer := by
  have hl' : s.data.toList.length ≤ 4096 := by rw [size_len]; exact hl
  obtain ⟨s1, s2, s3⟩ := sync_same L.R
  obtain ⟨i1, i2⟩ := sync_inv _ _ h.inv (by omega) hl'
  obtain ⟨a1, a2⟩ := ahead_inv _ _ i1 q (by omega) hl'
  obtain ⟨c1, c2, c3⟩ := inv_crash _ _ a1 (keepM m) hl'
  have hoff : ((ahead (sync L.R) q).crash (keepM m)).offer = ((ahead (sync L.R) q).crash (keepM m)).safe := (crash_offer _ _).1
  have hsafe : (ahead (sync L.R) q).safe = L.R.offer := by
    unfold ahead
    split
    · exact s2
    · split
      · exact s2
      · split
        · rw [(marks_same _).2.1]
          show (sync L.R).offer = _
          exact s1
        · rw [(marks_same _).2.1]; exact s2
  refine ⟨s2, s1, ?_, ?_⟩
  all_goals
    have key : L.R.offer ≤ ((ahead (sync L.R) q).crash (keepM m)).safe := by
      by_cases hc : L.R.came = []
      · unfold Rec.offer; rw [hc]; exact Nat.zero_le _
      · have hlat : Latest (sync L.R) L.R.offer := sync_latest _ _ h.inv (by omega) hl' hc
        refine lasting_crash _ _ a1 _ _ ?_
        unfold ahead
        split
        · exact hlat.lasting
        · split
          · exact (latest_save hlat).lasting
          · split
            · exact latest_marks (latest_flush (latest_save hlat))
            · exact latest_marks hlat
    omega
/-- Told to go on. -/
theorem left_all (s : ByteArray) (n : Nat) (L : St) (h : Good s L) (hn : 1 ≤ n) : L.frm / n ≤ Chunk.cuts s.size n := by
  have h1 := h.frm
  unfold Chunk.cuts
  exact Nat.div_le_div_right (by omega)
theorem left_pos (s : ByteArray) (n : Nat) (L : St) (h : Good s L) (hn : 1 ≤ n) (h0 : left s n L = 0) : L.frm = s.size ∧ s.size % n = 0 := by
  unfold left Chunk.cuts at h0
  have h1 := h.frm
  have d1 := Nat.div_add_mod L.frm n
  have d2 := Nat.mod_lt L.frm (show 0 < n by omega)
  have h2 : (s.size + n - 1) / n ≤ L.frm / n := by omega
  have h3 : s.size + n - 1 < n * (L.frm / n + 1) := by
    have := Nat.lt_mul_of_div_lt (show (s.size + n - 1) / n < L.frm / n + 1 by omega) (by omega)
    rw [Nat.mul_comm]; exact this
  have h4 : s.size + n - 1 < n * (L.frm / n) + n := by rw [Nat.mul_add, Nat.mul_one] at h3; exact h3
  have h5 : s.size ≤ n * (L.frm / n) := by omega
  have h6 : L.frm = s.size := by omega
  refine ⟨h6, ?_⟩
  rw [h6] at d1 h5
  omega
theorem which_lt (s : ByteArray) (n : Nat) (L : St) (N : Int) (h0 : left s n L ≠ 0) : which s n L N < Chunk.cuts s.size n := by
  have := Nat.mod_lt (N % 18446744073709551616).toNat (Nat.pos_of_ne_zero h0)
  unfold which
  unfold left at *
  omega
/-- So many deliveries, one behind the other. -/
def delivers (s : ByteArray) (n : Nat) (c : Nat) : Nat → St → St
  | 0, L => L
  | k + 1, L => deliver s n (delivers s n c k L) (k + c : Nat)
theorem opened_came (R : Rec) (nm t j : Nat) (h : R.came[j]? = some true) : (R.opened nm t).came[j]? = some true := by
  unfold Rec.opened
  split
  · rename_i e; rw [e] at h; cases h
  · exact h
theorem delivers_spec (s : ByteArray) (n c : Nat) (L : St) (h : Good s L) (hs : s.size ≠ 0) (hn : 1 ≤ n) (hf : L.frm ≤ L.R.offer) (hc : c < 1000) (k : Nat) (hk : k ≤ left s n L) (hl : left s n L ≤ 1000000) :
    Good s (delivers s n c k L) ∧ (delivers s n c k L).frm = L.frm ∧ (delivers s n c k L).R.mark = L.R.mark ∧ (0 < k → (delivers s n c k L).R.came ≠ []) ∧
    (∀ j, j < s.size → (j < L.frm / n * n ∨ ∃ i, i < k ∧ j / n = L.frm / n + (i + c) % left s n L) → (delivers s n c k L).R.came[j]? = some true) := by
  induction k with
  | zero =>
    refine ⟨h, rfl, rfl, fun h => by omega, fun j hj hd => ?_⟩
    rcases hd with hd | ⟨i, hi, _⟩
    · have := Nat.div_mul_le_self L.frm n
      exact offer_true _ _ (by show j < L.R.offer; omega)
    · omega
  | succ k ih =>
    obtain ⟨g1, g2, g2', g3, g4⟩ := ih (by omega)
    have hd := deliver_good s n (delivers s n c k L) (k + c : Nat) g1 hs
    have hlk : left s n (delivers s n c k L) = left s n L := by unfold left; rw [g2]
    refine ⟨hd.1, by rw [← g2]; exact hd.2.2.1, by rw [← g2']; exact hd.2.1, fun _ => ?_, fun j hj hdj => ?_⟩
    · show (deliver s n (delivers s n c k L) (k + c : Nat)).R.came ≠ []
      unfold deliver
      rw [if_neg (by rw [hlk]; omega)]
      exact (got_spec s n _ g1.inv hs _).2.2.1
    · show (deliver s n (delivers s n c k L) (k + c : Nat)).R.came[j]? = some true
      unfold deliver
      rw [if_neg (by rw [hlk]; omega)]
      have hw : which s n (delivers s n c k L) ((k + c : Nat) : Int) = L.frm / n + (k + c) % left s n L := by
        unfold which
        rw [hlk, g2, Int.emod_eq_of_lt (by omega) (by omega), Int.toNat_natCast]
      have hsp := got_spec s n (delivers s n c k L).R g1.inv hs (which s n (delivers s n c k L) ((k + c : Nat) : Int))
      simp only
      rw [hsp.2.2.2.2.2.1 j]
      by_cases hin : j / n = which s n (delivers s n c k L) ((k + c : Nat) : Int)
      · rw [if_pos]
        rw [← hin]
        have d1 := Nat.div_add_mod j n
        have d2 := Nat.mod_lt j (show 0 < n by omega)
        rw [Nat.mul_comm] at d1
        rw [piece_list_len s n _ (by omega)]
        omega
      · have hold : (delivers s n c k L).R.came[j]? = some true := by
          refine g4 j hj ?_
          rcases hdj with hdj | ⟨i, hi, hij⟩
          · exact .inl hdj
          · refine .inr ⟨i, ?_, hij⟩
            refine Nat.lt_of_le_of_ne (by omega) fun e => hin ?_
            rw [hw, ← e]; exact hij
        split
        · rfl
        · exact opened_came _ _ _ _ hold
theorem covers (m c a : Nat) (h : a < m) : ∃ i, i < m ∧ (i + c) % m = a := by
  have hc := Nat.mod_lt c (show 0 < m by omega)
  by_cases hle : c % m ≤ a
  · refine ⟨a - c % m, by omega, ?_⟩
    have e : a - c % m + c = a + m * (c / m) := by have := Nat.div_add_mod c m; omega
    rw [e, Nat.add_mul_mod_self_left, Nat.mod_eq_of_lt h]
  · refine ⟨a + m - c % m, by omega, ?_⟩
    have e : a + m - c % m + c = a + m * (c / m + 1) := by have := Nat.div_add_mod c m; rw [Nat.mul_add, Nat.mul_one]; omega
    rw [e, Nat.add_mul_mod_self_left, Nat.mod_eq_of_lt h]
/-- In the end it is there. -/
theorem ends (s : ByteArray) (n c : Nat) (L : St) (h : Good s L) (hs : s.size ≠ 0) (hn : 1 ≤ n) (hf : L.frm = L.R.offer) (hc : c < 1000) (hl : left s n L ≤ 1000000) :
    (delivers s n c (left s n L) L).R.offer = s.size ∧ (delivers s n c (left s n L) L).R.came.length = s.size := by
  obtain ⟨g1, g2, _, g3, g4⟩ := delivers_spec s n c L h hs hn (by omega) hc _ (Nat.le_refl _) hl
  have hle := offer_le' s _ g1
  have hcne : (delivers s n c (left s n L) L).R.came ≠ [] := by
    by_cases h0 : left s n L = 0
    · rw [h0]
      obtain ⟨p1, _⟩ := left_pos s n L h hn h0
      intro e
      have e2 : L.R.came = [] := e
      rw [hf] at p1
      unfold Rec.offer at p1
      rw [e2] at p1
      exact hs p1.symm
    · exact g3 (by omega)
  have hlen : (delivers s n c (left s n L) L).R.came.length = s.size := by
    have := (g1.inv.some_ hcne).2.len2
    rw [size_len] at this; exact this
  refine ⟨?_, hlen⟩
  have hge : s.size ≤ (delivers s n c (left s n L) L).R.offer := by
    refine offer_ge _ _ (by omega) fun j hj => g4 j hj ?_
    by_cases hlt : j < L.frm / n * n
    · exact .inl hlt
    · right
      have hjc : j / n < Chunk.cuts s.size n := (Chunk.lt_cuts hn).2 (by have := Nat.div_mul_le_self j n; omega)
      have hjf : L.frm / n ≤ j / n := by
        refine (Nat.le_div_iff_mul_le (by omega)).2 ?_
        omega
      obtain ⟨i, hi, hi2⟩ := covers (left s n L) c (j / n - L.frm / n) (by unfold left; omega)
      exact ⟨i, hi, by rw [hi2]; omega⟩
  omega
theorem text_is (s : ByteArray) (R : Rec) (h : Inv s.data.toList R) (hc : R.came ≠ []) (ho : R.offer = s.size) : R.data = s.data.toList ∧ Crc.sum R.data = R.name := by
  obtain ⟨h1, h2⟩ := h.some_ hc
  have := holds_all _ _ h2 (by rw [size_len]; exact ho)
  simp only at this
  exact ⟨this, by rw [this]; exact h1.symm⟩
theorem run_append (s : ByteArray) (n : Nat) (a b : List Stp) : ∀ L, run s n L (a ++ b) = ((run s n (run s n L a).1 b).1, (run s n L a).2 + (run s n (run s n L a).1 b).2) := by
  induction a with
  | nil => intro L; simp [run]
  | cons v a ih => intro L; rw [List.cons_append]; simp only [run, ih]; rw [Nat.add_assoc]
/-- A spoilt piece is none. -/
theorem read_spoilt (c : Chunk.Piece) (m : Nat) (hm : m % 4294967296 ≠ 0) : ∃ x, Chunk.read (turn (Chunk.write c) m) = .bad x ∧ x ≠ 0 := by
  have hl : ¬ (Chunk.write c).length < 4 := by unfold Chunk.write; rw [Crc.seal_len']; omega
  have hmod := Nat.mod_lt (m / 4294967296) (show 0 < 8 * (Chunk.write c).length - 31 by omega)
  have hne : turn (Chunk.write c) m ≠ Chunk.write c := fun e => by
    have h1 := num_turn (Chunk.write c) m hl
    rw [e] at h1
    have h2 : (m % 4294967296) * 2 ^ (m / 4294967296 % (8 * (Chunk.write c).length - 31)) = 0 := by
      apply Crc.xor_left (c := Crc.num (Chunk.write c))
      rw [← h1, Nat.xor_zero]
    rcases Nat.mul_eq_zero.1 h2 with h2 | h2
    · exact hm h2
    · exact absurd h2 (by have := Nat.two_pow_pos (m / 4294967296 % (8 * (Chunk.write c).length - 31)); omega)
  have hb := Crc.burst (Chunk.inner c) (turn (Chunk.write c) m) (m % 4294967296) (m / 4294967296 % (8 * (Chunk.write c).length - 31)) (Nat.mod_lt _ (by omega)) (by rw [turn_len]; exact Crc.seal_len' _) (by rw [turn_len]; omega) (num_turn _ _ hl)
  unfold Chunk.read
  cases ho : Crc.opened (turn (Chunk.write c) m) with
  | inl e =>
    refine ⟨e, rfl, ?_⟩
    intro e0
    subst e0
    unfold Crc.opened at ho
    split at ho
    · injection ho with ho; omega
    · split at ho
      · cases ho
      · injection ho with ho; omega
  | inr t =>
    exfalso
    have h1 := Crc.opened_inv ho
    apply hne
    have h2 : Crc.seal_ ((turn (Chunk.write c) m).take ((turn (Chunk.write c) m).length - 4)) = turn (Chunk.write c) m := by
      rw [← h1]
      rw [Crc.seal_len', Nat.add_sub_cancel]
      congr 1
      unfold Crc.seal_
      exact List.take_left
    exact hb.1 h2
theorem turn_none (l : List UInt8) (m : Nat) (hm : m % 4294967296 = 0) : turn l m = l := by
  by_cases h : l.length < 4
  · unfold turn; rw [if_pos h]
  · apply Crc.num_inj
    · rw [turn_len]
    · rw [num_turn _ _ h, hm, Nat.zero_mul, Nat.xor_zero]
/-- The fact on links. -/
theorem fact (s : ByteArray) (hs : s.size = 8) : ∃ K6 K8 : St,
    run s 3 new [⟨1, 0, 0⟩, ⟨1, 1, 0⟩, ⟨2, 0, 0⟩, ⟨1, 2, 0⟩, ⟨3, 0, 0⟩, ⟨4, 0, 0⟩] = (K6, 6) ∧ left s 3 K6 = 1 ∧ run s 3 K6 [⟨1, 0, 0⟩, ⟨9, 0, 0⟩] = (K8, 1) ∧ K8.R.offer = 8 ∧ K8.R.came ≠ [] ∧ K8.R.safe = 6 ∧ Good s K8 ∧ Good s K6 := by
  have h0 : s.size ≠ 0 := by omega
  have hsl : s.data.toList.length = 8 := by rw [size_len]; exact hs
  have hcu : Chunk.cuts s.size 3 = 3 := by rw [hs]; rfl
  have hpl : ∀ i, i < 3 → (Chunk.pieceAt s 3 i).data.data.toList.length = min (8 - i * 3) 3 := fun i hi => by rw [piece_list_len s 3 i (by omega), hs]
  have w0 : ∀ (R : Rec) (N : Nat), N < 3 → which s 3 ⟨R, 0⟩ N = N := fun R N hN => by
    unfold which left
    rw [hcu, Int.emod_eq_of_lt (by omega) (by omega), Int.toNat_natCast]
    simp only [Nat.zero_div, Nat.sub_zero, Nat.zero_add]
    exact Nat.mod_eq_of_lt hN
  have d0 : ∀ (R : Rec) (N : Nat), N < 3 → deliver s 3 ⟨R, 0⟩ N = ⟨got s 3 R N, 0⟩ := fun R N hN => by
    unfold deliver
    rw [if_neg (by unfold left; rw [hcu]; simp), w0 R N hN]
  obtain ⟨_, i1, n1, m1, s1, c1, _, _⟩ := got_spec s 3 Recv.new (inv_new _) h0 0
  obtain ⟨_, i2, n2, m2, s2, c2, _, _⟩ := got_spec s 3 _ i1 h0 1
  have o1 : ∀ R : Rec, R.came ≠ [] → R.opened (Crc.sum s.data.toList) s.size = R := fun R h => by unfold Rec.opened; rw [if_neg h]
  have hc2 : ∀ j, j < 8 → (got s 3 (got s 3 Recv.new 0) 1).came[j]? = some (decide (j < 6)) := fun j hj => by
    rw [c2, hpl 1 (by omega), o1 _ n1, c1, hpl 0 (by omega)]
    have e : (Recv.new.opened (Crc.sum s.data.toList) s.size).came[j]? = some false := by
      unfold Rec.opened
      rw [if_pos (show Recv.new.came = [] from rfl)]
      simp only [List.getElem?_replicate]
      rw [if_pos (by omega)]
    rw [e]
    by_cases h3 : 3 ≤ j ∧ j < 6
    · rw [if_pos (by omega)]; simp; omega
    · rw [if_neg (by omega)]
      by_cases h4 : j < 3
      · rw [if_pos (by omega)]; simp; omega
      · rw [if_neg (by omega)]; simp; omega
  generalize hR2 : got s 3 (got s 3 Recv.new 0) 1 = R2 at *
  have hl2 : R2.came.length = 8 := by
    have := (i2.some_ n2).2.len2
    rw [hsl] at this; exact this
  have hof2 : R2.offer = 6 := offer_eq _ _ (by omega) (fun j hj => by rw [hc2 j (by omega)]; simp; omega) (fun _ => by rw [hc2 6 (by omega)]; simp)
  have mk2 : R2.mark = 0 := by rw [m2, m1]; rfl
  obtain ⟨q1, q2, q3⟩ := sync_same R2
  obtain ⟨i3, m3⟩ := sync_inv _ _ i2 (by omega) (by omega)
  have cm3 : (sync R2).came = R2.came := (marks_same R2.save.flush).2.2.2
  have lat3 : Latest (sync R2) 6 := by rw [← hof2]; exact sync_latest _ _ i2 (by omega) (by omega) n2
  have sf3 : (sync R2).safe = 6 := by rw [← hof2]; exact q2
  obtain ⟨_, i4, n4, m4, s4, c4, _, dk4⟩ := got_spec s 3 _ i3 h0 2
  generalize hR3 : sync R2 = R3 at *
  have n3 : R3.came ≠ [] := by rw [cm3]; exact n2
  generalize hR4 : got s 3 R3 2 = R4 at *
  have lat4 : Latest R4 6 := by
    obtain ⟨i, x, m, nm, t, l1, l2, l3, l4, l5, l6⟩ := lat3
    exact ⟨i, x, m, nm, t, l1, by rw [dk4]; exact l2, by rw [dk4]; exact l3, l4, by rw [m4]; exact l5, l6⟩
  obtain ⟨i5, s5, m5⟩ := inv_crash _ _ i4 (keepM 0) (by omega)
  have l5 := lasting_crash _ _ i4 (keepM 0) 6 lat4.lasting
  have o5 : (R4.crash (keepM 0)).offer = (R4.crash (keepM 0)).safe := (crash_offer _ _).1
  generalize hR5 : R4.crash (keepM 0) = R5 at *
  have sf5 : R5.safe = 6 := by omega
  have of5 : R5.offer = 6 := by omega
  have n5 : R5.came ≠ [] := fun e => by unfold Rec.offer at of5; rw [e] at of5; cases of5
  obtain ⟨_, i6, n6, m6, s6, c6, _, _⟩ := got_spec s 3 _ i5 h0 2
  have w6 : which s 3 ⟨R5, 6⟩ 0 = 2 := by unfold which left; rw [hcu]; simp
  have d6 : deliver s 3 ⟨R5, 6⟩ 0 = ⟨got s 3 R5 2, 6⟩ := by
    unfold deliver
    rw [if_neg (by unfold left; rw [hcu]; simp), w6]
  refine ⟨⟨R5, 6⟩, ⟨got s 3 R5 2, 6⟩, ?_, by unfold left; rw [hcu]; simp, ?_, ?_, n6, by rw [s6]; exact sf5, ⟨i6, by show 6 ≤ s.size; omega⟩, ⟨i5, by show 6 ≤ s.size; omega⟩⟩
  · have e1 : step s 3 new 1 0 0 = (⟨got s 3 Recv.new 0, 0⟩, true) := by unfold step; rw [if_pos rfl]; exact congrArg (fun x => (x, true)) (d0 Recv.new 0 (by omega))
    have e2 : step s 3 ⟨got s 3 Recv.new 0, 0⟩ 1 1 0 = (⟨R2, 0⟩, true) := by unfold step; rw [if_pos rfl, ← hR2]; exact congrArg (fun x => (x, true)) (d0 _ 1 (by omega))
    have e3 : step s 3 ⟨R2, 0⟩ 2 0 0 = (⟨R3, 0⟩, true) := by unfold step; rw [if_neg (by decide), if_neg (by decide), if_pos rfl, ← hR3]
    have e4 : step s 3 ⟨R3, 0⟩ 1 2 0 = (⟨R4, 0⟩, true) := by unfold step; rw [if_pos rfl, ← hR4]; exact congrArg (fun x => (x, true)) (d0 _ 2 (by omega))
    have e5 : step s 3 ⟨R4, 0⟩ 3 0 0 = (⟨R5, 0⟩, true) := by unfold step; rw [if_neg (by decide), if_neg (by decide), if_neg (by decide), if_pos rfl, ← hR5]; rfl
    have e6 : step s 3 ⟨R5, 0⟩ 4 0 0 = (⟨R5, 6⟩, true) := by unfold step; rw [if_neg (by decide), if_neg (by decide), if_neg (by decide), if_neg (by decide), if_pos rfl]; simp only [of5]
    simp only [run, e1, e2, e3, e4, e5, e6]
    rfl
  · have e1 : step s 3 ⟨R5, 6⟩ 1 0 0 = (⟨got s 3 R5 2, 6⟩, true) := by unfold step; rw [if_pos rfl, d6]
    have e2 : step s 3 ⟨got s 3 R5 2, 6⟩ 9 0 0 = (⟨got s 3 R5 2, 6⟩, false) := by unfold step; rw [if_neg (by decide), if_neg (by decide), if_neg (by decide), if_neg (by decide), if_neg (by decide)]
    simp only [run, e1, e2]
    rfl
  · have hl6 : (got s 3 R5 2).came.length = 8 := by
      have := (i6.some_ n6).2.len2
      rw [hsl] at this; exact this
    refine offer_eq _ _ (by show 8 ≤ (got s 3 R5 2).came.length; omega) (fun j hj => ?_) (fun h => by have h : 8 < (got s 3 R5 2).came.length := h; omega)
    rw [c6, hpl 2 (by omega), o1 _ n5]
    by_cases h6 : 6 ≤ j
    · rw [if_pos (by omega)]
    · rw [if_neg (by omega)]
      exact offer_true _ _ (by show j < R5.offer; omega)
end Link
end Go.Proofs.YtdpdnkjpjoccmaaDoor
/- Plain laws of who gets the pieces, part four: which bytes came. -/
namespace Go.Proofs.YtdpdnkjpjoccmaaDoor
namespace Recv
set_option linter.unusedVariables false
def bytesOf (n : Nat) (f : Nat → Bool) : List Bool := (List.range n).map f
theorem bytesOf_len (n : Nat) (f : Nat → Bool) : (bytesOf n f).length = n := by simp [bytesOf]
theorem bytesOf_get (n : Nat) (f : Nat → Bool) (j : Nat) (h : j < n) : (bytesOf n f)[j]? = some (f j) := by
  unfold bytesOf
  rw [List.getElem?_map, List.getElem?_range h]; rfl
/-- Of a text these bytes came. -/
structure Has (s : ByteArray) (R : Rec) (f : Nat → Bool) : Prop where
  inv : Inv s.data.toList R
  came : (R.came = [] ∧ ∀ j, j < s.size → f j = false) ∨ R.came = bytesOf s.size f
theorem has_new (s : ByteArray) : Has s new (fun _ => false) := ⟨inv_new _, .inl ⟨rfl, fun _ _ => rfl⟩⟩
theorem in_piece (s : ByteArray) (n i j : Nat) (hn : 1 ≤ n) (hi : i * n < s.size) (hj : j < s.size) : (i * n ≤ j ∧ j < i * n + (Chunk.pieceAt s n i).data.data.toList.length) ↔ j / n = i := by
  rw [Link.piece_list_len s n i hi]
  constructor
  · intro h
    exact (Nat.div_eq_iff (by omega)).2 ⟨by omega, by omega⟩
  · intro h
    subst h
    have d1 := Nat.div_add_mod j n
    have d2 := Nat.mod_lt j (show 0 < n by omega)
    rw [Nat.mul_comm] at d1
    omega
theorem has_got (s : ByteArray) (R : Rec) (f : Nat → Bool) (h : Has s R f) (hs : s.size ≠ 0) (n i : Nat) (hn : 1 ≤ n) (hi : i * n < s.size) :
    Has s (Link.got s n R i) (fun j => f j || decide (j / n = i)) ∧ (Link.got s n R i).came ≠ [] ∧ (Link.got s n R i).mark = R.mark ∧ (Link.got s n R i).safe = R.safe := by
  obtain ⟨_, h2, h3, h4, h5, h6, h7, h8⟩ := Link.got_spec s n R h.inv hs i
  refine ⟨⟨h2, .inr ?_⟩, h3, h4, h5⟩
  apply List.ext_getElem?
  intro j
  have hl : (Link.got s n R i).came.length = s.size := by
    have := (h2.some_ h3).2.len2
    rw [Link.size_len] at this; exact this
  by_cases hj : j < s.size
  · rw [bytesOf_get _ _ _ hj, h6]
    by_cases hin : j / n = i
    · rw [if_pos ((in_piece s n i j hn hi hj).2 hin)]; simp [hin]
    · rw [if_neg (fun e => hin ((in_piece s n i j hn hi hj).1 e))]
      have hf : (R.opened (Crc.sum s.data.toList) s.size).came[j]? = some (f j) := by
        rcases h.came with ⟨hc, hf⟩ | hc
        · unfold Rec.opened
          rw [if_pos hc]
          simp only [List.getElem?_replicate]
          rw [if_pos hj, hf j hj]
        · unfold Rec.opened
          rw [if_neg (by rw [hc]; intro e; have := congrArg List.length e; rw [bytesOf_len] at this; exact hs this), hc]
          exact bytesOf_get _ _ _ hj
      rw [hf]; simp [hin]
  · rw [List.getElem?_eq_none (by omega), List.getElem?_eq_none (by rw [bytesOf_len]; omega)]
theorem has_offer (s : ByteArray) (R : Rec) (f : Nat → Bool) (h : Has s R f) : R.offer = offer (bytesOf s.size f) := by
  unfold Rec.offer
  rcases h.came with ⟨hc, hf⟩ | hc
  · rw [hc]
    refine (offer_eq _ 0 (Nat.zero_le _) (fun j hj => by omega) (fun h0 => ?_)).symm
    rw [bytesOf_len] at h0
    rw [bytesOf_get _ _ _ h0, hf 0 h0]
    intro e; cases e
  · rw [hc]
theorem has_congr {s : ByteArray} {R : Rec} {f g : Nat → Bool} (h : Has s R f) (e : ∀ j, j < s.size → f j = g j) : Has s R g := by
  refine ⟨h.inv, ?_⟩
  rcases h.came with ⟨hc, hf⟩ | hc
  · exact .inl ⟨hc, fun j hj => by rw [← e j hj]; exact hf j hj⟩
  · right
    rw [hc]
    unfold bytesOf
    exact List.map_congr_left (fun j hj => e j (by simpa using hj))
/-- Pieces of a size. -/
theorem pieces_offer (s : ByteArray) (R : Rec) (n : Nat) (P : List Bool) (hn : 1 ≤ n) (hl : P.length = Chunk.cuts s.size n) (h : Has s R (fun j => P.getD (j / n) false)) : R.offer = min s.size (offer P * n) := by
  rw [has_offer s R _ h]
  have h1 := offer_pieces (bytesOf s.size (fun j => P.getD (j / n) false)) P n (by omega) (by rw [bytesOf_len]; exact hl) (fun j hj => by
    rw [bytesOf_len] at hj
    rw [bytesOf_get _ _ _ hj]
    have hlt : j / n < P.length := by
      rw [hl]
      refine (Chunk.lt_cuts hn).2 ?_
      have := Nat.div_mul_le_self j n
      omega
    rw [List.getElem?_eq_getElem hlt]
    simp [List.getD, List.getElem?_eq_getElem hlt])
  rw [bytesOf_len] at h1
  exact h1
theorem set_getD (P : List Bool) (i q : Nat) (hi : i < P.length) : (P.set i true).getD q false = (P.getD q false || decide (q = i)) := by
  simp only [List.getD]
  by_cases h : i = q
  · subst h; rw [List.getElem?_set_self hi]; simp
  · rw [List.getElem?_set_ne h]
    have : ¬ q = i := fun e => h e.symm
    simp [this]
/-- The pieces that came first. -/
def firsts (c k : Nat) : List Bool := List.replicate k true ++ List.replicate (c - k) false
theorem firsts_len (c k : Nat) (h : k ≤ c) : (firsts c k).length = c := by simp [firsts]; omega
theorem firsts_set (c k : Nat) (h : k < c) : (firsts c k).set k true = firsts c (k + 1) := by
  unfold firsts
  rw [List.set_append_right _ _ (by simp), List.length_replicate, Nat.sub_self, show c - k = (c - (k + 1)) + 1 by omega, List.replicate_succ, List.set_cons_zero, List.replicate_succ', List.append_assoc]
  rfl
theorem firsts_offer (c k : Nat) : offer (firsts c k) = k := offer_back k (c - k)
/-- The first k pieces, one behind the other. -/
def upto (s : ByteArray) (n : Nat) : Nat → Rec
  | 0 => new
  | k + 1 => Link.got s n (upto s n k) k
theorem upto_spec (s : ByteArray) (n : Nat) (hs : s.size ≠ 0) (hn : 1 ≤ n) (k : Nat) (hk : k ≤ Chunk.cuts s.size n) :
    Has s (upto s n k) (fun j => (firsts (Chunk.cuts s.size n) k).getD (j / n) false) ∧ (upto s n k).mark = 0 ∧ (upto s n k).safe = 0 ∧ (upto s n k).saved = 0 ∧ (0 < k → (upto s n k).came ≠ []) := by
  induction k with
  | zero =>
    refine ⟨has_congr (has_new s) (fun j hj => ?_), rfl, rfl, rfl, fun h => by omega⟩
    unfold firsts
    simp only [List.replicate_zero, List.nil_append, List.getD, List.getElem?_replicate]
    split <;> rfl
  | succ k ih =>
    obtain ⟨i1, i2, i3, i4, _⟩ := ih (by omega)
    obtain ⟨g1, g2, g3, g4⟩ := has_got s _ _ i1 hs n k hn ((Chunk.lt_cuts hn).1 (by omega))
    refine ⟨has_congr g1 (fun j hj => ?_), by show (Link.got s n (upto s n k) k).mark = 0; rw [g3]; exact i2, by show (Link.got s n (upto s n k) k).safe = 0; rw [g4]; exact i3, ?_, fun _ => g2⟩
    · rw [← firsts_set _ _ (by omega), set_getD _ _ _ (by rw [firsts_len _ _ (by omega)]; omega)]
    · have hle := g1.inv.le1
      show (Link.got s n (upto s n k) k).saved = 0
      obtain ⟨R', h1, h2, h3, h4, h5, h6, h7, h8, h9⟩ := inv_take s.data.toList _ i1.inv (k * n) _ (fun e => hs (by rw [← Link.size_len, e]; rfl)) (Link.piece_pre s n k)
      rw [Link.size_len] at h1
      have e : Link.got s n (upto s n k) k = R' := by unfold Link.got; rw [h1]; rfl
      rw [e, h7]; exact i4
theorem upto_offer (s : ByteArray) (n : Nat) (hs : s.size ≠ 0) (hn : 1 ≤ n) (k : Nat) (hk : k ≤ Chunk.cuts s.size n) : (upto s n k).offer = min s.size (k * n) := by
  have h := pieces_offer s _ n _ hn (firsts_len _ _ hk) (upto_spec s n hs hn k hk).1
  rw [firsts_offer] at h
  exact h
theorem cuts_all (s n : Nat) (hn : 1 ≤ n) : s ≤ Chunk.cuts s n * n := by
  refine Nat.le_of_not_lt fun h => ?_
  exact absurd ((Chunk.lt_cuts hn).2 h) (Nat.lt_irrefl _)
/-- Without a record all is lost. -/
theorem forgets (s : List UInt8) (R : Rec) (h : Inv s R) (hm : R.mark = 0) (keep : Nat → Bool) : (R.crash keep).came = [] ∧ (R.crash keep).safe = 0 := by
  rcases best_spec (R.disk.crash keep) with ⟨hb, h0, h1⟩ | ⟨i, m, nm, t, c, hi, hsi, hb, hmax⟩
  · have e : R.crash keep = ⟨0, [], [], 0, 0, 0, R.disk.crash keep⟩ := by unfold Rec.crash; simp only [hb]; rfl
    rw [e]
    exact ⟨rfl, rfl⟩
  · obtain ⟨X, hX, hXr⟩ := seen_ver _ _ _ hsi
    have := (h.recs i X m nm t c hi (ver_crash _ _ _ _ hX) hXr).2.2.2.1
    omega
theorem lasting_keep {R : Rec} {v : Nat} (h : Lasting R v) (keep : Nat → Bool) : Lasting (R.crash keep) v := by
  obtain ⟨i, x, m, nm, t, h1, h2, h3, h4⟩ := h
  exact ⟨i, x, m, nm, t, h1, (Disk.crash_out _ _ _ (not_dirty h3)).trans h2, rfl, h4⟩
/-- With one it lasts, behind two crashes. -/
theorem marks_twice (s : ByteArray) (R : Rec) (h : Inv s.data.toList R) (hc : R.came ≠ []) (hm : R.mark ≤ 1000) (hl : s.size ≤ 4096) (a b : Nat → Bool) :
    ((Link.sync R).crash a).safe = R.offer ∧ (((Link.sync R).crash a).crash b).safe = R.offer ∧ (((Link.sync R).crash a).crash b).offer = R.offer ∧ Inv s.data.toList (((Link.sync R).crash a).crash b) := by
  have hl' : s.data.toList.length ≤ 4096 := by rw [Link.size_len]; exact hl
  obtain ⟨s1, s2, s3⟩ := sync_same R
  obtain ⟨i1, i2⟩ := Link.sync_inv _ _ h (by omega) hl'
  have hlat : Latest (Link.sync R) R.offer := sync_latest _ _ h (by omega) hl' hc
  obtain ⟨c1, c2, c3⟩ := inv_crash _ _ i1 a hl'
  have l1 := lasting_crash _ _ i1 a _ hlat.lasting
  obtain ⟨d1, d2, d3⟩ := inv_crash _ _ c1 b hl'
  have l2 := lasting_crash _ _ c1 b _ (lasting_keep hlat.lasting a)
  have e : (Link.sync R).safe = R.offer := s2
  have o := (crash_offer b ((Link.sync R).crash a)).1
  exact ⟨by omega, by omega, by omega, d1⟩
end Recv
end Go.Proofs.YtdpdnkjpjoccmaaDoor
