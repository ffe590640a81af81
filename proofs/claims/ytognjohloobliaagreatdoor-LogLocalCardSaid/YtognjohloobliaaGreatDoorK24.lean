/- Bodies in plain words: what is written, what is read. No program. -/
import Derived.Test.YtognjohloobliaaGreatDoorK10
import Derived.Test.YtognjohloobliaaGreatDoorK09
import Derived.Test.YtognjohloobliaaGreatDoorK23
import Derived.Test.YtognjohloobliaaGreatDoorK11
namespace Go.Proofs.YtognjohloobliaaGreatDoor
namespace Body
set_option linter.unusedVariables false
/-- A replica's number in a vector. -/
def place (h : List Vec.Entry) (r : Int) : Nat := (h.findIdx? (fun x => decide (x.r = r))).getD 0
def one (h : List Vec.Entry) (prev : Int) (x : Wr) (i : Nat) : List UInt8 := UInt8.ofNat x.k.toNat :: (Vary.put (x.t - prev).toNat ++ (Vary.put (place h x.r) ++ (Vary.put i ++ Wr.tail x)))
def encW (h : List Vec.Entry) : Int → List Wr → List Nat → List UInt8
 | prev, x :: ws, i :: A => one h prev x i ++ encW h x.t ws A
 | _, _, _ => []
def enc (f h : List Vec.Entry) (T : List (List UInt8)) (ws : List Wr) (A : List Nat) : List UInt8 :=
 Vec.write f ++ (Vec.write h ++ (Vary.put T.length ++ (T.flatMap Span.put ++ (Vary.put ws.length ++ encW h 0 ws A))))
def write (f h : List Vec.Entry) (ws : List Wr) : List UInt8 := enc f h (Keys.table (ws.map (·.key))).1 ws (Keys.table (ws.map (·.key))).2
/-- What is wrong, and where. -/
abbrev Res (α : Type) := Except (Nat × Nat) α
def keysR (S : List UInt8) : Nat → Nat → List (List UInt8) → Res (List (List UInt8) × Nat)
 | 0, p, acc => .ok (acc, p)
 | n + 1, p, acc => match Span.get (S.drop p) with
  | .bad e => .error (e, p)
  | .ok k j => keysR S n (p + j) (acc ++ [k])
def num (S : List UInt8) (p : Nat) (most : Int) : Res (Nat × Nat) := match Vary.int (S.drop p) most with
 | .bad e => .error (e, p)
 | .ok n j => .ok (n, p + j)
/-- One write: what it is, which key, and where it ends. -/
def oneR (S : List UInt8) (h : List Vec.Entry) (T : List (List UInt8)) (time : Int) (p : Nat) : Res (Wr × Nat × Nat) :=
 match S[p]? with
 | none => .error (7, p)
 | some b => if b.toNat < 1 ∨ 4 < b.toNat then .error (1, p) else
  match num S (p + 1) 1099511627776 with
  | .error e => .error e
  | .ok (d, p1) => if 1099511627776 < time + (d : Int) then .error (2, p + 1) else
   match num S p1 ((h.length : Int) - 1) with
   | .error e => .error e
   | .ok (i, p2) => match num S p2 ((T.length : Int) - 1) with
    | .error e => .error e
    | .ok (q, p3) => match Wr.fill ⟨time + (d : Int), (h[i]?.map (·.r)).getD 0, b.toNat, T[q]?.getD [], [], 0⟩ (S.drop p3) with
     | .bad e => .error (e, p3)
     | .ok x n => .ok (x, q, p3 + n)
def wrsR (S : List UInt8) (h : List Vec.Entry) (T : List (List UInt8)) : Nat → Int → Nat → List Wr → List Nat → Res (List Wr × List Nat × Nat)
 | 0, _, p, ws, A => .ok (ws, A, p)
 | n + 1, time, p, ws, A => match oneR S h T time p with
  | .error e => .error e
  | .ok (x, q, p') => wrsR S h T n x.t p' (ws ++ [x]) (A ++ [q])
def vecR (S : List UInt8) (p : Nat) : Res (List Vec.Entry × Nat) := match Vec.read (S.drop p) with
 | .bad e => .error (e, p)
 | .ok l j => .ok (l, p + j)
/-- All up to its end. -/
def pre (S : List UInt8) : Res ((List Vec.Entry × List Vec.Entry × List Wr) × (List (List UInt8) × List Nat) × Nat) :=
 match vecR S 0 with
 | .error e => .error e
 | .ok (f, p1) => match vecR S p1 with
  | .error e => .error e
  | .ok (h, p2) => match num S p2 60 with
   | .error e => .error e
   | .ok (m, p3) => match keysR S m p3 [] with
    | .error e => .error e
    | .ok (T, p4) => match num S p4 60 with
     | .error e => .error e
     | .ok (n, p5) => match wrsR S h T n 0 p5 [] [] with
      | .error e => .error e
      | .ok (ws, A, p6) => .ok ((f, h, ws), (T, A), p6)
def read (S : List UInt8) : Res (List Vec.Entry × List Vec.Entry × List Wr) :=
 match pre S with
 | .error e => .error e
 | .ok ((f, h, ws), (T, A), p) => if p < S.length then .error (3, p)
  else if Keys.lists T (Keys.ints A) ≠ .ok then .error ((Keys.lists T (Keys.ints A)).code, p)
  else if Bat.right f h ws ≠ .ok then .error ((Bat.right f h ws).code, p)
  else .ok (f, h, ws)
theorem num_put (P : List UInt8) (n : Nat) (R : List UInt8) (m : Int) (h : n < 18446744073709551616) (h0 : (n : Int) ≤ m) : num (P ++ (Vary.put n ++ R)) P.length m = .ok (n, P.length + (Vary.put n).length) := by
 unfold num
 rw [List.drop_left, Vec.int_put' n m R h h0]
theorem num_ok {S : List UInt8} {p n p' : Nat} {m : Int} (h : num S p m = .ok (n, p')) (hp : p ≤ S.length) : p < p' ∧ p' ≤ S.length ∧ Vary.put n = (S.drop p).take (p' - p) ∧ (n : Int) ≤ m ∧ n < 18446744073709551616 := by
 unfold num at h
 split at h
 ·cases h
 ·rename_i n' j hj
  injection h with h
  injection h with h1 h2
  subst h1; subst h2
  obtain ⟨g1, g2⟩ := Vec.int_get hj
  obtain ⟨g3, g4, g5, g6⟩ := Vary.get_ok _ _ _ g1
  rw [List.length_drop] at g4
  exact ⟨by omega, by omega, by rw [show p + j - p = j by omega]; exact g5, g2, g6⟩
theorem keysR_put (T : List (List UInt8)) (P R : List UInt8) (acc : List (List UInt8)) (h : ∀ k ∈ T, k.length ≤ 2000) : keysR (P ++ (T.flatMap Span.put ++ R)) T.length P.length acc = .ok (acc ++ T, P.length + (T.flatMap Span.put).length) := by
 induction T generalizing P acc with
 | nil => simp [keysR]
 | cons k T ih =>
  have hk := h k (List.mem_cons_self ..)
  rw [List.length_cons, keysR, List.drop_left, List.flatMap_cons, List.append_assoc, Span.get_put _ _ hk]
  simp only
  have := ih (P ++ Span.put k) (acc ++ [k]) (fun x hx => h x (List.mem_cons_of_mem _ hx))
  rw [List.append_assoc, List.length_append] at this
  rw [this]
  simp [Nat.add_assoc]
theorem keysR_ok (S : List UInt8) (n p : Nat) (acc T' : List (List UInt8)) (p' : Nat) (hp : p ≤ S.length) (h : keysR S n p acc = .ok (T', p')) :
  ∃ T, T' = acc ++ T ∧ T.length = n ∧ p ≤ p' ∧ p' ≤ S.length ∧ T.flatMap Span.put = (S.drop p).take (p' - p) ∧ ∀ k ∈ T, k.length ≤ 2000 := by
 induction n generalizing p acc with
 | zero =>
  injection h with h
  injection h with h1 h2
  subst h1; subst h2
  exact ⟨[], by simp, rfl, Nat.le_refl _, hp, by simp, fun k hk => absurd hk (List.not_mem_nil)⟩
 | succ n ih =>
  rw [keysR] at h
  split at h
  ·cases h
  ·rename_i k j hj
   obtain ⟨g1, g2, g3, g4, g5⟩ := Span.get_ok hj
   rw [List.length_drop] at g3
   obtain ⟨T, t1, t2, t3, t4, t5, t6⟩ := ih (p + j) (acc ++ [k]) (by omega) h
   refine ⟨k :: T, by rw [t1]; simp, by simp [t2], by omega, t4, ?_, fun x hx => ?_⟩
   ·rw [List.flatMap_cons, t5, g4, ← List.drop_drop]
    have := List.take_add (l := S.drop p) (i := j) (j := p' - (p + j))
    rw [show j + (p' - (p + j)) = p' - p by omega] at this
    exact this.symm
   ·rcases List.mem_cons.1 hx with rfl | hx
    ·exact g1
    ·exact t6 x hx
theorem getElem_at (P R : List UInt8) (b : UInt8) : (P ++ b :: R)[P.length]? = some b := by
 rw [List.getElem?_append_right (Nat.le_refl _), Nat.sub_self]; rfl
theorem oneR_put (h : List Vec.Entry) (T : List (List UInt8)) (prev : Int) (x : Wr) (i : Nat) (P R : List UInt8) (hr : Wr.right x = 0) (h0 : 0 ≤ prev) (h1 : prev ≤ x.t) (hi : i < T.length) (hk : T[i]? = some x.key) (hT : T.length ≤ 1000) (hh : h.length ≤ 1000)
  (hp : place h x.r < h.length) (hpr : (h[place h x.r]?.map (·.r)) = some x.r) :
  oneR (P ++ (one h prev x i ++ R)) h T prev P.length = .ok (x, i, P.length + (one h prev x i).length) := by
 obtain ⟨k1, k2, t1, t2, -⟩ := Wr.right_zero hr
 unfold oneR one
 rw [List.cons_append, getElem_at]
 have hb : (UInt8.ofNat x.k.toNat).toNat = x.k.toNat := by
  rw [UInt8.toNat_ofNat_of_lt']
  show x.k.toNat < 256
  omega
 simp only
 rw [hb, if_neg (by omega)]
 have e1 : P ++ UInt8.ofNat x.k.toNat :: (Vary.put (x.t - prev).toNat ++ (Vary.put (place h x.r) ++ (Vary.put i ++ Wr.tail x)) ++ R) = (P ++ [UInt8.ofNat x.k.toNat]) ++ (Vary.put (x.t - prev).toNat ++ ((Vary.put (place h x.r) ++ (Vary.put i ++ Wr.tail x)) ++ R)) := by simp
 have e2 : P ++ UInt8.ofNat x.k.toNat :: (Vary.put (x.t - prev).toNat ++ (Vary.put (place h x.r) ++ (Vary.put i ++ Wr.tail x)) ++ R) = (P ++ [UInt8.ofNat x.k.toNat] ++ Vary.put (x.t - prev).toNat) ++ (Vary.put (place h x.r) ++ ((Vary.put i ++ Wr.tail x) ++ R)) := by simp
 have e3 : P ++ UInt8.ofNat x.k.toNat :: (Vary.put (x.t - prev).toNat ++ (Vary.put (place h x.r) ++ (Vary.put i ++ Wr.tail x)) ++ R) = (P ++ [UInt8.ofNat x.k.toNat] ++ Vary.put (x.t - prev).toNat ++ Vary.put (place h x.r)) ++ (Vary.put i ++ (Wr.tail x ++ R)) := by simp
 have e4 : P ++ UInt8.ofNat x.k.toNat :: (Vary.put (x.t - prev).toNat ++ (Vary.put (place h x.r) ++ (Vary.put i ++ Wr.tail x)) ++ R) = (P ++ [UInt8.ofNat x.k.toNat] ++ Vary.put (x.t - prev).toNat ++ Vary.put (place h x.r) ++ Vary.put i) ++ (Wr.tail x ++ R) := by simp
 have n1 := num_put (P ++ [UInt8.ofNat x.k.toNat]) (x.t - prev).toNat ((Vary.put (place h x.r) ++ (Vary.put i ++ Wr.tail x)) ++ R) 1099511627776 (by omega) (by omega)
 have n2 := num_put (P ++ [UInt8.ofNat x.k.toNat] ++ Vary.put (x.t - prev).toNat) (place h x.r) ((Vary.put i ++ Wr.tail x) ++ R) ((h.length : Int) - 1) (by omega) (by omega)
 have n3 := num_put (P ++ [UInt8.ofNat x.k.toNat] ++ Vary.put (x.t - prev).toNat ++ Vary.put (place h x.r)) i (Wr.tail x ++ R) ((T.length : Int) - 1) (by omega) (by omega)
 rw [← e1, List.length_append, List.length_singleton] at n1
 rw [← e2, List.length_append, List.length_append, List.length_singleton] at n2
 rw [← e3, List.length_append, List.length_append, List.length_append, List.length_singleton] at n3
 rw [n1]
 simp only
 rw [if_neg (by omega), n2]
 simp only
 rw [n3]
 simp only
 have ef := Wr.fill_tail x R hr
 have ed : (P ++ UInt8.ofNat x.k.toNat :: (Vary.put (x.t - prev).toNat ++ (Vary.put (place h x.r) ++ (Vary.put i ++ Wr.tail x)) ++ R)).drop (P.length + 1 + (Vary.put (x.t - prev).toNat).length + (Vary.put (place h x.r)).length + (Vary.put i).length) = Wr.tail x ++ R := by
  rw [e4]
  exact List.drop_left' (by simp only [List.length_append, List.length_singleton])
 have er : (⟨prev + ((x.t - prev).toNat : Int), (h[place h x.r]?.map (·.r)).getD 0, ((x.k.toNat : Nat) : Int), T[i]?.getD [], [], 0⟩ : Wr) = { x with val := [], n := 0 } := by
  rw [hpr, hk]
  simp only [Option.getD_some]
  congr 1
  ·omega
  ·omega
 rw [ed, er, ef]
 simp only [List.length_cons, List.length_append]
 congr 1
 congr 1
 congr 1
 omega
/-- What is asked of writes and of the numbers of their keys. -/
structure Ok (h : List Vec.Entry) (T : List (List UInt8)) (prev : Int) (ws : List Wr) (A : List Nat) : Prop where
 len : A.length = ws.length
 right : ∀ x ∈ ws, Wr.right x = 0 ∧ place h x.r < h.length ∧ (h[place h x.r]?.map (·.r)) = some x.r ∧ prev ≤ x.t
 order : ws.Pairwise (fun x y => x.t ≤ y.t)
 keys : ∀ (i : Nat) (x : Wr) (a : Nat), ws[i]? = some x → A[i]? = some a → a < T.length ∧ T[a]? = some x.key
theorem wrsR_put (h : List Vec.Entry) (T : List (List UInt8)) (hT : T.length ≤ 1000) (hh : h.length ≤ 1000) (ws : List Wr) (A : List Nat) (prev : Int) (P R : List UInt8) (aw : List Wr) (aa : List Nat) (h0 : 0 ≤ prev) (ho : Ok h T prev ws A) :
  wrsR (P ++ (encW h prev ws A ++ R)) h T ws.length prev P.length aw aa = .ok (aw ++ ws, aa ++ A, P.length + (encW h prev ws A).length) := by
 induction ws generalizing A prev P aw aa with
 | nil =>
  have hA : A = [] := List.eq_nil_of_length_eq_zero ho.len
  subst hA
  simp [wrsR, encW]
 | cons x ws ih =>
  cases A with
  | nil => have := ho.len; simp at this
  | cons i A =>
   obtain ⟨r1, r2, r3, r4⟩ := ho.right x (List.mem_cons_self ..)
   obtain ⟨k1, k2⟩ := ho.keys 0 x i rfl rfl
   obtain ⟨o1, o2⟩ := List.pairwise_cons.1 ho.order
   have hx : 0 ≤ x.t := by omega
   have ho' : Ok h T x.t ws A := ⟨by have := ho.len; simpa using this, fun y hy => ⟨(ho.right y (List.mem_cons_of_mem _ hy)).1, (ho.right y (List.mem_cons_of_mem _ hy)).2.1, (ho.right y (List.mem_cons_of_mem _ hy)).2.2.1, o1 y hy⟩, o2, fun j y a h1 h2 => ho.keys (j + 1) y a h1 h2⟩
   rw [List.length_cons, wrsR, encW, List.append_assoc, oneR_put h T prev x i P _ r1 h0 r4 k1 k2 hT hh r2 r3]
   simp only
   have := ih A x.t (P ++ one h prev x i) (aw ++ [x]) (aa ++ [i]) hx ho'
   rw [List.append_assoc, List.length_append] at this
   rw [this]
   simp [Nat.add_assoc]
theorem oneR_ok {S : List UInt8} {h : List Vec.Entry} {T : List (List UInt8)} {time : Int} {p : Nat} {x : Wr} {q p' : Nat} (hr : oneR S h T time p = .ok (x, q, p')) (hp : p ≤ S.length) (h0 : 0 ≤ time) (hs : ∀ i (hi : i < h.length), place h h[i].r = i) :
  p < p' ∧ p' ≤ S.length ∧ Wr.right x = 0 ∧ time ≤ x.t ∧ q < T.length ∧ T[q]? = some x.key ∧ place h x.r < h.length ∧ (h[place h x.r]?.map (·.r)) = some x.r ∧ one h time x q = (S.drop p).take (p' - p) := by
 unfold oneR at hr
 split at hr
 ·cases hr
 ·rename_i b hb
  have hpl := (List.getElem?_eq_some_iff.1 hb).1
  have hbe := (List.getElem?_eq_some_iff.1 hb).2
  split at hr
  ·cases hr
  ·rename_i hk
   split at hr
   ·cases hr
   ·rename_i d p1 hd
    obtain ⟨a1, a2, a3, a4, a5⟩ := num_ok hd (by omega)
    split at hr
    ·cases hr
    ·rename_i ht
     split at hr
     ·cases hr
     ·rename_i i p2 hi
      obtain ⟨b1, b2, b3, b4, b5⟩ := num_ok hi (by omega)
      split at hr
      ·cases hr
      ·rename_i q' p3 hq
       obtain ⟨c1, c2, c3, c4, c5⟩ := num_ok hq (by omega)
       split at hr
       ·cases hr
       ·rename_i y n hf
        injection hr with hr
        injection hr with e1 hr
        injection hr with e2 e3
        subst e1; subst e2; subst e3
        obtain ⟨f1, f2, f3, f4, f5, f6, f7⟩ := Wr.fill_ok hf
        rw [List.length_drop] at f2
        have hil : i < h.length := by omega
        have hql : q' < T.length := by omega
        simp only at f4 f5 f6 f7
        rw [List.getElem?_eq_getElem hil] at f5
        simp only [Option.map_some, Option.getD_some] at f5
        rw [List.getElem?_eq_getElem hql] at f7
        simp only [Option.getD_some] at f7
        have hpl2 : place h y.r = i := by rw [f5]; exact hs i hil
        refine ⟨by omega, by omega, f1, by omega, hql, by rw [f7, List.getElem?_eq_getElem hql], by omega, by rw [hpl2, List.getElem?_eq_getElem hil, f5]; rfl, ?_⟩
        unfold one
        rw [hpl2, f6, f3, show (y.t - time).toNat = d by omega, a3, b3, c3]
        have hkk : UInt8.ofNat ((b.toNat : Int)).toNat = b := by simp
        rw [hkk]
        have d0 : S.drop p = b :: S.drop (p + 1) := by rw [List.drop_eq_getElem_cons hpl, hbe]
        have cut : ∀ a c, p + 1 ≤ a → a ≤ c → c ≤ S.length → (S.drop (p + 1)).take (c - (p + 1)) = (S.drop (p + 1)).take (a - (p + 1)) ++ (S.drop a).take (c - a) := by
         intro a c h1 h2 h3
         have := List.take_add (l := S.drop (p + 1)) (i := a - (p + 1)) (j := c - a)
         rw [List.drop_drop, show p + 1 + (a - (p + 1)) = a by omega, show a - (p + 1) + (c - a) = c - (p + 1) by omega] at this
         exact this
        rw [d0, show p3 + n - p = (p3 + n - (p + 1)) + 1 by omega, List.take_succ_cons]
        congr 1
        rw [cut p3 (p3 + n) (by omega) (by omega) (by omega), cut p2 p3 (by omega) (by omega) (by omega), cut p1 p2 (by omega) (by omega) (by omega), show p3 + n - p3 = n by omega]
        simp [List.append_assoc]
theorem wrsR_ok (S : List UInt8) (h : List Vec.Entry) (T : List (List UInt8)) (hs : ∀ i (hi : i < h.length), place h h[i].r = i) (n : Nat) (time : Int) (p : Nat) (aw : List Wr) (aa : List Nat) (W : List Wr) (B : List Nat) (p' : Nat) (hp : p ≤ S.length) (h0 : 0 ≤ time) (hr : wrsR S h T n time p aw aa = .ok (W, B, p')) :
  ∃ ws A, W = aw ++ ws ∧ B = aa ++ A ∧ ws.length = n ∧ p ≤ p' ∧ p' ≤ S.length ∧ encW h time ws A = (S.drop p).take (p' - p) ∧ Ok h T time ws A := by
 induction n generalizing time p aw aa with
 | zero =>
  rw [wrsR] at hr
  injection hr with hr
  injection hr with e1 hr
  injection hr with e2 e3
  subst e1; subst e2; subst e3
  exact ⟨[], [], by simp, by simp, rfl, Nat.le_refl _, hp, by simp [encW], ⟨rfl, fun x hx => absurd hx (List.not_mem_nil), List.Pairwise.nil, fun i x a hx => by simp at hx⟩⟩
 | succ n ih =>
  rw [wrsR] at hr
  split at hr
  ·cases hr
  ·rename_i x q p1 hx
   obtain ⟨g1, g2, g3, g4, g5, g6, g7, g8, g9⟩ := oneR_ok hx hp h0 hs
   obtain ⟨ws, A, e1, e2, e3, e4, e5, e6, e7⟩ := ih x.t p1 _ _ (by omega) (by omega) hr
   refine ⟨x :: ws, q :: A, by rw [e1]; simp, by rw [e2]; simp, by simp [e3], by omega, e5, ?_, ⟨by simp [e7.len], fun y hy => ?_, ?_, fun i y a h1 h2 => ?_⟩⟩
   ·rw [encW, g9, e6]
    have := List.take_add (l := S.drop p) (i := p1 - p) (j := p' - p1)
    rw [List.drop_drop, show p + (p1 - p) = p1 by omega, show p1 - p + (p' - p1) = p' - p by omega] at this
    exact this.symm
   ·rcases List.mem_cons.1 hy with rfl | hy
    ·exact ⟨g3, g7, g8, g4⟩
    ·obtain ⟨u1, u2, u3, u4⟩ := e7.right y hy
     exact ⟨u1, u2, u3, by omega⟩
   ·exact List.pairwise_cons.2 ⟨fun y hy => (e7.right y hy).2.2.2, e7.order⟩
   ·cases i with
    | zero =>
     simp only [List.getElem?_cons_zero, Option.some.injEq] at h1 h2
     subst h1; subst h2
     exact ⟨g5, g6⟩
    | succ i => exact e7.keys i y a h1 h2
theorem place_mem {h : List Vec.Entry} {r : Int} (hm : ∃ y ∈ h, y.r = r) : place h r < h.length ∧ (h[place h r]?.map (·.r)) = some r := by
 unfold place
 cases hf : h.findIdx? (fun x => decide (x.r = r)) with
 | none =>
  obtain ⟨y, hy, e⟩ := hm
  have := List.findIdx?_eq_none_iff.1 hf y hy
  simp [e] at this
 | some i =>
  obtain ⟨hi, h1, _⟩ := List.findIdx?_eq_some_iff_getElem.1 hf
  simp only [Option.getD_some]
  refine ⟨hi, ?_⟩
  rw [List.getElem?_eq_getElem hi]
  simp only [Option.map_some, Option.some.injEq]
  simpa using h1
theorem place_nth {h : List Vec.Entry} (hs : Vec.Sorted h) (i : Nat) (hi : i < h.length) : place h h[i].r = i := by
 unfold place
 have hf : h.findIdx? (fun x => decide (x.r = h[i].r)) = some i := List.findIdx?_eq_some_iff_getElem.2 ⟨hi, by simp, fun j hj => by
  have := List.pairwise_iff_getElem.1 hs j i (by omega) hi hj
  simp only [decide_eq_true_eq]
  omega⟩
 rw [hf]; rfl
theorem of_zero {h : List Vec.Entry} {r : Int} (hn : ¬ ∃ y ∈ h, y.r = r) : Vec.of h r = 0 := by
 induction h with
 | nil => rfl
 | cons x h ih =>
  have h1 : ¬ x.r = r := fun e => hn ⟨x, List.mem_cons_self .., e⟩
  have h2 := ih (fun ⟨y, hy, e⟩ => hn ⟨y, List.mem_cons_of_mem _ hy, e⟩)
  simp [Vec.of, h1, h2]
/-- What is right can be written, and read. -/
theorem ok_of {f h : List Vec.Entry} {ws : List Wr} (hr : Bat.Fine f h ws) : Ok h (Keys.table (ws.map (·.key))).1 0 ws (Keys.table (ws.map (·.key))).2 := by
 have hi := Keys.is_table (ws.map (·.key))
 have hord : ws.Pairwise (fun x y => x.t ≤ y.t) := hr.order.imp (fun {a b} h => by unfold Bat.Later at h; omega)
 refine ⟨by rw [hi.len, List.length_map], fun x hx => ?_, hord, fun i x a h1 h2 => ?_⟩
 ·obtain ⟨e1, e2⟩ := hr.each x hx
  obtain ⟨-, -, t1, -⟩ := Wr.right_zero e1
  have hw : x.t ≤ Vec.of h x.r := by
   unfold Bat.within at e2
   simp only [Bool.and_eq_true, decide_eq_true_eq] at e2
   exact e2.2
  have hm : ∃ y ∈ h, y.r = x.r := by
   by_cases hm : ∃ y ∈ h, y.r = x.r
   ·exact hm
   ·have := of_zero hm; omega
  obtain ⟨p1, p2⟩ := place_mem hm
  exact ⟨e1, p1, p2, by omega⟩
 ·have hal := hi.lt a (List.mem_of_getElem? h2)
  refine ⟨hal, ?_⟩
  have h3 := congrArg (fun l => l[i]?) hi.map
  simp only [List.getElem?_map, h1, h2, Option.map_some, Option.some.injEq] at h3
  exact h3
theorem vecR_put (P : List UInt8) (l : List Vec.Entry) (R : List UInt8) (h : Vec.right l = .ok) : vecR (P ++ (Vec.write l ++ R)) P.length = .ok (l, P.length + (Vec.write l).length) := by
 unfold vecR
 rw [List.drop_left, Vec.read_write l R h]
theorem vecR_ok {S : List UInt8} {p p' : Nat} {l : List Vec.Entry} (h : vecR S p = .ok (l, p')) (hp : p ≤ S.length) : p ≤ p' ∧ p' ≤ S.length ∧ Vec.right l = .ok ∧ Vec.write l = (S.drop p).take (p' - p) := by
 unfold vecR at h
 split at h
 ·cases h
 ·rename_i l' j hj
  injection h with h
  injection h with h1 h2
  subst h1; subst h2
  obtain ⟨g1, g2, g3, g4⟩ := Vec.read_ok _ _ _ hj
  rw [List.length_drop] at g3
  exact ⟨by omega, by omega, g1, by rw [show p + j - p = j by omega]; exact g4⟩
theorem key_len {f h : List Vec.Entry} {ws : List Wr} (hr : Bat.Fine f h ws) : ∀ k ∈ (Keys.table (ws.map (·.key))).1, k.length ≤ 2000 := fun k hk => by
 rw [Keys.mem_table] at hk
 obtain ⟨x, hx, rfl⟩ := List.mem_map.1 hk
 have h9 := (hr.each x hx).1
 obtain ⟨-, -, -, -, -, -, h7, -⟩ := Wr.right_zero h9
 omega
theorem pre_write {f h : List Vec.Entry} {ws : List Wr} (hr : Bat.right f h ws = .ok) (more : List UInt8) :
  pre (write f h ws ++ more) = .ok ((f, h, ws), ((Keys.table (ws.map (·.key))).1, (Keys.table (ws.map (·.key))).2), (write f h ws).length) := by
 have hF := (Bat.right_iff _ _ _).1 hr
 have hO := ok_of hF
 have hK := key_len hF
 have hTl := Keys.table_len (ws.map (·.key))
 rw [List.length_map] at hTl
 have h60 := hF.len
 have hhl := ((Vec.right_iff h).1 hF.have_).len
 unfold write
 generalize (Keys.table (ws.map (·.key))).1 = T at *
 generalize (Keys.table (ws.map (·.key))).2 = A at *
 unfold pre enc
 have e0 : ∀ X : List UInt8, X = [] ++ X := fun X => rfl
 have v1 := vecR_put [] f (Vec.write h ++ (Vary.put T.length ++ (T.flatMap Span.put ++ (Vary.put ws.length ++ encW h 0 ws A))) ++ more) hF.from_
 have v2 := vecR_put (Vec.write f) h (Vary.put T.length ++ (T.flatMap Span.put ++ (Vary.put ws.length ++ encW h 0 ws A)) ++ more) hF.have_
 have v3 := num_put (Vec.write f ++ Vec.write h) T.length (T.flatMap Span.put ++ (Vary.put ws.length ++ encW h 0 ws A) ++ more) 60 (by omega) (by omega)
 have v4 := keysR_put T (Vec.write f ++ Vec.write h ++ Vary.put T.length) (Vary.put ws.length ++ encW h 0 ws A ++ more) [] hK
 have v5 := num_put (Vec.write f ++ Vec.write h ++ Vary.put T.length ++ T.flatMap Span.put) ws.length (encW h 0 ws A ++ more) 60 (by omega) (by omega)
 have v6 := wrsR_put h T (by omega) (by omega) ws A 0 (Vec.write f ++ Vec.write h ++ Vary.put T.length ++ T.flatMap Span.put ++ Vary.put ws.length) more [] [] (by omega) hO
 simp only [List.append_assoc, List.nil_append, List.length_append, List.length_nil, Nat.zero_add] at v1 v2 v3 v4 v5 v6 ⊢
 simp only [Nat.add_assoc] at v1 v2 v3 v4 v5 v6 ⊢
 rw [v1]
 simp only
 rw [v2]
 simp only
 rw [v3]
 simp only
 rw [v4]
 simp only
 rw [v5]
 simp only
 rw [v6]
theorem read_write {f h : List Vec.Entry} {ws : List Wr} (hr : Bat.right f h ws = .ok) : read (write f h ws) = .ok (f, h, ws) := by
 have h1 := pre_write hr []
 rw [List.append_nil] at h1
 unfold read
 rw [h1]
 simp only
 rw [if_neg (Nat.lt_irrefl _), if_neg (fun h => h (Keys.back (ws.map (·.key))).1), if_neg (fun h => h hr)]
theorem read_ok {S : List UInt8} {f h : List Vec.Entry} {ws : List Wr} (hr : read S = .ok (f, h, ws)) : Bat.right f h ws = .ok ∧ write f h ws = S := by
 unfold read at hr
 split at hr
 ·cases hr
 ·rename_i f' h' ws' T A p hp
  split at hr
  ·cases hr
  ·rename_i hlen
   split at hr
   ·cases hr
   ·rename_i hl
    split at hr
    ·cases hr
    ·rename_i hb
     injection hr with hr
     injection hr with e1 hr
     injection hr with e2 e3
     subst e1; subst e2; subst e3
     have hl : Keys.lists T (Keys.ints A) = .ok := by
      by_cases e : Keys.lists T (Keys.ints A) = .ok
      ·exact e
      ·exact absurd e hl
     have hb : Bat.right f' h' ws' = .ok := by
      by_cases e : Bat.right f' h' ws' = .ok
      ·exact e
      ·exact absurd e hb
     refine ⟨hb, ?_⟩
     have hF := (Bat.right_iff _ _ _).1 hb
     have hs := ((Vec.right_iff h').1 hF.have_).sorted
     unfold pre at hp
     split at hp
     ·cases hp
     ·rename_i f1 p1 q1
      split at hp
      ·cases hp
      ·rename_i h1 p2 q2
       split at hp
       ·cases hp
       ·rename_i m p3 q3
        split at hp
        ·cases hp
        ·rename_i T1 p4 q4
         split at hp
         ·cases hp
         ·rename_i n p5 q5
          split at hp
          ·cases hp
          ·rename_i W1 A1 p6 q6
           injection hp with hp
           injection hp with e1 hp
           injection hp with e2 e3
           injection e1 with e4 e1
           injection e1 with e5 e6
           injection e2 with e7 e8
           subst e4; subst e5; subst e6; subst e7; subst e8; subst e3
           obtain ⟨a1, a2, -, a4⟩ := vecR_ok q1 (Nat.zero_le _)
           obtain ⟨b1, b2, -, b4⟩ := vecR_ok q2 a2
           obtain ⟨c1, c2, c3, -, -⟩ := num_ok q3 b2
           obtain ⟨T2, d1, d2, d3, d4, d5, -⟩ := keysR_ok _ _ _ _ _ _ c2 q4
           obtain ⟨g1, g2, g3, -, -⟩ := num_ok q5 d4
           obtain ⟨W2, A2, k1, k2, k3, k4, k5, k6, k7⟩ := wrsR_ok _ _ _ (fun i hi => place_nth hs i hi) _ _ _ _ _ _ _ _ g2 (Int.le_refl 0) q6
           rw [List.nil_append] at d1 k1 k2
           subst d1; subst k1; subst k2
           have ht := Keys.table_outs _ _ hl
           rw [Keys.nats_ints] at ht
           have hmap : Keys.outs T1 (Keys.ints A1) = W1.map (·.key) := by
            have h1 := Keys.outs_map T1 (Keys.ints A1) (fun a ha => by
             unfold Keys.ints at ha
             obtain ⟨b, hb', rfl⟩ := List.mem_map.1 ha
             obtain ⟨i, hi, e⟩ := List.getElem_of_mem hb'
             have hiw : i < W1.length := by rw [← k7.len]; exact hi
             have := (k7.keys i W1[i] b (List.getElem?_eq_getElem hiw) (by rw [List.getElem?_eq_getElem hi, e])).1
             exact ⟨Int.natCast_nonneg _, by simpa using this⟩)
            rw [Keys.nats_ints] at h1
            have h2 : A1.map (fun a => T1[a]?) = (W1.map (·.key)).map some := by
             apply List.ext_getElem?
             intro i
             simp only [List.getElem?_map]
             by_cases hi : i < A1.length
             ·have hiw : i < W1.length := by rw [← k7.len]; exact hi
              rw [List.getElem?_eq_getElem hi, List.getElem?_eq_getElem hiw]
              simp only [Option.map_some]
              rw [(k7.keys i W1[i] A1[i] (List.getElem?_eq_getElem hiw) (List.getElem?_eq_getElem hi)).2]
             ·rw [List.getElem?_eq_none (by omega), List.getElem?_eq_none (by rw [← k7.len]; omega)]
              rfl
            rw [h2] at h1
            exact ((List.map_inj_right (fun a b h => Option.some.inj h)).1 h1).symm
           rw [hmap] at ht
           unfold write
           rw [ht]
           show Vec.write f1 ++ (Vec.write h1 ++ (Vary.put T1.length ++ (T1.flatMap Span.put ++ (Vary.put W1.length ++ encW h1 0 W1 A1)))) = S
           have hp6 : p6 = S.length := by omega
           subst hp6
           have cut : ∀ a c, a ≤ c → c ≤ S.length → (S.drop a).take (c - a) ++ S.drop c = S.drop a := by
            intro a c h1 h2
            have := List.take_append_drop (c - a) (S.drop a)
            rw [List.drop_drop, show a + (c - a) = c by omega] at this
            exact this
           rw [k6, k3, g3, d5, d2, c3, b4, a4]
           have z6 : (S.drop p5).take (S.length - p5) = S.drop p5 := List.take_of_length_le (by rw [List.length_drop]; exact Nat.le_refl _)
           rw [z6, cut p4 p5 (by omega) (by omega), cut p3 p4 (by omega) (by omega), cut p2 p3 (by omega) (by omega), cut p1 p2 (by omega) (by omega), cut 0 p1 (by omega) (by omega)]
           rfl
end Body
end Go.Proofs.YtognjohloobliaaGreatDoor
/- The walk of body.place. -/
namespace Go.Proofs.YtognjohloobliaaGreatDoor
open Go.RowKit
set_option linter.unusedVariables false
set_option linter.unusedSimpArgs false
theorem place_none {h : List Vec.Entry} {r : Int} (hn : ∀ x ∈ h, x.r ≠ r) : Body.place h r = 0 := by
 unfold Body.place
 have : h.findIdx? (fun x => decide (x.r = r)) = none := List.findIdx?_eq_none_iff.2 (fun x hx => by simp [hn x hx])
 rw [this]; rfl
theorem place_some {h : List Vec.Entry} {r : Int} {k : Nat} (hk : k < h.length) (he : h[k].r = r) (hn : ∀ x ∈ h.take k, x.r ≠ r) : Body.place h r = k := by
 unfold Body.place
 have : h.findIdx? (fun x => decide (x.r = r)) = some k := List.findIdx?_eq_some_iff_getElem.2 ⟨hk, by simp [he], fun j hj => by
  have := hn h[j] (List.mem_iff_getElem.2 ⟨j, by rw [List.length_take]; omega, by rw [List.getElem_take]⟩)
  simp [this]⟩
 rw [this]; rfl
set_option maxHeartbeats 2000000 in
set_option maxRecDepth 20000 in
theorem body_place (v : Value) (l : List Vec.Entry) (r : Int) (w : World) (hv : VecIs w v l) (hl : l.length ≤ 140737488351232) :
  Calls Tryz.prog 85 #[v, .int .i64 r] w fun e w' => e = .returned (.int .i64 (Body.place l r)) ∧ Below w.heap.size w w' := by
 obtain ⟨o, c, rfl, -, hcell⟩ := hv.list.at entCells_len
 clear hv
 replace hcell := Lib.hid hcell
 obtain ⟨a, ha⟩ : ∃ a, a = Body.place l r := ⟨_, rfl⟩
 rw [← ha]
 replace ha := Lib.hid ha
 go_enter Tryz.func85, Tryz.ntmps85
 go_wp2
 go_loopw [9] (fun i wr => ∃ k : Nat, k ≤ l.length ∧ i = .int .i64 k ∧ (∀ x ∈ l.take k, x.r ≠ r) ∧ Below w.heap.size w wr) (fun i _ => l.length - (intOf i).toNat)
 case atStart => exact ⟨0, by omega, rfl, by simp, by exact blw⟩
 case round =>
  obtain ⟨k, hk, rfl, hno, hbel⟩ := hrel
  by_cases hlt : k < l.length
  ·obtain ⟨b1, f1, rfl, hb1, hc1⟩ := hcell.out k hlt
   have hb1 := hb1 (by omega)
   have c0 : wr.cell? ⟨b1, f1 + k * 2, none⟩ = some (.int .i64 l[k].r) := (hbel.cell (p := ⟨b1, f1 + k * 2, none⟩) hb1).trans (hc1 0 _ rfl)
   have c1 : wr.cell? ⟨b1, f1 + k * 2 + 1, none⟩ = some (.int .i64 l[k].t) := (hbel.cell (p := ⟨b1, f1 + k * 2 + 1, none⟩) hb1).trans (hc1 1 _ rfl)
   clear hc1
   by_cases hx : l[k].r = r
   ·have hp : Hid (a = k) := Lib.hid (by rw [ha.out]; exact place_some hlt hx hno)
    have e1 : (l[k].r == r) = true := by simp [hx]
    replace hno := Lib.hid hno
    replace hx := Lib.hid hx
    generalize l[k] = y at *
    go_wp2
    go_ret
    exact ⟨by rw [hp.out]; rfl, bal hbel _⟩
   ·have e1 : (l[k].r == r) = false := by simp [hx]
    have hn2 : ∀ x ∈ l.take (k + 1), x.r ≠ r := fun x hm => by
     rw [List.take_succ_eq_append_getElem hlt] at hm
     rcases List.mem_append.1 hm with hm | hm
     ·exact hno x hm
     ·simp only [List.mem_cons, List.not_mem_nil, or_false] at hm
      rw [hm]; exact hx
    replace hno := Lib.hid hno
    replace hn2 := Lib.hid hn2
    replace hx := Lib.hid hx
    generalize l[k] = y at *
    go_wp2
    go_roundw
    case rel => exact ⟨k + 1, by omega, by go_num, hn2.out, bal hbel _⟩
    case measure => simp [intOf]; omega
  ·obtain rfl : k = l.length := by omega
   rw [List.take_length] at hno
   have hp : Hid (a = 0) := Lib.hid (by rw [ha.out]; exact place_none hno)
   replace hno := Lib.hid hno
   go_wp2
   go_ret
   exact ⟨by rw [hp.out]; rfl, hbel⟩
end Go.Proofs.YtognjohloobliaaGreatDoor
/- Frames in plain words: what is written, what is read. No program. -/
namespace Go.Proofs.YtognjohloobliaaGreatDoor
namespace Frame
set_option linter.unusedVariables false
/-- A text in as few bytes as its tokens need. -/
def squeeze (S : List UInt8) : List UInt8 := Lz.write (Match.tokens S)
/-- What is kept of a body, and whether it is squeezed. -/
def kept (S : List UInt8) : UInt8 × List UInt8 := if (squeeze S).length < S.length then (1, squeeze S) else (0, S)
def inside (S : List UInt8) : List UInt8 := (kept S).1 :: (Vary.put S.length ++ (kept S).2)
/-- A frame of some version around a text. -/
def around (v : UInt8) (I : List UInt8) : List UInt8 := Crc.seal_ (80 :: 84 :: v :: I)
def write (f h : List Vec.Entry) (ws : List Wr) : List UInt8 := around 3 (inside (Body.write f h ws))
/-- A frame's version, or what is wrong. -/
def version (s : List UInt8) : Nat ⊕ Nat :=
 if s.length < 8 then .inl 7 else
 if s.take 2 ≠ [80, 84] then .inl 5 else
 if (s[2]?.getD 0).toNat < 1 ∨ 3 < (s[2]?.getD 0).toNat then .inl 8 else
 match Crc.opened s with
 | .inl e => .inl e
 | .inr _ => .inr (s[2]?.getD 0).toNat
/-- What is inside, of whatever version. -/
def text (s : List UInt8) : List UInt8 := (s.drop 3).take (s.length - 7)
theorem around_len (v : UInt8) (I : List UInt8) : (around v I).length = I.length + 7 := by
 unfold around
 rw [Crc.seal_len']
 simp only [List.length_cons]
theorem text_around (v : UInt8) (I : List UInt8) : text (around v I) = I := by
 unfold text
 rw [around_len, Nat.add_sub_cancel]
 unfold around Crc.seal_
 simp
theorem version_around (v : UInt8) (I : List UInt8) (h1 : 1 ≤ v.toNat) (h3 : v.toNat ≤ 3) (hI : 1 ≤ I.length) : version (around v I) = .inr v.toNat := by
 have hl := around_len v I
 have h2 : (around v I)[2]? = some v := by
  unfold around Crc.seal_
  simp
 have ht : (around v I).take 2 = [80, 84] := by
  unfold around Crc.seal_
  simp
 unfold version
 rw [if_neg (by omega), ht, if_neg (by simp), h2, Option.getD_some, if_neg (by omega)]
 unfold around
 rw [Crc.opened_seal]
/-- What is of some version is a frame around what is inside it. -/
theorem version_inv {s : List UInt8} {v : Nat} (h : version s = .inr v) : ∃ b : UInt8, b.toNat = v ∧ 1 ≤ v ∧ v ≤ 3 ∧ s = around b (text s) ∧ 8 ≤ s.length := by
 unfold version at h
 split at h
 ·cases h
 rename_i h8
 split at h
 ·cases h
 rename_i hpt
 split at h
 ·cases h
 rename_i hv
 split at h
 ·cases h
 rename_i t ht
 injection h with h
 have hs := Crc.opened_inv ht
 have hpt : s.take 2 = [80, 84] := by simpa using hpt
 obtain ⟨a, b, c, r, rfl⟩ : ∃ a b c r, s = a :: b :: c :: r := by
  match s, h8 with
  | a :: b :: c :: r, _ => exact ⟨a, b, c, r, rfl⟩
  | [], h => simp at h
  | [_], h => simp at h
  | [_, _], h => simp at h
 simp only [List.take_succ_cons, List.take_zero, List.cons.injEq, and_true] at hpt
 obtain ⟨rfl, rfl⟩ := hpt
 have hc : (([80, 84, c] ++ r : List UInt8)[2]?.getD 0) = c := by simp
 simp only [List.getElem?_cons_succ, List.getElem?_cons_zero, Option.getD_some] at h hv
 have hl : t.length + 4 = (80 :: 84 :: c :: r).length := by rw [← hs, Crc.seal_len']
 have htx : text (80 :: 84 :: c :: r) = t.drop 3 := by
  unfold text
  rw [← hs]
  unfold Crc.seal_
  rw [List.length_append, show (Crc.four (Crc.sum t)).length = 4 from rfl]
  rw [List.drop_append_of_le_length (by simp only [List.length_cons] at hl h8; omega)]
  rw [List.take_append_of_le_length (by rw [List.length_drop]; omega)]
  rw [List.take_of_length_le (by rw [List.length_drop]; omega)]
 have ht3 : t = 80 :: 84 :: c :: t.drop 3 := by
  have h3 : t.take 3 = [80, 84, c] := by
   have : (Crc.seal_ t).take 3 = t.take 3 := by
    unfold Crc.seal_
    rw [List.take_append_of_le_length (by simp only [List.length_cons] at hl h8; omega)]
   rw [← this, hs]
   rfl
  have := List.take_append_drop 3 t
  rw [h3] at this
  exact this.symm
 refine ⟨c, h, by omega, by omega, ?_, by omega⟩
 rw [htx]
 unfold around
 rw [← ht3, hs]
/-- The body that is packed in what is inside a frame of version 3. -/
def unpack (t : List UInt8) : Option (List UInt8) := match t with
 | [] => none
 | b :: r => if 1 < b.toNat then none else match Vary.int r 20000 with
  | .bad _ => none
  | .ok n k => match (if b.toNat = 1 then (Lz.read (r.drop k)).map (Match.text []) else some (r.drop k)) with
   | none => none
   | some z => if z.length ≠ n then none else some z
def packed (b : Bool) (S : List UInt8) : List UInt8 := if b = true then 1 :: (Vary.put S.length ++ squeeze S) else 0 :: (Vary.put S.length ++ S)
theorem inside_packed (S : List UInt8) : inside S = packed (decide ((squeeze S).length < S.length)) S := by
 unfold inside kept packed
 by_cases h : (squeeze S).length < S.length
 ·simp only [if_pos h, decide_eq_true h, if_true]
 ·simp only [if_neg h, decide_eq_false h, Bool.false_eq_true, if_false]
theorem read_squeeze (S : List UInt8) (h : S.length ≤ 20000) : (Lz.read (squeeze S)).map (Match.text []) = some S := by
 unfold squeeze
 rw [Lz.read_write _ (Match.tokens_right S h), Option.map_some, Match.tokens_text]
theorem unpack_packed (b : Bool) (S : List UInt8) (h : S.length ≤ 20000) : unpack (packed b S) = some S := by
 unfold packed
 have hi : ∀ R : List UInt8, Vary.int (Vary.put S.length ++ R) 20000 = .ok S.length (Vary.put S.length).length := fun R => Vec.int_put' S.length 20000 R (by omega) (by omega)
 cases b with
 | true =>
  rw [if_pos rfl]
  unfold unpack
  simp only
  rw [if_neg (by decide), hi]
  simp only
  rw [if_pos (by decide), List.drop_left, read_squeeze S h]
  simp
 | false =>
  rw [if_neg (by decide)]
  unfold unpack
  simp only
  rw [if_neg (by decide), hi]
  simp only
  rw [if_neg (by decide), List.drop_left]
  simp
/-- What is read, ahead of the last test. -/
def readB (s : List UInt8) : Option (List Vec.Entry × List Vec.Entry × List Wr) := match version s with
 | .inl _ => none
 | .inr v => if v ≠ 3 then none else match unpack (text s) with
  | none => none
  | some y => match Body.read y with
   | .error _ => none
   | .ok b => some b
theorem readB_packed (b : Bool) {f h : List Vec.Entry} {ws : List Wr} (hr : Bat.right f h ws = .ok) (hl : (Body.write f h ws).length ≤ 20000) : readB (around 3 (packed b (Body.write f h ws))) = some (f, h, ws) := by
 unfold readB
 have h1 : 1 ≤ (packed b (Body.write f h ws)).length := by unfold packed; split <;> simp
 rw [version_around 3 _ (by decide) (by decide) h1]
 simp only
 rw [if_neg (by decide), text_around, unpack_packed b _ hl]
 simp only
 rw [Body.read_write hr]
theorem readB_write {f h : List Vec.Entry} {ws : List Wr} (hr : Bat.right f h ws = .ok) (hl : (Body.write f h ws).length ≤ 20000) : readB (write f h ws) = some (f, h, ws) := by
 unfold write
 rw [inside_packed]
 exact readB_packed _ hr hl
theorem write_len (f h : List Vec.Entry) (ws : List Wr) : (write f h ws).length = 8 + (Vary.put (Body.write f h ws).length).length + (if (squeeze (Body.write f h ws)).length < (Body.write f h ws).length then (squeeze (Body.write f h ws)).length else (Body.write f h ws).length) := by
 unfold write
 rw [around_len]
 unfold inside kept
 by_cases c : (squeeze (Body.write f h ws)).length < (Body.write f h ws).length
 ·simp only [if_pos c, List.length_cons, List.length_append]; omega
 ·simp only [if_neg c, List.length_cons, List.length_append]; omega
end Frame
end Go.Proofs.YtognjohloobliaaGreatDoor
