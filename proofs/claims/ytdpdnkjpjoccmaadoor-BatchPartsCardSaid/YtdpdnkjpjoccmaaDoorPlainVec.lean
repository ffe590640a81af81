/- Plain words for vectors. -/
namespace Go.Proofs.YtdpdnkjpjoccmaaDoor
namespace Vec
/-- An entry: its replica, its time. -/
structure Entry where
  r : Int
  t : Int
deriving DecidableEq
/-- How far a replica is known. -/
def of : List Entry → Int → Int
  | [], _ => 0
  | x :: l, r => if x.r = r then x.t else of l r
theorem of_drop (l : List Entry) (k : Nat) (r : Int) (h : k < l.length) : of (l.drop k) r = if l[k].r = r then l[k].t else of (l.drop (k + 1)) r := by
  rw [List.drop_eq_getElem_cons h]; rfl
end Vec
end Go.Proofs.YtdpdnkjpjoccmaaDoor
