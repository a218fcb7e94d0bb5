import Derived.Test.YtkhchfjhmplaiaaHP6
namespace Go
open Go.RowKit
/-- Has an event been come to, of those ahead of x? -/
def anyTo (h : List Ln) (i y x : Nat) : Bool := (List.range x).any fun t => decide (i ≤ t) && (comeB h i t && edgeB h t y)
theorem anyTo_succ (h : List Ln) (i y x : Nat) (hx : i ≤ x) : anyTo h i y (x + 1) = (anyTo h i y x || (comeB h i x && edgeB h x y)) := by
  simp [anyTo, List.range_succ, hx]
theorem anyTo_start (h : List Ln) (i y : Nat) : anyTo h i y i = false := by
  rw [anyTo, List.any_eq_false]
  intro x hx
  have := List.mem_range.1 hx
  simp; omega
theorem anyTo_end (h : List Ln) (i y : Nat) (hy : i < y) : anyTo h i y y = comeB h i y := by
  rw [comeB_eq, if_neg (by omega), if_neg (by omega)]; rfl
/-- The row of marks, in the round of y, at x. -/
def marks (h : List Ln) (i n y : Nat) (b : Bool) : List Bool := (List.range n).map fun t => if t < y then comeB h i t else if t = y then b else false
theorem marks_len (h : List Ln) (i n y : Nat) (b : Bool) : (marks h i n y b).length = n := by simp [marks]
theorem marks_at (h : List Ln) (i n y : Nat) (b : Bool) {x : Nat} (hx : x < n) : (marks h i n y b)[x]? = some (if x < y then comeB h i x else if x = y then b else false) := by
  simp [marks, hx]
theorem marks_set (h : List Ln) (i n y : Nat) (b : Bool) : (marks h i n y b).set y true = marks h i n y true := by
  refine List.ext_getElem (by simp [marks]) fun t h1 h2 => ?_
  simp only [marks, List.getElem_set, List.getElem_map, List.getElem_range]
  by_cases e : y = t
  · subst e; simp
  · have e' : ¬ t = y := fun h => e h.symm
    simp [e, e']
theorem marks_next (h : List Ln) (i n y : Nat) : marks h i n y (comeB h i y) = marks h i n (y + 1) false := by
  refine List.map_congr_left fun t _ => ?_
  by_cases h1 : t < y
  · rw [if_pos h1, if_pos (by omega)]
  · rw [if_neg h1]
    by_cases h2 : t = y
    · rw [if_pos h2, if_pos (by omega), h2]
    · rw [if_neg h2, if_neg (by omega)]; simp
theorem marks_made (h : List Ln) (i n : Nat) : (List.replicate n false).set i true = marks h i n (i + 1) false := by
  refine List.ext_getElem (by simp [marks]) fun t h1 h2 => ?_
  simp only [marks, List.getElem_set, List.getElem_map, List.getElem_range, List.getElem_replicate]
  by_cases e : i = t
  · subst e; rw [if_pos rfl, if_pos (by omega), comeB_eq]; simp
  · rw [if_neg e]
    by_cases h3 : t < i + 1
    · rw [if_pos h3, comeB_eq, if_pos (by omega)]
    · rw [if_neg h3]; simp
end Go
