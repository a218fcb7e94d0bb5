import Derived.Test.YtmdfkbckpekchaaRst
namespace Go
/-- A lane: requested, granted, used. -/
structure Ln where
  q : Int
  g : Int
  u : Int
def Ln.cells (l : Ln) : List Value := [.int .i64 l.q, .int .i64 l.g, .int .i64 l.u]
def lanesC (ls : List Ln) : List Value := ls.flatMap Ln.cells
theorem lanesC_len (ls : List Ln) : (lanesC ls).length = 3 * ls.length := by
  induction ls with
  | nil => rfl
  | cons l ls ih => simp [lanesC, Ln.cells] at *; omega
theorem lanesC_at (ls : List Ln) : ∀ (i f : Nat), i < ls.length → f < 3 → (lanesC ls)[i * 3 + f]? = (ls.getD i ⟨0, 0, 0⟩).cells[f]? := by
  induction ls with
  | nil => intro i f h; simp at h
  | cons l ls ih =>
    intro i f h hf
    cases i with
    | zero =>
      simp only [lanesC, List.flatMap_cons, Nat.zero_mul, Nat.zero_add, List.getD_cons_zero]
      rw [List.getElem?_append_left (by simp [Ln.cells]; omega)]
    | succ i =>
      simp only [List.length_cons] at h
      simp only [lanesC, List.flatMap_cons, List.getD_cons_succ]
      rw [List.getElem?_append_right (by simp [Ln.cells]; omega)]
      have := ih i f (by omega) hf
      rw [← this]
      congr 1
      simp [Ln.cells]; omega
theorem lanesC_set (ls : List Ln) : ∀ (i f : Nat) (v : Value), i < ls.length → f < 3 → (lanesC ls).set (i * 3 + f) v = (lanesC (ls.take i)) ++ (ls.getD i ⟨0, 0, 0⟩).cells.set f v ++ lanesC (ls.drop (i + 1)) := by
  induction ls with
  | nil => intro i f v h; simp at h
  | cons l ls ih =>
    intro i f v h hf
    cases i with
    | zero =>
      simp only [lanesC, List.flatMap_cons, Nat.zero_mul, Nat.zero_add, List.getD_cons_zero, List.take_zero, List.flatMap_nil, List.nil_append, List.drop_succ_cons, List.drop_zero]
      rw [List.set_append_left _ _ (by simp [Ln.cells]; omega)]
    | succ i =>
      simp only [List.length_cons] at h
      have := ih i f v (by omega) hf
      simp only [lanesC, List.flatMap_cons, List.getD_cons_succ, List.take_succ_cons, List.drop_succ_cons] at *
      rw [List.set_append_right _ _ (by simp [Ln.cells]; omega), show (i + 1) * 3 + f - l.cells.length = i * 3 + f by simp [Ln.cells]; omega, this]
      simp
end Go
