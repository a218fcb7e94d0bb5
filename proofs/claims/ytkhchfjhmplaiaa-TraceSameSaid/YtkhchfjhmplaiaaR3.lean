import Derived.Test.YtkhchfjhmplaiaaArgs
namespace Go
/-- A lane: requested, granted, used. -/
structure Ln where
  q : Int
  g : Int
  u : Int
def Ln.cells (l : Ln) : List Value := [.int .i64 l.q, .int .i64 l.g, .int .i64 l.u]
def lanesC (ls : List Ln) : List Value := ls.flatMap Ln.cells
theorem lanesC_len (ls : List Ln) : (lanesC ls).length = 3 * ls.length := by
  induction ls with
  | nil => rfl
  | cons l ls ih => simp [lanesC, Ln.cells] at *; omega
theorem lanesC_at (ls : List Ln) : ∀ (i f : Nat), i < ls.length → f < 3 → (lanesC ls)[i * 3 + f]? = (ls.getD i ⟨0, 0, 0⟩).cells[f]? := by
  induction ls with
  | nil => intro i f h; simp at h
  | cons l ls ih =>
    intro i f h hf
    cases i with
    | zero =>
      simp only [lanesC, List.flatMap_cons, Nat.zero_mul, Nat.zero_add, List.getD_cons_zero]
      rw [List.getElem?_append_left (by simp [Ln.cells]; omega)]
    | succ i =>
      simp only [List.length_cons] at h
      simp only [lanesC, List.flatMap_cons, List.getD_cons_succ]
      rw [List.getElem?_append_right (by simp [Ln.cells]; omega)]
      have := ih i f (by omega) hf
      rw [← this]
      congr 1
      simp [Ln.cells]; omega
theorem lanesC_set (ls : List Ln) : ∀ (i f : Nat) (v : Value), i < ls.length → f < 3 → (lanesC ls).set (i * 3 + f) v = (lanesC (ls.take i)) ++ (ls.getD i ⟨0, 0, 0⟩).cells.set f v ++ lanesC (ls.drop (i + 1)) := by
  induction ls with
  | nil => intro i f v h; simp at h
  | cons l ls ih =>
    intro i f v h hf
    cases i with
    | zero =>
      simp only [lanesC, List.flatMap_cons, Nat.zero_mul, Nat.zero_add, List.getD_cons_zero, List.take_zero, List.flatMap_nil, List.nil_append, List.drop_succ_cons, List.drop_zero]
      rw [List.set_append_left _ _ (by simp [Ln.cells]; omega)]
    | succ i =>
      simp only [List.length_cons] at h
      have := ih i f v (by omega) hf
      simp only [lanesC, List.flatMap_cons, List.getD_cons_succ, List.take_succ_cons, List.drop_succ_cons] at *
      rw [List.set_append_right _ _ (by simp [Ln.cells]; omega), show (i + 1) * 3 + f - l.cells.length = i * 3 + f by simp [Ln.cells]; omega, this]
      simp
end Go
namespace Go
abbrev lat (ls : List Ln) (i : Nat) : Ln := ls.getD i ⟨0, 0, 0⟩
theorem lanes_put (ls : List Ln) (i f : Nat) (v : Value) (L : Ln) (hi : i < ls.length) (hf : f < 3) (hL : (lat ls i).cells.set f v = L.cells) : (lanesC ls).set (i * 3 + f) v = lanesC (ls.set i L) := by
  rw [lanesC_set ls i f v hi hf, hL, List.set_eq_take_append_cons_drop, if_pos hi]
  simp [lanesC]
theorem lat_set (ls : List Ln) (i j : Nat) (L : Ln) (hi : i < ls.length) : lat (ls.set i L) j = if i = j then L else lat ls j := by
  simp only [lat, List.getD_eq_getElem?_getD, List.getElem?_set]
  split
  · rename_i e; subst e; simp
  · rfl
theorem lat_mem {ls : List Ln} {i : Nat} (hi : i < ls.length) : lat ls i ∈ ls := by
  rw [lat, List.getD_eq_getElem?_getD, List.getElem?_eq_getElem hi]; exact List.getElem_mem hi
theorem mem_lat {ls : List Ln} {l : Ln} (h : l ∈ ls) : ∃ i, i < ls.length ∧ lat ls i = l := by
  obtain ⟨i, hi, rfl⟩ := List.getElem_of_mem h
  exact ⟨i, hi, by simp [lat, List.getD_eq_getElem?_getD, hi]⟩
theorem lat_ext {a b : List Ln} (hl : a.length = b.length) (h : ∀ i, i < a.length → lat a i = lat b i) : a = b := by
  refine List.ext_getElem hl fun i h1 h2 => ?_
  have := h i h1
  simpa [lat, List.getD_eq_getElem?_getD, h1, h2] using this
/-- What a node knows: rows (node, turn, says) and timers. -/
structure Gs where
  me : Int
  ticks : Int
  last : Int
  rs : List Ln
  ts : List Int
def Gs.cells (g : Gs) : List Value := [.int .i64 g.me, .int .i64 g.ticks, .int .i64 g.last] ++ lanesC g.rs ++ g.ts.map (Value.int .i64)
def Gs.len9 (g : Gs) : Prop := g.rs.length = 9 ∧ g.ts.length = 9
def GAt (T : TypeId) (w : World) (b : Nat) (g : Gs) : Prop := w.heap[b]? = some (.cells g.cells.toArray T (0, 0)) ∧ g.len9
section
variable {T : TypeId} {w w' : World} {b : Nat} {g : Gs}
theorem GAt.keep {S : List Nat} (h : GAt T w b g) (k : Keep S w w') (hb : b ∉ S) : GAt T w' b g := ⟨k.at h.1 hb, h.2⟩
theorem GAt.drew (h : GAt T w b g) : GAt T w.drew b g := h
theorem GAt.lt (h : GAt T w b g) : b < w.heap.size := lt_of_blk h.1
theorem GAt.thaw (h : GAt T w b g) (i : Nat) : w.frozen? ⟨b, i, none⟩ = false := Go.thaw h.1 i
theorem GAt.head (h : GAt T w b g) : w.cell? ⟨b, 0, none⟩ = some (.int .i64 g.me) ∧ w.cell? ⟨b, 1, none⟩ = some (.int .i64 g.ticks) ∧ w.cell? ⟨b, 2, none⟩ = some (.int .i64 g.last) := by
  refine ⟨?_, ?_, ?_⟩ <;> (rw [cellAt h.1]; simp [Gs.cells])
theorem Gs.row_at (hl : g.len9) {i f : Nat} (hi : i < 9) (hf : f < 3) : g.cells[3 + (i * 3 + f)]? = (lat g.rs i).cells[f]? := by
  have h1 := lanesC_len g.rs
  have h2 := hl.1
  rw [Gs.cells, List.append_assoc, List.getElem?_append_right (by simp), List.getElem?_append_left (by simp only [List.length_cons, List.length_nil]; omega)]
  rw [← lanesC_at g.rs i f (by omega) hf]
  congr 1
  simp only [List.length_cons, List.length_nil]; omega
theorem Gs.timer_at (hl : g.len9) {i : Nat} (hi : i < 9) : g.cells[30 + i]? = some (.int .i64 (g.ts.getD i 0)) := by
  have h1 := lanesC_len g.rs
  have h2 := hl.1
  have h3 := hl.2
  rw [Gs.cells, List.getElem?_append_right (by simp only [List.length_append, List.length_cons, List.length_nil]; omega)]
  rw [show 30 + i - ([Value.int .i64 g.me, .int .i64 g.ticks, .int .i64 g.last] ++ lanesC g.rs).length = i by simp only [List.length_append, List.length_cons, List.length_nil]; omega]
  simp [List.getD_eq_getElem?_getD, show i < g.ts.length by omega]
theorem GAt.row (h : GAt T w b g) {i : Nat} (hi : i < 9) : w.cell? ⟨b, 3 + i * 3, none⟩ = some (.int .i64 (lat g.rs i).q) ∧ w.cell? ⟨b, 3 + i * 3 + 1, none⟩ = some (.int .i64 (lat g.rs i).g) ∧ w.cell? ⟨b, 3 + i * 3 + 2, none⟩ = some (.int .i64 (lat g.rs i).u) := by
  have at_ : ∀ f, f < 3 → w.cell? ⟨b, 3 + (i * 3 + f), none⟩ = (lat g.rs i).cells[f]? := fun f hf => by
    rw [cellAt h.1]
    simpa using Gs.row_at h.2 hi hf
  exact ⟨at_ 0 (by omega), at_ 1 (by omega), at_ 2 (by omega)⟩
theorem GAt.timer (h : GAt T w b g) {i : Nat} (hi : i < 9) : w.cell? ⟨b, 30 + i, none⟩ = some (.int .i64 (g.ts.getD i 0)) := by
  rw [cellAt h.1]
  simpa using Gs.timer_at h.2 hi
theorem Gs.set_row (g : Gs) (hl : g.len9) {i f : Nat} (hi : i < 9) (hf : f < 3) (v : Value) (L : Ln) (hL : (lat g.rs i).cells.set f v = L.cells) :
    g.cells.set (3 + (i * 3 + f)) v = Gs.cells { g with rs := g.rs.set i L } := by
  have h1 := lanesC_len g.rs
  have h2 := hl.1
  simp only [Gs.cells, List.append_assoc]
  rw [List.set_append_right _ _ (by simp)]
  congr 1
  rw [List.set_append_left _ _ (by simp only [List.length_cons, List.length_nil]; omega), show 3 + (i * 3 + f) - [Value.int .i64 g.me, .int .i64 g.ticks, .int .i64 g.last].length = i * 3 + f by simp, lanes_put g.rs i f v L (by omega) hf hL]
theorem Gs.set_timer (g : Gs) (hl : g.len9) {i : Nat} (hi : i < 9) (t : Int) : g.cells.set (30 + i) (.int .i64 t) = Gs.cells { g with ts := g.ts.set i t } := by
  have h1 := lanesC_len g.rs
  have h2 := hl.1
  simp only [Gs.cells]
  rw [List.set_append_right _ _ (by simp only [List.length_append, List.length_cons, List.length_nil]; omega)]
  congr 1
  rw [show 30 + i - ([Value.int .i64 g.me, .int .i64 g.ticks, .int .i64 g.last] ++ lanesC g.rs).length = i by simp only [List.length_append, List.length_cons, List.length_nil]; omega, ← List.map_set]
theorem GAt.putRow (h : GAt T w b g) {i : Nat} (hi : i < 9) (f : Nat) (hf : f < 3) (v : Value) (L : Ln) (hL : (lat g.rs i).cells.set f v = L.cells) :
    GAt T (w.setCell ⟨b, 3 + i * 3 + f, none⟩ v) b { g with rs := g.rs.set i L } := by
  refine ⟨?_, by simpa [Gs.len9] using h.2⟩
  rw [blk_setCell, if_pos rfl, h.1, Option.map_some, Obj.put_cells, ← Gs.set_row g h.2 hi hf v L hL, Nat.add_assoc]
  simp
theorem GAt.putTimer (h : GAt T w b g) {i : Nat} (hi : i < 9) (t : Int) : GAt T (w.setCell ⟨b, 30 + i, none⟩ (.int .i64 t)) b { g with ts := g.ts.set i t } := by
  refine ⟨?_, by simpa [Gs.len9] using h.2⟩
  rw [blk_setCell, if_pos rfl, h.1, Option.map_some, Obj.put_cells, ← Gs.set_timer g h.2 hi t]
  simp
theorem GAt.putLast (h : GAt T w b g) (t : Int) : GAt T (w.setCell ⟨b, 2, none⟩ (.int .i64 t)) b { g with last := t } := by
  refine ⟨?_, h.2⟩
  rw [blk_setCell, if_pos rfl, h.1, Option.map_some, Obj.put_cells]
  simp [Gs.cells]
end
end Go
