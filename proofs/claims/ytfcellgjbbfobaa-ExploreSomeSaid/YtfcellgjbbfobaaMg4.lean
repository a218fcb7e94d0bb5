/- Texts laid together: R3 EP1 EP2 EP5. -/
import Derived.Test.YtfcellgjbbfobaaMg3
namespace Go
/-- A lane: requested, granted, used. -/
structure Ln where
  q : Int
  g : Int
  u : Int
def Ln.cells (l : Ln) : List Value := [.int .i64 l.q, .int .i64 l.g, .int .i64 l.u]
def lanesC (ls : List Ln) : List Value := ls.flatMap Ln.cells
theorem lanesC_len (ls : List Ln) : (lanesC ls).length = 3 * ls.length := by
  induction ls with
  | nil => rfl
  | cons l ls ih => simp [lanesC, Ln.cells] at *; omega
theorem lanesC_at (ls : List Ln) : ∀ (i f : Nat), i < ls.length → f < 3 → (lanesC ls)[i * 3 + f]? = (ls.getD i ⟨0, 0, 0⟩).cells[f]? := by
  induction ls with
  | nil => intro i f h; simp at h
  | cons l ls ih =>
    intro i f h hf
    cases i with
    | zero =>
      simp only [lanesC, List.flatMap_cons, Nat.zero_mul, Nat.zero_add, List.getD_cons_zero]
      rw [List.getElem?_append_left (by simp [Ln.cells]; omega)]
    | succ i =>
      simp only [List.length_cons] at h
      simp only [lanesC, List.flatMap_cons, List.getD_cons_succ]
      rw [List.getElem?_append_right (by simp [Ln.cells]; omega)]
      have := ih i f (by omega) hf
      rw [← this]
      congr 1
      simp [Ln.cells]; omega
theorem lanesC_set (ls : List Ln) : ∀ (i f : Nat) (v : Value), i < ls.length → f < 3 → (lanesC ls).set (i * 3 + f) v = (lanesC (ls.take i)) ++ (ls.getD i ⟨0, 0, 0⟩).cells.set f v ++ lanesC (ls.drop (i + 1)) := by
  induction ls with
  | nil => intro i f v h; simp at h
  | cons l ls ih =>
    intro i f v h hf
    cases i with
    | zero =>
      simp only [lanesC, List.flatMap_cons, Nat.zero_mul, Nat.zero_add, List.getD_cons_zero, List.take_zero, List.flatMap_nil, List.nil_append, List.drop_succ_cons, List.drop_zero]
      rw [List.set_append_left _ _ (by simp [Ln.cells]; omega)]
    | succ i =>
      simp only [List.length_cons] at h
      have := ih i f v (by omega) hf
      simp only [lanesC, List.flatMap_cons, List.getD_cons_succ, List.take_succ_cons, List.drop_succ_cons] at *
      rw [List.set_append_right _ _ (by simp [Ln.cells]; omega), show (i + 1) * 3 + f - l.cells.length = i * 3 + f by simp [Ln.cells]; omega, this]
      simp
end Go
namespace Go
abbrev lat (ls : List Ln) (i : Nat) : Ln := ls.getD i ⟨0, 0, 0⟩
theorem lanes_put (ls : List Ln) (i f : Nat) (v : Value) (L : Ln) (hi : i < ls.length) (hf : f < 3) (hL : (lat ls i).cells.set f v = L.cells) : (lanesC ls).set (i * 3 + f) v = lanesC (ls.set i L) := by
  rw [lanesC_set ls i f v hi hf, hL, List.set_eq_take_append_cons_drop, if_pos hi]
  simp [lanesC]
theorem lat_set (ls : List Ln) (i j : Nat) (L : Ln) (hi : i < ls.length) : lat (ls.set i L) j = if i = j then L else lat ls j := by
  simp only [lat, List.getD_eq_getElem?_getD, List.getElem?_set]
  split
  · rename_i e; subst e; simp
  · rfl
theorem lat_mem {ls : List Ln} {i : Nat} (hi : i < ls.length) : lat ls i ∈ ls := by
  rw [lat, List.getD_eq_getElem?_getD, List.getElem?_eq_getElem hi]; exact List.getElem_mem hi
theorem mem_lat {ls : List Ln} {l : Ln} (h : l ∈ ls) : ∃ i, i < ls.length ∧ lat ls i = l := by
  obtain ⟨i, hi, rfl⟩ := List.getElem_of_mem h
  exact ⟨i, hi, by simp [lat, List.getD_eq_getElem?_getD, hi]⟩
theorem lat_ext {a b : List Ln} (hl : a.length = b.length) (h : ∀ i, i < a.length → lat a i = lat b i) : a = b := by
  refine List.ext_getElem hl fun i h1 h2 => ?_
  have := h i h1
  simpa [lat, List.getD_eq_getElem?_getD, h1, h2] using this
/-- What a node knows: rows (node, turn, says) and timers. -/
structure Gs where
  me : Int
  ticks : Int
  last : Int
  rs : List Ln
  ts : List Int
def Gs.cells (g : Gs) : List Value := [.int .i64 g.me, .int .i64 g.ticks, .int .i64 g.last] ++ lanesC g.rs ++ g.ts.map (Value.int .i64)
def Gs.len9 (g : Gs) : Prop := g.rs.length = 9 ∧ g.ts.length = 9
def GAt (T : TypeId) (w : World) (b : Nat) (g : Gs) : Prop := w.heap[b]? = some (.cells g.cells.toArray T (0, 0)) ∧ g.len9
section
variable {T : TypeId} {w w' : World} {b : Nat} {g : Gs}
theorem GAt.keep {S : List Nat} (h : GAt T w b g) (k : Keep S w w') (hb : b ∉ S) : GAt T w' b g := ⟨k.at h.1 hb, h.2⟩
theorem GAt.drew (h : GAt T w b g) : GAt T w.drew b g := h
theorem GAt.lt (h : GAt T w b g) : b < w.heap.size := lt_of_blk h.1
theorem GAt.thaw (h : GAt T w b g) (i : Nat) : w.frozen? ⟨b, i, none⟩ = false := Go.thaw h.1 i
theorem GAt.head (h : GAt T w b g) : w.cell? ⟨b, 0, none⟩ = some (.int .i64 g.me) ∧ w.cell? ⟨b, 1, none⟩ = some (.int .i64 g.ticks) ∧ w.cell? ⟨b, 2, none⟩ = some (.int .i64 g.last) := by
  refine ⟨?_, ?_, ?_⟩ <;> (rw [cellAt h.1]; simp [Gs.cells])
theorem Gs.row_at (hl : g.len9) {i f : Nat} (hi : i < 9) (hf : f < 3) : g.cells[3 + (i * 3 + f)]? = (lat g.rs i).cells[f]? := by
  have h1 := lanesC_len g.rs
  have h2 := hl.1
  rw [Gs.cells, List.append_assoc, List.getElem?_append_right (by simp), List.getElem?_append_left (by simp only [List.length_cons, List.length_nil]; omega)]
  rw [← lanesC_at g.rs i f (by omega) hf]
  congr 1
  simp only [List.length_cons, List.length_nil]; omega
theorem Gs.timer_at (hl : g.len9) {i : Nat} (hi : i < 9) : g.cells[30 + i]? = some (.int .i64 (g.ts.getD i 0)) := by
  have h1 := lanesC_len g.rs
  have h2 := hl.1
  have h3 := hl.2
  rw [Gs.cells, List.getElem?_append_right (by simp only [List.length_append, List.length_cons, List.length_nil]; omega)]
  rw [show 30 + i - ([Value.int .i64 g.me, .int .i64 g.ticks, .int .i64 g.last] ++ lanesC g.rs).length = i by simp only [List.length_append, List.length_cons, List.length_nil]; omega]
  simp [List.getD_eq_getElem?_getD, show i < g.ts.length by omega]
theorem GAt.row (h : GAt T w b g) {i : Nat} (hi : i < 9) : w.cell? ⟨b, 3 + i * 3, none⟩ = some (.int .i64 (lat g.rs i).q) ∧ w.cell? ⟨b, 3 + i * 3 + 1, none⟩ = some (.int .i64 (lat g.rs i).g) ∧ w.cell? ⟨b, 3 + i * 3 + 2, none⟩ = some (.int .i64 (lat g.rs i).u) := by
  have at_ : ∀ f, f < 3 → w.cell? ⟨b, 3 + (i * 3 + f), none⟩ = (lat g.rs i).cells[f]? := fun f hf => by
    rw [cellAt h.1]
    simpa using Gs.row_at h.2 hi hf
  exact ⟨at_ 0 (by omega), at_ 1 (by omega), at_ 2 (by omega)⟩
theorem GAt.timer (h : GAt T w b g) {i : Nat} (hi : i < 9) : w.cell? ⟨b, 30 + i, none⟩ = some (.int .i64 (g.ts.getD i 0)) := by
  rw [cellAt h.1]
  simpa using Gs.timer_at h.2 hi
theorem Gs.set_row (g : Gs) (hl : g.len9) {i f : Nat} (hi : i < 9) (hf : f < 3) (v : Value) (L : Ln) (hL : (lat g.rs i).cells.set f v = L.cells) :
    g.cells.set (3 + (i * 3 + f)) v = Gs.cells { g with rs := g.rs.set i L } := by
  have h1 := lanesC_len g.rs
  have h2 := hl.1
  simp only [Gs.cells, List.append_assoc]
  rw [List.set_append_right _ _ (by simp)]
  congr 1
  rw [List.set_append_left _ _ (by simp only [List.length_cons, List.length_nil]; omega), show 3 + (i * 3 + f) - [Value.int .i64 g.me, .int .i64 g.ticks, .int .i64 g.last].length = i * 3 + f by simp, lanes_put g.rs i f v L (by omega) hf hL]
theorem Gs.set_timer (g : Gs) (hl : g.len9) {i : Nat} (hi : i < 9) (t : Int) : g.cells.set (30 + i) (.int .i64 t) = Gs.cells { g with ts := g.ts.set i t } := by
  have h1 := lanesC_len g.rs
  have h2 := hl.1
  simp only [Gs.cells]
  rw [List.set_append_right _ _ (by simp only [List.length_append, List.length_cons, List.length_nil]; omega)]
  congr 1
  rw [show 30 + i - ([Value.int .i64 g.me, .int .i64 g.ticks, .int .i64 g.last] ++ lanesC g.rs).length = i by simp only [List.length_append, List.length_cons, List.length_nil]; omega, ← List.map_set]
theorem GAt.putRow (h : GAt T w b g) {i : Nat} (hi : i < 9) (f : Nat) (hf : f < 3) (v : Value) (L : Ln) (hL : (lat g.rs i).cells.set f v = L.cells) :
    GAt T (w.setCell ⟨b, 3 + i * 3 + f, none⟩ v) b { g with rs := g.rs.set i L } := by
  refine ⟨?_, by simpa [Gs.len9] using h.2⟩
  rw [blk_setCell, if_pos rfl, h.1, Option.map_some, Obj.put_cells, ← Gs.set_row g h.2 hi hf v L hL, Nat.add_assoc]
  simp
theorem GAt.putTimer (h : GAt T w b g) {i : Nat} (hi : i < 9) (t : Int) : GAt T (w.setCell ⟨b, 30 + i, none⟩ (.int .i64 t)) b { g with ts := g.ts.set i t } := by
  refine ⟨?_, by simpa [Gs.len9] using h.2⟩
  rw [blk_setCell, if_pos rfl, h.1, Option.map_some, Obj.put_cells, ← Gs.set_timer g h.2 hi t]
  simp
theorem GAt.putLast (h : GAt T w b g) (t : Int) : GAt T (w.setCell ⟨b, 2, none⟩ (.int .i64 t)) b { g with last := t } := by
  refine ⟨?_, h.2⟩
  rw [blk_setCell, if_pos rfl, h.1, Option.map_some, Obj.put_cells]
  simp [Gs.cells]
end
end Go
/- Explore: programs, states (twelve numbers: cells, hands, places), what the next step of one does; plain. -/
namespace Go.Ex
open Go.Bf
def DoOk (d : Ln) : Prop := (1 ≤ d.q ∧ d.q ≤ 4) ∧ (0 ≤ d.g ∧ d.g < 4) ∧ -1000 ≤ d.u ∧ d.u ≤ 1000
structure PsOk (ps : List (List Ln)) : Prop where
  few : ps.length ≤ 4
  all : ∀ p ∈ ps, ∀ d ∈ p, DoOk d
  tot : ps.flatten.length ≤ 12
def eff (d : Ln) (who : Nat) (s : List Int) : List Int :=
  if d.q = 1 then s.set (4 + who) (s.getD d.g.toNat 0)
  else if d.q = 2 then s.set d.g.toNat (s.getD (4 + who) 0 + d.u)
  else if d.q = 3 then s.set d.g.toNat (s.getD d.g.toNat 0 + d.u)
  else s
def opAt (ps : List (List Ln)) (who : Nat) (s : List Int) : Option Ln := (ps.getD who [])[(s.getD (8 + who) 0).toNat]?
def nx (ps : List (List Ln)) (who : Nat) (s : List Int) : Option (List Int) :=
  match opAt ps who s with
  | none => none
  | some d => if d.q = 4 ∧ s.getD d.g.toNat 0 ≠ d.u then none else some ((eff d who s).set (8 + who) (s.getD (8 + who) 0 + 1))
def s0 : List Int := [0, 0, 0, 0, 0, 0, 0, 0, 0, 0, 0, 0]
/-- How many steps were done. -/
def steps (s : List Int) : Int := s.getD 8 0 + s.getD 9 0 + s.getD 10 0 + s.getD 11 0
structure SOk (ps : List (List Ln)) (s : List Int) : Prop where
  len : s.length = 12
  at_ : ∀ who, who < 4 → 0 ≤ s.getD (8 + who) 0 ∧ s.getD (8 + who) 0 ≤ (ps.getD who []).length
  bd : ∀ i, i < 8 → -1000 * steps s ≤ s.getD i 0 ∧ s.getD i 0 ≤ 1000 * steps s
theorem getD_set {s : List Int} {i j : Nat} {v : Int} (hi : i < s.length) : (s.set i v).getD j 0 = if j = i then v else s.getD j 0 := by
  rw [List.getD_eq_getElem?_getD, List.getElem?_set]
  by_cases e : j = i
  · subst e; rw [if_pos rfl, if_pos hi, if_pos rfl]; rfl
  · rw [if_neg (fun h => e h.symm), if_neg e, List.getD_eq_getElem?_getD]
theorem sum4_le (ps : List (List Ln)) (h : ps.length ≤ 4) : (ps.getD 0 []).length + (ps.getD 1 []).length + (ps.getD 2 []).length + (ps.getD 3 []).length = ps.flatten.length := by
  match ps, h with
  | [], _ => rfl
  | [a], _ => simp
  | [a, b], _ => simp
  | [a, b, c], _ => simp; omega
  | [a, b, c, d], _ => simp; omega
theorem steps_le {ps : List (List Ln)} {s : List Int} (hp : PsOk ps) (h : SOk ps s) : 0 ≤ steps s ∧ steps s ≤ ps.flatten.length := by
  have h0 := h.at_ 0 (by omega)
  have h1 := h.at_ 1 (by omega)
  have h2 := h.at_ 2 (by omega)
  have h3 := h.at_ 3 (by omega)
  have h4 := sum4_le ps hp.few
  unfold steps
  simp only [Nat.add_zero, show 8 + 1 = 9 from rfl, show 8 + 2 = 10 from rfl, show 8 + 3 = 11 from rfl] at h0 h1 h2 h3
  omega
theorem SOk.start (ps : List (List Ln)) : SOk ps s0 := by
  refine ⟨rfl, fun who h => ?_, fun i h => ?_⟩
  · obtain rfl | rfl | rfl | rfl : who = 0 ∨ who = 1 ∨ who = 2 ∨ who = 3 := by omega
    all_goals (refine ⟨by decide, ?_⟩; show (0 : Int) ≤ _; omega)
  · obtain rfl | rfl | rfl | rfl | rfl | rfl | rfl | rfl : i = 0 ∨ i = 1 ∨ i = 2 ∨ i = 3 ∨ i = 4 ∨ i = 5 ∨ i = 6 ∨ i = 7 := by omega
    all_goals decide
theorem opAt_lt {ps : List (List Ln)} {who : Nat} {s : List Int} {d : Ln} (h : opAt ps who s = some d) : who < ps.length ∧ d ∈ ps.getD who [] ∧ ps.getD who [] ∈ ps ∧ (s.getD (8 + who) 0).toNat < (ps.getD who []).length := by
  unfold opAt at h
  have hl := (List.getElem?_eq_some_iff.1 h).1
  have hw : who < ps.length := by
    refine Classical.byContradiction fun hn => ?_
    have e : ps.getD who [] = [] := by rw [List.getD_eq_getElem?_getD, List.getElem?_eq_none (by omega)]; rfl
    rw [e] at hl
    simp at hl
  refine ⟨hw, List.mem_of_getElem? h, ?_, hl⟩
  rw [List.getD_eq_getElem?_getD, List.getElem?_eq_getElem hw]
  exact List.getElem_mem hw
theorem nx_some {ps : List (List Ln)} {who : Nat} {s t : List Int} (h : nx ps who s = some t) : ∃ d, opAt ps who s = some d ∧ ¬ (d.q = 4 ∧ s.getD d.g.toNat 0 ≠ d.u) ∧ t = (eff d who s).set (8 + who) (s.getD (8 + who) 0 + 1) := by
  unfold nx at h
  split at h
  · cases h
  · rename_i d hd
    split at h
    · cases h
    · rename_i hg
      injection h with h
      exact ⟨d, hd, hg, h.symm⟩
theorem eff_len (d : Ln) (who : Nat) (s : List Int) : (eff d who s).length = s.length := by
  unfold eff
  split
  · simp
  · split
    · simp
    · split
      · simp
      · rfl
theorem eff_hi {d : Ln} (hd : DoOk d) {who : Nat} (hw : who < 4) {s : List Int} (hl : s.length = 12) {i : Nat} (hi : 8 ≤ i) : (eff d who s).getD i 0 = s.getD i 0 := by
  obtain ⟨_, ⟨h1, h2⟩, _⟩ := hd
  unfold eff
  split
  · rw [getD_set (by omega), if_neg (by omega)]
  · split
    · rw [getD_set (by omega), if_neg (by omega)]
    · split
      · rw [getD_set (by omega), if_neg (by omega)]
      · rfl
theorem SOk.next {ps : List (List Ln)} {who : Nat} {s t : List Int} (hp : PsOk ps) (h : SOk ps s) (hn : nx ps who s = some t) : SOk ps t ∧ steps t = steps s + 1 ∧ who < ps.length := by
  obtain ⟨d, hd, _, rfl⟩ := nx_some hn
  obtain ⟨hw, hmem, hpm, hlt⟩ := opAt_lt hd
  have hok := hp.all _ hpm _ hmem
  have hw4 : who < 4 := by have := hp.few; omega
  have hl := h.len
  have hle : (eff d who s).length = 12 := by rw [eff_len, hl]
  have hg : ∀ j, ((eff d who s).set (8 + who) (s.getD (8 + who) 0 + 1)).getD j 0 = if j = 8 + who then s.getD (8 + who) 0 + 1 else (eff d who s).getD j 0 := fun j => getD_set (by omega)
  have hhi : ∀ j, 8 ≤ j → ((eff d who s).set (8 + who) (s.getD (8 + who) 0 + 1)).getD j 0 = if j = 8 + who then s.getD (8 + who) 0 + 1 else s.getD j 0 := fun j hj => by rw [hg, eff_hi hok hw4 hl hj]
  have hst : steps ((eff d who s).set (8 + who) (s.getD (8 + who) 0 + 1)) = steps s + 1 := by
    unfold steps
    rw [hhi 8 (by omega), hhi 9 (by omega), hhi 10 (by omega), hhi 11 (by omega)]
    obtain rfl | rfl | rfl | rfl : who = 0 ∨ who = 1 ∨ who = 2 ∨ who = 3 := by omega
    all_goals (simp; omega)
  refine ⟨⟨by rw [List.length_set, hle], fun z hz => ?_, fun i hi => ?_⟩, hst, hw⟩
  · have h1 := h.at_ z hz
    rw [hhi _ (by omega)]
    by_cases e : z = who
    · subst e
      rw [if_pos rfl]
      omega
    · rw [if_neg (by omega)]; exact h1
  · rw [hst, hg, if_neg (by omega)]
    have hsl := (steps_le hp h).1
    have hb := h.bd i hi
    obtain ⟨_, ⟨h1, h2⟩, h3, h4⟩ := hok
    have hbg := h.bd d.g.toNat (by omega)
    have hbh := h.bd (4 + who) (by omega)
    unfold eff
    split
    · rw [getD_set (by omega)]
      split <;> omega
    · split
      · rw [getD_set (by omega)]
        split <;> omega
      · split
        · rw [getD_set (by omega)]
          split <;> omega
        · omega
theorem reach_ok {ps : List (List Ln)} (hp : PsOk ps) {s : List Int} (h : Rc ps.length (nx ps) s0 s) : SOk ps s := by
  induction h with
  | start => exact .start ps
  | step _ _ hn ih => exact (ih.next hp hn).1
/-- All that can be come to in k steps. -/
def lvl (ps : List (List Ln)) : Nat → List (List Int)
  | 0 => [s0]
  | k + 1 => (lvl ps k).flatMap fun s => (List.range ps.length).filterMap fun j => nx ps j s
def allS (ps : List (List Ln)) : List (List Int) := (List.range 13).flatMap (lvl ps)
theorem reach_lvl {ps : List (List Ln)} (hp : PsOk ps) {s : List Int} (h : Rc ps.length (nx ps) s0 s) : s ∈ lvl ps (steps s).toNat := by
  induction h with
  | start => exact List.mem_singleton.2 rfl
  | step hr hj hn ih =>
    rename_i c s j
    have hok := reach_ok hp hr
    obtain ⟨_, h2, _⟩ := hok.next hp hn
    have h3 := (steps_le hp hok).1
    rw [h2, show (steps c + 1).toNat = (steps c).toNat + 1 by omega]
    exact List.mem_flatMap.2 ⟨c, ih, List.mem_filterMap.2 ⟨j, List.mem_range.2 hj, hn⟩⟩
theorem reach_all {ps : List (List Ln)} (hp : PsOk ps) {s : List Int} (h : Rc ps.length (nx ps) s0 s) : s ∈ allS ps := by
  have h1 := steps_le hp (reach_ok hp h)
  have h2 := hp.tot
  exact List.mem_flatMap.2 ⟨_, List.mem_range.2 (by omega), reach_lvl hp h⟩
theorem flatMap_len {α β : Type} {f : α → List β} {m : Nat} : ∀ {l : List α}, (∀ x ∈ l, (f x).length ≤ m) → (l.flatMap f).length ≤ l.length * m
  | [], _ => by simp
  | a :: l, h => by
    rw [List.flatMap_cons, List.length_append, List.length_cons, Nat.succ_mul]
    have h1 := h a (List.mem_cons_self ..)
    have h2 := flatMap_len (l := l) (fun x hx => h x (List.mem_cons_of_mem _ hx))
    omega
theorem lvl_len {ps : List (List Ln)} (hp : PsOk ps) : ∀ k, (lvl ps k).length ≤ 4 ^ k
  | 0 => Nat.le_refl _
  | k + 1 => by
    have h1 := lvl_len hp k
    have h2 := flatMap_len (l := lvl ps k) (f := fun s => (List.range ps.length).filterMap fun j => nx ps j s) (m := 4) (fun s _ => Nat.le_trans (List.length_filterMap_le ..) (by rw [List.length_range]; exact hp.few))
    show ((lvl ps k).flatMap _).length ≤ _
    rw [Nat.pow_succ]
    exact Nat.le_trans h2 (Nat.mul_le_mul_right _ h1)
theorem allS_len {ps : List (List Ln)} (hp : PsOk ps) : (allS ps).length ≤ 218103808 := by
  have h := flatMap_len (l := List.range 13) (f := lvl ps) (m := 4 ^ 12) (fun k hk => by
    rw [List.mem_range] at hk
    exact Nat.le_trans (lvl_len hp k) (Nat.pow_le_pow_right (by omega) (by omega)))
  rw [List.length_range] at h
  exact Nat.le_trans h (by decide)
/-- Nothing more can be done. -/
def fin (ps : List (List Ln)) (s : List Int) : Bool := (List.range ps.length).all fun j => (nx ps j s).isNone
theorem fin_iff {ps : List (List Ln)} {s : List Int} : fin ps s = true ↔ ∀ j, j < ps.length → nx ps j s = none := by
  unfold fin
  rw [List.all_eq_true]
  constructor
  · intro h j hj
    have := h j (List.mem_range.2 hj)
    simpa using this
  · intro h j hj
    rw [List.mem_range] at hj
    simp [h j hj]
theorem fin_ex {ps : List (List Ln)} (hp : PsOk ps) : ∀ (k : Nat) (s : List Int), Rc ps.length (nx ps) s0 s → ((12 : Int) - steps s).toNat ≤ k → ∃ t, Rc ps.length (nx ps) s0 t ∧ fin ps t = true := by
  intro k
  induction k with
  | zero =>
    intro s hr hk
    refine ⟨s, hr, fin_iff.2 fun j hj => ?_⟩
    cases hn : nx ps j s with
    | none => rfl
    | some t =>
      have h1 := (reach_ok hp hr).next hp hn
      have h2 := steps_le hp h1.1
      have h3 := hp.tot
      omega
  | succ k ih =>
    intro s hr hk
    by_cases hf : fin ps s = true
    · exact ⟨s, hr, hf⟩
    · have hf' : ¬ ∀ j, j < ps.length → nx ps j s = none := fun h => hf (fin_iff.2 h)
      obtain ⟨j, hj, t, hn⟩ : ∃ j, j < ps.length ∧ ∃ t, nx ps j s = some t := by
        refine Classical.byContradiction fun hno => hf' fun j hj => ?_
        cases hn : nx ps j s with
        | none => rfl
        | some t => exact absurd ⟨j, hj, t, hn⟩ hno
      have h1 := (reach_ok hp hr).next hp hn
      exact ih t (.step hr hj hn) (by omega)
end Go.Ex
/- Explore: what is just added is all there in the end; of three taken apart some may be lost; plain. -/
namespace Go.Ex
open Go.Bf
def sumC (c : Nat) (l : List Ln) : Int := (l.map fun d => if d.g = (c : Int) then d.u else 0).sum
theorem sumC_app (c : Nat) (a b : List Ln) : sumC c (a ++ b) = sumC c a + sumC c b := by simp [sumC]
theorem sumC_take {c : Nat} {l : List Ln} {n : Nat} {d : Ln} (h : l[n]? = some d) : sumC c (l.take (n + 1)) = sumC c (l.take n) + if d.g = (c : Int) then d.u else 0 := by
  rw [List.take_add_one, h, sumC_app]; simp [sumC]
theorem sumC4 (c : Nat) (ps : List (List Ln)) (h : ps.length ≤ 4) : sumC c (ps.getD 0 []) + sumC c (ps.getD 1 []) + sumC c (ps.getD 2 []) + sumC c (ps.getD 3 []) = sumC c ps.flatten := by
  match ps, h with
  | [], _ => rfl
  | [a], _ => simp [sumC]
  | [a, b], _ => simp [sumC]
  | [a, b, c], _ => simp [sumC]; omega
  | [a, b, c, d], _ => simp [sumC]; omega
def done (ps : List (List Ln)) (s : List Int) (c who : Nat) : Int := sumC c ((ps.getD who []).take (s.getD (8 + who) 0).toNat)
theorem adds_inv {ps : List (List Ln)} (hp : PsOk ps) (ha : ∀ p ∈ ps, ∀ d ∈ p, d.q = 3) {s : List Int} (h : Rc ps.length (nx ps) s0 s) : (∀ c, c < 4 → s.getD c 0 = done ps s c 0 + done ps s c 1 + done ps s c 2 + done ps s c 3) ∧ ∀ i, i < 4 → s.getD (4 + i) 0 = 0 := by
  induction h with
  | start =>
    constructor
    · intro c hc
      have hz : ∀ who, who < 4 → done ps s0 c who = 0 := fun who hw => by
        unfold done
        rw [show s0.getD (8 + who) 0 = 0 by obtain rfl | rfl | rfl | rfl : who = 0 ∨ who = 1 ∨ who = 2 ∨ who = 3 := by omega
                                            all_goals rfl]
        rfl
      rw [hz 0 (by omega), hz 1 (by omega), hz 2 (by omega), hz 3 (by omega)]
      obtain rfl | rfl | rfl | rfl : c = 0 ∨ c = 1 ∨ c = 2 ∨ c = 3 := by omega
      all_goals rfl
    · intro i hi
      obtain rfl | rfl | rfl | rfl : i = 0 ∨ i = 1 ∨ i = 2 ∨ i = 3 := by omega
      all_goals rfl
  | step hr hj hn ih =>
    rename_i s t who
    obtain ⟨ih1, ih2⟩ := ih
    have hok := reach_ok hp hr
    obtain ⟨d, hd, _, rfl⟩ := nx_some hn
    obtain ⟨_, hmem, hpm, hlt⟩ := opAt_lt hd
    have hdo := hp.all _ hpm _ hmem
    have hq := ha _ hpm _ hmem
    have hw4 : who < 4 := by have := hp.few; omega
    have hl := hok.len
    have hle : (eff d who s).length = 12 := by rw [eff_len, hl]
    have heq : eff d who s = s.set d.g.toNat (s.getD d.g.toNat 0 + d.u) := by unfold eff; rw [if_neg (by omega), if_neg (by omega), if_pos hq]
    obtain ⟨_, ⟨hg1, hg2⟩, _⟩ := hdo
    have hat := hok.at_ who hw4
    have hg : ∀ j, ((eff d who s).set (8 + who) (s.getD (8 + who) 0 + 1)).getD j 0 = if j = 8 + who then s.getD (8 + who) 0 + 1 else if j = d.g.toNat then s.getD d.g.toNat 0 + d.u else s.getD j 0 := fun j => by
      rw [getD_set (by omega), heq, getD_set (by omega)]
    have hdone : ∀ c, c < 4 → ∀ z, z < 4 → done ps ((eff d who s).set (8 + who) (s.getD (8 + who) 0 + 1)) c z = done ps s c z + if z = who then (if d.g = (c : Int) then d.u else 0) else 0 := fun c hc z hz => by
      unfold done
      rw [hg]
      by_cases e : z = who
      · subst e
        rw [if_pos rfl, if_pos rfl, show (s.getD (8 + z) 0 + 1).toNat = (s.getD (8 + z) 0).toNat + 1 by omega]
        exact sumC_take hd
      · rw [if_neg (by omega), if_neg (by omega), if_neg e, Int.add_zero]
    constructor
    · intro c hc
      rw [hdone c hc 0 (by omega), hdone c hc 1 (by omega), hdone c hc 2 (by omega), hdone c hc 3 (by omega), hg, if_neg (by omega)]
      have h1 := ih1 c hc
      by_cases e : c = d.g.toNat
      · subst e
        rw [if_pos rfl, h1, show ((d.g.toNat : Nat) : Int) = d.g by omega]
        simp only [if_true]
        obtain rfl | rfl | rfl | rfl : who = 0 ∨ who = 1 ∨ who = 2 ∨ who = 3 := by omega
        all_goals (simp; omega)
      · rw [if_neg e, h1, if_neg (show ¬ d.g = (c : Int) by omega)]
        simp
    · intro i hi
      rw [hg, if_neg (by omega), if_neg (by omega)]
      exact ih2 i hi
def wantS (ps : List (List Ln)) : List Int := [sumC 0 ps.flatten, sumC 1 ps.flatten, sumC 2 ps.flatten, sumC 3 ps.flatten, 0, 0, 0, 0, (ps.getD 0 []).length, (ps.getD 1 []).length, (ps.getD 2 []).length, (ps.getD 3 []).length]
theorem ext12 {a b : List Int} (ha : a.length = 12) (hb : b.length = 12) (h : ∀ i, i < 12 → a.getD i 0 = b.getD i 0) : a = b := by
  refine List.ext_getElem (by rw [ha, hb]) fun i h1 h2 => ?_
  have h3 := h i (by omega)
  rw [List.getD_eq_getElem?_getD, List.getD_eq_getElem?_getD, List.getElem?_eq_getElem h1, List.getElem?_eq_getElem h2] at h3
  exact h3
theorem adds_end {ps : List (List Ln)} (hp : PsOk ps) (ha : ∀ p ∈ ps, ∀ d ∈ p, d.q = 3) {s : List Int} (h : Rc ps.length (nx ps) s0 s) (hf : fin ps s = true) : s = wantS ps := by
  obtain ⟨h1, h2⟩ := adds_inv hp ha h
  have hok := reach_ok hp h
  rw [fin_iff] at hf
  have hat : ∀ who, who < 4 → s.getD (8 + who) 0 = (ps.getD who []).length := fun who hw => by
    have h3 := hok.at_ who hw
    by_cases hl : who < ps.length
    · have h4 := hf who hl
      unfold nx at h4
      split at h4
      · rename_i hn
        unfold opAt at hn
        rw [List.getElem?_eq_none_iff] at hn
        omega
      · rename_i d hd
        obtain ⟨_, hmem, hpm, _⟩ := opAt_lt hd
        rw [if_neg (by rw [ha _ hpm _ hmem]; omega)] at h4
        cases h4
    · have h5 : ps.getD who [] = [] := by rw [List.getD_eq_getElem?_getD, List.getElem?_eq_none (by omega)]; rfl
      rw [h5] at h3 ⊢
      simp at h3 ⊢
      omega
  have hdn : ∀ c who, who < 4 → done ps s c who = sumC c (ps.getD who []) := fun c who hw => by
    unfold done
    rw [hat who hw, Int.toNat_natCast, List.take_length]
  have hc : ∀ c, c < 4 → s.getD c 0 = sumC c ps.flatten := fun c hc => by
    rw [h1 c hc, hdn c 0 (by omega), hdn c 1 (by omega), hdn c 2 (by omega), hdn c 3 (by omega), sumC4 c ps hp.few]
  refine ext12 hok.len rfl fun i hi => ?_
  obtain rfl | rfl | rfl | rfl | rfl | rfl | rfl | rfl | rfl | rfl | rfl | rfl : i = 0 ∨ i = 1 ∨ i = 2 ∨ i = 3 ∨ i = 4 ∨ i = 5 ∨ i = 6 ∨ i = 7 ∨ i = 8 ∨ i = 9 ∨ i = 10 ∨ i = 11 := by omega
  · exact hc 0 (by omega)
  · exact hc 1 (by omega)
  · exact hc 2 (by omega)
  · exact hc 3 (by omega)
  · exact h2 0 (by omega)
  · exact h2 1 (by omega)
  · exact h2 2 (by omega)
  · exact h2 3 (by omega)
  · exact hat 0 (by omega)
  · exact hat 1 (by omega)
  · exact hat 2 (by omega)
  · exact hat 3 (by omega)
/-- What Ends answers: every end once. -/
structure EndsOf (ps : List (List Ln)) (E : List (List Int)) : Prop where
  nodup : E.Nodup
  mem : ∀ s, s ∈ E ↔ Rc ps.length (nx ps) s0 s ∧ fin ps s = true
theorem adds_one {ps : List (List Ln)} (hp : PsOk ps) (ha : ∀ p ∈ ps, ∀ d ∈ p, d.q = 3) {E : List (List Int)} (he : EndsOf ps E) : E = [wantS ps] := by
  obtain ⟨t, ht, hf⟩ := fin_ex hp 12 s0 .start (by decide)
  have h1 := adds_end hp ha ht hf
  have h2 : ∀ s ∈ E, s = wantS ps := fun s hs => adds_end hp ha ((he.mem s).1 hs).1 ((he.mem s).1 hs).2
  have h3 : wantS ps ∈ E := h1 ▸ (he.mem t).2 ⟨ht, hf⟩
  have hn := he.nodup
  match E, h2, h3, hn with
  | [], _, h3, _ => simp at h3
  | [x], h2, _, _ => rw [h2 x (by simp)]
  | x :: y :: l, h2, _, hn =>
    rw [List.nodup_cons] at hn
    exact absurd (by rw [h2 x (by simp), h2 y (by simp)]; simp) hn.1
/-- Runs, for examples. -/
def runL (ps : List (List Ln)) : List Nat → List Int → Option (List Int)
  | [], s => some s
  | j :: l, s => if j < ps.length then (nx ps j s).bind (runL ps l) else none
theorem runL_rc {ps : List (List Ln)} : ∀ {l : List Nat} {s t : List Int}, Rc ps.length (nx ps) s0 s → runL ps l s = some t → Rc ps.length (nx ps) s0 t
  | [], s, t, h, hr => by injection hr with hr; exact hr ▸ h
  | j :: l, s, t, h, hr => by
    unfold runL at hr
    split at hr
    · rename_i hj
      cases hn : nx ps j s with
      | none => rw [hn] at hr; cases hr
      | some u => rw [hn] at hr; exact runL_rc (.step h hj hn) hr
    · cases hr
def inc3 : List (List Ln) := [[⟨1, 0, 0⟩, ⟨2, 0, 1⟩], [⟨1, 0, 0⟩, ⟨2, 0, 1⟩], [⟨1, 0, 0⟩, ⟨2, 0, 1⟩]]
def lvlD (ps : List (List Ln)) : Nat → List (List Int)
  | 0 => [s0]
  | k + 1 => ((lvlD ps k).flatMap fun s => (List.range ps.length).filterMap fun j => nx ps j s).eraseDups
def setD (ps : List (List Ln)) (n : Nat) : List (List Int) := (List.range n).flatMap (lvlD ps)
def closed (ps : List (List Ln)) (U : List (List Int)) : Bool := U.contains s0 && U.all fun s => (List.range ps.length).all fun j => match nx ps j s with | none => true | some t => U.contains t
theorem closed_rc {ps : List (List Ln)} {U : List (List Int)} (hc : closed ps U = true) {s : List Int} (h : Rc ps.length (nx ps) s0 s) : s ∈ U := by
  unfold closed at hc
  rw [Bool.and_eq_true, List.all_eq_true] at hc
  induction h with
  | start => simpa using hc.1
  | step _ hj hn ih =>
    have h1 := hc.2 _ ih
    rw [List.all_eq_true] at h1
    have h2 := h1 _ (List.mem_range.2 hj)
    rw [hn] at h2
    simpa using h2
theorem inc3_ok : PsOk inc3 := ⟨by decide, by unfold DoOk inc3; decide, by decide⟩
theorem inc3_low {s : List Int} (h : Rc inc3.length (nx inc3) s0 s) (hf : fin inc3 s = true) : 1 ≤ s.getD 0 0 ∧ s.getD 0 0 ≤ 3 := by
  have h1 := closed_rc (U := setD inc3 7) (by decide +kernel) h
  have h2 : (setD inc3 7).all (fun s => !fin inc3 s || (decide (1 ≤ s.getD 0 0) && decide (s.getD 0 0 ≤ 3))) = true := by decide +kernel
  rw [List.all_eq_true] at h2
  have h3 := h2 s h1
  rw [hf] at h3
  simpa using h3
theorem inc3_one : ∃ s, Rc inc3.length (nx inc3) s0 s ∧ fin inc3 s = true ∧ s.getD 0 0 = 1 := ⟨[1, 0, 0, 0, 0, 0, 0, 0, 2, 2, 2, 0], runL_rc (l := [0, 1, 2, 0, 1, 2]) .start (by decide +kernel), by decide +kernel, rfl⟩
theorem inc3_three : ∃ s, Rc inc3.length (nx inc3) s0 s ∧ fin inc3 s = true ∧ s.getD 0 0 = 3 := ⟨[3, 0, 0, 0, 0, 1, 2, 0, 2, 2, 2, 0], runL_rc (l := [0, 0, 1, 1, 2, 2]) .start (by decide +kernel), by decide +kernel, rfl⟩
def lowF (E : List (List Int)) : Int := E.foldl (fun m s => min m (s.getD 0 0)) 3
def highF (E : List (List Int)) : Int := E.foldl (fun m s => max m (s.getD 0 0)) 0
theorem lowF_snoc (E : List (List Int)) (s : List Int) : lowF (E ++ [s]) = min (lowF E) (s.getD 0 0) := by simp [lowF]
theorem highF_snoc (E : List (List Int)) (s : List Int) : highF (E ++ [s]) = max (highF E) (s.getD 0 0) := by simp [highF]
theorem foldl_low : ∀ (E : List (List Int)) (m : Int), (∀ s ∈ E, E.foldl (fun m s => min m (s.getD 0 0)) m ≤ s.getD 0 0) ∧ (E.foldl (fun m s => min m (s.getD 0 0)) m ≤ m) ∧ ((∀ s ∈ E, 1 ≤ s.getD 0 0) → 1 ≤ m → 1 ≤ E.foldl (fun m s => min m (s.getD 0 0)) m)
  | [], m => ⟨fun s hs => absurd hs (by simp), Int.le_refl _, fun _ h => h⟩
  | x :: E, m => by
    obtain ⟨h1, h2, h3⟩ := foldl_low E (min m (x.getD 0 0))
    simp only [List.foldl_cons]
    refine ⟨fun s hs => ?_, by omega, fun ha hm => h3 (fun s hs => ha s (by simp [hs])) (by have := ha x (by simp); omega)⟩
    rcases List.mem_cons.1 hs with rfl | hs
    · omega
    · exact h1 s hs
theorem foldl_high : ∀ (E : List (List Int)) (m : Int), (∀ s ∈ E, s.getD 0 0 ≤ E.foldl (fun m s => max m (s.getD 0 0)) m) ∧ (m ≤ E.foldl (fun m s => max m (s.getD 0 0)) m) ∧ ((∀ s ∈ E, s.getD 0 0 ≤ 3) → m ≤ 3 → E.foldl (fun m s => max m (s.getD 0 0)) m ≤ 3)
  | [], m => ⟨fun s hs => absurd hs (by simp), Int.le_refl _, fun _ h => h⟩
  | x :: E, m => by
    obtain ⟨h1, h2, h3⟩ := foldl_high E (max m (x.getD 0 0))
    simp only [List.foldl_cons]
    refine ⟨fun s hs => ?_, by omega, fun ha hm => h3 (fun s hs => ha s (by simp [hs])) (by have := ha x (by simp); omega)⟩
    rcases List.mem_cons.1 hs with rfl | hs
    · omega
    · exact h1 s hs
theorem lost_law {E : List (List Int)} (he : EndsOf inc3 E) : lowF E = 1 ∧ highF E = 3 := by
  obtain ⟨a, ha, hfa, h1⟩ := inc3_one
  obtain ⟨b, hb, hfb, h3⟩ := inc3_three
  have hl := foldl_low E 3
  have hh := foldl_high E 0
  have hla := hl.1 a ((he.mem a).2 ⟨ha, hfa⟩)
  have hhb := hh.1 b ((he.mem b).2 ⟨hb, hfb⟩)
  have hl1 := hl.2.2 (fun s hs => (inc3_low ((he.mem s).1 hs).1 ((he.mem s).1 hs).2).1) (by omega)
  have hh1 := hh.2.2 (fun s hs => (inc3_low ((he.mem s).1 hs).1 ((he.mem s).1 hs).2).2) (by omega)
  unfold lowF highF
  omega
def beg2 : List (List Ln) := [[⟨3, 0, 2⟩], [⟨4, 0, 2⟩]]
theorem beg2_ok : PsOk beg2 := ⟨by decide, by unfold DoOk beg2; decide, by decide⟩
theorem beg2_law {E : List (List Int)} (he : EndsOf beg2 E) : E = [[2, 0, 0, 0, 0, 0, 0, 0, 1, 1, 0, 0]] := by
  have hr : Rc beg2.length (nx beg2) s0 [2, 0, 0, 0, 0, 0, 0, 0, 1, 1, 0, 0] := runL_rc (l := [0, 1]) .start (by decide +kernel)
  have h3 : [2, 0, 0, 0, 0, 0, 0, 0, 1, 1, 0, 0] ∈ E := (he.mem _).2 ⟨hr, by decide +kernel⟩
  have h2 : ∀ s ∈ E, s = [2, 0, 0, 0, 0, 0, 0, 0, 1, 1, 0, 0] := fun s hs => by
    obtain ⟨h4, h5⟩ := (he.mem s).1 hs
    have h1 := closed_rc (U := setD beg2 3) (by decide +kernel) h4
    have h6 : (setD beg2 3).all (fun s => !fin beg2 s || decide (s = [2, 0, 0, 0, 0, 0, 0, 0, 1, 1, 0, 0])) = true := by decide +kernel
    rw [List.all_eq_true] at h6
    have h7 := h6 s h1
    rw [h5] at h7
    simpa using h7
  have hn := he.nodup
  match E, h2, h3, hn with
  | [], _, h3, _ => simp at h3
  | [x], h2, _, _ => rw [h2 x (by simp)]
  | x :: y :: l, h2, _, hn =>
    rw [List.nodup_cons] at hn
    exact absurd (by rw [h2 x (by simp), h2 y (by simp)]; simp) hn.1
end Go.Ex
/- Explore: what Run answers; plain. -/
namespace Go.Ex
open Go.Bf
def runP (ps : List (List Ln)) : List Nat → List Int → List Int × Nat
  | [], s => (s, 0)
  | j :: l, s => match nx ps j s with
    | none => (s, 0)
    | some t => ((runP ps l t).1, (runP ps l t).2 + 1)
/-- Whole orders lead to what can be come to. -/
theorem runP_whole {ps : List (List Ln)} : ∀ {l : List Nat} {s : List Int}, Rc ps.length (nx ps) s0 s → (∀ j ∈ l, j < ps.length) → (runP ps l s).2 = l.length → Rc ps.length (nx ps) s0 (runP ps l s).1
  | [], s, h, _, _ => h
  | j :: l, s, h, hl, he => by
    unfold runP at he ⊢
    cases hn : nx ps j s with
    | none => rw [hn] at he; simp at he
    | some t =>
      rw [hn] at he
      simp only at he ⊢
      exact runP_whole (.step h (hl j (by simp)) hn) (fun k hk => hl k (by simp [hk])) (by simpa using he)
theorem runP_le {ps : List (List Ln)} : ∀ {l : List Nat} {s : List Int}, (runP ps l s).2 ≤ l.length
  | [], s => Nat.le_refl _
  | j :: l, s => by
    unfold runP
    cases nx ps j s with
    | none => simp
    | some t =>
      have := runP_le (ps := ps) (l := l) (s := t)
      simp only [List.length_cons]
      omega
/-- One more behind a whole order. -/
theorem runP_snoc {ps : List (List Ln)} : ∀ {l : List Nat} {s : List Int} {j : Nat}, (runP ps l s).2 = l.length → runP ps (l ++ [j]) s = match nx ps j (runP ps l s).1 with
    | none => ((runP ps l s).1, l.length)
    | some t => (t, l.length + 1)
  | [], s, j, _ => by
    show (match nx ps j s with | none => (s, 0) | some t => ((runP ps [] t).1, (runP ps [] t).2 + 1)) = _
    cases h : nx ps j s with
    | none => simp [runP, h]
    | some t => simp [runP, h]
  | k :: l, s, j, he => by
    unfold runP at he
    rw [List.cons_append]
    cases hn : nx ps k s with
    | none => rw [hn] at he; simp at he
    | some t =>
      rw [hn] at he
      have ih := runP_snoc (ps := ps) (l := l) (s := t) (j := j) (by simpa using he)
      have e1 : runP ps (k :: l) s = ((runP ps l t).1, (runP ps l t).2 + 1) := by
        show (match nx ps k s with | none => (s, 0) | some t => ((runP ps l t).1, (runP ps l t).2 + 1)) = _
        rw [hn]
      have e2 : runP ps (k :: (l ++ [j])) s = ((runP ps (l ++ [j]) t).1, (runP ps (l ++ [j]) t).2 + 1) := by
        show (match nx ps k s with | none => (s, 0) | some t => ((runP ps (l ++ [j]) t).1, (runP ps (l ++ [j]) t).2 + 1)) = _
        rw [hn]
      rw [e1, e2, ih]
      cases nx ps j (runP ps l t).1 with
      | none => simp
      | some u => simp
end Go.Ex
