/- Texts laid together: M1 M2 R3 R4 R5. -/
import Derived.Test.YtfcellgjbbfobaaDoorMg3
import Derived.Maps.OwnSet
import Derived.Maps.OwnOps
import Derived.Maps.Views
import Derived.Carry
import Derived.Laws.Rows
import Derived.OwnWalk
import Derived.Laws.OwnMore
import Derived.Deep.AppendLies
import Derived.Deep.Onto
/- A map with integers for keys, seen as a function: what each key holds. -/
namespace Go
open Go.Maps (Keyed)
/-- An element is kept as it is. -/
def asIs (v : Value) : Option (DataW Value × List MemPlace) := some (.held v, [])
def MapF (w : World) (P : Program) (k : TypeId) (b n : Nat) (f : Int → Option Value) : Prop :=
  ∃ D : DataW Value, w.ownsMap P k asIs b n D ∧ Maps.IsMap D ∧ (∀ x z, D.atKey (.int .i64 x) (.held z) = .held ((f x).getD z)) ∧ ∀ x, Maps.has D (.int .i64 x) = (f x).isSome
section
variable {w w' : World} {P : Program} {k : TypeId} {b n : Nat} {f : Int → Option Value}
theorem MapF.made (w : World) (P : Program) (k : TypeId) : MapF (w.alloc (.map #[] 0)) P k w.heap.size 0 (fun _ => none) :=
  ⟨.map [], World.ownsMap_made w P k asIs, ⟨[], rfl⟩, fun _ _ => rfl, fun _ => rfl⟩
theorem MapF.lt (h : MapF w P k b n f) : b < w.heap.size := let ⟨_, h1, _⟩ := h; h1.lt
theorem MapF.block (h : MapF w P k b n f) (hb : w'.heap[b]? = w.heap[b]?) : MapF w' P k b n f := by
  obtain ⟨D, ⟨es, clock, h1, h2⟩, h3⟩ := h
  exact ⟨D, ⟨es, clock, hb.trans h1, h2⟩, h3⟩
theorem MapF.keep {S : List Nat} (h : MapF w P k b n f) (hk : Keep S w w') (hs : b ∉ S) : MapF w' P k b n f := h.block (hk.block b h.lt hs)
theorem MapF.drew (h : MapF w P k b n f) : MapF w.drew P k b n f := h
theorem MapF.mono (h : MapF w P k b n f) {n' : Nat} (hn : n ≤ n') : MapF w P k b n' f := let ⟨D, h1, h2⟩ := h; ⟨D, h1.mono hn, h2⟩
theorem MapF.notCells (h : MapF w P k b n f) {c : Nat} {cs : Array Value} {T : TypeId} {g : Nat × Nat} (hc : w.heap[c]? = some (.cells cs T g)) : b ≠ c := by
  rintro rfl
  obtain ⟨D, ⟨es, clock, h1, _⟩, _⟩ := h
  rw [hc] at h1
  cases h1
theorem keyI64 {P : Program} {k : TypeId} (hk : P.underlying k = some (.int .i64)) {x : Int} (hx : (Lit.int .i64 x).wf = true) : keyOf P k (.int .i64 x) = some (.int .i64 x) := by
  simp [keyOf, hk, mapKey, hx]
end
/-- 'm[k]' at the operation. -/
theorem wpList_lookup_f {P : Program} (w : World) {ops : Array Oper} {rest : List Oper} {o : Oper} {a : Act} {Q : Exit → Act → World → Prop}
    (hg : o.guard = none) (m x : Operand) (t : TypeId) (hop : o.op = Op.lookup t m x false)
    (k e : TypeId) (ht : P.underlying t = some (.map k e)) (hki : P.underlying k = some (.int .i64)) (z : Value) (hz : (zeroValue e).run P w = .ok z w) (b n : Nat) (f : Int → Option Value)
    (hm : a.eval m = .map (some b)) (hown : MapF w P k b n f) (key : Int) (hx : a.eval x = .int .i64 key) (hwf : (Lit.int .i64 key).wf = true)
    (hK : wpList P ops Q rest (a.put o.dst ((f key).getD z)) w) : wpList P ops Q (o :: rest) a w := by
  obtain ⟨D, h1, h2, h3, _⟩ := hown
  refine wpList_plain hg fun K' hK' => ?_
  obtain ⟨v, ps, hrun, hv⟩ := h1.lookup (Maps.int_keyed hki) ht hz (show asIs z = some (.held z, []) from rfl) (keyI64 hki hwf)
  have hve : v = (f key).getD z := by
    rw [h3] at hv
    unfold asIs at hv
    injection hv with hv
    injection hv with hv _
    injection hv
  subst hve
  unfold Oper.wp
  simp [execOp, hop, hm, hx, hrun, Result.andThen]
  exact hK' _ _ hK
/-- 'v, ok := m[k]' at the operation. -/
theorem wpList_lookup_f2 {P : Program} (w : World) {ops : Array Oper} {rest : List Oper} {o : Oper} {a : Act} {Q : Exit → Act → World → Prop}
    (hg : o.guard = none) (m x : Operand) (t : TypeId) (hop : o.op = Op.lookup t m x true)
    (k e : TypeId) (ht : P.underlying t = some (.map k e)) (hki : P.underlying k = some (.int .i64)) (z : Value) (hz : (zeroValue e).run P w = .ok z w) (b n : Nat) (f : Int → Option Value)
    (hm : a.eval m = .map (some b)) (hown : MapF w P k b n f) (key : Int) (hx : a.eval x = .int .i64 key) (hwf : (Lit.int .i64 key).wf = true)
    (hK : wpList P ops Q rest (a.put o.dst (.tuple #[(f key).getD z, .bool (f key).isSome])) w) : wpList P ops Q (o :: rest) a w := by
  obtain ⟨D, h1, h2, h3, h4⟩ := hown
  refine wpList_lookup_own_ok w hg m x t hop k e (Maps.int_keyed hki) ht asIs hz (.held z) [] rfl b n D hm h1 _ _ hx (keyI64 hki hwf) fun v ps hv => ?_
  rw [h3] at hv
  unfold asIs at hv
  injection hv with hv
  injection hv with hv _
  injection hv with hv
  subst hv
  rw [h4]
  exact hK
/-- 'm[k] = v' at the operation. -/
theorem wpList_update_f {P : Program} (w : World) {ops : Array Oper} {rest : List Oper} {o : Oper} {a : Act} {Q : Exit → Act → World → Prop}
    (hg : o.guard = none) (m x v : Operand) (t : TypeId) (hop : o.op = Op.mapUpdate t m x v)
    (k e : TypeId) (ht : P.underlying t = some (.map k e)) (hki : P.underlying k = some (.int .i64)) (b n : Nat) (f : Int → Option Value)
    (hm : a.eval m = .map (some b)) (hown : MapF w P k b n f) (hn : n < maxLen) (key : Int) (val : Value) (hx : a.eval x = .int .i64 key) (hv : a.eval v = val) (hwf : (Lit.int .i64 key).wf = true)
    (hK : ∀ w', MapF w' P k b (n + 1) (fun y => if y = key then some val else f y) → w.grownBy w' (some b) → wpList P ops Q rest (a.put o.dst undef) w') : wpList P ops Q (o :: rest) a w := by
  obtain ⟨D, h1, h2, h3, h4⟩ := hown
  have hkey := keyI64 hki hwf
  have hkl := (Maps.int_keyed hki).key hkey
  refine wpList_mapUpdate_own w hg m x v t hop k e (Maps.int_keyed hki) ht asIs b n D hm h1 hn _ val _ hx hv hkey (.held val) [] rfl fun w' hown' hgr => hK w' ⟨D.put (.int .i64 key) (.held val), hown', ?_, fun y z => ?_, fun y => ?_⟩ hgr
  · obtain ⟨es, rfl⟩ := h2
    exact ⟨_, rfl⟩
  · by_cases e1 : y = key
    · subst e1
      rw [Maps.atKey_put_same h2 hkl]; simp
    · rw [Maps.atKey_put_other (fun h => e1 (by injection h)), h3]; simp [e1]
  · by_cases e1 : y = key
    · subst e1
      rw [Maps.has_put_same h2 hkl]; simp
    · rw [Maps.has_put_other (fun h => e1 (by injection h)), h4]; simp [e1]
end Go
/- A map from integers to integers, as a function: nought where there is nothing. -/
namespace Go
open Go.Maps (Keyed)
def MapI (w : World) (P : Program) (k : TypeId) (b n : Nat) (r : Int → Int) : Prop :=
  ∃ f, MapF w P k b n f ∧ ∀ x, (f x).getD (.int .i64 0) = .int .i64 (r x)
section
variable {w w' : World} {P : Program} {k : TypeId} {b n : Nat} {r : Int → Int}
theorem MapI.made (w : World) (P : Program) (k : TypeId) : MapI (w.alloc (.map #[] 0)) P k w.heap.size 0 (fun _ => 0) := ⟨_, MapF.made w P k, fun _ => rfl⟩
theorem MapI.lt (h : MapI w P k b n r) : b < w.heap.size := let ⟨_, h1, _⟩ := h; h1.lt
theorem MapI.keep {S : List Nat} (h : MapI w P k b n r) (hk : Keep S w w') (hs : b ∉ S) : MapI w' P k b n r := let ⟨f, h1, h2⟩ := h; ⟨f, h1.keep hk hs, h2⟩
theorem MapI.mono (h : MapI w P k b n r) {n' : Nat} (hn : n ≤ n') : MapI w P k b n' r := let ⟨f, h1, h2⟩ := h; ⟨f, h1.mono hn, h2⟩
theorem MapI.notCells (h : MapI w P k b n r) {c : Nat} {cs : Array Value} {T : TypeId} {g : Nat × Nat} (hc : w.heap[c]? = some (.cells cs T g)) : b ≠ c := let ⟨_, h1, _⟩ := h; h1.notCells hc
theorem keep_turned (h : w.mapTurned w' b) : Keep [b] w w' := by
  obtain ⟨es, clock, es', clock', hb, rfl⟩ := h
  refine ⟨rfl, rfl, rfl, ?_, fun i hi hs => ?_⟩
  · show w.heap.size ≤ (w.heap.setIfInBounds b _).size
    simp
  · show (w.heap.setIfInBounds b _)[i]? = w.heap[i]?
    rw [Array.getElem?_setIfInBounds_ne (fun e => hs (by simp [e]))]
end
theorem wpList_lookup_i {P : Program} (w : World) {ops : Array Oper} {rest : List Oper} {o : Oper} {a : Act} {Q : Exit → Act → World → Prop}
    (hg : o.guard = none) (m x : Operand) (t : TypeId) (hop : o.op = Op.lookup t m x false)
    (k e : TypeId) (ht : P.underlying t = some (.map k e)) (hki : P.underlying k = some (.int .i64)) (hz : (zeroValue e).run P w = .ok (.int .i64 0) w) (b n : Nat) (r : Int → Int)
    (hm : a.eval m = .map (some b)) (hown : MapI w P k b n r) (key : Int) (hx : a.eval x = .int .i64 key) (hwf : (Lit.int .i64 key).wf = true)
    (hK : wpList P ops Q rest (a.put o.dst (.int .i64 (r key))) w) : wpList P ops Q (o :: rest) a w := by
  obtain ⟨f, h1, h2⟩ := hown
  exact wpList_lookup_f w hg m x t hop k e ht hki _ hz b n f hm h1 key hx hwf (by rw [h2]; exact hK)
theorem lookup_run_i {P : Program} {w : World} {t k e : TypeId} {b n : Nat} {r : Int → Int} {key : Int} (ht : P.underlying t = some (.map k e)) (hki : P.underlying k = some (.int .i64)) (hz : (zeroValue e).run P w = .ok (.int .i64 0) w) (hown : MapI w P k b n r) (hwf : (Lit.int .i64 key).wf = true) :
    (Instr.lookup t (.map (some b)) (.int .i64 key) false).run P w = .ok (.int .i64 (r key)) w := by
  obtain ⟨f, ⟨D, h1, h2, h3, _⟩, hf⟩ := hown
  obtain ⟨v, ps, hrun, hv⟩ := h1.lookup (Maps.int_keyed hki) ht hz (show asIs (.int .i64 0) = some (.held (.int .i64 0), []) from rfl) (keyI64 hki hwf)
  have hve : v = (f key).getD (.int .i64 0) := by
    rw [h3] at hv
    unfold asIs at hv
    injection hv with hv
    injection hv with hv _
    injection hv
  rw [hrun, hve, hf]
theorem put_i {w' : World} {P : Program} {k : TypeId} {b n : Nat} {r : Int → Int} {D : DataW Value} {f : Int → Option Value} {key v : Int} (hkl : WideAt.IsKeyLit (.int .i64 key)) (h2 : Maps.IsMap D) (h3 : ∀ x z, D.atKey (.int .i64 x) (.held z) = .held ((f x).getD z)) (h4 : ∀ x, Maps.has D (.int .i64 x) = (f x).isSome)
    (hf : ∀ x, (f x).getD (.int .i64 0) = .int .i64 (r x)) (ho : w'.ownsMap P k asIs b n (D.put (.int .i64 key) (.held (.int .i64 v)))) : MapI w' P k b n (fun y => if y = key then v else r y) := by
  refine ⟨fun y => if y = key then some (.int .i64 v) else f y, ⟨_, ho, ?_, fun y z => ?_, fun y => ?_⟩, fun y => ?_⟩
  · obtain ⟨es, rfl⟩ := h2
    exact ⟨_, rfl⟩
  · by_cases e1 : y = key
    · subst e1
      rw [Maps.atKey_put_same h2 hkl]; simp
    · rw [Maps.atKey_put_other (fun h => e1 (by injection h)), h3]; simp [e1]
  · by_cases e1 : y = key
    · subst e1
      rw [Maps.has_put_same h2 hkl]; simp
    · rw [Maps.has_put_other (fun h => e1 (by injection h)), h4]; simp [e1]
  · by_cases e1 : y = key
    · simp [e1]
    · simp [e1, hf]
theorem update_run_i {P : Program} {w : World} {t k e : TypeId} {b n : Nat} {r : Int → Int} {key v : Int} (ht : P.underlying t = some (.map k e)) (hki : P.underlying k = some (.int .i64)) (hown : MapI w P k b n r) (hn : n < maxLen) (hwf : (Lit.int .i64 key).wf = true) :
    ∃ w', (Instr.mapUpdate t (.map (some b)) (.int .i64 key) (.int .i64 v)).run P w = .ok () w' ∧ MapI w' P k b (n + 1) (fun y => if y = key then v else r y) ∧ Keep [b] w w' := by
  obtain ⟨f, ⟨D, h1, h2, h3, h4⟩, hf⟩ := hown
  have hkey := keyI64 hki hwf
  obtain ⟨w', hrun, h5, h6⟩ := h1.store (Maps.int_keyed hki) ht hn (val := .int .i64 v) hkey (show asIs (.int .i64 v) = some (.held (.int .i64 v), []) from rfl)
  exact ⟨w', hrun, put_i ((Maps.int_keyed hki).key hkey) h2 h3 h4 hf h5, keep_turned h6⟩
theorem wpList_update_i {P : Program} (w : World) {ops : Array Oper} {rest : List Oper} {o : Oper} {a : Act} {Q : Exit → Act → World → Prop}
    (hg : o.guard = none) (m x v : Operand) (t : TypeId) (hop : o.op = Op.mapUpdate t m x v ∨ o.op = Op.insert t m x v)
    (k e : TypeId) (ht : P.underlying t = some (.map k e)) (hki : P.underlying k = some (.int .i64)) (b n : Nat) (r : Int → Int)
    (hm : a.eval m = .map (some b)) (hown : MapI w P k b n r) (hn : n < maxLen) (key val : Int) (hx : a.eval x = .int .i64 key) (hv : a.eval v = .int .i64 val) (hwf : (Lit.int .i64 key).wf = true)
    (hK : ∀ w', MapI w' P k b (n + 1) (fun y => if y = key then val else r y) → Keep [b] w w' → wpList P ops Q rest (a.put o.dst undef) w') : wpList P ops Q (o :: rest) a w := by
  refine wpList_plain hg fun K' hK' => ?_
  obtain ⟨w', hrun, h5, h6⟩ := update_run_i (v := val) ht hki hown hn hwf
  unfold Oper.wp
  rcases hop with hop | hop
  all_goals
    simp [execOp, hop, hm, hx, hv, hrun, Result.andThen]
    exact hK' _ _ (hK w' h5 h6)
theorem wpList_delete_i {P : Program} (w : World) {ops : Array Oper} {rest : List Oper} {o : Oper} {a : Act} {Q : Exit → Act → World → Prop}
    (hg : o.guard = none) (m x : Operand) (t k : TypeId) (hop : o.op = Op.call { callee := Callee.builtin Builtin.delete, args := #[m, x], argTypes := #[t, k] })
    (e : TypeId) (ht : P.underlying t = some (.map k e)) (hki : P.underlying k = some (.int .i64)) (b n : Nat) (r : Int → Int)
    (hm : a.eval m = .map (some b)) (hown : MapI w P k b n r) (key : Int) (hx : a.eval x = .int .i64 key) (hwf : (Lit.int .i64 key).wf = true)
    (hK : ∀ w', MapI w' P k b n (fun y => if y = key then 0 else r y) → Keep [b] w w' → wpList P ops Q rest (a.put o.dst (.tuple #[])) w') : wpList P ops Q (o :: rest) a w := by
  obtain ⟨f, ⟨D, h1, h2, h3, h4⟩, hf⟩ := hown
  refine wpList_delete_own w hg m x t k hop e (Maps.int_keyed hki) ht asIs b n D hm h1 _ _ hx (keyI64 hki hwf) fun w' h5 h6 => hK w' ⟨fun y => if y = key then none else f y, ⟨_, h5, ?_, fun y z => ?_, fun y => ?_⟩, fun y => ?_⟩ (keep_turned h6)
  · obtain ⟨es, rfl⟩ := h2
    exact ⟨_, rfl⟩
  · by_cases e1 : y = key
    · subst e1
      rw [Maps.atKey_del_same]; simp
    · rw [Maps.atKey_del_other (fun h => e1 (by injection h)), h3]; simp [e1]
  · by_cases e1 : y = key
    · subst e1
      rw [Maps.has_del_same]; simp
    · rw [Maps.has_del_other (fun h => e1 (by injection h)), h4]; simp [e1]
  · by_cases e1 : y = key
    · simp [e1]
    · simp [e1, hf]
end Go
namespace Go
/-- A lane: requested, granted, used. -/
structure Ln where
  q : Int
  g : Int
  u : Int
def Ln.cells (l : Ln) : List Value := [.int .i64 l.q, .int .i64 l.g, .int .i64 l.u]
def lanesC (ls : List Ln) : List Value := ls.flatMap Ln.cells
theorem lanesC_len (ls : List Ln) : (lanesC ls).length = 3 * ls.length := by
  induction ls with
  | nil => rfl
  | cons l ls ih => simp [lanesC, Ln.cells] at *; omega
theorem lanesC_at (ls : List Ln) : ∀ (i f : Nat), i < ls.length → f < 3 → (lanesC ls)[i * 3 + f]? = (ls.getD i ⟨0, 0, 0⟩).cells[f]? := by
  induction ls with
  | nil => intro i f h; simp at h
  | cons l ls ih =>
    intro i f h hf
    cases i with
    | zero =>
      simp only [lanesC, List.flatMap_cons, Nat.zero_mul, Nat.zero_add, List.getD_cons_zero]
      rw [List.getElem?_append_left (by simp [Ln.cells]; omega)]
    | succ i =>
      simp only [List.length_cons] at h
      simp only [lanesC, List.flatMap_cons, List.getD_cons_succ]
      rw [List.getElem?_append_right (by simp [Ln.cells]; omega)]
      have := ih i f (by omega) hf
      rw [← this]
      congr 1
      simp [Ln.cells]; omega
theorem lanesC_set (ls : List Ln) : ∀ (i f : Nat) (v : Value), i < ls.length → f < 3 → (lanesC ls).set (i * 3 + f) v = (lanesC (ls.take i)) ++ (ls.getD i ⟨0, 0, 0⟩).cells.set f v ++ lanesC (ls.drop (i + 1)) := by
  induction ls with
  | nil => intro i f v h; simp at h
  | cons l ls ih =>
    intro i f v h hf
    cases i with
    | zero =>
      simp only [lanesC, List.flatMap_cons, Nat.zero_mul, Nat.zero_add, List.getD_cons_zero, List.take_zero, List.flatMap_nil, List.nil_append, List.drop_succ_cons, List.drop_zero]
      rw [List.set_append_left _ _ (by simp [Ln.cells]; omega)]
    | succ i =>
      simp only [List.length_cons] at h
      have := ih i f v (by omega) hf
      simp only [lanesC, List.flatMap_cons, List.getD_cons_succ, List.take_succ_cons, List.drop_succ_cons] at *
      rw [List.set_append_right _ _ (by simp [Ln.cells]; omega), show (i + 1) * 3 + f - l.cells.length = i * 3 + f by simp [Ln.cells]; omega, this]
      simp
end Go
namespace Go
abbrev lat (ls : List Ln) (i : Nat) : Ln := ls.getD i ⟨0, 0, 0⟩
theorem lanes_put (ls : List Ln) (i f : Nat) (v : Value) (L : Ln) (hi : i < ls.length) (hf : f < 3) (hL : (lat ls i).cells.set f v = L.cells) : (lanesC ls).set (i * 3 + f) v = lanesC (ls.set i L) := by
  rw [lanesC_set ls i f v hi hf, hL, List.set_eq_take_append_cons_drop, if_pos hi]
  simp [lanesC]
theorem lat_set (ls : List Ln) (i j : Nat) (L : Ln) (hi : i < ls.length) : lat (ls.set i L) j = if i = j then L else lat ls j := by
  simp only [lat, List.getD_eq_getElem?_getD, List.getElem?_set]
  split
  · rename_i e; subst e; simp
  · rfl
theorem lat_mem {ls : List Ln} {i : Nat} (hi : i < ls.length) : lat ls i ∈ ls := by
  rw [lat, List.getD_eq_getElem?_getD, List.getElem?_eq_getElem hi]; exact List.getElem_mem hi
theorem mem_lat {ls : List Ln} {l : Ln} (h : l ∈ ls) : ∃ i, i < ls.length ∧ lat ls i = l := by
  obtain ⟨i, hi, rfl⟩ := List.getElem_of_mem h
  exact ⟨i, hi, by simp [lat, List.getD_eq_getElem?_getD, hi]⟩
theorem lat_ext {a b : List Ln} (hl : a.length = b.length) (h : ∀ i, i < a.length → lat a i = lat b i) : a = b := by
  refine List.ext_getElem hl fun i h1 h2 => ?_
  have := h i h1
  simpa [lat, List.getD_eq_getElem?_getD, h1, h2] using this
/-- What a node knows: rows (node, turn, says) and timers. -/
structure Gs where
  me : Int
  ticks : Int
  last : Int
  rs : List Ln
  ts : List Int
def Gs.cells (g : Gs) : List Value := [.int .i64 g.me, .int .i64 g.ticks, .int .i64 g.last] ++ lanesC g.rs ++ g.ts.map (Value.int .i64)
def Gs.len9 (g : Gs) : Prop := g.rs.length = 9 ∧ g.ts.length = 9
def GAt (T : TypeId) (w : World) (b : Nat) (g : Gs) : Prop := w.heap[b]? = some (.cells g.cells.toArray T (0, 0)) ∧ g.len9
section
variable {T : TypeId} {w w' : World} {b : Nat} {g : Gs}
theorem GAt.keep {S : List Nat} (h : GAt T w b g) (k : Keep S w w') (hb : b ∉ S) : GAt T w' b g := ⟨k.at h.1 hb, h.2⟩
theorem GAt.drew (h : GAt T w b g) : GAt T w.drew b g := h
theorem GAt.lt (h : GAt T w b g) : b < w.heap.size := lt_of_blk h.1
theorem GAt.thaw (h : GAt T w b g) (i : Nat) : w.frozen? ⟨b, i, none⟩ = false := Go.thaw h.1 i
theorem GAt.head (h : GAt T w b g) : w.cell? ⟨b, 0, none⟩ = some (.int .i64 g.me) ∧ w.cell? ⟨b, 1, none⟩ = some (.int .i64 g.ticks) ∧ w.cell? ⟨b, 2, none⟩ = some (.int .i64 g.last) := by
  refine ⟨?_, ?_, ?_⟩ <;> (rw [cellAt h.1]; simp [Gs.cells])
theorem Gs.row_at (hl : g.len9) {i f : Nat} (hi : i < 9) (hf : f < 3) : g.cells[3 + (i * 3 + f)]? = (lat g.rs i).cells[f]? := by
  have h1 := lanesC_len g.rs
  have h2 := hl.1
  rw [Gs.cells, List.append_assoc, List.getElem?_append_right (by simp), List.getElem?_append_left (by simp only [List.length_cons, List.length_nil]; omega)]
  rw [← lanesC_at g.rs i f (by omega) hf]
  congr 1
  simp only [List.length_cons, List.length_nil]; omega
theorem Gs.timer_at (hl : g.len9) {i : Nat} (hi : i < 9) : g.cells[30 + i]? = some (.int .i64 (g.ts.getD i 0)) := by
  have h1 := lanesC_len g.rs
  have h2 := hl.1
  have h3 := hl.2
  rw [Gs.cells, List.getElem?_append_right (by simp only [List.length_append, List.length_cons, List.length_nil]; omega)]
  rw [show 30 + i - ([Value.int .i64 g.me, .int .i64 g.ticks, .int .i64 g.last] ++ lanesC g.rs).length = i by simp only [List.length_append, List.length_cons, List.length_nil]; omega]
  simp [List.getD_eq_getElem?_getD, show i < g.ts.length by omega]
theorem GAt.row (h : GAt T w b g) {i : Nat} (hi : i < 9) : w.cell? ⟨b, 3 + i * 3, none⟩ = some (.int .i64 (lat g.rs i).q) ∧ w.cell? ⟨b, 3 + i * 3 + 1, none⟩ = some (.int .i64 (lat g.rs i).g) ∧ w.cell? ⟨b, 3 + i * 3 + 2, none⟩ = some (.int .i64 (lat g.rs i).u) := by
  have at_ : ∀ f, f < 3 → w.cell? ⟨b, 3 + (i * 3 + f), none⟩ = (lat g.rs i).cells[f]? := fun f hf => by
    rw [cellAt h.1]
    simpa using Gs.row_at h.2 hi hf
  exact ⟨at_ 0 (by omega), at_ 1 (by omega), at_ 2 (by omega)⟩
theorem GAt.timer (h : GAt T w b g) {i : Nat} (hi : i < 9) : w.cell? ⟨b, 30 + i, none⟩ = some (.int .i64 (g.ts.getD i 0)) := by
  rw [cellAt h.1]
  simpa using Gs.timer_at h.2 hi
theorem Gs.set_row (g : Gs) (hl : g.len9) {i f : Nat} (hi : i < 9) (hf : f < 3) (v : Value) (L : Ln) (hL : (lat g.rs i).cells.set f v = L.cells) :
    g.cells.set (3 + (i * 3 + f)) v = Gs.cells { g with rs := g.rs.set i L } := by
  have h1 := lanesC_len g.rs
  have h2 := hl.1
  simp only [Gs.cells, List.append_assoc]
  rw [List.set_append_right _ _ (by simp)]
  congr 1
  rw [List.set_append_left _ _ (by simp only [List.length_cons, List.length_nil]; omega), show 3 + (i * 3 + f) - [Value.int .i64 g.me, .int .i64 g.ticks, .int .i64 g.last].length = i * 3 + f by simp, lanes_put g.rs i f v L (by omega) hf hL]
theorem Gs.set_timer (g : Gs) (hl : g.len9) {i : Nat} (hi : i < 9) (t : Int) : g.cells.set (30 + i) (.int .i64 t) = Gs.cells { g with ts := g.ts.set i t } := by
  have h1 := lanesC_len g.rs
  have h2 := hl.1
  simp only [Gs.cells]
  rw [List.set_append_right _ _ (by simp only [List.length_append, List.length_cons, List.length_nil]; omega)]
  congr 1
  rw [show 30 + i - ([Value.int .i64 g.me, .int .i64 g.ticks, .int .i64 g.last] ++ lanesC g.rs).length = i by simp only [List.length_append, List.length_cons, List.length_nil]; omega, ← List.map_set]
theorem GAt.putRow (h : GAt T w b g) {i : Nat} (hi : i < 9) (f : Nat) (hf : f < 3) (v : Value) (L : Ln) (hL : (lat g.rs i).cells.set f v = L.cells) :
    GAt T (w.setCell ⟨b, 3 + i * 3 + f, none⟩ v) b { g with rs := g.rs.set i L } := by
  refine ⟨?_, by simpa [Gs.len9] using h.2⟩
  rw [blk_setCell, if_pos rfl, h.1, Option.map_some, Obj.put_cells, ← Gs.set_row g h.2 hi hf v L hL, Nat.add_assoc]
  simp
theorem GAt.putTimer (h : GAt T w b g) {i : Nat} (hi : i < 9) (t : Int) : GAt T (w.setCell ⟨b, 30 + i, none⟩ (.int .i64 t)) b { g with ts := g.ts.set i t } := by
  refine ⟨?_, by simpa [Gs.len9] using h.2⟩
  rw [blk_setCell, if_pos rfl, h.1, Option.map_some, Obj.put_cells, ← Gs.set_timer g h.2 hi t]
  simp
theorem GAt.putLast (h : GAt T w b g) (t : Int) : GAt T (w.setCell ⟨b, 2, none⟩ (.int .i64 t)) b { g with last := t } := by
  refine ⟨?_, h.2⟩
  rw [blk_setCell, if_pos rfl, h.1, Option.map_some, Obj.put_cells]
  simp [Gs.cells]
end
end Go
namespace Go
open Go.RowKit
/-- A whole array or struct read out of the middle of a block. -/
theorem run_loadVar_at {P : Program} (w : World) (a : Addr) (ty : TypeId) (vs : List Value) (d : TypeDesc) (hg : ∀ j v, vs[j]? = some v → w.cell? (a.add j) = some v)
    (hu : P.underlying ty = some d) (hd : (match d with | .struct _ | .array _ _ => true | _ => false) = true) (hi : (P.info? ty).map (·.size) = some vs.length) :
    (loadVar ty a).run P w = .ok (.agg vs.toArray) w := by
  have hl : (loadCells a vs.length).run P w = .ok vs.toArray w := run_loadCells_list (P := P) w a vs hg
  cases hq : P.info? ty with
  | none => simp [hq] at hi
  | some i =>
    have hs : i.size = vs.length := by simpa [hq] using hi
    have hagg : (isAgg ty).run P w = .ok true w := by
      unfold isAgg
      rw [Sem.run_bind, run_underlying hu w]
      cases d <;> simp_all
    simp [loadVar, Sem.run_bind, hagg, sizeOf, typeInfo, hq, hs, hl]
theorem wp_load_at {P : Program} {o : Oper} {a : Act} {w : World} {K : Act → World → Prop} {Q : Exit → Act → World → Prop} (ty : TypeId) (x : Operand) (ho : o.op = .load ty x)
    (ad : Addr) (hx : a.eval x = .pointer (some ad)) (vs : List Value) (d : TypeDesc) (hg : ∀ j v, vs[j]? = some v → w.cell? (ad.add j) = some v)
    (hu : P.underlying ty = some d) (hd : (match d with | .struct _ | .array _ _ => true | _ => false) = true) (hi : (P.info? ty).map (·.size) = some vs.length)
    (h : K (a.put o.dst (.agg vs.toArray)) w) : o.wp P a w K Q := by
  unfold Oper.wp execOp
  simp only [ho, hx, Instr.loadAt, Instr.sureAddr, Sem.run_bind, Sem.run_pure, Result.andThen_ok, run_loadVar_at w ad ty vs d hg hu hd hi]
  exact h
theorem wpList_load_at {P : Program} {ops : Array Oper} {rest : List Oper} {o : Oper} {a : Act} {w : World} {Q : Exit → Act → World → Prop} (hgd : o.guard = none) (ty : TypeId) (x : Operand) (ho : o.op = .load ty x)
    (ad : Addr) (hx : a.eval x = .pointer (some ad)) (vs : List Value) (d : TypeDesc) (hg : ∀ j v, vs[j]? = some v → w.cell? (ad.add j) = some v)
    (hu : P.underlying ty = some d) (hd : (match d with | .struct _ | .array _ _ => true | _ => false) = true) (hi : (P.info? ty).map (·.size) = some vs.length)
    (h : wpList P ops Q rest (a.put o.dst (.agg vs.toArray)) w) : wpList P ops Q (o :: rest) a w :=
  wpList_plain hgd fun _ hK => wp_load_at ty x ho ad hx vs d hg hu hd hi (hK _ _ h)
theorem GAt.rowsAt {T : TypeId} {w : World} {b : Nat} {g : Gs} (h : GAt T w b g) : ∀ j v, (lanesC g.rs)[j]? = some v → w.cell? ((⟨b, 3, none⟩ : Addr).add j) = some v := by
  intro j v hv
  have hj : j < (lanesC g.rs).length := (List.getElem?_eq_some_iff.1 hv).1
  have e : (⟨b, 3, none⟩ : Addr).add j = ⟨b, 3 + j, none⟩ := by unfold Addr.add; split <;> simp_all
  rw [e, cellAt h.1]
  simp only [List.getElem?_toArray, Gs.cells, List.append_assoc]
  rw [List.getElem?_append_right (by simp), List.getElem?_append_left (by simp only [List.length_cons, List.length_nil]; omega)]
  rw [← hv]
  congr 1
  simp only [List.length_cons, List.length_nil]; omega
/-- A new block's cells. -/
theorem cells_new (w : World) (xs : List Value) (t : TypeId) (f : Nat × Nat) : ∀ j u, xs[j]? = some u → (w.alloc (.cells xs.toArray t f)).cell? ((⟨w.heap.size, 0, none⟩ : Addr).add j) = some u := by
  intro j u hj
  have e : (⟨w.heap.size, 0, none⟩ : Addr).add j = ⟨w.heap.size, j, none⟩ := by unfold Addr.add; split <;> simp_all
  rw [e, cell_of_row _ _ _ _ _ _ (blk_new w _)]
  simpa using hj
theorem cells_new2 (w : World) (o : Obj) (xs : List Value) (t : TypeId) : ∀ j u, xs[j]? = some u → ((w.alloc o).alloc (.cells xs.toArray t)).cell? ((⟨w.heap.size + 1, 0, none⟩ : Addr).add j) = some u := by
  have h := cells_new (w.alloc o) xs t (0, 0)
  have e : (w.alloc o).heap.size = w.heap.size + 1 := by simp
  rw [e] at h
  exact h
/-- A slice of rows of three numbers. -/
structure LnsV (w : World) (a : Option Addr) (n c : Nat) (ls : List Ln) : Prop where
  len : ls.length = n
  room : n ≤ c
  most : c ≤ maxLen
  cells : 0 < n → ∃ b off, a = some ⟨b, off, none⟩ ∧ ∀ j, j < 3 * n → w.cell? ⟨b, off + j, none⟩ = (lanesC ls)[j]?
section
variable {w w' : World} {a : Option Addr} {n c : Nat} {ls : List Ln}
theorem LnsV.nil (w : World) : LnsV w none 0 0 [] := ⟨rfl, Nat.le_refl _, Nat.zero_le _, fun h => absurd h (by decide)⟩
theorem LnsV.keep {S : List Nat} (h : LnsV w a n c ls) (k : Keep S w w') (hs : ∀ x, a = some x → x.block ∉ S) : LnsV w' a n c ls :=
  ⟨h.len, h.room, h.most, fun hn => by
    obtain ⟨b, off, rfl, hc⟩ := h.cells hn
    refine ⟨b, off, rfl, fun j hj => ?_⟩
    rw [← hc j hj]
    have hsome : ∃ v, (lanesC ls)[j]? = some v := ⟨_, List.getElem?_eq_getElem (by have := lanesC_len ls; have := h.len; omega)⟩
    obtain ⟨v, hv⟩ := hsome
    have h1 := (hc j hj).trans hv
    rw [h1]
    exact k.cell h1 (hs ⟨b, off, none⟩ rfl)⟩
theorem LnsV.at_ (h : LnsV w a n c ls) {i : Nat} (hi : i < n) : ∃ b off, a = some ⟨b, off, none⟩ ∧ w.cell? ⟨b, off + i * 3, none⟩ = some (.int .i64 (lat ls i).q) ∧ w.cell? ⟨b, off + i * 3 + 1, none⟩ = some (.int .i64 (lat ls i).g) ∧ w.cell? ⟨b, off + i * 3 + 2, none⟩ = some (.int .i64 (lat ls i).u) := by
  obtain ⟨b, off, rfl, hc⟩ := h.cells (by omega)
  have at_ : ∀ f, f < 3 → w.cell? ⟨b, off + (i * 3 + f), none⟩ = (lat ls i).cells[f]? := fun f hf => by
    rw [hc _ (by omega)]
    exact lanesC_at ls i f (by rw [h.len]; exact hi) hf
  exact ⟨b, off, rfl, at_ 0 (by omega), at_ 1 (by omega), at_ 2 (by omega)⟩
theorem LnsV.ofOwn {base e : Nat} {v : Value} (h : w.ownsRow base e 3 v n (lanesC ls)) : ∃ a c, v = .slice a n c ∧ LnsV w a n c ls ∧ ∀ x, a = some x → base ≤ x.block := by
  obtain ⟨hl, h⟩ := h
  have hn : ls.length = n := by have := lanesC_len ls; omega
  rcases h with ⟨rfl, hnil⟩ | ⟨g, cap, cur, rfl, hb, hg, hnc, hcm, hcs, ht⟩
  · have h0 : n = 0 := by rw [hnil] at hl; simp at hl; omega
    subst h0
    exact ⟨none, 0, rfl, ⟨hn, Nat.le_refl _, Nat.zero_le _, fun h => absurd h (by decide)⟩, fun x hx => by cases hx⟩
  · refine ⟨_, _, rfl, ⟨hn, hnc, hcm, fun h0 => ⟨g, 0, rfl, fun j hj => ?_⟩⟩, fun x hx => by cases hx; exact hb⟩
    rw [Nat.zero_add, cell_of_row w g j cur e (0, 0) hg]
    have : (cur.toList.take (n * 3))[j]? = (lanesC ls)[j]? := by rw [ht]
    rw [List.getElem?_take, if_pos (by omega)] at this
    simpa using this
theorem LnsV.drew (h : LnsV w a n c ls) : LnsV w.drew a n c ls := ⟨h.len, h.room, h.most, h.cells⟩
theorem lanesC_snoc (ls : List Ln) (L : Ln) : lanesC (ls ++ [L]) = lanesC ls ++ L.cells := by simp [lanesC]
end
end Go
namespace Go
theorem GAt.alloc {T : TypeId} {w : World} {b : Nat} {g : Gs} (h : GAt T w b g) (o : Obj) : GAt T (w.alloc o) b g := h.keep ((Keep.refl [] w).alloc o) (by simp)
theorem GAt.put3 {T : TypeId} {w : World} {b : Nat} {g : Gs} (h : GAt T w b g) {i : Nat} (hi : i < 9) (x y z : Int) :
    GAt T (((w.setCell ⟨b, 3 + i * 3, none⟩ (.int .i64 x)).setCell ⟨b, 3 + i * 3 + 1, none⟩ (.int .i64 y)).setCell ⟨b, 3 + i * 3 + 2, none⟩ (.int .i64 z)) b { g with rs := g.rs.set i ⟨x, y, z⟩ } := by
  have hl : i < g.rs.length := by have := h.2.1; omega
  have e0 := h.putRow hi 0 (by omega) (.int .i64 x) ⟨x, (lat g.rs i).g, (lat g.rs i).u⟩ rfl
  have e1 := e0.putRow hi 1 (by omega) (.int .i64 y) ⟨x, y, (lat g.rs i).u⟩ (by dsimp only; rw [lat_set _ _ _ _ hl, if_pos rfl]; rfl)
  have e2 := e1.putRow hi 2 (by omega) (.int .i64 z) ⟨x, y, z⟩ (by dsimp only; rw [List.set_set, lat_set _ _ _ _ hl, if_pos rfl]; rfl)
  dsimp only at e2
  rw [List.set_set, List.set_set] at e2
  exact e2
end Go
namespace Go
open Go.RowKit
theorem Keep.more {S S' : List Nat} {w w' : World} (h : Keep S w w') (hs : ∀ b ∈ S, b ∈ S') : Keep S' w w' :=
  ⟨h.os, h.tape, h.output, h.size, fun k hk hn => h.block k hk fun hm => hn (hs k hm)⟩
theorem own_keep {S : List Nat} {w w' : World} {base e size n : Nat} {v : Value} {xs : List Value} (h : w.ownsRow base e size v n xs) (k : Keep S w w') (hs : ∀ b, v.ownBlock = some b → b ∉ S) : w'.ownsRow base e size v n xs := by
  refine ⟨h.1, ?_⟩
  rcases h.2 with hn | ⟨g, cap, cur, rfl, hb, hgg, rest⟩
  · exact .inl hn
  · exact .inr ⟨g, cap, cur, rfl, hb, k.at hgg (hs g rfl), rest⟩
/-- A row's block and a block of another kind are two. -/
theorem own_ne {w : World} {base e size n : Nat} {v : Value} {xs : List Value} (h : w.ownsRow base e size v n xs) {b : Nat} {cs : Array Value} {T : TypeId} {f : Nat × Nat} (hb : w.heap[b]? = some (.cells cs T f)) (hT : e ≠ T) : ∀ g, v.ownBlock = some g → g ≠ b := by
  intro g hg he
  subst he
  rcases h.2 with ⟨rfl, _⟩ | ⟨g', cap, cur, rfl, _, hgg, _⟩
  · simp [Value.ownBlock] at hg
  · simp [Value.ownBlock] at hg
    subst hg
    rw [hb] at hgg
    injection hgg with hgg
    injection hgg with _ h2 _
    exact hT h2.symm
theorem own_own {w : World} {base base' e e' size size' n n' : Nat} {v v' : Value} {xs xs' : List Value} (h : w.ownsRow base e size v n xs) (h' : w.ownsRow base' e' size' v' n' xs') (hT : e ≠ e') : ∀ g, v.ownBlock = some g → v'.ownBlock ≠ some g := by
  intro g hg he
  rcases h'.2 with ⟨rfl, _⟩ | ⟨g', cap, cur, rfl, _, hgg, _⟩
  · simp [Value.ownBlock] at he
  · simp [Value.ownBlock] at he
    subst he
    exact own_ne h hgg hT g' hg rfl
theorem Keep.ofGrown {w w' : World} {row : Option Nat} {S : List Nat} (h : w.grownBy w' row) (hr : ∀ k, row = some k → k ∈ S) : Keep S w w' :=
  ⟨h.os, h.tape, h.output, h.size, fun k hk hn => h.block k hk fun e => hn (hr k e.symm)⟩
/-- What Keep a list of blocks S, and nothing else, may touch: those of S that were there. -/
theorem Keep.fresh {S : List Nat} {w w' : World} (h : Keep S w w') (hs : ∀ b ∈ S, w.heap.size ≤ b) : Keep [] w w' :=
  ⟨h.os, h.tape, h.output, h.size, fun k hk _ => h.block k hk fun hm => by have := hs k hm; omega⟩
/-- A slice of pointers to whole blocks. -/
structure PtrsV (w : World) (a : Option Addr) (n c : Nat) (bs : List Nat) : Prop where
  len : bs.length = n
  room : n ≤ c
  most : c ≤ maxLen
  cells : 0 < n → ∃ b off, a = some ⟨b, off, none⟩ ∧ ∀ i, i < n → w.cell? ⟨b, off + i, none⟩ = some (.pointer (some ⟨bs.getD i 0, 0, none⟩))
theorem PtrsV.keep {S : List Nat} {w w' : World} {a : Option Addr} {n c : Nat} {bs : List Nat} (h : PtrsV w a n c bs) (k : Keep S w w') (hs : ∀ x, a = some x → x.block ∉ S) : PtrsV w' a n c bs :=
  ⟨h.len, h.room, h.most, fun hn => by
    obtain ⟨b, off, rfl, hc⟩ := h.cells hn
    exact ⟨b, off, rfl, fun i hi => k.cell (hc i hi) (hs ⟨b, off, none⟩ rfl)⟩⟩
def ptr (b : Nat) : Value := .pointer (some ⟨b, 0, none⟩)
theorem PtrsV.ofOwn {w : World} {base e n : Nat} {v : Value} {bs : List Nat} (h : w.ownsRow base e 1 v n (bs.map ptr)) : ∃ a c, v = .slice a n c ∧ PtrsV w a n c bs ∧ ∀ x, a = some x → base ≤ x.block ∧ ∃ cs, w.heap[x.block]? = some (.cells cs e (0, 0)) := by
  obtain ⟨hl, h⟩ := h
  have hn : bs.length = n := by simpa using hl
  rcases h with ⟨rfl, h0⟩ | ⟨g, cap, cur, rfl, hb, hg, hnc, hcm, hcs, ht⟩
  · subst h0
    exact ⟨none, 0, rfl, ⟨hn, Nat.le_refl _, Nat.zero_le _, fun h => absurd h (by decide)⟩, fun x hx => by cases hx⟩
  · refine ⟨_, _, rfl, ⟨hn, hnc, hcm, fun h0 => ⟨g, 0, rfl, fun i hi => ?_⟩⟩, fun x hx => by cases hx; exact ⟨hb, cur, hg⟩⟩
    rw [Nat.zero_add, cell_of_row w g i cur e (0, 0) hg]
    have : (cur.toList.take (n * 1))[i]? = (bs.map ptr)[i]? := by rw [ht]
    rw [List.getElem?_take, if_pos (by omega)] at this
    simp only [Array.getElem?_toList] at this
    rw [this]
    simp [List.getD_eq_getElem?_getD, hn ▸ hi, ptr]
end Go
namespace Go
theorem own_sep {w : World} {base base' e e' size size' n n' : Nat} {v v' : Value} {xs xs' : List Value} (h : w.ownsRow base e size v n xs) (h' : w.ownsRow base' e' size' v' n' xs') (hT : e ≠ e') : v.ownBlock = none ∨ v.ownBlock ≠ v'.ownBlock := by
  cases hv : v.ownBlock with
  | none => exact .inl rfl
  | some g => exact .inr fun he => own_own h h' hT g hv he.symm
end Go
