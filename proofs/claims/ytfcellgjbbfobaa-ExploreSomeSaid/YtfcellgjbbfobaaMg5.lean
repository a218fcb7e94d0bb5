/- Texts laid together: M1 M2 R4 R5 M4 M6 M7 R6. -/
import Derived.Test.YtfcellgjbbfobaaMg4
import Derived.Maps.OwnSet
import Derived.Maps.OwnOps
import Derived.Maps.Views
import Derived.Carry
import Derived.Laws.Rows
import Derived.OwnWalk
import Derived.Laws.OwnMore
import Derived.Deep.AppendLies
import Derived.Deep.Onto
import Derived.StringKeys
import Derived.WideKeyPair
/- A map with integers for keys, seen as a function: what each key holds. -/
namespace Go
open Go.Maps (Keyed)
/-- An element is kept as it is. -/
def asIs (v : Value) : Option (DataW Value × List MemPlace) := some (.held v, [])
def MapF (w : World) (P : Program) (k : TypeId) (b n : Nat) (f : Int → Option Value) : Prop :=
  ∃ D : DataW Value, w.ownsMap P k asIs b n D ∧ Maps.IsMap D ∧ (∀ x z, D.atKey (.int .i64 x) (.held z) = .held ((f x).getD z)) ∧ ∀ x, Maps.has D (.int .i64 x) = (f x).isSome
section
variable {w w' : World} {P : Program} {k : TypeId} {b n : Nat} {f : Int → Option Value}
theorem MapF.made (w : World) (P : Program) (k : TypeId) : MapF (w.alloc (.map #[] 0)) P k w.heap.size 0 (fun _ => none) :=
  ⟨.map [], World.ownsMap_made w P k asIs, ⟨[], rfl⟩, fun _ _ => rfl, fun _ => rfl⟩
theorem MapF.lt (h : MapF w P k b n f) : b < w.heap.size := let ⟨_, h1, _⟩ := h; h1.lt
theorem MapF.block (h : MapF w P k b n f) (hb : w'.heap[b]? = w.heap[b]?) : MapF w' P k b n f := by
  obtain ⟨D, ⟨es, clock, h1, h2⟩, h3⟩ := h
  exact ⟨D, ⟨es, clock, hb.trans h1, h2⟩, h3⟩
theorem MapF.keep {S : List Nat} (h : MapF w P k b n f) (hk : Keep S w w') (hs : b ∉ S) : MapF w' P k b n f := h.block (hk.block b h.lt hs)
theorem MapF.drew (h : MapF w P k b n f) : MapF w.drew P k b n f := h
theorem MapF.mono (h : MapF w P k b n f) {n' : Nat} (hn : n ≤ n') : MapF w P k b n' f := let ⟨D, h1, h2⟩ := h; ⟨D, h1.mono hn, h2⟩
theorem MapF.notCells (h : MapF w P k b n f) {c : Nat} {cs : Array Value} {T : TypeId} {g : Nat × Nat} (hc : w.heap[c]? = some (.cells cs T g)) : b ≠ c := by
  rintro rfl
  obtain ⟨D, ⟨es, clock, h1, _⟩, _⟩ := h
  rw [hc] at h1
  cases h1
theorem keyI64 {P : Program} {k : TypeId} (hk : P.underlying k = some (.int .i64)) {x : Int} (hx : (Lit.int .i64 x).wf = true) : keyOf P k (.int .i64 x) = some (.int .i64 x) := by
  simp [keyOf, hk, mapKey, hx]
end
/-- 'm[k]' at the operation. -/
theorem wpList_lookup_f {P : Program} (w : World) {ops : Array Oper} {rest : List Oper} {o : Oper} {a : Act} {Q : Exit → Act → World → Prop}
    (hg : o.guard = none) (m x : Operand) (t : TypeId) (hop : o.op = Op.lookup t m x false)
    (k e : TypeId) (ht : P.underlying t = some (.map k e)) (hki : P.underlying k = some (.int .i64)) (z : Value) (hz : (zeroValue e).run P w = .ok z w) (b n : Nat) (f : Int → Option Value)
    (hm : a.eval m = .map (some b)) (hown : MapF w P k b n f) (key : Int) (hx : a.eval x = .int .i64 key) (hwf : (Lit.int .i64 key).wf = true)
    (hK : wpList P ops Q rest (a.put o.dst ((f key).getD z)) w) : wpList P ops Q (o :: rest) a w := by
  obtain ⟨D, h1, h2, h3, _⟩ := hown
  refine wpList_plain hg fun K' hK' => ?_
  obtain ⟨v, ps, hrun, hv⟩ := h1.lookup (Maps.int_keyed hki) ht hz (show asIs z = some (.held z, []) from rfl) (keyI64 hki hwf)
  have hve : v = (f key).getD z := by
    rw [h3] at hv
    unfold asIs at hv
    injection hv with hv
    injection hv with hv _
    injection hv
  subst hve
  unfold Oper.wp
  simp [execOp, hop, hm, hx, hrun, Result.andThen]
  exact hK' _ _ hK
/-- 'v, ok := m[k]' at the operation. -/
theorem wpList_lookup_f2 {P : Program} (w : World) {ops : Array Oper} {rest : List Oper} {o : Oper} {a : Act} {Q : Exit → Act → World → Prop}
    (hg : o.guard = none) (m x : Operand) (t : TypeId) (hop : o.op = Op.lookup t m x true)
    (k e : TypeId) (ht : P.underlying t = some (.map k e)) (hki : P.underlying k = some (.int .i64)) (z : Value) (hz : (zeroValue e).run P w = .ok z w) (b n : Nat) (f : Int → Option Value)
    (hm : a.eval m = .map (some b)) (hown : MapF w P k b n f) (key : Int) (hx : a.eval x = .int .i64 key) (hwf : (Lit.int .i64 key).wf = true)
    (hK : wpList P ops Q rest (a.put o.dst (.tuple #[(f key).getD z, .bool (f key).isSome])) w) : wpList P ops Q (o :: rest) a w := by
  obtain ⟨D, h1, h2, h3, h4⟩ := hown
  refine wpList_lookup_own_ok w hg m x t hop k e (Maps.int_keyed hki) ht asIs hz (.held z) [] rfl b n D hm h1 _ _ hx (keyI64 hki hwf) fun v ps hv => ?_
  rw [h3] at hv
  unfold asIs at hv
  injection hv with hv
  injection hv with hv _
  injection hv with hv
  subst hv
  rw [h4]
  exact hK
/-- 'm[k] = v' at the operation. -/
theorem wpList_update_f {P : Program} (w : World) {ops : Array Oper} {rest : List Oper} {o : Oper} {a : Act} {Q : Exit → Act → World → Prop}
    (hg : o.guard = none) (m x v : Operand) (t : TypeId) (hop : o.op = Op.mapUpdate t m x v)
    (k e : TypeId) (ht : P.underlying t = some (.map k e)) (hki : P.underlying k = some (.int .i64)) (b n : Nat) (f : Int → Option Value)
    (hm : a.eval m = .map (some b)) (hown : MapF w P k b n f) (hn : n < maxLen) (key : Int) (val : Value) (hx : a.eval x = .int .i64 key) (hv : a.eval v = val) (hwf : (Lit.int .i64 key).wf = true)
    (hK : ∀ w', MapF w' P k b (n + 1) (fun y => if y = key then some val else f y) → w.grownBy w' (some b) → wpList P ops Q rest (a.put o.dst undef) w') : wpList P ops Q (o :: rest) a w := by
  obtain ⟨D, h1, h2, h3, h4⟩ := hown
  have hkey := keyI64 hki hwf
  have hkl := (Maps.int_keyed hki).key hkey
  refine wpList_mapUpdate_own w hg m x v t hop k e (Maps.int_keyed hki) ht asIs b n D hm h1 hn _ val _ hx hv hkey (.held val) [] rfl fun w' hown' hgr => hK w' ⟨D.put (.int .i64 key) (.held val), hown', ?_, fun y z => ?_, fun y => ?_⟩ hgr
  · obtain ⟨es, rfl⟩ := h2
    exact ⟨_, rfl⟩
  · by_cases e1 : y = key
    · subst e1
      rw [Maps.atKey_put_same h2 hkl]; simp
    · rw [Maps.atKey_put_other (fun h => e1 (by injection h)), h3]; simp [e1]
  · by_cases e1 : y = key
    · subst e1
      rw [Maps.has_put_same h2 hkl]; simp
    · rw [Maps.has_put_other (fun h => e1 (by injection h)), h4]; simp [e1]
end Go
/- A map from integers to integers, as a function: nought where there is nothing. -/
namespace Go
open Go.Maps (Keyed)
def MapI (w : World) (P : Program) (k : TypeId) (b n : Nat) (r : Int → Int) : Prop :=
  ∃ f, MapF w P k b n f ∧ ∀ x, (f x).getD (.int .i64 0) = .int .i64 (r x)
section
variable {w w' : World} {P : Program} {k : TypeId} {b n : Nat} {r : Int → Int}
theorem MapI.made (w : World) (P : Program) (k : TypeId) : MapI (w.alloc (.map #[] 0)) P k w.heap.size 0 (fun _ => 0) := ⟨_, MapF.made w P k, fun _ => rfl⟩
theorem MapI.lt (h : MapI w P k b n r) : b < w.heap.size := let ⟨_, h1, _⟩ := h; h1.lt
theorem MapI.keep {S : List Nat} (h : MapI w P k b n r) (hk : Keep S w w') (hs : b ∉ S) : MapI w' P k b n r := let ⟨f, h1, h2⟩ := h; ⟨f, h1.keep hk hs, h2⟩
theorem MapI.mono (h : MapI w P k b n r) {n' : Nat} (hn : n ≤ n') : MapI w P k b n' r := let ⟨f, h1, h2⟩ := h; ⟨f, h1.mono hn, h2⟩
theorem MapI.notCells (h : MapI w P k b n r) {c : Nat} {cs : Array Value} {T : TypeId} {g : Nat × Nat} (hc : w.heap[c]? = some (.cells cs T g)) : b ≠ c := let ⟨_, h1, _⟩ := h; h1.notCells hc
theorem keep_turned (h : w.mapTurned w' b) : Keep [b] w w' := by
  obtain ⟨es, clock, es', clock', hb, rfl⟩ := h
  refine ⟨rfl, rfl, rfl, ?_, fun i hi hs => ?_⟩
  · show w.heap.size ≤ (w.heap.setIfInBounds b _).size
    simp
  · show (w.heap.setIfInBounds b _)[i]? = w.heap[i]?
    rw [Array.getElem?_setIfInBounds_ne (fun e => hs (by simp [e]))]
end
theorem wpList_lookup_i {P : Program} (w : World) {ops : Array Oper} {rest : List Oper} {o : Oper} {a : Act} {Q : Exit → Act → World → Prop}
    (hg : o.guard = none) (m x : Operand) (t : TypeId) (hop : o.op = Op.lookup t m x false)
    (k e : TypeId) (ht : P.underlying t = some (.map k e)) (hki : P.underlying k = some (.int .i64)) (hz : (zeroValue e).run P w = .ok (.int .i64 0) w) (b n : Nat) (r : Int → Int)
    (hm : a.eval m = .map (some b)) (hown : MapI w P k b n r) (key : Int) (hx : a.eval x = .int .i64 key) (hwf : (Lit.int .i64 key).wf = true)
    (hK : wpList P ops Q rest (a.put o.dst (.int .i64 (r key))) w) : wpList P ops Q (o :: rest) a w := by
  obtain ⟨f, h1, h2⟩ := hown
  exact wpList_lookup_f w hg m x t hop k e ht hki _ hz b n f hm h1 key hx hwf (by rw [h2]; exact hK)
theorem lookup_run_i {P : Program} {w : World} {t k e : TypeId} {b n : Nat} {r : Int → Int} {key : Int} (ht : P.underlying t = some (.map k e)) (hki : P.underlying k = some (.int .i64)) (hz : (zeroValue e).run P w = .ok (.int .i64 0) w) (hown : MapI w P k b n r) (hwf : (Lit.int .i64 key).wf = true) :
    (Instr.lookup t (.map (some b)) (.int .i64 key) false).run P w = .ok (.int .i64 (r key)) w := by
  obtain ⟨f, ⟨D, h1, h2, h3, _⟩, hf⟩ := hown
  obtain ⟨v, ps, hrun, hv⟩ := h1.lookup (Maps.int_keyed hki) ht hz (show asIs (.int .i64 0) = some (.held (.int .i64 0), []) from rfl) (keyI64 hki hwf)
  have hve : v = (f key).getD (.int .i64 0) := by
    rw [h3] at hv
    unfold asIs at hv
    injection hv with hv
    injection hv with hv _
    injection hv
  rw [hrun, hve, hf]
theorem put_i {w' : World} {P : Program} {k : TypeId} {b n : Nat} {r : Int → Int} {D : DataW Value} {f : Int → Option Value} {key v : Int} (hkl : WideAt.IsKeyLit (.int .i64 key)) (h2 : Maps.IsMap D) (h3 : ∀ x z, D.atKey (.int .i64 x) (.held z) = .held ((f x).getD z)) (h4 : ∀ x, Maps.has D (.int .i64 x) = (f x).isSome)
    (hf : ∀ x, (f x).getD (.int .i64 0) = .int .i64 (r x)) (ho : w'.ownsMap P k asIs b n (D.put (.int .i64 key) (.held (.int .i64 v)))) : MapI w' P k b n (fun y => if y = key then v else r y) := by
  refine ⟨fun y => if y = key then some (.int .i64 v) else f y, ⟨_, ho, ?_, fun y z => ?_, fun y => ?_⟩, fun y => ?_⟩
  · obtain ⟨es, rfl⟩ := h2
    exact ⟨_, rfl⟩
  · by_cases e1 : y = key
    · subst e1
      rw [Maps.atKey_put_same h2 hkl]; simp
    · rw [Maps.atKey_put_other (fun h => e1 (by injection h)), h3]; simp [e1]
  · by_cases e1 : y = key
    · subst e1
      rw [Maps.has_put_same h2 hkl]; simp
    · rw [Maps.has_put_other (fun h => e1 (by injection h)), h4]; simp [e1]
  · by_cases e1 : y = key
    · simp [e1]
    · simp [e1, hf]
theorem update_run_i {P : Program} {w : World} {t k e : TypeId} {b n : Nat} {r : Int → Int} {key v : Int} (ht : P.underlying t = some (.map k e)) (hki : P.underlying k = some (.int .i64)) (hown : MapI w P k b n r) (hn : n < maxLen) (hwf : (Lit.int .i64 key).wf = true) :
    ∃ w', (Instr.mapUpdate t (.map (some b)) (.int .i64 key) (.int .i64 v)).run P w = .ok () w' ∧ MapI w' P k b (n + 1) (fun y => if y = key then v else r y) ∧ Keep [b] w w' := by
  obtain ⟨f, ⟨D, h1, h2, h3, h4⟩, hf⟩ := hown
  have hkey := keyI64 hki hwf
  obtain ⟨w', hrun, h5, h6⟩ := h1.store (Maps.int_keyed hki) ht hn (val := .int .i64 v) hkey (show asIs (.int .i64 v) = some (.held (.int .i64 v), []) from rfl)
  exact ⟨w', hrun, put_i ((Maps.int_keyed hki).key hkey) h2 h3 h4 hf h5, keep_turned h6⟩
theorem wpList_update_i {P : Program} (w : World) {ops : Array Oper} {rest : List Oper} {o : Oper} {a : Act} {Q : Exit → Act → World → Prop}
    (hg : o.guard = none) (m x v : Operand) (t : TypeId) (hop : o.op = Op.mapUpdate t m x v ∨ o.op = Op.insert t m x v)
    (k e : TypeId) (ht : P.underlying t = some (.map k e)) (hki : P.underlying k = some (.int .i64)) (b n : Nat) (r : Int → Int)
    (hm : a.eval m = .map (some b)) (hown : MapI w P k b n r) (hn : n < maxLen) (key val : Int) (hx : a.eval x = .int .i64 key) (hv : a.eval v = .int .i64 val) (hwf : (Lit.int .i64 key).wf = true)
    (hK : ∀ w', MapI w' P k b (n + 1) (fun y => if y = key then val else r y) → Keep [b] w w' → wpList P ops Q rest (a.put o.dst undef) w') : wpList P ops Q (o :: rest) a w := by
  refine wpList_plain hg fun K' hK' => ?_
  obtain ⟨w', hrun, h5, h6⟩ := update_run_i (v := val) ht hki hown hn hwf
  unfold Oper.wp
  rcases hop with hop | hop
  all_goals
    simp [execOp, hop, hm, hx, hv, hrun, Result.andThen]
    exact hK' _ _ (hK w' h5 h6)
theorem wpList_delete_i {P : Program} (w : World) {ops : Array Oper} {rest : List Oper} {o : Oper} {a : Act} {Q : Exit → Act → World → Prop}
    (hg : o.guard = none) (m x : Operand) (t k : TypeId) (hop : o.op = Op.call { callee := Callee.builtin Builtin.delete, args := #[m, x], argTypes := #[t, k] })
    (e : TypeId) (ht : P.underlying t = some (.map k e)) (hki : P.underlying k = some (.int .i64)) (b n : Nat) (r : Int → Int)
    (hm : a.eval m = .map (some b)) (hown : MapI w P k b n r) (key : Int) (hx : a.eval x = .int .i64 key) (hwf : (Lit.int .i64 key).wf = true)
    (hK : ∀ w', MapI w' P k b n (fun y => if y = key then 0 else r y) → Keep [b] w w' → wpList P ops Q rest (a.put o.dst (.tuple #[])) w') : wpList P ops Q (o :: rest) a w := by
  obtain ⟨f, ⟨D, h1, h2, h3, h4⟩, hf⟩ := hown
  refine wpList_delete_own w hg m x t k hop e (Maps.int_keyed hki) ht asIs b n D hm h1 _ _ hx (keyI64 hki hwf) fun w' h5 h6 => hK w' ⟨fun y => if y = key then none else f y, ⟨_, h5, ?_, fun y z => ?_, fun y => ?_⟩, fun y => ?_⟩ (keep_turned h6)
  · obtain ⟨es, rfl⟩ := h2
    exact ⟨_, rfl⟩
  · by_cases e1 : y = key
    · subst e1
      rw [Maps.atKey_del_same]; simp
    · rw [Maps.atKey_del_other (fun h => e1 (by injection h)), h3]; simp [e1]
  · by_cases e1 : y = key
    · subst e1
      rw [Maps.has_del_same]; simp
    · rw [Maps.has_del_other (fun h => e1 (by injection h)), h4]; simp [e1]
  · by_cases e1 : y = key
    · simp [e1]
    · simp [e1, hf]
end Go
namespace Go
open Go.RowKit
/-- A whole array or struct read out of the middle of a block. -/
theorem run_loadVar_at {P : Program} (w : World) (a : Addr) (ty : TypeId) (vs : List Value) (d : TypeDesc) (hg : ∀ j v, vs[j]? = some v → w.cell? (a.add j) = some v)
    (hu : P.underlying ty = some d) (hd : (match d with | .struct _ | .array _ _ => true | _ => false) = true) (hi : (P.info? ty).map (·.size) = some vs.length) :
    (loadVar ty a).run P w = .ok (.agg vs.toArray) w := by
  have hl : (loadCells a vs.length).run P w = .ok vs.toArray w := run_loadCells_list (P := P) w a vs hg
  cases hq : P.info? ty with
  | none => simp [hq] at hi
  | some i =>
    have hs : i.size = vs.length := by simpa [hq] using hi
    have hagg : (isAgg ty).run P w = .ok true w := by
      unfold isAgg
      rw [Sem.run_bind, run_underlying hu w]
      cases d <;> simp_all
    simp [loadVar, Sem.run_bind, hagg, sizeOf, typeInfo, hq, hs, hl]
theorem wp_load_at {P : Program} {o : Oper} {a : Act} {w : World} {K : Act → World → Prop} {Q : Exit → Act → World → Prop} (ty : TypeId) (x : Operand) (ho : o.op = .load ty x)
    (ad : Addr) (hx : a.eval x = .pointer (some ad)) (vs : List Value) (d : TypeDesc) (hg : ∀ j v, vs[j]? = some v → w.cell? (ad.add j) = some v)
    (hu : P.underlying ty = some d) (hd : (match d with | .struct _ | .array _ _ => true | _ => false) = true) (hi : (P.info? ty).map (·.size) = some vs.length)
    (h : K (a.put o.dst (.agg vs.toArray)) w) : o.wp P a w K Q := by
  unfold Oper.wp execOp
  simp only [ho, hx, Instr.loadAt, Instr.sureAddr, Sem.run_bind, Sem.run_pure, Result.andThen_ok, run_loadVar_at w ad ty vs d hg hu hd hi]
  exact h
theorem wpList_load_at {P : Program} {ops : Array Oper} {rest : List Oper} {o : Oper} {a : Act} {w : World} {Q : Exit → Act → World → Prop} (hgd : o.guard = none) (ty : TypeId) (x : Operand) (ho : o.op = .load ty x)
    (ad : Addr) (hx : a.eval x = .pointer (some ad)) (vs : List Value) (d : TypeDesc) (hg : ∀ j v, vs[j]? = some v → w.cell? (ad.add j) = some v)
    (hu : P.underlying ty = some d) (hd : (match d with | .struct _ | .array _ _ => true | _ => false) = true) (hi : (P.info? ty).map (·.size) = some vs.length)
    (h : wpList P ops Q rest (a.put o.dst (.agg vs.toArray)) w) : wpList P ops Q (o :: rest) a w :=
  wpList_plain hgd fun _ hK => wp_load_at ty x ho ad hx vs d hg hu hd hi (hK _ _ h)
theorem GAt.rowsAt {T : TypeId} {w : World} {b : Nat} {g : Gs} (h : GAt T w b g) : ∀ j v, (lanesC g.rs)[j]? = some v → w.cell? ((⟨b, 3, none⟩ : Addr).add j) = some v := by
  intro j v hv
  have hj : j < (lanesC g.rs).length := (List.getElem?_eq_some_iff.1 hv).1
  have e : (⟨b, 3, none⟩ : Addr).add j = ⟨b, 3 + j, none⟩ := by unfold Addr.add; split <;> simp_all
  rw [e, cellAt h.1]
  simp only [List.getElem?_toArray, Gs.cells, List.append_assoc]
  rw [List.getElem?_append_right (by simp), List.getElem?_append_left (by simp only [List.length_cons, List.length_nil]; omega)]
  rw [← hv]
  congr 1
  simp only [List.length_cons, List.length_nil]; omega
/-- A new block's cells. -/
theorem cells_new (w : World) (xs : List Value) (t : TypeId) (f : Nat × Nat) : ∀ j u, xs[j]? = some u → (w.alloc (.cells xs.toArray t f)).cell? ((⟨w.heap.size, 0, none⟩ : Addr).add j) = some u := by
  intro j u hj
  have e : (⟨w.heap.size, 0, none⟩ : Addr).add j = ⟨w.heap.size, j, none⟩ := by unfold Addr.add; split <;> simp_all
  rw [e, cell_of_row _ _ _ _ _ _ (blk_new w _)]
  simpa using hj
theorem cells_new2 (w : World) (o : Obj) (xs : List Value) (t : TypeId) : ∀ j u, xs[j]? = some u → ((w.alloc o).alloc (.cells xs.toArray t)).cell? ((⟨w.heap.size + 1, 0, none⟩ : Addr).add j) = some u := by
  have h := cells_new (w.alloc o) xs t (0, 0)
  have e : (w.alloc o).heap.size = w.heap.size + 1 := by simp
  rw [e] at h
  exact h
/-- A slice of rows of three numbers. -/
structure LnsV (w : World) (a : Option Addr) (n c : Nat) (ls : List Ln) : Prop where
  len : ls.length = n
  room : n ≤ c
  most : c ≤ maxLen
  cells : 0 < n → ∃ b off, a = some ⟨b, off, none⟩ ∧ ∀ j, j < 3 * n → w.cell? ⟨b, off + j, none⟩ = (lanesC ls)[j]?
section
variable {w w' : World} {a : Option Addr} {n c : Nat} {ls : List Ln}
theorem LnsV.nil (w : World) : LnsV w none 0 0 [] := ⟨rfl, Nat.le_refl _, Nat.zero_le _, fun h => absurd h (by decide)⟩
theorem LnsV.keep {S : List Nat} (h : LnsV w a n c ls) (k : Keep S w w') (hs : ∀ x, a = some x → x.block ∉ S) : LnsV w' a n c ls :=
  ⟨h.len, h.room, h.most, fun hn => by
    obtain ⟨b, off, rfl, hc⟩ := h.cells hn
    refine ⟨b, off, rfl, fun j hj => ?_⟩
    rw [← hc j hj]
    have hsome : ∃ v, (lanesC ls)[j]? = some v := ⟨_, List.getElem?_eq_getElem (by have := lanesC_len ls; have := h.len; omega)⟩
    obtain ⟨v, hv⟩ := hsome
    have h1 := (hc j hj).trans hv
    rw [h1]
    exact k.cell h1 (hs ⟨b, off, none⟩ rfl)⟩
theorem LnsV.at_ (h : LnsV w a n c ls) {i : Nat} (hi : i < n) : ∃ b off, a = some ⟨b, off, none⟩ ∧ w.cell? ⟨b, off + i * 3, none⟩ = some (.int .i64 (lat ls i).q) ∧ w.cell? ⟨b, off + i * 3 + 1, none⟩ = some (.int .i64 (lat ls i).g) ∧ w.cell? ⟨b, off + i * 3 + 2, none⟩ = some (.int .i64 (lat ls i).u) := by
  obtain ⟨b, off, rfl, hc⟩ := h.cells (by omega)
  have at_ : ∀ f, f < 3 → w.cell? ⟨b, off + (i * 3 + f), none⟩ = (lat ls i).cells[f]? := fun f hf => by
    rw [hc _ (by omega)]
    exact lanesC_at ls i f (by rw [h.len]; exact hi) hf
  exact ⟨b, off, rfl, at_ 0 (by omega), at_ 1 (by omega), at_ 2 (by omega)⟩
theorem LnsV.ofOwn {base e : Nat} {v : Value} (h : w.ownsRow base e 3 v n (lanesC ls)) : ∃ a c, v = .slice a n c ∧ LnsV w a n c ls ∧ ∀ x, a = some x → base ≤ x.block := by
  obtain ⟨hl, h⟩ := h
  have hn : ls.length = n := by have := lanesC_len ls; omega
  rcases h with ⟨rfl, hnil⟩ | ⟨g, cap, cur, rfl, hb, hg, hnc, hcm, hcs, ht⟩
  · have h0 : n = 0 := by rw [hnil] at hl; simp at hl; omega
    subst h0
    exact ⟨none, 0, rfl, ⟨hn, Nat.le_refl _, Nat.zero_le _, fun h => absurd h (by decide)⟩, fun x hx => by cases hx⟩
  · refine ⟨_, _, rfl, ⟨hn, hnc, hcm, fun h0 => ⟨g, 0, rfl, fun j hj => ?_⟩⟩, fun x hx => by cases hx; exact hb⟩
    rw [Nat.zero_add, cell_of_row w g j cur e (0, 0) hg]
    have : (cur.toList.take (n * 3))[j]? = (lanesC ls)[j]? := by rw [ht]
    rw [List.getElem?_take, if_pos (by omega)] at this
    simpa using this
theorem LnsV.drew (h : LnsV w a n c ls) : LnsV w.drew a n c ls := ⟨h.len, h.room, h.most, h.cells⟩
theorem lanesC_snoc (ls : List Ln) (L : Ln) : lanesC (ls ++ [L]) = lanesC ls ++ L.cells := by simp [lanesC]
end
end Go
namespace Go
theorem GAt.alloc {T : TypeId} {w : World} {b : Nat} {g : Gs} (h : GAt T w b g) (o : Obj) : GAt T (w.alloc o) b g := h.keep ((Keep.refl [] w).alloc o) (by simp)
theorem GAt.put3 {T : TypeId} {w : World} {b : Nat} {g : Gs} (h : GAt T w b g) {i : Nat} (hi : i < 9) (x y z : Int) :
    GAt T (((w.setCell ⟨b, 3 + i * 3, none⟩ (.int .i64 x)).setCell ⟨b, 3 + i * 3 + 1, none⟩ (.int .i64 y)).setCell ⟨b, 3 + i * 3 + 2, none⟩ (.int .i64 z)) b { g with rs := g.rs.set i ⟨x, y, z⟩ } := by
  have hl : i < g.rs.length := by have := h.2.1; omega
  have e0 := h.putRow hi 0 (by omega) (.int .i64 x) ⟨x, (lat g.rs i).g, (lat g.rs i).u⟩ rfl
  have e1 := e0.putRow hi 1 (by omega) (.int .i64 y) ⟨x, y, (lat g.rs i).u⟩ (by dsimp only; rw [lat_set _ _ _ _ hl, if_pos rfl]; rfl)
  have e2 := e1.putRow hi 2 (by omega) (.int .i64 z) ⟨x, y, z⟩ (by dsimp only; rw [List.set_set, lat_set _ _ _ _ hl, if_pos rfl]; rfl)
  dsimp only at e2
  rw [List.set_set, List.set_set] at e2
  exact e2
end Go
namespace Go
open Go.RowKit
theorem Keep.more {S S' : List Nat} {w w' : World} (h : Keep S w w') (hs : ∀ b ∈ S, b ∈ S') : Keep S' w w' :=
  ⟨h.os, h.tape, h.output, h.size, fun k hk hn => h.block k hk fun hm => hn (hs k hm)⟩
theorem own_keep {S : List Nat} {w w' : World} {base e size n : Nat} {v : Value} {xs : List Value} (h : w.ownsRow base e size v n xs) (k : Keep S w w') (hs : ∀ b, v.ownBlock = some b → b ∉ S) : w'.ownsRow base e size v n xs := by
  refine ⟨h.1, ?_⟩
  rcases h.2 with hn | ⟨g, cap, cur, rfl, hb, hgg, rest⟩
  · exact .inl hn
  · exact .inr ⟨g, cap, cur, rfl, hb, k.at hgg (hs g rfl), rest⟩
/-- A row's block and a block of another kind are two. -/
theorem own_ne {w : World} {base e size n : Nat} {v : Value} {xs : List Value} (h : w.ownsRow base e size v n xs) {b : Nat} {cs : Array Value} {T : TypeId} {f : Nat × Nat} (hb : w.heap[b]? = some (.cells cs T f)) (hT : e ≠ T) : ∀ g, v.ownBlock = some g → g ≠ b := by
  intro g hg he
  subst he
  rcases h.2 with ⟨rfl, _⟩ | ⟨g', cap, cur, rfl, _, hgg, _⟩
  · simp [Value.ownBlock] at hg
  · simp [Value.ownBlock] at hg
    subst hg
    rw [hb] at hgg
    injection hgg with hgg
    injection hgg with _ h2 _
    exact hT h2.symm
theorem own_own {w : World} {base base' e e' size size' n n' : Nat} {v v' : Value} {xs xs' : List Value} (h : w.ownsRow base e size v n xs) (h' : w.ownsRow base' e' size' v' n' xs') (hT : e ≠ e') : ∀ g, v.ownBlock = some g → v'.ownBlock ≠ some g := by
  intro g hg he
  rcases h'.2 with ⟨rfl, _⟩ | ⟨g', cap, cur, rfl, _, hgg, _⟩
  · simp [Value.ownBlock] at he
  · simp [Value.ownBlock] at he
    subst he
    exact own_ne h hgg hT g' hg rfl
theorem Keep.ofGrown {w w' : World} {row : Option Nat} {S : List Nat} (h : w.grownBy w' row) (hr : ∀ k, row = some k → k ∈ S) : Keep S w w' :=
  ⟨h.os, h.tape, h.output, h.size, fun k hk hn => h.block k hk fun e => hn (hr k e.symm)⟩
/-- What Keep a list of blocks S, and nothing else, may touch: those of S that were there. -/
theorem Keep.fresh {S : List Nat} {w w' : World} (h : Keep S w w') (hs : ∀ b ∈ S, w.heap.size ≤ b) : Keep [] w w' :=
  ⟨h.os, h.tape, h.output, h.size, fun k hk _ => h.block k hk fun hm => by have := hs k hm; omega⟩
/-- A slice of pointers to whole blocks. -/
structure PtrsV (w : World) (a : Option Addr) (n c : Nat) (bs : List Nat) : Prop where
  len : bs.length = n
  room : n ≤ c
  most : c ≤ maxLen
  cells : 0 < n → ∃ b off, a = some ⟨b, off, none⟩ ∧ ∀ i, i < n → w.cell? ⟨b, off + i, none⟩ = some (.pointer (some ⟨bs.getD i 0, 0, none⟩))
theorem PtrsV.keep {S : List Nat} {w w' : World} {a : Option Addr} {n c : Nat} {bs : List Nat} (h : PtrsV w a n c bs) (k : Keep S w w') (hs : ∀ x, a = some x → x.block ∉ S) : PtrsV w' a n c bs :=
  ⟨h.len, h.room, h.most, fun hn => by
    obtain ⟨b, off, rfl, hc⟩ := h.cells hn
    exact ⟨b, off, rfl, fun i hi => k.cell (hc i hi) (hs ⟨b, off, none⟩ rfl)⟩⟩
def ptr (b : Nat) : Value := .pointer (some ⟨b, 0, none⟩)
theorem PtrsV.ofOwn {w : World} {base e n : Nat} {v : Value} {bs : List Nat} (h : w.ownsRow base e 1 v n (bs.map ptr)) : ∃ a c, v = .slice a n c ∧ PtrsV w a n c bs ∧ ∀ x, a = some x → base ≤ x.block ∧ ∃ cs, w.heap[x.block]? = some (.cells cs e (0, 0)) := by
  obtain ⟨hl, h⟩ := h
  have hn : bs.length = n := by simpa using hl
  rcases h with ⟨rfl, h0⟩ | ⟨g, cap, cur, rfl, hb, hg, hnc, hcm, hcs, ht⟩
  · subst h0
    exact ⟨none, 0, rfl, ⟨hn, Nat.le_refl _, Nat.zero_le _, fun h => absurd h (by decide)⟩, fun x hx => by cases hx⟩
  · refine ⟨_, _, rfl, ⟨hn, hnc, hcm, fun h0 => ⟨g, 0, rfl, fun i hi => ?_⟩⟩, fun x hx => by cases hx; exact ⟨hb, cur, hg⟩⟩
    rw [Nat.zero_add, cell_of_row w g i cur e (0, 0) hg]
    have : (cur.toList.take (n * 1))[i]? = (bs.map ptr)[i]? := by rw [ht]
    rw [List.getElem?_take, if_pos (by omega)] at this
    simp only [Array.getElem?_toList] at this
    rw [this]
    simp [List.getD_eq_getElem?_getD, hn ▸ hi, ptr]
end Go
namespace Go
theorem own_sep {w : World} {base base' e e' size size' n n' : Nat} {v v' : Value} {xs xs' : List Value} (h : w.ownsRow base e size v n xs) (h' : w.ownsRow base' e' size' v' n' xs') (hT : e ≠ e') : v.ownBlock = none ∨ v.ownBlock ≠ v'.ownBlock := by
  cases hv : v.ownBlock with
  | none => exact .inl rfl
  | some g => exact .inr fun he => own_own h h' hT g hv he.symm
end Go
/- A map with keys of any type that the kit keys, seen as a function of what stands for the keys. -/
namespace Go
open Go.Maps (Keyed)
open Go.WideMaps
structure KeyT (P : Program) (k : TypeId) (α : Type) where
  val : α → Value
  lit : α → Lit
  ok : α → Prop
  keyed : Keyed P k
  key : ∀ x, ok x → keyOf P k (val x) = some (lit x)
  inj : ∀ x y, ok x → ok y → lit x = lit y → x = y
def MapK {P : Program} {k : TypeId} {α : Type} (C : KeyT P k α) (w : World) (b n : Nat) (f : α → Option Value) : Prop :=
  ∃ D : DataW Value, w.ownsMap P k asIs b n D ∧ Maps.IsMap D ∧ (∀ x, C.ok x → ∀ z, D.atKey (C.lit x) (.held z) = .held ((f x).getD z)) ∧ ∀ x, C.ok x → Maps.has D (C.lit x) = (f x).isSome
section
variable {w w' : World} {P : Program} {k : TypeId} {α : Type} {C : KeyT P k α} {b n : Nat} {f : α → Option Value}
theorem MapK.made (C : KeyT P k α) (w : World) : MapK C (w.alloc (.map #[] 0)) w.heap.size 0 (fun _ => none) :=
  ⟨.map [], World.ownsMap_made w P k asIs, ⟨[], rfl⟩, fun _ _ _ => rfl, fun _ _ => rfl⟩
theorem MapK.lt (h : MapK C w b n f) : b < w.heap.size := let ⟨_, h1, _⟩ := h; h1.lt
theorem MapK.block (h : MapK C w b n f) (hb : w'.heap[b]? = w.heap[b]?) : MapK C w' b n f := by
  obtain ⟨D, ⟨es, clock, h1, h2⟩, h3⟩ := h
  exact ⟨D, ⟨es, clock, hb.trans h1, h2⟩, h3⟩
theorem MapK.keep {S : List Nat} (h : MapK C w b n f) (hk : Keep S w w') (hs : b ∉ S) : MapK C w' b n f := h.block (hk.block b h.lt hs)
theorem MapK.drew (h : MapK C w b n f) : MapK C w.drew b n f := h
theorem MapK.mono (h : MapK C w b n f) {n' : Nat} (hn : n ≤ n') : MapK C w b n' f := let ⟨D, h1, h2⟩ := h; ⟨D, h1.mono hn, h2⟩
theorem MapK.notCells (h : MapK C w b n f) {c : Nat} {cs : Array Value} {T : TypeId} {g : Nat × Nat} (hc : w.heap[c]? = some (.cells cs T g)) : b ≠ c := by
  rintro rfl
  obtain ⟨D, ⟨es, clock, h1, _⟩, _⟩ := h
  rw [hc] at h1
  cases h1
theorem put_k [DecidableEq α] {D : DataW Value} {key : α} {v : Value} (hx : C.ok key) (h2 : Maps.IsMap D) (h3 : ∀ x, C.ok x → ∀ z, D.atKey (C.lit x) (.held z) = .held ((f x).getD z)) (h4 : ∀ x, C.ok x → Maps.has D (C.lit x) = (f x).isSome)
    (ho : w'.ownsMap P k asIs b n (D.put (C.lit key) (.held v))) : MapK C w' b n (fun y => if y = key then some v else f y) := by
  have hkl := C.keyed.key (C.key key hx)
  refine ⟨_, ho, ?_, fun y hy z => ?_, fun y hy => ?_⟩
  · obtain ⟨es, rfl⟩ := h2
    exact ⟨_, rfl⟩
  · by_cases e1 : y = key
    · subst e1
      rw [Maps.atKey_put_same h2 hkl]; simp
    · rw [Maps.atKey_put_other (fun h => e1 (C.inj _ _ hy hx h)), h3 y hy]; simp [e1]
  · by_cases e1 : y = key
    · subst e1
      rw [Maps.has_put_same h2 hkl]; simp
    · rw [Maps.has_put_other (fun h => e1 (C.inj _ _ hy hx h)), h4 y hy]; simp [e1]
theorem lookup_run_k {t e : TypeId} {z : Value} {key : α} (ht : P.underlying t = some (.map k e)) (hz : (zeroValue e).run P w = .ok z w) (hown : MapK C w b n f) (hx : C.ok key) :
    (Instr.lookup t (.map (some b)) (C.val key) false).run P w = .ok ((f key).getD z) w := by
  obtain ⟨D, h1, h2, h3, _⟩ := hown
  obtain ⟨v, ps, hrun, hv⟩ := h1.lookup C.keyed ht hz (show asIs z = some (.held z, []) from rfl) (C.key key hx)
  have hve : v = (f key).getD z := by
    rw [h3 key hx] at hv
    unfold asIs at hv
    injection hv with hv
    injection hv with hv _
    injection hv
  rw [hrun, hve]
theorem update_run_k [DecidableEq α] {t e : TypeId} {key : α} {v : Value} (ht : P.underlying t = some (.map k e)) (hown : MapK C w b n f) (hn : n < maxLen) (hx : C.ok key) :
    ∃ w', (Instr.mapUpdate t (.map (some b)) (C.val key) v).run P w = .ok () w' ∧ MapK C w' b (n + 1) (fun y => if y = key then some v else f y) ∧ Keep [b] w w' := by
  obtain ⟨D, h1, h2, h3, h4⟩ := hown
  have hkey := C.key key hx
  obtain ⟨w', hrun, h5, h6⟩ := h1.store C.keyed ht hn (val := v) hkey (show asIs v = some (.held v, []) from rfl)
  exact ⟨w', hrun, put_k hx h2 h3 h4 h5, keep_turned h6⟩
end
theorem wpList_lookup_k {P : Program} {k : TypeId} {α : Type} (C : KeyT P k α) (w : World) {ops : Array Oper} {rest : List Oper} {o : Oper} {a : Act} {Q : Exit → Act → World → Prop}
    (hg : o.guard = none) (m x : Operand) (t : TypeId) (hop : o.op = Op.lookup t m x false)
    (e : TypeId) (ht : P.underlying t = some (.map k e)) (z : Value) (hz : (zeroValue e).run P w = .ok z w) (b n : Nat) (f : α → Option Value)
    (hm : a.eval m = .map (some b)) (hown : MapK C w b n f) (key : α) (hx : a.eval x = C.val key) (hok : C.ok key)
    (hK : wpList P ops Q rest (a.put o.dst ((f key).getD z)) w) : wpList P ops Q (o :: rest) a w := by
  refine wpList_plain hg fun K' hK' => ?_
  have hrun := lookup_run_k ht hz hown hok
  unfold Oper.wp
  simp [execOp, hop, hm, hx, hrun, Result.andThen]
  exact hK' _ _ hK
theorem wpList_lookup_k2 {P : Program} {k : TypeId} {α : Type} (C : KeyT P k α) (w : World) {ops : Array Oper} {rest : List Oper} {o : Oper} {a : Act} {Q : Exit → Act → World → Prop}
    (hg : o.guard = none) (m x : Operand) (t : TypeId) (hop : o.op = Op.lookup t m x true)
    (e : TypeId) (ht : P.underlying t = some (.map k e)) (z : Value) (hz : (zeroValue e).run P w = .ok z w) (b n : Nat) (f : α → Option Value)
    (hm : a.eval m = .map (some b)) (hown : MapK C w b n f) (key : α) (hx : a.eval x = C.val key) (hok : C.ok key)
    (hK : wpList P ops Q rest (a.put o.dst (.tuple #[(f key).getD z, .bool (f key).isSome])) w) : wpList P ops Q (o :: rest) a w := by
  obtain ⟨D, h1, h2, h3, h4⟩ := hown
  refine wpList_lookup_own_ok w hg m x t hop k e C.keyed ht asIs hz (.held z) [] rfl b n D hm h1 _ _ hx (C.key key hok) fun v ps hv => ?_
  rw [h3 key hok] at hv
  unfold asIs at hv
  injection hv with hv
  injection hv with hv _
  injection hv with hv
  subst hv
  rw [h4 key hok]
  exact hK
theorem wpList_update_kk {P : Program} {k : TypeId} {α : Type} [DecidableEq α] (C : KeyT P k α) (w : World) {ops : Array Oper} {rest : List Oper} {o : Oper} {a : Act} {Q : Exit → Act → World → Prop}
    (hg : o.guard = none) (m x v : Operand) (t : TypeId) (hop : o.op = Op.mapUpdate t m x v ∨ o.op = Op.insert t m x v)
    (e : TypeId) (ht : P.underlying t = some (.map k e)) (b n : Nat) (f : α → Option Value)
    (hm : a.eval m = .map (some b)) (hown : MapK C w b n f) (hn : n < maxLen) (key : α) (val : Value) (hx : a.eval x = C.val key) (hv : a.eval v = val) (hok : C.ok key)
    (hK : ∀ w', MapK C w' b (n + 1) (fun y => if y = key then some val else f y) → Keep [b] w w' → wpList P ops Q rest (a.put o.dst undef) w') : wpList P ops Q (o :: rest) a w := by
  refine wpList_plain hg fun K' hK' => ?_
  obtain ⟨w', hrun, h5, h6⟩ := update_run_k (v := val) ht hown hn hok
  unfold Oper.wp
  rcases hop with hop | hop
  all_goals
    simp [execOp, hop, hm, hx, hv, hrun, Result.andThen]
    exact hK' _ _ (hK w' h5 h6)
/-- Strings for keys. -/
def KeyStr {P : Program} {k : TypeId} (hk : P.underlying k = some .string) : KeyT P k ByteArray where
  val s := .string s
  lit s := .string s.data.toList
  ok s := s.size ≤ maxLen
  keyed := Maps.string_keyed hk
  key s h := keyOf_string_mk hk h
  inj s t _ _ h := by
    injection h with h
    have h' : s.data = t.data := by
      rw [← Array.toArray_toList (xs := s.data), h, Array.toArray_toList]
    cases s; cases t
    simp at h'
    subst h'
    rfl
end Go
/- A map[K]bool as the list of what was put in. -/
namespace Go
open Go.Maps (Keyed)
open Go.WideMaps
/-- What is in: each once. -/
def Seen {P : Program} {k : TypeId} {α : Type} [DecidableEq α] (C : KeyT P k α) (w : World) (b : Nat) (L : List α) : Prop :=
  ∃ D : DataW Value, w.ownsMap P k asIs b L.length D ∧ Maps.IsMap D ∧ (∀ x, C.ok x → ∀ z, D.atKey (C.lit x) (.held z) = .held ((if x ∈ L then some (.bool true) else none : Option Value).getD z)) ∧ (∀ x, C.ok x → Maps.has D (C.lit x) = (if x ∈ L then some (.bool true) else none : Option Value).isSome) ∧ Maps.size D = L.length
section
variable {w w' : World} {P : Program} {k : TypeId} {α : Type} [DecidableEq α] {C : KeyT P k α} {b : Nat} {L : List α}
theorem Seen.made (C : KeyT P k α) (w : World) : Seen C (w.alloc (.map #[] 0)) w.heap.size [] :=
  ⟨.map [], World.ownsMap_made w P k asIs, ⟨[], rfl⟩, fun _ _ _ => rfl, fun _ _ => rfl, rfl⟩
theorem Seen.lt (h : Seen C w b L) : b < w.heap.size := let ⟨_, h1, _⟩ := h; h1.lt
theorem Seen.block (h : Seen C w b L) (hb : w'.heap[b]? = w.heap[b]?) : Seen C w' b L := by
  obtain ⟨D, ⟨es, clock, h1, h2⟩, h3⟩ := h
  exact ⟨D, ⟨es, clock, hb.trans h1, h2⟩, h3⟩
theorem Seen.keep {S : List Nat} (h : Seen C w b L) (hk : Keep S w w') (hs : b ∉ S) : Seen C w' b L := h.block (hk.block b h.lt hs)
theorem Seen.drew (h : Seen C w b L) : Seen C w.drew b L := h
theorem Seen.notCells (h : Seen C w b L) {c : Nat} {cs : Array Value} {T : TypeId} {g : Nat × Nat} (hc : w.heap[c]? = some (.cells cs T g)) : b ≠ c := by
  rintro rfl
  obtain ⟨D, ⟨es, clock, h1, _⟩, _⟩ := h
  rw [hc] at h1
  cases h1
theorem Seen.add {t e : TypeId} {key : α} (ht : P.underlying t = some (.map k e)) (h : Seen C w b L) (hn : L.length < maxLen) (hx : C.ok key) (hnew : key ∉ L) :
    ∃ w', (Instr.mapUpdate t (.map (some b)) (C.val key) (.bool true)).run P w = .ok () w' ∧ Seen C w' b (L ++ [key]) ∧ Keep [b] w w' := by
  obtain ⟨D, h1, h2, h3, h4, h5⟩ := h
  have hkey := C.key key hx
  have hkl := C.keyed.key hkey
  obtain ⟨w', hrun, h6, h7⟩ := h1.store C.keyed ht hn (val := .bool true) hkey (show asIs (.bool true) = some (.held (.bool true), []) from rfl)
  have hhas : Maps.has D (C.lit key) = false := by rw [h4 key hx, if_neg hnew]; rfl
  refine ⟨w', hrun, ⟨_, by rw [List.length_append]; exact h6, ?_, fun y hy z => ?_, fun y hy => ?_, ?_⟩, keep_turned h7⟩
  · obtain ⟨es, rfl⟩ := h2
    exact ⟨_, rfl⟩
  · by_cases e1 : y = key
    · subst e1
      rw [Maps.atKey_put_same h2 hkl]; simp
    · rw [Maps.atKey_put_other (fun h => e1 (C.inj _ _ hy hx h)), h3 y hy]; simp [e1]
  · by_cases e1 : y = key
    · subst e1
      rw [Maps.has_put_same h2 hkl]; simp
    · rw [Maps.has_put_other (fun h => e1 (C.inj _ _ hy hx h)), h4 y hy]; simp [e1]
  · rw [Maps.size_put (h1.tidy C.keyed), hhas, h5, List.length_append]; rfl
theorem Seen.look {t e : TypeId} {key : α} (ht : P.underlying t = some (.map k e)) (hz : (zeroValue e).run P w = .ok (.bool false) w) (h : Seen C w b L) (hx : C.ok key) :
    (Instr.lookup t (.map (some b)) (C.val key) false).run P w = .ok (.bool (decide (key ∈ L))) w := by
  obtain ⟨D, h1, h2, h3, _⟩ := h
  obtain ⟨v, ps, hrun, hv⟩ := h1.lookup C.keyed ht hz (show asIs (.bool false) = some (.held (.bool false), []) from rfl) (C.key key hx)
  rw [h3 key hx] at hv
  unfold asIs at hv
  injection hv with hv
  injection hv with hv _
  injection hv with hv
  rw [hrun, hv]
  by_cases e1 : key ∈ L
  · simp [e1]
  · simp [e1]
theorem Seen.len {t e : TypeId} (ht : P.underlying t = some (.map k e)) (h : Seen C w b L) (ty : TypeId) : (Builtin.len_ #[t] ty #[.map (some b)]).run P w = .ok (.int .i64 L.length) w := by
  obtain ⟨D, h1, _, _, _, h5⟩ := h
  rw [h1.len ht ty, h5]
end
end Go
/- Keys that are arrays of eight ints. -/
namespace Go
open Go.Maps (Keyed)
open Go.WideMaps
def aggI (xs : List Int) : Value := .agg (xs.map (Value.int .i64)).toArray
theorem aggI_inj {xs ys : List Int} (h : aggI xs = aggI ys) : xs = ys := by
  unfold aggI at h
  injection h with h
  have h2 := congrArg Array.toList h
  simp only [] at h2
  exact (List.map_inj_right (fun a b hab => by injection hab)).1 h2
theorem keyOf_eight {P : Program} {k e : TypeId} (A : ArrKey P k e 8) (he : P.underlying e = some (.int .i64)) (hsz : ∃ m, P.types.size = m + 1) {x0 x1 x2 x3 x4 x5 x6 x7 : Int} (hw : ∀ z ∈ [x0, x1, x2, x3, x4, x5, x6, x7], (Lit.int .i64 z).wf = true) :
    keyOf P k (aggI [x0, x1, x2, x3, x4, x5, x6, x7]) = some (.string (keyBytes [.int .i64 x0, .int .i64 x1, .int .i64 x2, .int .i64 x3, .int .i64 x4, .int .i64 x5, .int .i64 x6, .int .i64 x7])) := by
  have hkt := A.keyType hsz
  obtain ⟨m, hm⟩ := hsz
  simp only [List.mem_cons, forall_eq_or_imp, List.not_mem_nil, false_imp_iff, implies_true, and_true] at hw
  obtain ⟨w0, w1, w2, w3, w4, w5, w6, w7⟩ := hw
  unfold keyOf aggI
  simp only [A.hu]
  rw [if_pos (by simp [hkt, Value.formed, A.hu, A.size]), hm]
  unfold Program.keyLits
  simp only [A.hu, Value.cells]
  rw [if_pos (by rw [A.size]; rfl), show List.range 8 = [0, 1, 2, 3, 4, 5, 6, 7] from rfl]
  simp only [List.mapM_cons, List.mapM_nil]
  simp [A.one, Program.keyLits, he, w0, w1, w2, w3, w4, w5, w6, w7]
def Key8 {P : Program} {k e : TypeId} (A : ArrKey P k e 8) (he : P.underlying e = some (.int .i64)) (hsz : ∃ m, P.types.size = m + 1) : KeyT P k (List Int) where
  val := aggI
  lit x := (keyOf P k (aggI x)).getD (.bool false)
  ok x := x.length = 8 ∧ ∀ z ∈ x, (Lit.int .i64 z).wf = true
  keyed := Keyed.of_law A.law
  key x hx := by
    obtain ⟨hl, hw⟩ := hx
    match x, hl with
    | [x0, x1, x2, x3, x4, x5, x6, x7], _ =>
      rw [keyOf_eight A he hsz hw]; rfl
  inj x y hx hy h := by
    obtain ⟨hl, hw⟩ := hx
    obtain ⟨hl', hw'⟩ := hy
    match x, y, hl, hl' with
    | [x0, x1, x2, x3, x4, x5, x6, x7], [y0, y1, y2, y3, y4, y5, y6, y7], _, _ =>
      have h1 := keyOf_eight A he hsz hw
      have h2 := keyOf_eight A he hsz hw'
      rw [h1, h2] at h
      simp only [Option.getD_some] at h
      rw [← h] at h2
      exact aggI_inj (A.law.inj h1 h2)
end Go
namespace Go
/-- What the call's own appended row reads as. -/
theorem IntsV.ofOwn {w : World} {base e : Nat} {v : Value} {n : Nat} {zs : List Int} (h : w.ownsRow base e 1 v n (zs.map (Value.int .i64))) (hw : ∀ z ∈ zs, (Lit.int .i64 z).wf = true) :
    ∃ a c, v = .slice a n c ∧ IntsV w a n c zs ∧ ∀ x, a = some x → base ≤ x.block := by
  obtain ⟨hl, h⟩ := h
  have hn : zs.length = n := by simpa using hl
  rcases h with ⟨rfl, rfl⟩ | ⟨g, cap, cur, rfl, hb, hg, hnc, hcm, hcs, ht⟩
  · exact ⟨none, 0, rfl, ⟨hn, Nat.le_refl _, Nat.zero_le _, hw, fun h => absurd h (by decide)⟩, fun x hx => by cases hx⟩
  · refine ⟨_, _, rfl, ⟨hn, hnc, hcm, hw, fun h0 => ⟨g, 0, rfl, fun i hi => ?_⟩⟩, fun x hx => by cases hx; exact hb⟩
    rw [Nat.zero_add, cell_of_row w g i cur e (0, 0) hg]
    have : (cur.toList.take (n * 1))[i]? = (zs.map (Value.int .i64))[i]? := by rw [ht]
    rw [List.getElem?_take, if_pos (by omega)] at this
    simp only [Array.getElem?_toList] at this
    rw [this]
    simp [List.getD_eq_getElem?_getD, hn ▸ hi]
theorem wf_small {z : Int} (h0 : -1000000 ≤ z) (h1 : z ≤ 1000000) : (Lit.int .i64 z).wf = true := by
  have h2 : IntKind.i64.min = -9223372036854775808 := by decide
  have h3 : IntKind.i64.max = 9223372036854775807 := by decide
  simp [Lit.wf, h2, h3]
  omega
end Go
