/- A map with integers for keys, seen as a function: what each key holds. -/
import Derived.Test.YtkhchfjhmplaiaaBase
import Derived.Maps.OwnSet
import Derived.Maps.OwnOps
import Derived.Maps.Views
import Derived.Carry
namespace Go
open Go.Maps (Keyed)
/-- An element is kept as it is. -/
def asIs (v : Value) : Option (DataW Value × List MemPlace) := some (.held v, [])
def MapF (w : World) (P : Program) (k : TypeId) (b n : Nat) (f : Int → Option Value) : Prop :=
  ∃ D : DataW Value, w.ownsMap P k asIs b n D ∧ Maps.IsMap D ∧ (∀ x z, D.atKey (.int .i64 x) (.held z) = .held ((f x).getD z)) ∧ ∀ x, Maps.has D (.int .i64 x) = (f x).isSome
section
variable {w w' : World} {P : Program} {k : TypeId} {b n : Nat} {f : Int → Option Value}
theorem MapF.made (w : World) (P : Program) (k : TypeId) : MapF (w.alloc (.map #[] 0)) P k w.heap.size 0 (fun _ => none) :=
  ⟨.map [], World.ownsMap_made w P k asIs, ⟨[], rfl⟩, fun _ _ => rfl, fun _ => rfl⟩
theorem MapF.lt (h : MapF w P k b n f) : b < w.heap.size := let ⟨_, h1, _⟩ := h; h1.lt
theorem MapF.block (h : MapF w P k b n f) (hb : w'.heap[b]? = w.heap[b]?) : MapF w' P k b n f := by
  obtain ⟨D, ⟨es, clock, h1, h2⟩, h3⟩ := h
  exact ⟨D, ⟨es, clock, hb.trans h1, h2⟩, h3⟩
theorem MapF.keep {S : List Nat} (h : MapF w P k b n f) (hk : Keep S w w') (hs : b ∉ S) : MapF w' P k b n f := h.block (hk.block b h.lt hs)
theorem MapF.drew (h : MapF w P k b n f) : MapF w.drew P k b n f := h
theorem MapF.mono (h : MapF w P k b n f) {n' : Nat} (hn : n ≤ n') : MapF w P k b n' f := let ⟨D, h1, h2⟩ := h; ⟨D, h1.mono hn, h2⟩
theorem MapF.notCells (h : MapF w P k b n f) {c : Nat} {cs : Array Value} {T : TypeId} {g : Nat × Nat} (hc : w.heap[c]? = some (.cells cs T g)) : b ≠ c := by
  rintro rfl
  obtain ⟨D, ⟨es, clock, h1, _⟩, _⟩ := h
  rw [hc] at h1
  cases h1
theorem keyI64 {P : Program} {k : TypeId} (hk : P.underlying k = some (.int .i64)) {x : Int} (hx : (Lit.int .i64 x).wf = true) : keyOf P k (.int .i64 x) = some (.int .i64 x) := by
  simp [keyOf, hk, mapKey, hx]
end
/-- 'm[k]' at the operation. -/
theorem wpList_lookup_f {P : Program} (w : World) {ops : Array Oper} {rest : List Oper} {o : Oper} {a : Act} {Q : Exit → Act → World → Prop}
    (hg : o.guard = none) (m x : Operand) (t : TypeId) (hop : o.op = Op.lookup t m x false)
    (k e : TypeId) (ht : P.underlying t = some (.map k e)) (hki : P.underlying k = some (.int .i64)) (z : Value) (hz : (zeroValue e).run P w = .ok z w) (b n : Nat) (f : Int → Option Value)
    (hm : a.eval m = .map (some b)) (hown : MapF w P k b n f) (key : Int) (hx : a.eval x = .int .i64 key) (hwf : (Lit.int .i64 key).wf = true)
    (hK : wpList P ops Q rest (a.put o.dst ((f key).getD z)) w) : wpList P ops Q (o :: rest) a w := by
  obtain ⟨D, h1, h2, h3, _⟩ := hown
  refine wpList_plain hg fun K' hK' => ?_
  obtain ⟨v, ps, hrun, hv⟩ := h1.lookup (Maps.int_keyed hki) ht hz (show asIs z = some (.held z, []) from rfl) (keyI64 hki hwf)
  have hve : v = (f key).getD z := by
    rw [h3] at hv
    unfold asIs at hv
    injection hv with hv
    injection hv with hv _
    injection hv
  subst hve
  unfold Oper.wp
  simp [execOp, hop, hm, hx, hrun, Result.andThen]
  exact hK' _ _ hK
/-- 'v, ok := m[k]' at the operation. -/
theorem wpList_lookup_f2 {P : Program} (w : World) {ops : Array Oper} {rest : List Oper} {o : Oper} {a : Act} {Q : Exit → Act → World → Prop}
    (hg : o.guard = none) (m x : Operand) (t : TypeId) (hop : o.op = Op.lookup t m x true)
    (k e : TypeId) (ht : P.underlying t = some (.map k e)) (hki : P.underlying k = some (.int .i64)) (z : Value) (hz : (zeroValue e).run P w = .ok z w) (b n : Nat) (f : Int → Option Value)
    (hm : a.eval m = .map (some b)) (hown : MapF w P k b n f) (key : Int) (hx : a.eval x = .int .i64 key) (hwf : (Lit.int .i64 key).wf = true)
    (hK : wpList P ops Q rest (a.put o.dst (.tuple #[(f key).getD z, .bool (f key).isSome])) w) : wpList P ops Q (o :: rest) a w := by
  obtain ⟨D, h1, h2, h3, h4⟩ := hown
  refine wpList_lookup_own_ok w hg m x t hop k e (Maps.int_keyed hki) ht asIs hz (.held z) [] rfl b n D hm h1 _ _ hx (keyI64 hki hwf) fun v ps hv => ?_
  rw [h3] at hv
  unfold asIs at hv
  injection hv with hv
  injection hv with hv _
  injection hv with hv
  subst hv
  rw [h4]
  exact hK
/-- 'm[k] = v' at the operation. -/
theorem wpList_update_f {P : Program} (w : World) {ops : Array Oper} {rest : List Oper} {o : Oper} {a : Act} {Q : Exit → Act → World → Prop}
    (hg : o.guard = none) (m x v : Operand) (t : TypeId) (hop : o.op = Op.mapUpdate t m x v)
    (k e : TypeId) (ht : P.underlying t = some (.map k e)) (hki : P.underlying k = some (.int .i64)) (b n : Nat) (f : Int → Option Value)
    (hm : a.eval m = .map (some b)) (hown : MapF w P k b n f) (hn : n < maxLen) (key : Int) (val : Value) (hx : a.eval x = .int .i64 key) (hv : a.eval v = val) (hwf : (Lit.int .i64 key).wf = true)
    (hK : ∀ w', MapF w' P k b (n + 1) (fun y => if y = key then some val else f y) → w.grownBy w' (some b) → wpList P ops Q rest (a.put o.dst undef) w') : wpList P ops Q (o :: rest) a w := by
  obtain ⟨D, h1, h2, h3, h4⟩ := hown
  have hkey := keyI64 hki hwf
  have hkl := (Maps.int_keyed hki).key hkey
  refine wpList_mapUpdate_own w hg m x v t hop k e (Maps.int_keyed hki) ht asIs b n D hm h1 hn _ val _ hx hv hkey (.held val) [] rfl fun w' hown' hgr => hK w' ⟨D.put (.int .i64 key) (.held val), hown', ?_, fun y z => ?_, fun y => ?_⟩ hgr
  · obtain ⟨es, rfl⟩ := h2
    exact ⟨_, rfl⟩
  · by_cases e1 : y = key
    · subst e1
      rw [Maps.atKey_put_same h2 hkl]; simp
    · rw [Maps.atKey_put_other (fun h => e1 (by injection h)), h3]; simp [e1]
  · by_cases e1 : y = key
    · subst e1
      rw [Maps.has_put_same h2 hkl]; simp
    · rw [Maps.has_put_other (fun h => e1 (by injection h)), h4]; simp [e1]
end Go
