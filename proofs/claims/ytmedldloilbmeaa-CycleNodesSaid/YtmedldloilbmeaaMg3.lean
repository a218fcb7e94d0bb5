/- Texts laid together: R4 R5 M3 YP1 YP2 YP3 R6 YRst YS1. -/
import Derived.Test.YtmedldloilbmeaaMg2
import Derived.Laws.Rows
import Derived.OwnWalk
import Derived.Laws.OwnMore
import Derived.Deep.AppendLies
import Derived.Deep.Onto
import Derived.Maps.RangeWalk
import Derived.Test.YtmedldloilbmeaaRows
import Derived.Shelf.Sort.Plain
import Derived.Shelf.Slices.In.SortNone
import Derived.Sort.OwnSortedInts
import Derived.Ground.SlgnProg
import Derived.Ground.Names2Prog
import Derived.Shelf.Slices.Clone
import Derived.Shelf.Slices.Empties
import Derived.Shelf.SlicesE.Clone
namespace Go
open Go.RowKit
/-- A whole array or struct read out of the middle of a block. -/
theorem run_loadVar_at {P : Program} (w : World) (a : Addr) (ty : TypeId) (vs : List Value) (d : TypeDesc) (hg : ∀ j v, vs[j]? = some v → w.cell? (a.add j) = some v)
    (hu : P.underlying ty = some d) (hd : (match d with | .struct _ | .array _ _ => true | _ => false) = true) (hi : (P.info? ty).map (·.size) = some vs.length) :
    (loadVar ty a).run P w = .ok (.agg vs.toArray) w := by
  have hl : (loadCells a vs.length).run P w = .ok vs.toArray w := run_loadCells_list (P := P) w a vs hg
  cases hq : P.info? ty with
  | none => simp [hq] at hi
  | some i =>
    have hs : i.size = vs.length := by simpa [hq] using hi
    have hagg : (isAgg ty).run P w = .ok true w := by
      unfold isAgg
      rw [Sem.run_bind, run_underlying hu w]
      cases d <;> simp_all
    simp [loadVar, Sem.run_bind, hagg, sizeOf, typeInfo, hq, hs, hl]
theorem wp_load_at {P : Program} {o : Oper} {a : Act} {w : World} {K : Act → World → Prop} {Q : Exit → Act → World → Prop} (ty : TypeId) (x : Operand) (ho : o.op = .load ty x)
    (ad : Addr) (hx : a.eval x = .pointer (some ad)) (vs : List Value) (d : TypeDesc) (hg : ∀ j v, vs[j]? = some v → w.cell? (ad.add j) = some v)
    (hu : P.underlying ty = some d) (hd : (match d with | .struct _ | .array _ _ => true | _ => false) = true) (hi : (P.info? ty).map (·.size) = some vs.length)
    (h : K (a.put o.dst (.agg vs.toArray)) w) : o.wp P a w K Q := by
  unfold Oper.wp execOp
  simp only [ho, hx, Instr.loadAt, Instr.sureAddr, Sem.run_bind, Sem.run_pure, Result.andThen_ok, run_loadVar_at w ad ty vs d hg hu hd hi]
  exact h
theorem wpList_load_at {P : Program} {ops : Array Oper} {rest : List Oper} {o : Oper} {a : Act} {w : World} {Q : Exit → Act → World → Prop} (hgd : o.guard = none) (ty : TypeId) (x : Operand) (ho : o.op = .load ty x)
    (ad : Addr) (hx : a.eval x = .pointer (some ad)) (vs : List Value) (d : TypeDesc) (hg : ∀ j v, vs[j]? = some v → w.cell? (ad.add j) = some v)
    (hu : P.underlying ty = some d) (hd : (match d with | .struct _ | .array _ _ => true | _ => false) = true) (hi : (P.info? ty).map (·.size) = some vs.length)
    (h : wpList P ops Q rest (a.put o.dst (.agg vs.toArray)) w) : wpList P ops Q (o :: rest) a w :=
  wpList_plain hgd fun _ hK => wp_load_at ty x ho ad hx vs d hg hu hd hi (hK _ _ h)
theorem GAt.rowsAt {T : TypeId} {w : World} {b : Nat} {g : Gs} (h : GAt T w b g) : ∀ j v, (lanesC g.rs)[j]? = some v → w.cell? ((⟨b, 3, none⟩ : Addr).add j) = some v := by
  intro j v hv
  have hj : j < (lanesC g.rs).length := (List.getElem?_eq_some_iff.1 hv).1
  have e : (⟨b, 3, none⟩ : Addr).add j = ⟨b, 3 + j, none⟩ := by unfold Addr.add; split <;> simp_all
  rw [e, cellAt h.1]
  simp only [List.getElem?_toArray, Gs.cells, List.append_assoc]
  rw [List.getElem?_append_right (by simp), List.getElem?_append_left (by simp only [List.length_cons, List.length_nil]; omega)]
  rw [← hv]
  congr 1
  simp only [List.length_cons, List.length_nil]; omega
/-- A new block's cells. -/
theorem cells_new (w : World) (xs : List Value) (t : TypeId) (f : Nat × Nat) : ∀ j u, xs[j]? = some u → (w.alloc (.cells xs.toArray t f)).cell? ((⟨w.heap.size, 0, none⟩ : Addr).add j) = some u := by
  intro j u hj
  have e : (⟨w.heap.size, 0, none⟩ : Addr).add j = ⟨w.heap.size, j, none⟩ := by unfold Addr.add; split <;> simp_all
  rw [e, cell_of_row _ _ _ _ _ _ (blk_new w _)]
  simpa using hj
theorem cells_new2 (w : World) (o : Obj) (xs : List Value) (t : TypeId) : ∀ j u, xs[j]? = some u → ((w.alloc o).alloc (.cells xs.toArray t)).cell? ((⟨w.heap.size + 1, 0, none⟩ : Addr).add j) = some u := by
  have h := cells_new (w.alloc o) xs t (0, 0)
  have e : (w.alloc o).heap.size = w.heap.size + 1 := by simp
  rw [e] at h
  exact h
/-- A slice of rows of three numbers. -/
structure LnsV (w : World) (a : Option Addr) (n c : Nat) (ls : List Ln) : Prop where
  len : ls.length = n
  room : n ≤ c
  most : c ≤ maxLen
  cells : 0 < n → ∃ b off, a = some ⟨b, off, none⟩ ∧ ∀ j, j < 3 * n → w.cell? ⟨b, off + j, none⟩ = (lanesC ls)[j]?
section
variable {w w' : World} {a : Option Addr} {n c : Nat} {ls : List Ln}
theorem LnsV.nil (w : World) : LnsV w none 0 0 [] := ⟨rfl, Nat.le_refl _, Nat.zero_le _, fun h => absurd h (by decide)⟩
theorem LnsV.keep {S : List Nat} (h : LnsV w a n c ls) (k : Keep S w w') (hs : ∀ x, a = some x → x.block ∉ S) : LnsV w' a n c ls :=
  ⟨h.len, h.room, h.most, fun hn => by
    obtain ⟨b, off, rfl, hc⟩ := h.cells hn
    refine ⟨b, off, rfl, fun j hj => ?_⟩
    rw [← hc j hj]
    have hsome : ∃ v, (lanesC ls)[j]? = some v := ⟨_, List.getElem?_eq_getElem (by have := lanesC_len ls; have := h.len; omega)⟩
    obtain ⟨v, hv⟩ := hsome
    have h1 := (hc j hj).trans hv
    rw [h1]
    exact k.cell h1 (hs ⟨b, off, none⟩ rfl)⟩
theorem LnsV.at_ (h : LnsV w a n c ls) {i : Nat} (hi : i < n) : ∃ b off, a = some ⟨b, off, none⟩ ∧ w.cell? ⟨b, off + i * 3, none⟩ = some (.int .i64 (lat ls i).q) ∧ w.cell? ⟨b, off + i * 3 + 1, none⟩ = some (.int .i64 (lat ls i).g) ∧ w.cell? ⟨b, off + i * 3 + 2, none⟩ = some (.int .i64 (lat ls i).u) := by
  obtain ⟨b, off, rfl, hc⟩ := h.cells (by omega)
  have at_ : ∀ f, f < 3 → w.cell? ⟨b, off + (i * 3 + f), none⟩ = (lat ls i).cells[f]? := fun f hf => by
    rw [hc _ (by omega)]
    exact lanesC_at ls i f (by rw [h.len]; exact hi) hf
  exact ⟨b, off, rfl, at_ 0 (by omega), at_ 1 (by omega), at_ 2 (by omega)⟩
theorem LnsV.ofOwn {base e : Nat} {v : Value} (h : w.ownsRow base e 3 v n (lanesC ls)) : ∃ a c, v = .slice a n c ∧ LnsV w a n c ls ∧ ∀ x, a = some x → base ≤ x.block := by
  obtain ⟨hl, h⟩ := h
  have hn : ls.length = n := by have := lanesC_len ls; omega
  rcases h with ⟨rfl, hnil⟩ | ⟨g, cap, cur, rfl, hb, hg, hnc, hcm, hcs, ht⟩
  · have h0 : n = 0 := by rw [hnil] at hl; simp at hl; omega
    subst h0
    exact ⟨none, 0, rfl, ⟨hn, Nat.le_refl _, Nat.zero_le _, fun h => absurd h (by decide)⟩, fun x hx => by cases hx⟩
  · refine ⟨_, _, rfl, ⟨hn, hnc, hcm, fun h0 => ⟨g, 0, rfl, fun j hj => ?_⟩⟩, fun x hx => by cases hx; exact hb⟩
    rw [Nat.zero_add, cell_of_row w g j cur e (0, 0) hg]
    have : (cur.toList.take (n * 3))[j]? = (lanesC ls)[j]? := by rw [ht]
    rw [List.getElem?_take, if_pos (by omega)] at this
    simpa using this
theorem LnsV.drew (h : LnsV w a n c ls) : LnsV w.drew a n c ls := ⟨h.len, h.room, h.most, h.cells⟩
theorem lanesC_snoc (ls : List Ln) (L : Ln) : lanesC (ls ++ [L]) = lanesC ls ++ L.cells := by simp [lanesC]
end
end Go
namespace Go
theorem GAt.alloc {T : TypeId} {w : World} {b : Nat} {g : Gs} (h : GAt T w b g) (o : Obj) : GAt T (w.alloc o) b g := h.keep ((Keep.refl [] w).alloc o) (by simp)
theorem GAt.put3 {T : TypeId} {w : World} {b : Nat} {g : Gs} (h : GAt T w b g) {i : Nat} (hi : i < 9) (x y z : Int) :
    GAt T (((w.setCell ⟨b, 3 + i * 3, none⟩ (.int .i64 x)).setCell ⟨b, 3 + i * 3 + 1, none⟩ (.int .i64 y)).setCell ⟨b, 3 + i * 3 + 2, none⟩ (.int .i64 z)) b { g with rs := g.rs.set i ⟨x, y, z⟩ } := by
  have hl : i < g.rs.length := by have := h.2.1; omega
  have e0 := h.putRow hi 0 (by omega) (.int .i64 x) ⟨x, (lat g.rs i).g, (lat g.rs i).u⟩ rfl
  have e1 := e0.putRow hi 1 (by omega) (.int .i64 y) ⟨x, y, (lat g.rs i).u⟩ (by dsimp only; rw [lat_set _ _ _ _ hl, if_pos rfl]; rfl)
  have e2 := e1.putRow hi 2 (by omega) (.int .i64 z) ⟨x, y, z⟩ (by dsimp only; rw [List.set_set, lat_set _ _ _ _ hl, if_pos rfl]; rfl)
  dsimp only at e2
  rw [List.set_set, List.set_set] at e2
  exact e2
end Go
namespace Go
open Go.RowKit
theorem Keep.more {S S' : List Nat} {w w' : World} (h : Keep S w w') (hs : ∀ b ∈ S, b ∈ S') : Keep S' w w' :=
  ⟨h.os, h.tape, h.output, h.size, fun k hk hn => h.block k hk fun hm => hn (hs k hm)⟩
theorem own_keep {S : List Nat} {w w' : World} {base e size n : Nat} {v : Value} {xs : List Value} (h : w.ownsRow base e size v n xs) (k : Keep S w w') (hs : ∀ b, v.ownBlock = some b → b ∉ S) : w'.ownsRow base e size v n xs := by
  refine ⟨h.1, ?_⟩
  rcases h.2 with hn | ⟨g, cap, cur, rfl, hb, hgg, rest⟩
  · exact .inl hn
  · exact .inr ⟨g, cap, cur, rfl, hb, k.at hgg (hs g rfl), rest⟩
/-- A row's block and a block of another kind are two. -/
theorem own_ne {w : World} {base e size n : Nat} {v : Value} {xs : List Value} (h : w.ownsRow base e size v n xs) {b : Nat} {cs : Array Value} {T : TypeId} {f : Nat × Nat} (hb : w.heap[b]? = some (.cells cs T f)) (hT : e ≠ T) : ∀ g, v.ownBlock = some g → g ≠ b := by
  intro g hg he
  subst he
  rcases h.2 with ⟨rfl, _⟩ | ⟨g', cap, cur, rfl, _, hgg, _⟩
  · simp [Value.ownBlock] at hg
  · simp [Value.ownBlock] at hg
    subst hg
    rw [hb] at hgg
    injection hgg with hgg
    injection hgg with _ h2 _
    exact hT h2.symm
theorem own_own {w : World} {base base' e e' size size' n n' : Nat} {v v' : Value} {xs xs' : List Value} (h : w.ownsRow base e size v n xs) (h' : w.ownsRow base' e' size' v' n' xs') (hT : e ≠ e') : ∀ g, v.ownBlock = some g → v'.ownBlock ≠ some g := by
  intro g hg he
  rcases h'.2 with ⟨rfl, _⟩ | ⟨g', cap, cur, rfl, _, hgg, _⟩
  · simp [Value.ownBlock] at he
  · simp [Value.ownBlock] at he
    subst he
    exact own_ne h hgg hT g' hg rfl
theorem Keep.ofGrown {w w' : World} {row : Option Nat} {S : List Nat} (h : w.grownBy w' row) (hr : ∀ k, row = some k → k ∈ S) : Keep S w w' :=
  ⟨h.os, h.tape, h.output, h.size, fun k hk hn => h.block k hk fun e => hn (hr k e.symm)⟩
/-- What Keep a list of blocks S, and nothing else, may touch: those of S that were there. -/
theorem Keep.fresh {S : List Nat} {w w' : World} (h : Keep S w w') (hs : ∀ b ∈ S, w.heap.size ≤ b) : Keep [] w w' :=
  ⟨h.os, h.tape, h.output, h.size, fun k hk _ => h.block k hk fun hm => by have := hs k hm; omega⟩
/-- A slice of pointers to whole blocks. -/
structure PtrsV (w : World) (a : Option Addr) (n c : Nat) (bs : List Nat) : Prop where
  len : bs.length = n
  room : n ≤ c
  most : c ≤ maxLen
  cells : 0 < n → ∃ b off, a = some ⟨b, off, none⟩ ∧ ∀ i, i < n → w.cell? ⟨b, off + i, none⟩ = some (.pointer (some ⟨bs.getD i 0, 0, none⟩))
theorem PtrsV.keep {S : List Nat} {w w' : World} {a : Option Addr} {n c : Nat} {bs : List Nat} (h : PtrsV w a n c bs) (k : Keep S w w') (hs : ∀ x, a = some x → x.block ∉ S) : PtrsV w' a n c bs :=
  ⟨h.len, h.room, h.most, fun hn => by
    obtain ⟨b, off, rfl, hc⟩ := h.cells hn
    exact ⟨b, off, rfl, fun i hi => k.cell (hc i hi) (hs ⟨b, off, none⟩ rfl)⟩⟩
def ptr (b : Nat) : Value := .pointer (some ⟨b, 0, none⟩)
theorem PtrsV.ofOwn {w : World} {base e n : Nat} {v : Value} {bs : List Nat} (h : w.ownsRow base e 1 v n (bs.map ptr)) : ∃ a c, v = .slice a n c ∧ PtrsV w a n c bs ∧ ∀ x, a = some x → base ≤ x.block ∧ ∃ cs, w.heap[x.block]? = some (.cells cs e (0, 0)) := by
  obtain ⟨hl, h⟩ := h
  have hn : bs.length = n := by simpa using hl
  rcases h with ⟨rfl, h0⟩ | ⟨g, cap, cur, rfl, hb, hg, hnc, hcm, hcs, ht⟩
  · subst h0
    exact ⟨none, 0, rfl, ⟨hn, Nat.le_refl _, Nat.zero_le _, fun h => absurd h (by decide)⟩, fun x hx => by cases hx⟩
  · refine ⟨_, _, rfl, ⟨hn, hnc, hcm, fun h0 => ⟨g, 0, rfl, fun i hi => ?_⟩⟩, fun x hx => by cases hx; exact ⟨hb, cur, hg⟩⟩
    rw [Nat.zero_add, cell_of_row w g i cur e (0, 0) hg]
    have : (cur.toList.take (n * 1))[i]? = (bs.map ptr)[i]? := by rw [ht]
    rw [List.getElem?_take, if_pos (by omega)] at this
    simp only [Array.getElem?_toList] at this
    rw [this]
    simp [List.getD_eq_getElem?_getD, hn ▸ hi, ptr]
end Go
namespace Go
theorem own_sep {w : World} {base base' e e' size size' n n' : Nat} {v v' : Value} {xs xs' : List Value} (h : w.ownsRow base e size v n xs) (h' : w.ownsRow base' e' size' v' n' xs') (hT : e ≠ e') : v.ownBlock = none ∨ v.ownBlock ≠ v'.ownBlock := by
  cases hv : v.ownBlock with
  | none => exact .inl rfl
  | some g => exact .inr fun he => own_own h h' hT g hv he.symm
end Go
/- A map from integers to bools as a set; ranging over a map keyed by integers. -/
namespace Go
open Go.Maps (Keyed)
def setV (s : Int → Bool) : Int → Option Value := fun x => if s x then some (.bool true) else none
def MapB (w : World) (P : Program) (k : TypeId) (b n : Nat) (s : Int → Bool) : Prop := MapF w P k b n (setV s)
theorem setV_get (s : Int → Bool) (x : Int) : (setV s x).getD (.bool false) = .bool (s x) := by
  unfold setV
  cases s x <;> rfl
theorem setV_some (s : Int → Bool) (x : Int) : (setV s x).isSome = s x := by
  unfold setV
  cases s x <;> rfl
theorem setV_none : setV (fun _ => false) = fun _ => none := rfl
def insB (s : Int → Bool) (k : Int) : Int → Bool := fun y => decide (y = k) || s y
theorem setV_ins (s : Int → Bool) (k : Int) : (fun y => if y = k then some (.bool true) else setV s y) = setV (insB s k) := by
  funext y
  unfold setV insB
  by_cases h : y = k
  · simp [h]
  · simp [h]
section
variable {w w' : World} {P : Program} {k : TypeId} {b n : Nat} {s : Int → Bool}
theorem MapB.made (w : World) (P : Program) (k : TypeId) : MapB (w.alloc (.map #[] 0)) P k w.heap.size 0 (fun _ => false) := MapF.made w P k
theorem MapB.lt (h : MapB w P k b n s) : b < w.heap.size := MapF.lt h
theorem MapB.keep {S : List Nat} (h : MapB w P k b n s) (hk : Keep S w w') (hs : b ∉ S) : MapB w' P k b n s := MapF.keep h hk hs
theorem MapB.notCells (h : MapB w P k b n s) {c : Nat} {cs : Array Value} {T : TypeId} {g : Nat × Nat} (hc : w.heap[c]? = some (.cells cs T g)) : b ≠ c := MapF.notCells h hc
end
theorem wpList_lookup_b {P : Program} (w : World) {ops : Array Oper} {rest : List Oper} {o : Oper} {a : Act} {Q : Exit → Act → World → Prop}
    (hg : o.guard = none) (m x : Operand) (t : TypeId) (hop : o.op = Op.lookup t m x false)
    (k e : TypeId) (ht : P.underlying t = some (.map k e)) (hki : P.underlying k = some (.int .i64)) (hz : (zeroValue e).run P w = .ok (.bool false) w) (b n : Nat) (s : Int → Bool)
    (hm : a.eval m = .map (some b)) (hown : MapB w P k b n s) (key : Int) (hx : a.eval x = .int .i64 key) (hwf : (Lit.int .i64 key).wf = true)
    (hK : wpList P ops Q rest (a.put o.dst (.bool (s key))) w) : wpList P ops Q (o :: rest) a w :=
  wpList_lookup_f w hg m x t hop k e ht hki _ hz b n (setV s) hm hown key hx hwf (by rw [setV_get]; exact hK)
theorem lookup_run_f {P : Program} {w : World} {t k e : TypeId} {b n : Nat} {f : Int → Option Value} {z : Value} {key : Int} (ht : P.underlying t = some (.map k e)) (hki : P.underlying k = some (.int .i64)) (hz : (zeroValue e).run P w = .ok z w) (hown : MapF w P k b n f) (hwf : (Lit.int .i64 key).wf = true) :
    (Instr.lookup t (.map (some b)) (.int .i64 key) false).run P w = .ok ((f key).getD z) w := by
  obtain ⟨D, h1, h2, h3, _⟩ := hown
  obtain ⟨v, ps, hrun, hv⟩ := h1.lookup (Maps.int_keyed hki) ht hz (show asIs z = some (.held z, []) from rfl) (keyI64 hki hwf)
  have hve : v = (f key).getD z := by
    rw [h3] at hv
    unfold asIs at hv
    injection hv with hv
    injection hv with hv _
    injection hv
  rw [hrun, hve]
theorem lookup_run_b {P : Program} {w : World} {t k e : TypeId} {b n : Nat} {s : Int → Bool} {key : Int} (ht : P.underlying t = some (.map k e)) (hki : P.underlying k = some (.int .i64)) (hz : (zeroValue e).run P w = .ok (.bool false) w) (hown : MapB w P k b n s) (hwf : (Lit.int .i64 key).wf = true) :
    (Instr.lookup t (.map (some b)) (.int .i64 key) false).run P w = .ok (.bool (s key)) w := by
  rw [lookup_run_f ht hki hz hown hwf, setV_get]
theorem update_run_f {P : Program} {w : World} {t k e : TypeId} {b n : Nat} {f : Int → Option Value} {key : Int} {v : Value} (ht : P.underlying t = some (.map k e)) (hki : P.underlying k = some (.int .i64)) (hown : MapF w P k b n f) (hn : n < maxLen) (hwf : (Lit.int .i64 key).wf = true) :
    ∃ w', (Instr.mapUpdate t (.map (some b)) (.int .i64 key) v).run P w = .ok () w' ∧ MapF w' P k b (n + 1) (fun y => if y = key then some v else f y) ∧ Keep [b] w w' := by
  obtain ⟨D, h1, h2, h3, h4⟩ := hown
  have hkey := keyI64 hki hwf
  have hkl := (Maps.int_keyed hki).key hkey
  obtain ⟨w', hrun, h5, h6⟩ := h1.store (Maps.int_keyed hki) ht hn (val := v) hkey (show asIs v = some (.held v, []) from rfl)
  refine ⟨w', hrun, ⟨D.put (.int .i64 key) (.held v), h5, ?_, fun y z => ?_, fun y => ?_⟩, keep_turned h6⟩
  · obtain ⟨es, rfl⟩ := h2
    exact ⟨_, rfl⟩
  · by_cases e1 : y = key
    · subst e1
      rw [Maps.atKey_put_same h2 hkl]; simp
    · rw [Maps.atKey_put_other (fun h => e1 (by injection h)), h3]; simp [e1]
  · by_cases e1 : y = key
    · subst e1
      rw [Maps.has_put_same h2 hkl]; simp
    · rw [Maps.has_put_other (fun h => e1 (by injection h)), h4]; simp [e1]
/-- 'm[k] = v', with what is kept. -/
theorem wpList_update_k {P : Program} (w : World) {ops : Array Oper} {rest : List Oper} {o : Oper} {a : Act} {Q : Exit → Act → World → Prop}
    (hg : o.guard = none) (m x v : Operand) (t : TypeId) (hop : o.op = Op.mapUpdate t m x v)
    (k e : TypeId) (ht : P.underlying t = some (.map k e)) (hki : P.underlying k = some (.int .i64)) (b n : Nat) (f : Int → Option Value)
    (hm : a.eval m = .map (some b)) (hown : MapF w P k b n f) (hn : n < maxLen) (key : Int) (val : Value) (hx : a.eval x = .int .i64 key) (hv : a.eval v = val) (hwf : (Lit.int .i64 key).wf = true)
    (hK : ∀ w', MapF w' P k b (n + 1) (fun y => if y = key then some val else f y) → Keep [b] w w' → wpList P ops Q rest (a.put o.dst undef) w') : wpList P ops Q (o :: rest) a w :=
  wpList_update_f w hg m x v t hop k e ht hki b n f hm hown hn key val hx hv hwf fun w' h1 h2 => hK w' h1 (Keep.ofGrown h2 (by simp))
theorem wpList_update_b {P : Program} (w : World) {ops : Array Oper} {rest : List Oper} {o : Oper} {a : Act} {Q : Exit → Act → World → Prop}
    (hg : o.guard = none) (m x v : Operand) (t : TypeId) (hop : o.op = Op.mapUpdate t m x v)
    (k e : TypeId) (ht : P.underlying t = some (.map k e)) (hki : P.underlying k = some (.int .i64)) (b n : Nat) (s : Int → Bool)
    (hm : a.eval m = .map (some b)) (hown : MapB w P k b n s) (hn : n < maxLen) (key : Int) (hx : a.eval x = .int .i64 key) (hv : a.eval v = .bool true) (hwf : (Lit.int .i64 key).wf = true)
    (hK : ∀ w', MapB w' P k b (n + 1) (insB s key) → Keep [b] w w' → wpList P ops Q rest (a.put o.dst undef) w') : wpList P ops Q (o :: rest) a w :=
  wpList_update_k w hg m x v t hop k e ht hki b n (setV s) hm hown hn key (.bool true) hx hv hwf fun w' h1 h2 => hK w' (by rw [setV_ins] at h1; exact h1) h2
/-- A range over a map under way: ss came. -/
def MapR (w : World) (P : Program) (k : TypeId) (b r n : Nat) (f : Int → Option Value) (ss : List Int) (cnt : Nat) : Prop :=
  ∃ (D : DataW Value) (left : Lit → Bool), w.ranges P k asIs b r n D left cnt ∧ Maps.IsMap D ∧ (∀ x z, D.atKey (.int .i64 x) (.held z) = .held ((f x).getD z)) ∧ (∀ x, Maps.has D (.int .i64 x) = (f x).isSome) ∧
    (∀ x, left (.int .i64 x) = ((f x).isSome && !decide (x ∈ ss))) ∧ ss.Nodup ∧ ∀ x ∈ ss, (f x).isSome = true ∧ (Lit.int .i64 x).wf = true
section
variable {w w' : World} {P : Program} {k : TypeId} {b r n cnt : Nat} {f : Int → Option Value} {ss : List Int}
theorem MapR.map (h : MapR w P k b r n f ss cnt) : MapF w P k b n f := by
  obtain ⟨D, left, h1, h2, h3, h4, _⟩ := h
  exact ⟨D, h1.owns, h2, h3, h4⟩
theorem MapR.left_eq (h : MapR w P k b r n f ss cnt) : w.rangeLeft b r = cnt := by
  obtain ⟨D, left, h1, _⟩ := h
  exact h1.left_eq
theorem MapR.cnt_le (h : MapR w P k b r n f ss cnt) : cnt ≤ n := by
  obtain ⟨D, left, ⟨es, clock, since, seen, c0, _, _, hs, _, _, _, hc, _⟩, _⟩ := h
  rw [← hc]
  refine Nat.le_trans ?_ hs
  unfold leftOf
  exact Array.size_filter_le
theorem MapR.lt (h : MapR w P k b r n f ss cnt) : r < w.heap.size := by
  obtain ⟨D, left, h1, _⟩ := h
  exact h1.lt
theorem MapR.nodup (h : MapR w P k b r n f ss cnt) : ss.Nodup := by
  obtain ⟨D, left, _, _, _, _, _, h1, _⟩ := h
  exact h1
theorem MapR.wf (h : MapR w P k b r n f ss cnt) : ∀ x ∈ ss, (Lit.int .i64 x).wf = true := by
  obtain ⟨D, left, _, _, _, _, _, _, h1⟩ := h
  exact fun x hx => (h1 x hx).2
theorem MapR.notCells (h : MapR w P k b r n f ss cnt) {c : Nat} {cs : Array Value} {T : TypeId} {g : Nat × Nat} (hc : w.heap[c]? = some (.cells cs T g)) : r ≠ c ∧ b ≠ c := by
  refine ⟨?_, h.map.notCells hc⟩
  rintro rfl
  obtain ⟨D, left, ⟨es, clock, since, seen, c0, _, _, _, _, h1, _⟩, _⟩ := h
  rw [hc] at h1
  cases h1
theorem MapR.keep {S : List Nat} (h : MapR w P k b r n f ss cnt) (hk : Keep S w w') (hb : b ∉ S) (hr : r ∉ S) : MapR w' P k b r n f ss cnt := by
  obtain ⟨D, left, ⟨es, clock, since, seen, c0, h1, F, hs, hD, h2, rest⟩, h3⟩ := h
  exact ⟨D, left, ⟨es, clock, since, seen, c0, hk.at h1 hb, F, hs, hD, hk.at h2 hr, rest⟩, h3⟩
end
theorem wpList_range_f {P : Program} (w : World) {ops : Array Oper} {rest : List Oper} {o : Oper} {a : Act} {Q : Exit → Act → World → Prop}
    (hg : o.guard = none) (m : Operand) (t : TypeId) (hop : o.op = Op.range t m) (k e : TypeId) (ht : P.underlying t = some (.map k e)) (hki : P.underlying k = some (.int .i64)) (b n : Nat) (f : Int → Option Value)
    (hm : a.eval m = .map (some b)) (hown : MapF w P k b n f)
    (hK : ∀ w' cnt, MapR w' P k b w.heap.size n f [] cnt → Keep [] w w' → w'.heap.size = w.heap.size + 1 → wpList P ops Q rest (a.put o.dst (.pointer (some ⟨w.heap.size, 0, none⟩))) w') : wpList P ops Q (o :: rest) a w := by
  obtain ⟨D, h1, h2, h3, h4⟩ := hown
  refine wpList_range_own w hg m t hop k e (Maps.int_keyed hki) ht asIs b n D hm h1 fun w' r1 r2 r3 => hK w' _ ⟨D, _, r1, h2, h3, h4, fun x => by rw [h4]; simp, List.nodup_nil, fun x hx => by cases hx⟩ (Keep.ofGrown r2 (by simp)) r3
theorem wpList_next_f {P : Program} (w : World) {ops : Array Oper} {rest : List Oper} {o : Oper} {a : Act} {Q : Exit → Act → World → Prop}
    (hg : o.guard = none) (it : Operand) (hop : o.op = Op.next it false) (k : TypeId) (hki : P.underlying k = some (.int .i64)) (b r n : Nat) (f : Int → Option Value) (ss : List Int) (cnt : Nat)
    (hit : a.eval it = .pointer (some ⟨r, 0, none⟩)) (h : MapR w P k b r n f ss cnt)
    (hDone : (∀ x, x ∈ ss ↔ (f x).isSome = true) → wpList P ops Q rest (a.put o.dst (.tuple #[.bool false])) w)
    (hMore : ∀ (x : Int) (v : Value) (w' : World) (cnt' : Nat), f x = some v → x ∉ ss → (Lit.int .i64 x).wf = true → MapR w' P k b r n f (ss ++ [x]) cnt' → cnt' < cnt → Keep [r] w w' → w'.heap.size = w.heap.size →
      (Instr.entry (.pointer (some ⟨r, 0, none⟩))).run P w' = .ok (.tuple #[.int .i64 x, v]) w' → wpList P ops Q rest (a.put o.dst (.tuple #[.bool true, .int .i64 x, v])) w') : wpList P ops Q (o :: rest) a w := by
  obtain ⟨D, left, h1, h2, h3, h4, h5, h6, h7⟩ := h
  refine wpList_next_ranges (α := Int) (β := Value) w hg it hop k (Maps.int_keyed hki) asIs (Value.int .i64) (fun v => v) (fun key kl hkey => by obtain ⟨x, rfl, _⟩ := Maps.keyOf_int_inv hki hkey; exact ⟨x, rfl⟩) (fun v y hv => ⟨v, rfl⟩) b r n D left cnt hit h1 ?_ ?_
  · intro _ hl
    refine hDone fun x => ⟨fun hx => (h7 x hx).1, fun hx => ?_⟩
    have := hl (.int .i64 x)
    rw [h5, hx] at this
    simpa using this
  · intro x v kl y w' cnt' hkey hlk hv hat hrg hlt hgr hsz hen
    obtain ⟨x', ex, rfl, hwx⟩ := Maps.keyOf_int_inv hki hkey
    injection ex with _ ex
    subst ex
    rw [h5] at hlk
    simp only [Bool.and_eq_true, Bool.not_eq_true', decide_eq_false_iff_not] at hlk
    obtain ⟨hs, hns⟩ := hlk
    have hfx : f x = some v := by
      obtain ⟨u, hu⟩ := Option.isSome_iff_exists.1 hs
      have ha := hat (.held u)
      rw [h3, hu] at ha
      unfold asIs at hv
      injection hv with hv
      rw [← hv] at ha
      injection ha with ha
      rw [hu, ← ha]; rfl
    refine hMore x v w' cnt' hfx hns hwx ⟨D, _, hrg, h2, h3, h4, fun z => ?_, ?_, fun z hz => ?_⟩ hlt (Keep.ofGrown hgr (by simp)) hsz hen
    · rw [h5]
      by_cases hzx : z = x
      · subst hzx; simp [Lit.sameKey]
      · simp [Lit.sameKey, hzx, Bool.and_assoc]
    · rw [List.nodup_append]
      refine ⟨h6, by simp, fun a ha b hb e => ?_⟩
      rw [List.mem_singleton.1 hb] at e
      exact hns (e ▸ ha)
    · rcases List.mem_append.1 hz with hz | hz
      · exact h7 z hz
      · rw [List.mem_singleton.1 hz]; exact ⟨hs, hwx⟩
end Go
/- Marking, in plain words: what is reached, and how the levels come to it. -/
namespace Go
inductive Rch (R : Int → Option (List Int)) (S : Int → Prop) : Int → Prop
  | seed {x : Int} : S x → (R x).isSome = true → Rch R S x
  | step {r x : Int} {xs : List Int} : Rch R S r → R r = some xs → x ∈ xs → (R x).isSome = true → Rch R S x
def tosL (R : Int → Option (List Int)) (l : List Int) : List Int := l.flatMap (fun r => (R r).getD [])
theorem tosL_mem {R : Int → Option (List Int)} {l : List Int} {x : Int} : x ∈ tosL R l ↔ ∃ r xs, r ∈ l ∧ R r = some xs ∧ x ∈ xs := by
  unfold tosL
  rw [List.mem_flatMap]
  constructor
  · rintro ⟨r, hr, hx⟩
    cases h : R r with
    | none => rw [h] at hx; cases hx
    | some xs => rw [h] at hx; exact ⟨r, xs, hr, h, hx⟩
  · rintro ⟨r, xs, hr, h, hx⟩
    exact ⟨r, hr, by rw [h]; exact hx⟩
theorem Rch.own {R : Int → Option (List Int)} {S : Int → Prop} {x : Int} (h : Rch R S x) : (R x).isSome = true := by
  cases h <;> assumption
theorem Rch.mono {R : Int → Option (List Int)} {S S' : Int → Prop} (hs : ∀ x, S x → S' x) {x : Int} (h : Rch R S x) : Rch R S' x := by
  induction h with
  | seed h1 h2 => exact .seed (hs _ h1) h2
  | step _ h1 h2 h3 ih => exact .step ih h1 h2 h3
/-- What one level does. -/
structure LvTo (R : Int → Option (List Int)) (mk tl : Int → Bool) (due l : List Int) (mk' tl' : Int → Bool) (due' out : List Int) : Prop where
  marks : ∀ x, mk' x = (mk x || decide (x ∈ l))
  tells : ∀ x, tl' x = (tl x || (decide (x ∈ tosL R l) && (R x).isNone))
  dues : ∃ nd, due' = due ++ nd ∧ nd.Nodup ∧ ∀ x, x ∈ nd ↔ (x ∈ tosL R l ∧ R x = none ∧ tl x = false)
  nodup : out.Nodup
  sorted : out.Pairwise (· ≤ ·)
  outs : ∀ x, x ∈ out ↔ (x ∈ tosL R l ∧ (R x).isSome = true ∧ mk' x = false)
/-- S: who is live of himself; Fr: who is to be marked next. -/
structure LvInv (R : Int → Option (List Int)) (S : Int → Prop) (mk tl : Int → Bool) (Fr : List Int) : Prop where
  sound : ∀ x, mk x = true → Rch R S x
  fr : ∀ x ∈ Fr, Rch R S x ∧ mk x = false
  nodup : Fr.Nodup
  closed : ∀ r xs, mk r = true → R r = some xs → ∀ x ∈ xs, (R x).isSome = true → mk x = true ∨ x ∈ Fr
  seeds : ∀ x, S x → (R x).isSome = true → mk x = true ∨ x ∈ Fr
  told : ∀ x, tl x = true ↔ ∃ r xs, mk r = true ∧ R r = some xs ∧ x ∈ xs ∧ R x = none
section
variable {R : Int → Option (List Int)} {S : Int → Prop} {mk tl mk' tl' : Int → Bool} {Fr due due' out : List Int}
theorem LvInv.step (h : LvInv R S mk tl Fr) (k : LvTo R mk tl due Fr mk' tl' due' out) : LvInv R S mk' tl' out := by
  have hmk : ∀ x, mk' x = true ↔ mk x = true ∨ x ∈ Fr := fun x => by rw [k.marks]; simp
  refine ⟨fun x hx => ?_, fun x hx => ?_, k.nodup, fun r xs hr hR x hx ho => ?_, fun x hx ho => ?_, fun x => ?_⟩
  · rcases (hmk x).1 hx with hx | hx
    · exact h.sound x hx
    · exact (h.fr x hx).1
  · obtain ⟨h1, h2, h3⟩ := (k.outs x).1 hx
    obtain ⟨r, xs, hr, hR, hxx⟩ := tosL_mem.1 h1
    exact ⟨.step (h.fr r hr).1 hR hxx h2, h3⟩
  · rcases (hmk r).1 hr with hr | hr
    · exact .inl ((hmk x).2 (h.closed r xs hr hR x hx ho))
    · cases hm : mk' x with
      | true => exact .inl rfl
      | false => exact .inr ((k.outs x).2 ⟨tosL_mem.2 ⟨r, xs, hr, hR, hx⟩, ho, hm⟩)
  · exact .inl ((hmk x).2 (h.seeds x hx ho))
  · rw [k.tells]
    simp only [Bool.or_eq_true, Bool.and_eq_true, decide_eq_true_eq, Option.isNone_iff_eq_none]
    constructor
    · rintro (hx | ⟨hx, hn⟩)
      · obtain ⟨r, xs, h1, h2⟩ := (h.told x).1 hx
        exact ⟨r, xs, (hmk r).2 (.inl h1), h2⟩
      · obtain ⟨r, xs, hr, hR, hxx⟩ := tosL_mem.1 hx
        exact ⟨r, xs, (hmk r).2 (.inr hr), hR, hxx, hn⟩
    · rintro ⟨r, xs, hr, hR, hxx, hn⟩
      rcases (hmk r).1 hr with hr | hr
      · exact .inl ((h.told x).2 ⟨r, xs, hr, hR, hxx, hn⟩)
      · exact .inr ⟨tosL_mem.2 ⟨r, xs, hr, hR, hxx⟩, hn⟩
theorem LvInv.start {F : List Int} (hn : F.Nodup) (ho : ∀ x ∈ F, (R x).isSome = true) : LvInv R (fun x => x ∈ F) (fun _ => false) (fun _ => false) F :=
  ⟨fun x h => by simp at h, fun x hx => ⟨.seed hx (ho x hx), rfl⟩, hn, fun r xs h => by simp at h, fun x hx _ => .inr hx, fun x => ⟨fun h => by simp at h, fun ⟨r, xs, h, _⟩ => by simp at h⟩⟩
/-- All is marked that is reached. -/
theorem LvInv.all (h : LvInv R S mk tl []) : ∀ x, mk x = true ↔ Rch R S x := fun x => by
  refine ⟨h.sound x, fun hx => ?_⟩
  induction hx with
  | seed h1 h2 => exact (h.seeds _ h1 h2).resolve_right (by simp)
  | step h0 h1 h2 h3 ih => exact (h.closed _ _ ih h1 _ h2 h3).resolve_right (by simp)
/-- Who comes in addition. -/
theorem LvInv.more (h : LvInv R S mk tl []) {y : Int} (ho : (R y).isSome = true) (hy : mk y = false) : LvInv R (fun x => S x ∨ x = y) mk tl [y] :=
  by
  refine ⟨fun x hx => (h.sound x hx).mono fun _ => .inl, fun x hx => ?_, by simp, fun r xs h1 h2 x h3 h4 => (h.closed r xs h1 h2 x h3 h4).imp id (fun h => (by cases h)), fun x hx ho => ?_, h.told⟩
  · rw [List.mem_singleton.1 hx]
    exact ⟨.seed (.inr rfl) ho, hy⟩
  · rcases hx with hx | hx
    · exact .inl ((h.seeds x hx ho).resolve_right (by simp))
    · exact .inr (List.mem_singleton.2 hx)
theorem LvInv.same (h : LvInv R S mk tl []) {y : Int} (hy : mk y = true) : LvInv R (fun x => S x ∨ x = y) mk tl [] := by
  refine ⟨fun x hx => (h.sound x hx).mono fun _ => .inl, fun x hx => (by cases hx), List.nodup_nil, h.closed, fun x hx ho => ?_, h.told⟩
  rcases hx with hx | hx
  · exact h.seeds x hx ho
  · subst hx; exact .inl hy
/-- What is told: new things, each once. -/
structure DueInv (tl0 tl : Int → Bool) (due : List Int) : Prop where
  nodup : due.Nodup
  mem : ∀ x, x ∈ due ↔ (tl x = true ∧ tl0 x = false)
  old : ∀ x, tl0 x = true → tl x = true
theorem DueInv.start (tl : Int → Bool) : DueInv tl tl [] := ⟨List.nodup_nil, fun x => ⟨fun h => (by cases h), fun ⟨h1, h2⟩ => by rw [h1] at h2; cases h2⟩, fun _ h => h⟩
theorem DueInv.step {tl0 : Int → Bool} (h : DueInv tl0 tl due) (k : LvTo R mk tl due Fr mk' tl' due' out) : DueInv tl0 tl' due' := by
  obtain ⟨nd, rfl, h1, h2⟩ := k.dues
  have htl : ∀ x, tl' x = true ↔ tl x = true ∨ (x ∈ tosL R Fr ∧ R x = none) := fun x => by rw [k.tells]; simp
  refine ⟨?_, fun x => ?_, fun x hx => (htl x).2 (.inl (h.old x hx))⟩
  · rw [List.nodup_append]
    refine ⟨h.nodup, h1, fun a ha b hb e => ?_⟩
    subst e
    have := ((h.mem a).1 ha).1
    rw [((h2 a).1 hb).2.2] at this
    cases this
  · rw [List.mem_append, h.mem, h2, htl]
    constructor
    · rintro (⟨a, b⟩ | ⟨a, b, c⟩)
      · exact ⟨.inl a, b⟩
      · refine ⟨.inr ⟨a, b⟩, ?_⟩
        cases hx : tl0 x with
        | false => rfl
        | true => rw [h.old x hx] at c; cases c
    · rintro ⟨a | ⟨a, b⟩, c⟩
      · exact .inl ⟨a, c⟩
      · cases hx : tl x with
        | false => exact .inr ⟨a, b, rfl⟩
        | true => exact .inl ⟨rfl, c⟩
end
/-- How many are not marked. -/
def unm (U : List Int) (mk : Int → Bool) : Nat := (U.filter (fun x => !mk x)).length
theorem flt_le {α : Type} {p q : α → Bool} : ∀ (l : List α), (∀ x ∈ l, q x = true → p x = true) → (l.filter q).length ≤ (l.filter p).length
  | [], _ => Nat.le_refl _
  | a :: l, h => by
    have ih := flt_le l (fun x hx => h x (List.mem_cons_of_mem _ hx))
    have ha := h a (List.mem_cons_self ..)
    simp only [List.filter_cons]
    cases hq : q a with
    | true => rw [ha hq]; simp; exact ih
    | false => cases hp : p a <;> simp <;> omega
theorem flt_lt {α : Type} {p q : α → Bool} : ∀ (l : List α), (∀ x ∈ l, q x = true → p x = true) → (∃ x ∈ l, p x = true ∧ q x = false) → (l.filter q).length < (l.filter p).length
  | [], _, ⟨x, hx, _⟩ => by cases hx
  | a :: l, h, ⟨x, hx, h1, h2⟩ => by
    have hle := flt_le l (fun x hx => h x (List.mem_cons_of_mem _ hx))
    have ha := h a (List.mem_cons_self ..)
    simp only [List.filter_cons]
    rcases List.mem_cons.1 hx with rfl | hx
    · rw [h1, h2]; simp; omega
    · have ih := flt_lt l (fun x hx => h x (List.mem_cons_of_mem _ hx)) ⟨x, hx, h1, h2⟩
      cases hq : q a with
      | true => rw [ha hq]; simp; exact ih
      | false => cases hp : p a <;> simp <;> omega
theorem unm_step {R : Int → Option (List Int)} {S : Int → Prop} {mk tl mk' tl' : Int → Bool} {Fr due due' out U : List Int} (hU : ∀ x, (R x).isSome = true → x ∈ U) (h : LvInv R S mk tl Fr) (k : LvTo R mk tl due Fr mk' tl' due' out) (hf : Fr ≠ []) : unm U mk' < unm U mk := by
  obtain ⟨y, hy⟩ := List.exists_mem_of_ne_nil Fr hf
  refine flt_lt U (fun x _ hx => ?_) ⟨y, hU y (h.fr y hy).1.own, by rw [(h.fr y hy).2]; rfl, by rw [k.marks]; simp [hy]⟩
  rw [k.marks] at hx
  simp only [Bool.not_or, Bool.and_eq_true] at hx
  exact hx.1
theorem unm_le (U : List Int) (mk : Int → Bool) : unm U mk ≤ U.length := List.length_filter_le _ _
end Go
/- One level, reference by reference, in plain words. -/
namespace Go
structure Scan (R : Int → Option (List Int)) (mk1 tl : Int → Bool) (due pre : List Int) (tl' : Int → Bool) (due' : List Int) (nx : Int → Bool) : Prop where
  tells : ∀ x, tl' x = (tl x || (decide (x ∈ pre) && (R x).isNone))
  dues : ∃ nd, due' = due ++ nd ∧ nd.Nodup ∧ ∀ x, x ∈ nd ↔ (x ∈ pre ∧ R x = none ∧ tl x = false)
  next : ∀ x, nx x = (decide (x ∈ pre) && (R x).isSome && !mk1 x)
theorem Scan.start (R : Int → Option (List Int)) (mk1 tl : Int → Bool) (due : List Int) : Scan R mk1 tl due [] tl due (fun _ => false) :=
  ⟨fun x => by simp, ⟨[], by simp, List.nodup_nil, fun x => by simp⟩, fun x => by simp⟩
theorem dec_snoc (pre : List Int) (x y : Int) : decide (y ∈ pre ++ [x]) = (decide (y ∈ pre) || decide (y = x)) := by
  rw [Bool.eq_iff_iff]; simp
section
variable {R : Int → Option (List Int)} {mk1 tl tl' nx : Int → Bool} {due pre due' : List Int} {x : Int}
theorem Scan.mkd (h : Scan R mk1 tl due pre tl' due' nx) (ho : (R x).isSome = true) (hm : mk1 x = true) : Scan R mk1 tl due (pre ++ [x]) tl' due' nx := by
  have hn : R x ≠ none := fun e => by rw [e] at ho; cases ho
  refine ⟨fun y => ?_, ?_, fun y => ?_⟩
  · rw [h.tells, dec_snoc]
    by_cases hy : y = x
    · subst hy
      cases hr : R y with
      | none => exact absurd hr hn
      | some xs => simp
    · simp [hy]
  · obtain ⟨nd, h1, h2, h3⟩ := h.dues
    refine ⟨nd, h1, h2, fun y => ?_⟩
    rw [h3, List.mem_append, List.mem_singleton]
    constructor
    · rintro ⟨a, b⟩; exact ⟨.inl a, b⟩
    · rintro ⟨a | a, b, c⟩
      · exact ⟨a, b, c⟩
      · subst a; exact absurd b hn
  · rw [h.next, dec_snoc]
    by_cases hy : y = x
    · subst hy; simp [hm]
    · simp [hy]
theorem Scan.new (h : Scan R mk1 tl due pre tl' due' nx) (ho : (R x).isSome = true) (hm : mk1 x = false) : Scan R mk1 tl due (pre ++ [x]) tl' due' (insB nx x) := by
  have hn : R x ≠ none := fun e => by rw [e] at ho; cases ho
  refine ⟨fun y => ?_, ?_, fun y => ?_⟩
  · rw [h.tells, dec_snoc]
    by_cases hy : y = x
    · subst hy
      cases hr : R y with
      | none => exact absurd hr hn
      | some xs => simp
    · simp [hy]
  · obtain ⟨nd, h1, h2, h3⟩ := h.dues
    refine ⟨nd, h1, h2, fun y => ?_⟩
    rw [h3, List.mem_append, List.mem_singleton]
    constructor
    · rintro ⟨a, b⟩; exact ⟨.inl a, b⟩
    · rintro ⟨a | a, b, c⟩
      · exact ⟨a, b, c⟩
      · subst a; exact absurd b hn
  · unfold insB
    rw [h.next, dec_snoc]
    by_cases hy : y = x
    · subst hy; simp [hm, ho]
    · simp [hy]
theorem Scan.tell (h : Scan R mk1 tl due pre tl' due' nx) (ho : R x = none) : Scan R mk1 tl due (pre ++ [x]) (insB tl' x) (if tl' x = true then due' else due' ++ [x]) nx := by
  refine ⟨fun y => ?_, ?_, fun y => ?_⟩
  · unfold insB
    rw [h.tells, dec_snoc]
    by_cases hy : y = x
    · subst hy; simp [ho]
    · simp [hy]
  · obtain ⟨nd, h1, h2, h3⟩ := h.dues
    have ht := h.tells x
    by_cases hx : tl' x = true
    · rw [if_pos hx]
      refine ⟨nd, h1, h2, fun y => ?_⟩
      rw [h3, List.mem_append, List.mem_singleton]
      constructor
      · rintro ⟨a, b⟩; exact ⟨.inl a, b⟩
      · rintro ⟨a | a, b, c⟩
        · exact ⟨a, b, c⟩
        · subst a
          rw [hx, c] at ht
          simp at ht
          exact ⟨ht.1, b, c⟩
    · rw [if_neg hx]
      have hf : tl' x = false := by simpa using hx
      rw [hf] at ht
      have ht' : tl x = false ∧ x ∉ pre := by
        have := ht.symm
        simp [ho] at this
        exact this
      refine ⟨nd ++ [x], by rw [h1, List.append_assoc], ?_, fun y => ?_⟩
      · rw [List.nodup_append]
        refine ⟨h2, by simp, fun a ha b hb e => ?_⟩
        rw [List.mem_singleton.1 hb] at e
        subst e
        exact ht'.2 ((h3 a).1 ha).1
      · rw [List.mem_append, List.mem_singleton, h3, List.mem_append, List.mem_singleton]
        constructor
        · rintro (⟨a, b⟩ | a)
          · exact ⟨.inl a, b⟩
          · subst a; exact ⟨.inr rfl, ho, ht'.1⟩
        · rintro ⟨a | a, b⟩
          · exact .inl ⟨a, b⟩
          · exact .inr a
  · rw [h.next, dec_snoc]
    by_cases hy : y = x
    · subst hy; simp [ho]
    · simp [hy]
theorem Scan.level {mk : Int → Bool} {l out : List Int} (h : Scan R mk1 tl due (tosL R l) tl' due' nx) (hm : ∀ x, mk1 x = (mk x || decide (x ∈ l))) (h1 : out.Nodup) (h2 : out.Pairwise (· ≤ ·)) (h3 : ∀ x, x ∈ out ↔ nx x = true) : LvTo R mk tl due l mk1 tl' due' out :=
  ⟨hm, h.tells, h.dues, h1, h2, fun x => by rw [h3, h.next]; simp [and_assoc]⟩
end
theorem tosL_len {R : Int → Option (List Int)} (hR : ∀ x xs, R x = some xs → xs.length ≤ 100) : ∀ l : List Int, (tosL R l).length ≤ 100 * l.length
  | [] => Nat.le_refl _
  | x :: l => by
    have ih := tosL_len hR l
    unfold tosL at *
    rw [List.flatMap_cons, List.length_append, List.length_cons]
    have : ((R x).getD []).length ≤ 100 := by
      cases h : R x with
      | none => simp
      | some xs => exact hR x xs h
    omega
theorem tosL_snoc (R : Int → Option (List Int)) (l : List Int) (r : Int) : tosL R (l ++ [r]) = tosL R l ++ (R r).getD [] := by simp [tosL]
theorem take_snoc {α : Type} (l : List α) (i : Nat) (x : α) (h : l[i]? = some x) : l.take (i + 1) = l.take i ++ [x] := by rw [List.take_add_one, h]; rfl
def mkT (mk : Int → Bool) (l : List Int) (i : Nat) : Int → Bool := fun x => mk x || decide (x ∈ l.take i)
theorem mkT_zero (mk : Int → Bool) (l : List Int) : mkT mk l 0 = mk := by funext x; simp [mkT]
theorem mkT_step (mk : Int → Bool) (l : List Int) (i : Nat) (x : Int) (h : l[i]? = some x) : insB (mkT mk l i) x = mkT mk l (i + 1) := by
  funext y
  unfold insB mkT
  rw [take_snoc l i x h, dec_snoc]
  cases mk y <;> cases decide (y ∈ l.take i) <;> simp
theorem mkT_all (mk : Int → Bool) (l : List Int) (x : Int) : mkT mk l l.length x = (mk x || decide (x ∈ l)) := by simp [mkT]
/-- Different things of a list are no more than its length. -/
theorem nodup_len : ∀ (l U : List Int), l.Nodup → (∀ x ∈ l, x ∈ U) → l.length ≤ U.length
  | [], _, _, _ => Nat.zero_le _
  | x :: l, U, h, hs => by
    have hx := hs x (List.mem_cons_self ..)
    obtain ⟨hxl, hl⟩ := List.nodup_cons.1 h
    have ih := nodup_len l (U.erase x) hl (fun y hy => (List.mem_erase_of_ne (fun e : y = x => hxl (by rw [← e]; exact hy))).2 (hs y (List.mem_cons_of_mem _ hy)))
    rw [List.length_erase_of_mem hx] at ih
    have : 0 < U.length := List.length_pos_of_mem hx
    rw [List.length_cons]; omega
end Go
/- CycleNodes (plain): several nodes, each with its own actors, mark together what is reached. -/
namespace Go
theorem nodes_all {m : Nat} {Ri : Nat → Int → Option (List Int)} {R : Int → Option (List Int)} {S : Int → Prop} {Si : Nat → Int → Prop} {mk tl : Nat → Int → Bool}
    (hR : ∀ x xs, R x = some xs ↔ ∃ i, i < m ∧ Ri i x = some xs)
    (hS : ∀ i, i < m → ∀ x, Si i x → (Ri i x).isSome = true → Rch R S x)
    (hS2 : ∀ x, S x → (R x).isSome = true → ∃ i, i < m ∧ Si i x ∧ (Ri i x).isSome = true)
    (hmk : ∀ i, i < m → ∀ x, mk i x = true ↔ Rch (Ri i) (Si i) x)
    (htl : ∀ i, i < m → ∀ x, tl i x = true ↔ ∃ r xs, mk i r = true ∧ Ri i r = some xs ∧ x ∈ xs ∧ Ri i x = none)
    (hdel : ∀ i, i < m → ∀ x, tl i x = true → (R x).isSome = true → ∃ j, j < m ∧ Si j x ∧ (Ri j x).isSome = true) :
    ∀ x, Rch R S x ↔ ∃ i, i < m ∧ mk i x = true := by
  intro x
  constructor
  · intro hx
    induction hx with
    | seed h1 h2 =>
      obtain ⟨i, hi, h3, h4⟩ := hS2 _ h1 h2
      exact ⟨i, hi, (hmk i hi _).2 (.seed h3 h4)⟩
    | step _ h2 h3 h4 ih =>
      obtain ⟨i, hi, hm⟩ := ih
      have hr := (hmk i hi _).1 hm
      obtain ⟨ys, hys⟩ := Option.isSome_iff_exists.1 hr.own
      have he := (hR _ _).2 ⟨i, hi, hys⟩
      rw [h2] at he
      injection he with he
      subst he
      cases hx : Ri i _ with
      | some zs => exact ⟨i, hi, (hmk i hi _).2 (.step hr hys h3 (by rw [hx]; rfl))⟩
      | none =>
        obtain ⟨j, hj, h5, h6⟩ := hdel i hi _ ((htl i hi _).2 ⟨_, _, hm, hys, h3, hx⟩) h4
        exact ⟨j, hj, (hmk j hj _).2 (.seed h5 h6)⟩
  · rintro ⟨i, hi, hm⟩
    have hx := (hmk i hi _).1 hm
    clear hm
    induction hx with
    | seed h1 h2 => exact hS i hi _ h1 h2
    | step _ h2 h3 h4 ih =>
      obtain ⟨ys, hys⟩ := Option.isSome_iff_exists.1 h4
      exact .step ih ((hR _ _).2 ⟨i, hi, h2⟩) h3 (by rw [(hR _ _).2 ⟨i, hi, hys⟩]; rfl)
end Go
namespace Go
/-- What the call's own appended row reads as. -/
theorem IntsV.ofOwn {w : World} {base e : Nat} {v : Value} {n : Nat} {zs : List Int} (h : w.ownsRow base e 1 v n (zs.map (Value.int .i64))) (hw : ∀ z ∈ zs, (Lit.int .i64 z).wf = true) :
    ∃ a c, v = .slice a n c ∧ IntsV w a n c zs ∧ ∀ x, a = some x → base ≤ x.block := by
  obtain ⟨hl, h⟩ := h
  have hn : zs.length = n := by simpa using hl
  rcases h with ⟨rfl, rfl⟩ | ⟨g, cap, cur, rfl, hb, hg, hnc, hcm, hcs, ht⟩
  · exact ⟨none, 0, rfl, ⟨hn, Nat.le_refl _, Nat.zero_le _, hw, fun h => absurd h (by decide)⟩, fun x hx => by cases hx⟩
  · refine ⟨_, _, rfl, ⟨hn, hnc, hcm, hw, fun h0 => ⟨g, 0, rfl, fun i hi => ?_⟩⟩, fun x hx => by cases hx; exact hb⟩
    rw [Nat.zero_add, cell_of_row w g i cur e (0, 0) hg]
    have : (cur.toList.take (n * 1))[i]? = (zs.map (Value.int .i64))[i]? := by rw [ht]
    rw [List.getElem?_take, if_pos (by omega)] at this
    simp only [Array.getElem?_toList] at this
    rw [this]
    simp [List.getD_eq_getElem?_getD, hn ▸ hi]
theorem wf_small {z : Int} (h0 : -1000000 ≤ z) (h1 : z ≤ 1000000) : (Lit.int .i64 z).wf = true := by
  have h2 : IntKind.i64.min = -9223372036854775808 := by decide
  have h3 : IntKind.i64.max = 9223372036854775807 := by decide
  simp [Lit.wf, h2, h3]
  omega
end Go
namespace Go.Proofs.Ytmedldloilbmeaa
open Go.RowKit
theorem mixed : Try.prog.follows .mixedOrders = true := by kernel_rfl
set_option maxHeartbeats 400000 in
theorem rest_any (k n : Int) (w : World) (hn : 0 < n) (hn1 : n ≤ 1000000000) : Calls Try.prog 23 #[.int .i64 k, .int .i64 n] w fun e w' => e = .returned (.int .i64 (restI k n)) ∧ w = w' := by
  have hr := Lib.hid (rest_eq k n hn hn1)
  go_enter Try.func23, Try.ntmps23
  go_wp2_with fail
  go_ret
  exact ⟨ret_int hr.out, rfl⟩
theorem rest_at {k n q : Int} {w : World} (h : Hid (restI k n = q)) (hn : 0 < n) (hn1 : n ≤ 1000000000) : Calls Try.prog 23 #[.int .i64 k, .int .i64 n] w fun e w' => e = .returned (.int .i64 q) ∧ w = w' := by
  have := rest_any k n w hn hn1
  rw [h.out] at this
  exact this
/-- 'Rest' neither reads nor writes memory. -/
def isRest (args : Array Value) : Bool :=
  match args.toList with
  | [.int .i64 _, .int .i64 n] => decide (0 < n) && decide (n ≤ 1000000000)
  | _ => false
def quiets : Txt.Quiet := ⟨[23], fun f args => f == 23 && isRest args⟩
theorem quiet : Txt.QuietOk Try.prog quiets := by
  intro f args h
  simp only [quiets, Bool.and_eq_true, beq_iff_eq] at h
  obtain ⟨rfl, h⟩ := h
  refine ⟨by kernel_rfl, fun w => ?_, ?_⟩
  · have h1 : (Try.f23.name == "runtime.NumGoroutine") = false := by kernel_rfl
    have h2 : Try.f23.body.isNone = false := by kernel_rfl
    simp only [callFunc, Sem.run_bind, run_program, Result.andThen_ok, Try.func23, h1, h2, Bool.false_eq_true, if_false, Sem.run_pure]
  · unfold isRest at h
    split at h
    · rename_i k n he
      obtain rfl : args = #[.int .i64 k, .int .i64 n] := by cases args; simp_all
      simp only [Bool.and_eq_true, decide_eq_true_eq] at h
      exact ⟨_, fun w => rest_any k n w h.1 h.2⟩
    · cases h
theorem info3 : (Try.prog.info? 3).map (fun i => (i.zero, i.size, i.bytes)) = some (some (.int .i64 0), 1, 8) := by kernel_rfl
theorem rest_nat (k n : Int) (hn : 0 < n) : ∃ q : Nat, restI k n = q ∧ (q : Int) < n := by
  have h0 := restI_lo k hn
  have h1 := restI_hi k hn
  exact ⟨(restI k n).toNat, by omega, by omega⟩
end Go.Proofs.Ytmedldloilbmeaa
/- The contracts of slices.Sort and slices.Clone at this program. -/
namespace Go.Proofs
open Go.Shelf
def Try.lays189_ren : Go.Shelf.Ren := ⟨fun | 189 => 16 | 125 => 42 | 257 => 41 | 128 => 56 | 129 => 57 | 294 => 48 | 295 => 49 | 296 => 50 | 297 => 51 | 298 => 52 | 299 => 53 | 216 => 43 | 300 => 54 | 301 => 55 | 328 => 60 | 329 => 61 | 330 => 62 | 331 => 63 | 332 => 64 | 215 => 58 | 343 => 65 | n => n, fun | 28 => 22 | 3 => 3 | 46 => 64 | 0 => 0 | 51 => 84 | 53 => 66 | 4 => 4 | 183 => 78 | 182 => 77 | 131 => 48 | 5 => 5 | 9 => 9 | 218 => 87 | 222 => 91 | 228 => 93 | 229 => 94 | n => n, fun | n => n⟩
theorem Try.lays189 : Go.Proofs.Lays.n189 Try.prog Try.lays189_ren := {
  mixed := by kernel_rfl
  f125 := Try.func42.trans (congrArg some (by kernel_rfl))
  f128 := Try.func56.trans (congrArg some (by kernel_rfl))
  f129 := Try.func57.trans (congrArg some (by kernel_rfl))
  f189 := Try.func16.trans (congrArg some (by kernel_rfl))
  f215 := Try.func58.trans (congrArg some (by kernel_rfl))
  f216 := Try.func43.trans (congrArg some (by kernel_rfl))
  f257 := Try.func41.trans (congrArg some (by kernel_rfl))
  f294 := Try.func48.trans (congrArg some (by kernel_rfl))
  f295 := Try.func49.trans (congrArg some (by kernel_rfl))
  f296 := Try.func50.trans (congrArg some (by kernel_rfl))
  f297 := Try.func51.trans (congrArg some (by kernel_rfl))
  f298 := Try.func52.trans (congrArg some (by kernel_rfl))
  f299 := Try.func53.trans (congrArg some (by kernel_rfl))
  f300 := Try.func54.trans (congrArg some (by kernel_rfl))
  f301 := Try.func55.trans (congrArg some (by kernel_rfl))
  f328 := Try.func60.trans (congrArg some (by kernel_rfl))
  f329 := Try.func61.trans (congrArg some (by kernel_rfl))
  f330 := Try.func62.trans (congrArg some (by kernel_rfl))
  f331 := Try.func63.trans (congrArg some (by kernel_rfl))
  f332 := Try.func64.trans (congrArg some (by kernel_rfl))
  f343 := Try.func65.trans (congrArg some (by kernel_rfl))
  t0 := Try.underlying0
  a0 := Try.isAgg0
  z0 := Try.sizeOf0
  v0 := Try.zeroValue0
  t3 := Try.underlying3
  a3 := Try.isAgg3
  z3 := Try.sizeOf3
  v3 := Try.zeroValue3
  t4 := Try.underlying4
  a4 := Try.isAgg4
  z4 := Try.sizeOf4
  v4 := Try.zeroValue4
  t5 := Try.underlying5
  a5 := Try.isAgg5
  z5 := Try.sizeOf5
  v5 := Try.zeroValue5
  t9 := Try.underlying9
  a9 := Try.isAgg9
  z9 := Try.sizeOf9
  v9 := Try.zeroValue9
  t28 := Try.underlying22
  a28 := Try.isAgg22
  z28 := Try.sizeOf22
  v28 := Try.zeroValue22
  t46 := Try.underlying64
  a46 := Try.isAgg64
  z46 := Try.sizeOf64
  v46 := Try.zeroValue64
  t51 := Try.underlying84
  a51 := Try.isAgg84
  z51 := Try.sizeOf84
  v51 := Try.zeroValue84
  t53 := Try.underlying66
  a53 := Try.isAgg66
  z53 := Try.sizeOf66
  v53 := Try.zeroValue66
  t131 := Try.underlying48
  a131 := Try.isAgg48
  z131 := Try.sizeOf48
  v131 := Try.zeroValue48
  t182 := Try.underlying77
  a182 := Try.isAgg77
  z182 := Try.sizeOf77
  v182 := Try.zeroValue77
  t183 := Try.underlying78
  a183 := Try.isAgg78
  z183 := Try.sizeOf78
  v183 := Try.zeroValue78
  t218 := Try.underlying87
  a218 := Try.isAgg87
  z218 := Try.sizeOf87
  v218 := Try.zeroValue87
  t222 := Try.underlying91
  a222 := Try.isAgg91
  z222 := Try.sizeOf91
  v222 := Try.zeroValue91
  t228 := Try.underlying93
  a228 := Try.isAgg93
  z228 := Try.sizeOf93
  v228 := Try.zeroValue93
  t229 := Try.underlying94
  a229 := Try.isAgg94
  z229 := Try.sizeOf94
  v229 := Try.zeroValue94 }
open Go.Sort Go.RowKit in
theorem Try.slices_Sort_int (blk off cap : Nat) (zs : List Int) (w : World) (hH : Holds (Value.int .i64) w blk off zs.toArray) (hblk : blk < w.heap.size) (hsz : zs.length < 4611686018427387904) :
    Calls Try.prog 16 #[.slice (some ⟨blk, off, none⟩) zs.length cap] w fun e w' =>
      e = .returned (.tuple #[]) ∧ ∃ n os, w' = grow (putRow (Value.int .i64) (Sort.ahead w n) blk off (zs.mergeSort fun x y => decide (x ≤ y)).toArray) os := Any.slices_Sort_int Try.lays189 blk off cap zs w hH hblk hsz
open Go.RowKit Go.Sort in
theorem Try.slices_Sort_int_none (p : Option Addr) (cap : Nat) (w : World) :
    Calls Try.prog 16 #[.slice p 0 cap] w fun e w' => e = .returned (.tuple #[]) ∧ w' = w := Any.slices_Sort_int_none Try.lays189 p cap w
def Try.laysNm215_ren : Go.Shelf.Ren := ⟨fun | 15 => 15 | n => n, fun | 22 => 22 | 3 => 3 | 4 => 4 | n => n, fun | n => n⟩
theorem Try.laysNm215 : Go.Proofs.Lays2.n15 Try.prog Try.laysNm215_ren := {
  mixed := by kernel_rfl
  f15 := Try.func15.trans (congrArg some (by kernel_rfl))
  t3 := Try.underlying3
  a3 := Try.isAgg3
  z3 := Try.sizeOf3
  v3 := Try.zeroValue3
  t4 := Try.underlying4
  a4 := Try.isAgg4
  z4 := Try.sizeOf4
  v4 := Try.zeroValue4
  t22 := Try.underlying22
  a22 := Try.isAgg22
  z22 := Try.sizeOf22
  v22 := Try.zeroValue22
  i3 := by kernel_rfl }
open Go.RowKit Go.Lib in
theorem Try.slices_Clone_int_zero (a : Addr) (c : Nat) (w : World) :
    Calls Try.prog 15 #[.slice (some a) 0 c] w fun e w' => ∃ v', e = .returned v' ∧ w'.ownsRow w.heap.size 3 1 v' 0 [] ∧ v' ≠ .slice none 0 0 ∧ Below w.heap.size w w' := Any.slices_Clone_int_zero Try.laysNm215 a c w
def Try.laysSlE041_f15_ren : Go.Shelf.Ren := ⟨fun | 41 => 15 | n => n, fun | 22 => 22 | 23 => 3 | 4 => 4 | n => n, fun | n => n⟩
theorem Try.laysSlE041_f15 : Go.Proofs.SlLaysE0.n41 Try.prog Try.laysSlE041_f15_ren := {
  mixed := by kernel_rfl
  f41 := ⟨Try.f15.name, by decide, Try.func15.trans (congrArg some (by kernel_rfl))⟩
  t4 := Try.underlying4
  a4 := Try.isAgg4
  z4 := Try.sizeOf4
  v4 := Try.zeroValue4
  t22 := Try.underlying22
  a22 := Try.isAgg22
  z22 := Try.sizeOf22
  v22 := Try.zeroValue22 }
open Go.RowKit Go.Lib in
theorem Try.slices_Clone (i0 : TypeInfo) (z : Value) (size bytes : Nat) (hi : Try.prog.info? 3 = some i0) (hz0 : i0.zero = some z) (hz1 : i0.size = size) (hz2 : i0.bytes = bytes) (hzs : z.cells.size = size) (hsz : 0 < size) (z23 : ∀ w, (Go.sizeOf 3).run Try.prog w = .ok size w) (b off n c : Nat) (news : List Value) (w : World) (hl : news.length = n * size) (hn : n ≤ maxLen) (hbig : n * bytes ≤ 140737488355328) (hc : ∀ j u, news[j]? = some u → w.cell? ⟨b, off + j, none⟩ = some u) (h1 : ∀ u ∈ news, u.oneCell' = true) :
    Calls Try.prog 15 #[.slice (some ⟨b, off, none⟩) n c] w fun e w' => ∃ v', e = .returned v' ∧ w'.ownsRow w.heap.size 3 size v' n news ∧ v' ≠ .slice none 0 0 ∧ Below w.heap.size w w' := AnyE.slices_Clone Try.laysSlE041_f15 i0 z size bytes hi hz0 hz1 hz2 hzs hsz z23 b off n c news w hl hn hbig hc h1
open Go.RowKit Go.Lib in
theorem Try.slices_Clone_nil (n c : Nat) (w : World) :
    Calls Try.prog 15 #[.slice none n c] w fun e w' => e = .returned (.slice none 0 0) ∧ w' = w := AnyE.slices_Clone_nil Try.laysSlE041_f15 n c w
end Go.Proofs
