/- Texts laid together: R4 R5 M4 NP1 M5 R6 R7 R9 R10 R11 N1 NRst. -/
import Derived.Test.YtfgdgdjdlnchlaaMg2
import Derived.Laws.Rows
import Derived.OwnWalk
import Derived.Laws.OwnMore
import Derived.Deep.AppendLies
import Derived.Deep.Onto
import Derived.StringKeys
import Derived.Sort.KeysCollected
import Derived.Shelf.Bytes.SlEqualAll
import Derived.Laws.AppendOwnNone
import Derived.Test.YtfgdgdjdlnchlaaRows
namespace Go
open Go.RowKit
/-- A whole array or struct read out of the middle of a block. -/
theorem run_loadVar_at {P : Program} (w : World) (a : Addr) (ty : TypeId) (vs : List Value) (d : TypeDesc) (hg : ∀ j v, vs[j]? = some v → w.cell? (a.add j) = some v)
    (hu : P.underlying ty = some d) (hd : (match d with | .struct _ | .array _ _ => true | _ => false) = true) (hi : (P.info? ty).map (·.size) = some vs.length) :
    (loadVar ty a).run P w = .ok (.agg vs.toArray) w := by
  have hl : (loadCells a vs.length).run P w = .ok vs.toArray w := run_loadCells_list (P := P) w a vs hg
  cases hq : P.info? ty with
  | none => simp [hq] at hi
  | some i =>
    have hs : i.size = vs.length := by simpa [hq] using hi
    have hagg : (isAgg ty).run P w = .ok true w := by
      unfold isAgg
      rw [Sem.run_bind, run_underlying hu w]
      cases d <;> simp_all
    simp [loadVar, Sem.run_bind, hagg, sizeOf, typeInfo, hq, hs, hl]
theorem wp_load_at {P : Program} {o : Oper} {a : Act} {w : World} {K : Act → World → Prop} {Q : Exit → Act → World → Prop} (ty : TypeId) (x : Operand) (ho : o.op = .load ty x)
    (ad : Addr) (hx : a.eval x = .pointer (some ad)) (vs : List Value) (d : TypeDesc) (hg : ∀ j v, vs[j]? = some v → w.cell? (ad.add j) = some v)
    (hu : P.underlying ty = some d) (hd : (match d with | .struct _ | .array _ _ => true | _ => false) = true) (hi : (P.info? ty).map (·.size) = some vs.length)
    (h : K (a.put o.dst (.agg vs.toArray)) w) : o.wp P a w K Q := by
  unfold Oper.wp execOp
  simp only [ho, hx, Instr.loadAt, Instr.sureAddr, Sem.run_bind, Sem.run_pure, Result.andThen_ok, run_loadVar_at w ad ty vs d hg hu hd hi]
  exact h
theorem wpList_load_at {P : Program} {ops : Array Oper} {rest : List Oper} {o : Oper} {a : Act} {w : World} {Q : Exit → Act → World → Prop} (hgd : o.guard = none) (ty : TypeId) (x : Operand) (ho : o.op = .load ty x)
    (ad : Addr) (hx : a.eval x = .pointer (some ad)) (vs : List Value) (d : TypeDesc) (hg : ∀ j v, vs[j]? = some v → w.cell? (ad.add j) = some v)
    (hu : P.underlying ty = some d) (hd : (match d with | .struct _ | .array _ _ => true | _ => false) = true) (hi : (P.info? ty).map (·.size) = some vs.length)
    (h : wpList P ops Q rest (a.put o.dst (.agg vs.toArray)) w) : wpList P ops Q (o :: rest) a w :=
  wpList_plain hgd fun _ hK => wp_load_at ty x ho ad hx vs d hg hu hd hi (hK _ _ h)
theorem GAt.rowsAt {T : TypeId} {w : World} {b : Nat} {g : Gs} (h : GAt T w b g) : ∀ j v, (lanesC g.rs)[j]? = some v → w.cell? ((⟨b, 3, none⟩ : Addr).add j) = some v := by
  intro j v hv
  have hj : j < (lanesC g.rs).length := (List.getElem?_eq_some_iff.1 hv).1
  have e : (⟨b, 3, none⟩ : Addr).add j = ⟨b, 3 + j, none⟩ := by unfold Addr.add; split <;> simp_all
  rw [e, cellAt h.1]
  simp only [List.getElem?_toArray, Gs.cells, List.append_assoc]
  rw [List.getElem?_append_right (by simp), List.getElem?_append_left (by simp only [List.length_cons, List.length_nil]; omega)]
  rw [← hv]
  congr 1
  simp only [List.length_cons, List.length_nil]; omega
/-- A new block's cells. -/
theorem cells_new (w : World) (xs : List Value) (t : TypeId) (f : Nat × Nat) : ∀ j u, xs[j]? = some u → (w.alloc (.cells xs.toArray t f)).cell? ((⟨w.heap.size, 0, none⟩ : Addr).add j) = some u := by
  intro j u hj
  have e : (⟨w.heap.size, 0, none⟩ : Addr).add j = ⟨w.heap.size, j, none⟩ := by unfold Addr.add; split <;> simp_all
  rw [e, cell_of_row _ _ _ _ _ _ (blk_new w _)]
  simpa using hj
theorem cells_new2 (w : World) (o : Obj) (xs : List Value) (t : TypeId) : ∀ j u, xs[j]? = some u → ((w.alloc o).alloc (.cells xs.toArray t)).cell? ((⟨w.heap.size + 1, 0, none⟩ : Addr).add j) = some u := by
  have h := cells_new (w.alloc o) xs t (0, 0)
  have e : (w.alloc o).heap.size = w.heap.size + 1 := by simp
  rw [e] at h
  exact h
/-- A slice of rows of three numbers. -/
structure LnsV (w : World) (a : Option Addr) (n c : Nat) (ls : List Ln) : Prop where
  len : ls.length = n
  room : n ≤ c
  most : c ≤ maxLen
  cells : 0 < n → ∃ b off, a = some ⟨b, off, none⟩ ∧ ∀ j, j < 3 * n → w.cell? ⟨b, off + j, none⟩ = (lanesC ls)[j]?
section
variable {w w' : World} {a : Option Addr} {n c : Nat} {ls : List Ln}
theorem LnsV.nil (w : World) : LnsV w none 0 0 [] := ⟨rfl, Nat.le_refl _, Nat.zero_le _, fun h => absurd h (by decide)⟩
theorem LnsV.keep {S : List Nat} (h : LnsV w a n c ls) (k : Keep S w w') (hs : ∀ x, a = some x → x.block ∉ S) : LnsV w' a n c ls :=
  ⟨h.len, h.room, h.most, fun hn => by
    obtain ⟨b, off, rfl, hc⟩ := h.cells hn
    refine ⟨b, off, rfl, fun j hj => ?_⟩
    rw [← hc j hj]
    have hsome : ∃ v, (lanesC ls)[j]? = some v := ⟨_, List.getElem?_eq_getElem (by have := lanesC_len ls; have := h.len; omega)⟩
    obtain ⟨v, hv⟩ := hsome
    have h1 := (hc j hj).trans hv
    rw [h1]
    exact k.cell h1 (hs ⟨b, off, none⟩ rfl)⟩
theorem LnsV.at_ (h : LnsV w a n c ls) {i : Nat} (hi : i < n) : ∃ b off, a = some ⟨b, off, none⟩ ∧ w.cell? ⟨b, off + i * 3, none⟩ = some (.int .i64 (lat ls i).q) ∧ w.cell? ⟨b, off + i * 3 + 1, none⟩ = some (.int .i64 (lat ls i).g) ∧ w.cell? ⟨b, off + i * 3 + 2, none⟩ = some (.int .i64 (lat ls i).u) := by
  obtain ⟨b, off, rfl, hc⟩ := h.cells (by omega)
  have at_ : ∀ f, f < 3 → w.cell? ⟨b, off + (i * 3 + f), none⟩ = (lat ls i).cells[f]? := fun f hf => by
    rw [hc _ (by omega)]
    exact lanesC_at ls i f (by rw [h.len]; exact hi) hf
  exact ⟨b, off, rfl, at_ 0 (by omega), at_ 1 (by omega), at_ 2 (by omega)⟩
theorem LnsV.ofOwn {base e : Nat} {v : Value} (h : w.ownsRow base e 3 v n (lanesC ls)) : ∃ a c, v = .slice a n c ∧ LnsV w a n c ls ∧ ∀ x, a = some x → base ≤ x.block := by
  obtain ⟨hl, h⟩ := h
  have hn : ls.length = n := by have := lanesC_len ls; omega
  rcases h with ⟨rfl, hnil⟩ | ⟨g, cap, cur, rfl, hb, hg, hnc, hcm, hcs, ht⟩
  · have h0 : n = 0 := by rw [hnil] at hl; simp at hl; omega
    subst h0
    exact ⟨none, 0, rfl, ⟨hn, Nat.le_refl _, Nat.zero_le _, fun h => absurd h (by decide)⟩, fun x hx => by cases hx⟩
  · refine ⟨_, _, rfl, ⟨hn, hnc, hcm, fun h0 => ⟨g, 0, rfl, fun j hj => ?_⟩⟩, fun x hx => by cases hx; exact hb⟩
    rw [Nat.zero_add, cell_of_row w g j cur e (0, 0) hg]
    have : (cur.toList.take (n * 3))[j]? = (lanesC ls)[j]? := by rw [ht]
    rw [List.getElem?_take, if_pos (by omega)] at this
    simpa using this
theorem LnsV.drew (h : LnsV w a n c ls) : LnsV w.drew a n c ls := ⟨h.len, h.room, h.most, h.cells⟩
theorem lanesC_snoc (ls : List Ln) (L : Ln) : lanesC (ls ++ [L]) = lanesC ls ++ L.cells := by simp [lanesC]
end
end Go
namespace Go
theorem GAt.alloc {T : TypeId} {w : World} {b : Nat} {g : Gs} (h : GAt T w b g) (o : Obj) : GAt T (w.alloc o) b g := h.keep ((Keep.refl [] w).alloc o) (by simp)
theorem GAt.put3 {T : TypeId} {w : World} {b : Nat} {g : Gs} (h : GAt T w b g) {i : Nat} (hi : i < 9) (x y z : Int) :
    GAt T (((w.setCell ⟨b, 3 + i * 3, none⟩ (.int .i64 x)).setCell ⟨b, 3 + i * 3 + 1, none⟩ (.int .i64 y)).setCell ⟨b, 3 + i * 3 + 2, none⟩ (.int .i64 z)) b { g with rs := g.rs.set i ⟨x, y, z⟩ } := by
  have hl : i < g.rs.length := by have := h.2.1; omega
  have e0 := h.putRow hi 0 (by omega) (.int .i64 x) ⟨x, (lat g.rs i).g, (lat g.rs i).u⟩ rfl
  have e1 := e0.putRow hi 1 (by omega) (.int .i64 y) ⟨x, y, (lat g.rs i).u⟩ (by dsimp only; rw [lat_set _ _ _ _ hl, if_pos rfl]; rfl)
  have e2 := e1.putRow hi 2 (by omega) (.int .i64 z) ⟨x, y, z⟩ (by dsimp only; rw [List.set_set, lat_set _ _ _ _ hl, if_pos rfl]; rfl)
  dsimp only at e2
  rw [List.set_set, List.set_set] at e2
  exact e2
end Go
namespace Go
open Go.RowKit
theorem Keep.more {S S' : List Nat} {w w' : World} (h : Keep S w w') (hs : ∀ b ∈ S, b ∈ S') : Keep S' w w' :=
  ⟨h.os, h.tape, h.output, h.size, fun k hk hn => h.block k hk fun hm => hn (hs k hm)⟩
theorem own_keep {S : List Nat} {w w' : World} {base e size n : Nat} {v : Value} {xs : List Value} (h : w.ownsRow base e size v n xs) (k : Keep S w w') (hs : ∀ b, v.ownBlock = some b → b ∉ S) : w'.ownsRow base e size v n xs := by
  refine ⟨h.1, ?_⟩
  rcases h.2 with hn | ⟨g, cap, cur, rfl, hb, hgg, rest⟩
  · exact .inl hn
  · exact .inr ⟨g, cap, cur, rfl, hb, k.at hgg (hs g rfl), rest⟩
/-- A row's block and a block of another kind are two. -/
theorem own_ne {w : World} {base e size n : Nat} {v : Value} {xs : List Value} (h : w.ownsRow base e size v n xs) {b : Nat} {cs : Array Value} {T : TypeId} {f : Nat × Nat} (hb : w.heap[b]? = some (.cells cs T f)) (hT : e ≠ T) : ∀ g, v.ownBlock = some g → g ≠ b := by
  intro g hg he
  subst he
  rcases h.2 with ⟨rfl, _⟩ | ⟨g', cap, cur, rfl, _, hgg, _⟩
  · simp [Value.ownBlock] at hg
  · simp [Value.ownBlock] at hg
    subst hg
    rw [hb] at hgg
    injection hgg with hgg
    injection hgg with _ h2 _
    exact hT h2.symm
theorem own_own {w : World} {base base' e e' size size' n n' : Nat} {v v' : Value} {xs xs' : List Value} (h : w.ownsRow base e size v n xs) (h' : w.ownsRow base' e' size' v' n' xs') (hT : e ≠ e') : ∀ g, v.ownBlock = some g → v'.ownBlock ≠ some g := by
  intro g hg he
  rcases h'.2 with ⟨rfl, _⟩ | ⟨g', cap, cur, rfl, _, hgg, _⟩
  · simp [Value.ownBlock] at he
  · simp [Value.ownBlock] at he
    subst he
    exact own_ne h hgg hT g' hg rfl
theorem Keep.ofGrown {w w' : World} {row : Option Nat} {S : List Nat} (h : w.grownBy w' row) (hr : ∀ k, row = some k → k ∈ S) : Keep S w w' :=
  ⟨h.os, h.tape, h.output, h.size, fun k hk hn => h.block k hk fun e => hn (hr k e.symm)⟩
/-- What Keep a list of blocks S, and nothing else, may touch: those of S that were there. -/
theorem Keep.fresh {S : List Nat} {w w' : World} (h : Keep S w w') (hs : ∀ b ∈ S, w.heap.size ≤ b) : Keep [] w w' :=
  ⟨h.os, h.tape, h.output, h.size, fun k hk _ => h.block k hk fun hm => by have := hs k hm; omega⟩
/-- A slice of pointers to whole blocks. -/
structure PtrsV (w : World) (a : Option Addr) (n c : Nat) (bs : List Nat) : Prop where
  len : bs.length = n
  room : n ≤ c
  most : c ≤ maxLen
  cells : 0 < n → ∃ b off, a = some ⟨b, off, none⟩ ∧ ∀ i, i < n → w.cell? ⟨b, off + i, none⟩ = some (.pointer (some ⟨bs.getD i 0, 0, none⟩))
theorem PtrsV.keep {S : List Nat} {w w' : World} {a : Option Addr} {n c : Nat} {bs : List Nat} (h : PtrsV w a n c bs) (k : Keep S w w') (hs : ∀ x, a = some x → x.block ∉ S) : PtrsV w' a n c bs :=
  ⟨h.len, h.room, h.most, fun hn => by
    obtain ⟨b, off, rfl, hc⟩ := h.cells hn
    exact ⟨b, off, rfl, fun i hi => k.cell (hc i hi) (hs ⟨b, off, none⟩ rfl)⟩⟩
def ptr (b : Nat) : Value := .pointer (some ⟨b, 0, none⟩)
theorem PtrsV.ofOwn {w : World} {base e n : Nat} {v : Value} {bs : List Nat} (h : w.ownsRow base e 1 v n (bs.map ptr)) : ∃ a c, v = .slice a n c ∧ PtrsV w a n c bs ∧ ∀ x, a = some x → base ≤ x.block ∧ ∃ cs, w.heap[x.block]? = some (.cells cs e (0, 0)) := by
  obtain ⟨hl, h⟩ := h
  have hn : bs.length = n := by simpa using hl
  rcases h with ⟨rfl, h0⟩ | ⟨g, cap, cur, rfl, hb, hg, hnc, hcm, hcs, ht⟩
  · subst h0
    exact ⟨none, 0, rfl, ⟨hn, Nat.le_refl _, Nat.zero_le _, fun h => absurd h (by decide)⟩, fun x hx => by cases hx⟩
  · refine ⟨_, _, rfl, ⟨hn, hnc, hcm, fun h0 => ⟨g, 0, rfl, fun i hi => ?_⟩⟩, fun x hx => by cases hx; exact ⟨hb, cur, hg⟩⟩
    rw [Nat.zero_add, cell_of_row w g i cur e (0, 0) hg]
    have : (cur.toList.take (n * 1))[i]? = (bs.map ptr)[i]? := by rw [ht]
    rw [List.getElem?_take, if_pos (by omega)] at this
    simp only [Array.getElem?_toList] at this
    rw [this]
    simp [List.getD_eq_getElem?_getD, hn ▸ hi, ptr]
end Go
namespace Go
theorem own_sep {w : World} {base base' e e' size size' n n' : Nat} {v v' : Value} {xs xs' : List Value} (h : w.ownsRow base e size v n xs) (h' : w.ownsRow base' e' size' v' n' xs') (hT : e ≠ e') : v.ownBlock = none ∨ v.ownBlock ≠ v'.ownBlock := by
  cases hv : v.ownBlock with
  | none => exact .inl rfl
  | some g => exact .inr fun he => own_own h h' hT g hv he.symm
end Go
/- A map with keys of any type that the kit keys, seen as a function of what stands for the keys. -/
namespace Go
open Go.Maps (Keyed)
open Go.WideMaps
structure KeyT (P : Program) (k : TypeId) (α : Type) where
  val : α → Value
  lit : α → Lit
  ok : α → Prop
  keyed : Keyed P k
  key : ∀ x, ok x → keyOf P k (val x) = some (lit x)
  inj : ∀ x y, ok x → ok y → lit x = lit y → x = y
def MapK {P : Program} {k : TypeId} {α : Type} (C : KeyT P k α) (w : World) (b n : Nat) (f : α → Option Value) : Prop :=
  ∃ D : DataW Value, w.ownsMap P k asIs b n D ∧ Maps.IsMap D ∧ (∀ x, C.ok x → ∀ z, D.atKey (C.lit x) (.held z) = .held ((f x).getD z)) ∧ ∀ x, C.ok x → Maps.has D (C.lit x) = (f x).isSome
section
variable {w w' : World} {P : Program} {k : TypeId} {α : Type} {C : KeyT P k α} {b n : Nat} {f : α → Option Value}
theorem MapK.made (C : KeyT P k α) (w : World) : MapK C (w.alloc (.map #[] 0)) w.heap.size 0 (fun _ => none) :=
  ⟨.map [], World.ownsMap_made w P k asIs, ⟨[], rfl⟩, fun _ _ _ => rfl, fun _ _ => rfl⟩
theorem MapK.lt (h : MapK C w b n f) : b < w.heap.size := let ⟨_, h1, _⟩ := h; h1.lt
theorem MapK.block (h : MapK C w b n f) (hb : w'.heap[b]? = w.heap[b]?) : MapK C w' b n f := by
  obtain ⟨D, ⟨es, clock, h1, h2⟩, h3⟩ := h
  exact ⟨D, ⟨es, clock, hb.trans h1, h2⟩, h3⟩
theorem MapK.keep {S : List Nat} (h : MapK C w b n f) (hk : Keep S w w') (hs : b ∉ S) : MapK C w' b n f := h.block (hk.block b h.lt hs)
theorem MapK.drew (h : MapK C w b n f) : MapK C w.drew b n f := h
theorem MapK.mono (h : MapK C w b n f) {n' : Nat} (hn : n ≤ n') : MapK C w b n' f := let ⟨D, h1, h2⟩ := h; ⟨D, h1.mono hn, h2⟩
theorem MapK.notCells (h : MapK C w b n f) {c : Nat} {cs : Array Value} {T : TypeId} {g : Nat × Nat} (hc : w.heap[c]? = some (.cells cs T g)) : b ≠ c := by
  rintro rfl
  obtain ⟨D, ⟨es, clock, h1, _⟩, _⟩ := h
  rw [hc] at h1
  cases h1
theorem put_k [DecidableEq α] {D : DataW Value} {key : α} {v : Value} (hx : C.ok key) (h2 : Maps.IsMap D) (h3 : ∀ x, C.ok x → ∀ z, D.atKey (C.lit x) (.held z) = .held ((f x).getD z)) (h4 : ∀ x, C.ok x → Maps.has D (C.lit x) = (f x).isSome)
    (ho : w'.ownsMap P k asIs b n (D.put (C.lit key) (.held v))) : MapK C w' b n (fun y => if y = key then some v else f y) := by
  have hkl := C.keyed.key (C.key key hx)
  refine ⟨_, ho, ?_, fun y hy z => ?_, fun y hy => ?_⟩
  · obtain ⟨es, rfl⟩ := h2
    exact ⟨_, rfl⟩
  · by_cases e1 : y = key
    · subst e1
      rw [Maps.atKey_put_same h2 hkl]; simp
    · rw [Maps.atKey_put_other (fun h => e1 (C.inj _ _ hy hx h)), h3 y hy]; simp [e1]
  · by_cases e1 : y = key
    · subst e1
      rw [Maps.has_put_same h2 hkl]; simp
    · rw [Maps.has_put_other (fun h => e1 (C.inj _ _ hy hx h)), h4 y hy]; simp [e1]
theorem lookup_run_k {t e : TypeId} {z : Value} {key : α} (ht : P.underlying t = some (.map k e)) (hz : (zeroValue e).run P w = .ok z w) (hown : MapK C w b n f) (hx : C.ok key) :
    (Instr.lookup t (.map (some b)) (C.val key) false).run P w = .ok ((f key).getD z) w := by
  obtain ⟨D, h1, h2, h3, _⟩ := hown
  obtain ⟨v, ps, hrun, hv⟩ := h1.lookup C.keyed ht hz (show asIs z = some (.held z, []) from rfl) (C.key key hx)
  have hve : v = (f key).getD z := by
    rw [h3 key hx] at hv
    unfold asIs at hv
    injection hv with hv
    injection hv with hv _
    injection hv
  rw [hrun, hve]
theorem update_run_k [DecidableEq α] {t e : TypeId} {key : α} {v : Value} (ht : P.underlying t = some (.map k e)) (hown : MapK C w b n f) (hn : n < maxLen) (hx : C.ok key) :
    ∃ w', (Instr.mapUpdate t (.map (some b)) (C.val key) v).run P w = .ok () w' ∧ MapK C w' b (n + 1) (fun y => if y = key then some v else f y) ∧ Keep [b] w w' := by
  obtain ⟨D, h1, h2, h3, h4⟩ := hown
  have hkey := C.key key hx
  obtain ⟨w', hrun, h5, h6⟩ := h1.store C.keyed ht hn (val := v) hkey (show asIs v = some (.held v, []) from rfl)
  exact ⟨w', hrun, put_k hx h2 h3 h4 h5, keep_turned h6⟩
end
theorem wpList_lookup_k {P : Program} {k : TypeId} {α : Type} (C : KeyT P k α) (w : World) {ops : Array Oper} {rest : List Oper} {o : Oper} {a : Act} {Q : Exit → Act → World → Prop}
    (hg : o.guard = none) (m x : Operand) (t : TypeId) (hop : o.op = Op.lookup t m x false)
    (e : TypeId) (ht : P.underlying t = some (.map k e)) (z : Value) (hz : (zeroValue e).run P w = .ok z w) (b n : Nat) (f : α → Option Value)
    (hm : a.eval m = .map (some b)) (hown : MapK C w b n f) (key : α) (hx : a.eval x = C.val key) (hok : C.ok key)
    (hK : wpList P ops Q rest (a.put o.dst ((f key).getD z)) w) : wpList P ops Q (o :: rest) a w := by
  refine wpList_plain hg fun K' hK' => ?_
  have hrun := lookup_run_k ht hz hown hok
  unfold Oper.wp
  simp [execOp, hop, hm, hx, hrun, Result.andThen]
  exact hK' _ _ hK
theorem wpList_lookup_k2 {P : Program} {k : TypeId} {α : Type} (C : KeyT P k α) (w : World) {ops : Array Oper} {rest : List Oper} {o : Oper} {a : Act} {Q : Exit → Act → World → Prop}
    (hg : o.guard = none) (m x : Operand) (t : TypeId) (hop : o.op = Op.lookup t m x true)
    (e : TypeId) (ht : P.underlying t = some (.map k e)) (z : Value) (hz : (zeroValue e).run P w = .ok z w) (b n : Nat) (f : α → Option Value)
    (hm : a.eval m = .map (some b)) (hown : MapK C w b n f) (key : α) (hx : a.eval x = C.val key) (hok : C.ok key)
    (hK : wpList P ops Q rest (a.put o.dst (.tuple #[(f key).getD z, .bool (f key).isSome])) w) : wpList P ops Q (o :: rest) a w := by
  obtain ⟨D, h1, h2, h3, h4⟩ := hown
  refine wpList_lookup_own_ok w hg m x t hop k e C.keyed ht asIs hz (.held z) [] rfl b n D hm h1 _ _ hx (C.key key hok) fun v ps hv => ?_
  rw [h3 key hok] at hv
  unfold asIs at hv
  injection hv with hv
  injection hv with hv _
  injection hv with hv
  subst hv
  rw [h4 key hok]
  exact hK
theorem wpList_update_kk {P : Program} {k : TypeId} {α : Type} [DecidableEq α] (C : KeyT P k α) (w : World) {ops : Array Oper} {rest : List Oper} {o : Oper} {a : Act} {Q : Exit → Act → World → Prop}
    (hg : o.guard = none) (m x v : Operand) (t : TypeId) (hop : o.op = Op.mapUpdate t m x v ∨ o.op = Op.insert t m x v)
    (e : TypeId) (ht : P.underlying t = some (.map k e)) (b n : Nat) (f : α → Option Value)
    (hm : a.eval m = .map (some b)) (hown : MapK C w b n f) (hn : n < maxLen) (key : α) (val : Value) (hx : a.eval x = C.val key) (hv : a.eval v = val) (hok : C.ok key)
    (hK : ∀ w', MapK C w' b (n + 1) (fun y => if y = key then some val else f y) → Keep [b] w w' → wpList P ops Q rest (a.put o.dst undef) w') : wpList P ops Q (o :: rest) a w := by
  refine wpList_plain hg fun K' hK' => ?_
  obtain ⟨w', hrun, h5, h6⟩ := update_run_k (v := val) ht hown hn hok
  unfold Oper.wp
  rcases hop with hop | hop
  all_goals
    simp [execOp, hop, hm, hx, hv, hrun, Result.andThen]
    exact hK' _ _ (hK w' h5 h6)
/-- Strings for keys. -/
def KeyStr {P : Program} {k : TypeId} (hk : P.underlying k = some .string) : KeyT P k ByteArray where
  val s := .string s
  lit s := .string s.data.toList
  ok s := s.size ≤ maxLen
  keyed := Maps.string_keyed hk
  key s h := keyOf_string_mk hk h
  inj s t _ _ h := by
    injection h with h
    have h' : s.data = t.data := by
      rw [← Array.toArray_toList (xs := s.data), h, Array.toArray_toList]
    cases s; cases t
    simp at h'
    subst h'
    rfl
end Go
/- Names: the plain laws. -/
namespace Go.Nm
structure T where
  ref : Int
  count : Int
  node : Int
deriving DecidableEq
def wins (a b : T) : Bool := if a.count ≠ b.count then decide (a.count > b.count) else if a.node ≠ b.node then decide (a.node > b.node) else decide (a.ref > b.ref)
theorem wins_iff {a b : T} : wins a b = true ↔ b.count < a.count ∨ (b.count = a.count ∧ (b.node < a.node ∨ (b.node = a.node ∧ b.ref < a.ref))) := by
  unfold wins
  split
  · simp; omega
  · split
    · simp; omega
    · simp; omega
theorem T.ext' {a b : T} (h1 : a.ref = b.ref) (h2 : a.count = b.count) (h3 : a.node = b.node) : a = b := by
  cases a; cases b; simp_all
def join : Option T → Option T → Option T
  | none, b => b
  | some a, none => some a
  | some a, some b => if wins b a then some b else some a
theorem join_none (a : Option T) : join a none = a := by cases a <;> rfl
theorem none_join (a : Option T) : join none a = a := rfl
theorem join_self (a : Option T) : join a a = a := by
  cases a with
  | none => rfl
  | some a =>
    show (if wins a a then some a else some a) = some a
    rw [ite_self]
theorem join_comm (a b : Option T) : join a b = join b a := by
  cases a with
  | none => cases b <;> rfl
  | some a =>
    cases b with
    | none => rfl
    | some b =>
      unfold join
      simp only []
      by_cases h1 : wins b a = true
      · rw [if_pos h1]
        have h2 : ¬ wins a b = true := by
          intro h2
          rw [wins_iff] at h1 h2
          omega
        rw [if_neg h2]
      · rw [if_neg h1]
        by_cases h2 : wins a b = true
        · rw [if_pos h2]
        · rw [if_neg h2]
          rw [wins_iff] at h1 h2
          congr 1
          exact T.ext' (by omega) (by omega) (by omega)
theorem join_assoc (a b c : Option T) : join (join a b) c = join a (join b c) := by
  cases a with
  | none => rfl
  | some a =>
    cases b with
    | none => rfl
    | some b =>
      cases c with
      | none => rw [join_none, join_none]
      | some c =>
        unfold join
        simp only []
        by_cases h1 : wins b a = true <;> by_cases h2 : wins c b = true <;> by_cases h3 : wins c a = true <;> simp [h1, h2, h3] <;> (try (rw [wins_iff] at h1 h2 h3; omega))
theorem join_cases (a b : Option T) : join a b = a ∨ join a b = b := by
  cases a with
  | none => exact .inr rfl
  | some a =>
    cases b with
    | none => exact .inl rfl
    | some b =>
      unfold join
      simp only []
      split
      · exact .inr rfl
      · exact .inl rfl
/-- What a registry holds: of each of the seven names. -/
abbrev F := Fin 7 → Option T
def merge (f g : F) : F := fun i => join (f i) (g i)
theorem merge_comm (f g : F) : merge f g = merge g f := funext fun _ => join_comm _ _
theorem merge_assoc (f g h : F) : merge (merge f g) h = merge f (merge g h) := funext fun _ => join_assoc _ _ _
theorem merge_self (f : F) : merge f f = f := funext fun _ => join_self _
def Le (f g : F) : Prop := merge f g = g
theorem Le.refl (f : F) : Le f f := merge_self f
theorem Le.trans {f g h : F} (h1 : Le f g) (h2 : Le g h) : Le f h := by
  unfold Le at *
  rw [← h2, ← merge_assoc, h1]
theorem Le.antisymm {f g : F} (h1 : Le f g) (h2 : Le g f) : f = g := by
  unfold Le at *
  rw [← h1, merge_comm, h2] 
theorem Le.left (f g : F) : Le f (merge f g) := by
  unfold Le
  rw [← merge_assoc, merge_self]
theorem Le.right (f g : F) : Le g (merge f g) := by
  rw [merge_comm]; exact Le.left g f
theorem Le.merge {f g h : F} (h1 : Le f h) (h2 : Le g h) : Le (merge f g) h := by
  unfold Le at *
  rw [merge_assoc, h2, h1]
def rows (f : F) : List (Fin 7 × T) := (List.finRange 7).filterMap (fun i => (f i).map (fun t => (i, t)))
theorem mem_rows {f : F} {r : Fin 7 × T} : r ∈ rows f ↔ f r.1 = some r.2 := by
  unfold rows
  rw [List.mem_filterMap]
  constructor
  · rintro ⟨i, _, h⟩
    cases hf : f i with
    | none => rw [hf] at h; cases h
    | some t =>
      rw [hf] at h
      cases h
      exact hf
  · intro h
    exact ⟨r.1, List.mem_finRange _, by rw [h]; rfl⟩
theorem rows_len (f : F) : (rows f).length ≤ 7 := by
  unfold rows
  exact Nat.le_trans (List.length_filterMap_le _ _) (by simp)
theorem rows_nil : rows (fun _ => none) = [] := by
  unfold rows
  exact List.filterMap_eq_nil_iff.2 (fun _ _ => rfl)
theorem rows_sorted (f : F) : (rows f).Pairwise (fun a b => a.1 < b.1) := by
  unfold rows
  refine List.Pairwise.filterMap _ (R := fun a b => a < b) ?_ (by decide)
  intro i j hij a ha b hb
  cases hi : f i with
  | none => rw [hi] at ha; cases ha
  | some t =>
    cases hj : f j with
    | none => rw [hj] at hb; cases hb
    | some u =>
      rw [hi] at ha
      rw [hj] at hb
      cases ha
      cases hb
      exact hij
theorem rows_inj {f g : F} (h : rows f = rows g) : f = g := by
  funext i
  cases hf : f i with
  | none =>
    cases hg : g i with
    | none => rfl
    | some t =>
      have h1 : (i, t) ∈ rows g := mem_rows.2 hg
      rw [← h, mem_rows, hf] at h1
      cases h1
  | some t =>
    have h1 : (i, t) ∈ rows f := mem_rows.2 hf
    rw [h, mem_rows] at h1
    exact h1.symm
def addR (f : F) (r : Fin 7 × T) : F := fun i => if i = r.1 then join (f i) (some r.2) else f i
theorem merge_ks (g : F) : ∀ (ks : List (Fin 7)) (f : F), ks.Nodup → (ks.filterMap (fun i => (g i).map (fun t => (i, t)))).foldl addR f = fun i => if i ∈ ks then join (f i) (g i) else f i
  | [], f, _ => by simp
  | k :: ks, f, h => by
    rw [List.nodup_cons] at h
    cases hg : g k with
    | none =>
      rw [List.filterMap_cons_none (by rw [hg]; rfl), merge_ks g ks f h.2]
      funext i
      by_cases hi : i = k
      · subst hi
        rw [if_neg h.1, if_pos (List.mem_cons_self ..), hg, join_none]
      · simp [hi]
    | some t =>
      rw [List.filterMap_cons_some (b := (k, t)) (by rw [hg]; rfl), List.foldl_cons, merge_ks g ks _ h.2]
      funext i
      by_cases hi : i = k
      · subst hi
        rw [if_neg h.1, if_pos (List.mem_cons_self ..), hg]
        simp [addR]
      · simp [hi, addR]
theorem merge_rows (f g : F) : (rows g).foldl addR f = merge f g := by
  unfold rows
  rw [merge_ks g _ f (by decide)]
  funext i
  rw [if_pos (List.mem_finRange _)]; rfl
/-- Whose names are bound. -/
def all (f : F) : List (Fin 7 × Int) := ((rows f).filter (fun r => decide (r.2.ref > 0))).map (fun r => (r.1, r.2.ref))
/-- Bounds. -/
structure MOk (f : F) (B : Int) : Prop where
  at' : ∀ i t, f i = some t → (0 ≤ t.ref ∧ t.ref ≤ 1000) ∧ (1 ≤ t.count ∧ t.count ≤ B) ∧ (1 ≤ t.node ∧ t.node ≤ 8)
theorem MOk.nil (B : Int) : MOk (fun _ => none) B := ⟨fun _ _ h => absurd h (by simp)⟩
theorem MOk.mono {f : F} {B B' : Int} (h : MOk f B) (hb : B ≤ B') : MOk f B' := ⟨fun i t ht => by
  obtain ⟨h1, h2, h3⟩ := h.at' i t ht
  exact ⟨h1, ⟨h2.1, by omega⟩, h3⟩⟩
theorem MOk.merge {f g : F} {B : Int} (h : MOk f B) (k : MOk g B) : MOk (merge f g) B := ⟨fun i t ht => by
  unfold Nm.merge at ht
  rcases join_cases (f i) (g i) with h1 | h1
  · rw [h1] at ht; exact h.at' i t ht
  · rw [h1] at ht; exact k.at' i t ht⟩
def setF (f : F) (i : Fin 7) (t : T) : F := fun j => if j = i then some t else f j
theorem MOk.set {f : F} {B : Int} (h : MOk f B) {i : Fin 7} {t : T} (ht : (0 ≤ t.ref ∧ t.ref ≤ 1000) ∧ (1 ≤ t.count ∧ t.count ≤ B) ∧ (1 ≤ t.node ∧ t.node ≤ 8)) : MOk (setF f i t) B := ⟨fun j u hu => by
  unfold setF at hu
  by_cases hj : j = i
  · rw [if_pos hj] at hu
    injection hu with hu
    rw [← hu]; exact ht
  · rw [if_neg hj] at hu
    exact h.at' j u hu⟩
def most (m : Int) (l : List (Fin 7 × T)) : Int := l.foldl (fun m r => max m r.2.count) m
theorem most_bound {m B : Int} : ∀ (l : List (Fin 7 × T)), m ≤ B → (∀ r ∈ l, r.2.count ≤ B) → most m l ≤ B ∧ m ≤ most m l ∧ ∀ r ∈ l, r.2.count ≤ most m l
  | [], h, _ => ⟨h, Int.le_refl _, fun _ h => absurd h List.not_mem_nil⟩
  | x :: l, h, h2 => by
    have hx := h2 x (List.mem_cons_self ..)
    obtain ⟨a, b, c⟩ := most_bound (m := max m x.2.count) (B := B) l (by omega) (fun r hr => h2 r (List.mem_cons_of_mem _ hr))
    have e : most m (x :: l) = most (max m x.2.count) l := rfl
    rw [e]
    refine ⟨a, by omega, fun r hr => ?_⟩
    rcases List.mem_cons.1 hr with rfl | hr
    · omega
    · exact c r hr
end Go.Nm
/- Names: a map from the seven names to rows. -/
namespace Go
open Go.Maps (Keyed)
open Go.WideMaps
open Go.Nm
open Go.Proofs (encStr)
def nm : Fin 7 → List UInt8
  | 0 => [97] | 1 => [97, 98] | 2 => [98] | 3 => [99] | 4 => [100] | 5 => [101] | 6 => [122, 122]
theorem nm_inj : ∀ i j : Fin 7, nm i = nm j → i = j := by decide
theorem nm_lt : ∀ i j : Fin 7, i < j → nm i < nm j := by decide
theorem nm_le : ∀ i j : Fin 7, i < j → nm i ≤ nm j := by decide
def rowV (r : Fin 7 × Nm.T) : Value := .agg #[encStr (nm r.1), .int .i64 r.2.ref, .int .i64 r.2.count, .int .i64 r.2.node]
theorem World.ownsMap.exact {P : Program} {k : TypeId} {R : Value → Option (DataW Value × List MemPlace)} {w : World} {b n : Nat} {D : DataW Value} (h : w.ownsMap P k R b n D) {n' : Nat} (hn : Maps.size D ≤ n') : w.ownsMap P k R b n' D := by
  obtain ⟨es, clock, hb, F, _, rfl⟩ := h
  exact ⟨es, clock, hb, F, by simpa [Maps.size, length_sorted] using hn, rfl⟩
def RegM (P : Program) (k : TypeId) (w : World) (b : Nat) (f : Nm.F) : Prop :=
  ∃ D : DataW Value, w.ownsMap P k asIs b 7 D ∧ Maps.IsMap D ∧ (∀ i z, D.atKey (.string (nm i)) (.held z) = .held (((f i).map (fun t => rowV (i, t))).getD z)) ∧ (∀ i, Maps.has D (.string (nm i)) = (f i).isSome) ∧ ∀ x, Maps.has D (.string x) = true → ∃ i, x = nm i
theorem keyNm {P : Program} {k : TypeId} (hk : P.underlying k = some .string) (i : Fin 7) : keyOf P k (encStr (nm i)) = some (.string (nm i)) := by
  have h : (nm i).length ≤ maxLen := by
    revert i; decide
  have := keyOf_string_mk hk (s := ⟨(nm i).toArray⟩) (by simpa [ByteArray.size] using h)
  simpa [encStr] using this
theorem rows_names (f : Nm.F) : ((rows f).map (fun r => nm r.1)).Pairwise (fun a b => a < b) :=
  List.pairwise_map.2 ((rows_sorted f).imp (fun h => nm_lt _ _ h))
theorem strKeys_rows {P : Program} {k : TypeId} (hk : P.underlying k = some .string) {w : World} {b n : Nat} {D : DataW Value} {f : Nm.F} (ho : w.ownsMap P k asIs b n D) (h4 : ∀ i, Maps.has D (.string (nm i)) = (f i).isSome) (h5 : ∀ x, Maps.has D (.string x) = true → ∃ i, x = nm i) :
    ((rows f).map (fun r => nm r.1)).Perm (strKeys D) := by
  obtain ⟨es, hD, hpw, _⟩ := ho.entries (Maps.string_keyed hk)
  obtain ⟨es', hD', hko⟩ := ho.keysOf
  obtain rfl : es = es' := by rw [hD] at hD'; simpa using hD'
  subst hD
  refine perm_strKeys hpw (fun p hp => by obtain ⟨v, hv⟩ := hko p hp; obtain ⟨x, _, hx, _⟩ := Maps.keyOf_str hk hv; exact ⟨x, hx⟩) ?_ (fun x => ?_)
  · exact (rows_names f).imp (fun h e => by rw [e] at h; exact List.lt_irrefl _ h)
  · rw [List.mem_map]
    constructor
    · rintro ⟨r, hr, rfl⟩
      rw [h4, mem_rows.1 hr]; rfl
    · intro h
      obtain ⟨i, rfl⟩ := h5 x h
      rw [h4] at h
      obtain ⟨t, ht⟩ := Option.isSome_iff_exists.1 h
      exact ⟨(i, t), mem_rows.2 ht, rfl⟩
theorem size_rows {P : Program} {k : TypeId} (hk : P.underlying k = some .string) {w : World} {b n : Nat} {D : DataW Value} {f : Nm.F} (ho : w.ownsMap P k asIs b n D) (h4 : ∀ i, Maps.has D (.string (nm i)) = (f i).isSome) (h5 : ∀ x, Maps.has D (.string x) = true → ∃ i, x = nm i) : Maps.size D = (rows f).length := by
  have h := (strKeys_rows hk ho h4 h5).length_eq
  obtain ⟨es, hD, _, _⟩ := ho.entries (Maps.string_keyed hk)
  subst hD
  rw [List.length_map] at h
  rw [h]
  simp [strKeys, Maps.size_eq]
section
variable {P : Program} {k : TypeId} {w w' : World} {b : Nat} {f : Nm.F}
theorem RegM.made (P : Program) (k : TypeId) (w : World) : RegM P k (w.alloc (.map #[] 0)) w.heap.size (fun _ => none) :=
  ⟨.map [], (World.ownsMap_made w P k asIs).mono (Nat.zero_le _), ⟨[], rfl⟩, fun _ _ => rfl, fun _ => rfl, fun _ h => absurd (show false = true from h) Bool.false_ne_true⟩
theorem RegM.lt (h : RegM P k w b f) : b < w.heap.size := let ⟨_, h1, _⟩ := h; h1.lt
theorem RegM.block (h : RegM P k w b f) (hb : w'.heap[b]? = w.heap[b]?) : RegM P k w' b f := by
  obtain ⟨D, ⟨es, clock, h1, h2⟩, h3⟩ := h
  exact ⟨D, ⟨es, clock, hb.trans h1, h2⟩, h3⟩
theorem RegM.keep {S : List Nat} (h : RegM P k w b f) (hk : Keep S w w') (hs : b ∉ S) : RegM P k w' b f := h.block (hk.block b h.lt hs)
theorem RegM.notCells (h : RegM P k w b f) {c : Nat} {cs : Array Value} {T : TypeId} {g : Nat × Nat} (hc : w.heap[c]? = some (.cells cs T g)) : b ≠ c := by
  rintro rfl
  obtain ⟨D, ⟨es, clock, h1, _⟩, _⟩ := h
  rw [hc] at h1
  cases h1
theorem RegM.upd (hk : P.underlying k = some .string) {t e : TypeId} (ht : P.underlying t = some (.map k e)) (h : RegM P k w b f) (i : Fin 7) (u : Nm.T) :
    ∃ w', (Instr.mapUpdate t (.map (some b)) (encStr (nm i)) (rowV (i, u))).run P w = .ok () w' ∧ RegM P k w' b (setF f i u) ∧ Keep [b] w w' := by
  obtain ⟨D, h1, h2, h3, h4, h5⟩ := h
  have hkey := keyNm hk i
  have K := Maps.string_keyed hk
  have hkl := K.key hkey
  obtain ⟨w', hrun, h6, h7⟩ := h1.store K ht (by decide) (val := rowV (i, u)) hkey (show asIs (rowV (i, u)) = some (.held (rowV (i, u)), []) from rfl)
  have e4 : ∀ j, Maps.has (D.put (.string (nm i)) (.held (rowV (i, u)))) (.string (nm j)) = (setF f i u j).isSome := fun j => by
    unfold setF
    by_cases e1 : j = i
    · subst e1
      rw [Maps.has_put_same h2 hkl]; simp
    · rw [Maps.has_put_other (fun h => e1 (nm_inj _ _ (by injection h))), h4 j]; simp [e1]
  have e5 : ∀ x, Maps.has (D.put (.string (nm i)) (.held (rowV (i, u)))) (.string x) = true → ∃ j, x = nm j := fun x hx => by
    by_cases e1 : x = nm i
    · exact ⟨i, e1⟩
    · rw [Maps.has_put_other (fun h => e1 (by injection h))] at hx
      exact h5 x hx
  refine ⟨w', hrun, ⟨_, h6.exact (by rw [size_rows hk h6 e4 e5]; exact rows_len _), ?_, fun j z => ?_, e4, e5⟩, keep_turned h7⟩
  · obtain ⟨es, rfl⟩ := h2
    exact ⟨_, rfl⟩
  · unfold setF
    by_cases e1 : j = i
    · subst e1
      rw [Maps.atKey_put_same h2 hkl]; simp
    · rw [Maps.atKey_put_other (fun h => e1 (nm_inj _ _ (by injection h))), h3 j]; simp [e1]
theorem RegM.look (hk : P.underlying k = some .string) {t e : TypeId} {z : Value} (ht : P.underlying t = some (.map k e)) (hz : (zeroValue e).run P w = .ok z w) (h : RegM P k w b f) (i : Fin 7) :
    (Instr.lookup t (.map (some b)) (encStr (nm i)) false).run P w = .ok (((f i).map (fun t => rowV (i, t))).getD z) w := by
  obtain ⟨D, h1, h2, h3, _⟩ := h
  obtain ⟨v, ps, hrun, hv⟩ := h1.lookup (Maps.string_keyed hk) ht hz (show asIs z = some (.held z, []) from rfl) (keyNm hk i)
  have hve : v = ((f i).map (fun t => rowV (i, t))).getD z := by
    rw [h3 i] at hv
    unfold asIs at hv
    injection hv with hv
    injection hv with hv _
    injection hv
  rw [hrun, hve]
end
theorem wpList_look {P : Program} {k : TypeId} (hk : P.underlying k = some .string) (w : World) {ops : Array Oper} {rest : List Oper} {o : Oper} {a : Act} {Q : Exit → Act → World → Prop}
    (hg : o.guard = none) (m x : Operand) (t : TypeId) (hop : o.op = Op.lookup t m x false)
    (e : TypeId) (ht : P.underlying t = some (.map k e)) (z : Value) (hz : (zeroValue e).run P w = .ok z w) (b : Nat) (f : Nm.F)
    (hm : a.eval m = .map (some b)) (hown : RegM P k w b f) (i : Fin 7) (hx : a.eval x = encStr (nm i))
    (hK : wpList P ops Q rest (a.put o.dst (((f i).map (fun t => rowV (i, t))).getD z)) w) : wpList P ops Q (o :: rest) a w := by
  refine wpList_plain hg fun K' hK' => ?_
  have hrun := hown.look hk ht hz i
  unfold Oper.wp
  simp [execOp, hop, hm, hx, hrun, Result.andThen]
  exact hK' _ _ hK
theorem wpList_look2 {P : Program} {k : TypeId} (hk : P.underlying k = some .string) (w : World) {ops : Array Oper} {rest : List Oper} {o : Oper} {a : Act} {Q : Exit → Act → World → Prop}
    (hg : o.guard = none) (m x : Operand) (t : TypeId) (hop : o.op = Op.lookup t m x true)
    (e : TypeId) (ht : P.underlying t = some (.map k e)) (z : Value) (hz : (zeroValue e).run P w = .ok z w) (b : Nat) (f : Nm.F)
    (hm : a.eval m = .map (some b)) (hown : RegM P k w b f) (i : Fin 7) (hx : a.eval x = encStr (nm i))
    (hK : wpList P ops Q rest (a.put o.dst (.tuple #[((f i).map (fun t => rowV (i, t))).getD z, .bool (f i).isSome])) w) : wpList P ops Q (o :: rest) a w := by
  obtain ⟨D, h1, h2, h3, h4, _⟩ := hown
  refine wpList_lookup_own_ok w hg m x t hop k e (Maps.string_keyed hk) ht asIs hz (.held z) [] rfl b 7 D hm h1 _ _ hx (keyNm hk i) fun v ps hv => ?_
  rw [h3 i] at hv
  unfold asIs at hv
  injection hv with hv
  injection hv with hv _
  injection hv with hv
  subst hv
  rw [h4 i]
  exact hK
theorem wpList_upd {P : Program} {k : TypeId} (hk : P.underlying k = some .string) (w : World) {ops : Array Oper} {rest : List Oper} {o : Oper} {a : Act} {Q : Exit → Act → World → Prop}
    (hg : o.guard = none) (m x v : Operand) (t : TypeId) (hop : o.op = Op.mapUpdate t m x v ∨ o.op = Op.insert t m x v)
    (e : TypeId) (ht : P.underlying t = some (.map k e)) (b : Nat) (f : Nm.F)
    (hm : a.eval m = .map (some b)) (hown : RegM P k w b f) (i : Fin 7) (u : Nm.T) (hx : a.eval x = encStr (nm i)) (hv : a.eval v = rowV (i, u))
    (hK : ∀ w', RegM P k w' b (setF f i u) → Keep [b] w w' → wpList P ops Q rest (a.put o.dst undef) w') : wpList P ops Q (o :: rest) a w := by
  refine wpList_plain hg fun K' hK' => ?_
  obtain ⟨w', hrun, h5, h6⟩ := hown.upd hk ht i u
  unfold Oper.wp
  rcases hop with hop | hop
  all_goals
    simp [execOp, hop, hm, hx, hv, hrun, Result.andThen]
    exact hK' _ _ (hK w' h5 h6)
/-- The keys, sorted. -/
theorem sorted_rows {ss : List (List UInt8)} {f : Nm.F} (h : ((rows f).map (fun r => nm r.1)).Perm ss) : ss.mergeSort (fun x y => decide (x ≤ y)) = (rows f).map (fun r => nm r.1) := by
  rw [← mergeSort_of_perm h]
  exact List.mergeSort_of_pairwise ((rows_names f).imp (fun h => by simpa using List.le_of_lt h))
end Go
namespace Go
/-- What the call's own appended row reads as. -/
theorem IntsV.ofOwn {w : World} {base e : Nat} {v : Value} {n : Nat} {zs : List Int} (h : w.ownsRow base e 1 v n (zs.map (Value.int .i64))) (hw : ∀ z ∈ zs, (Lit.int .i64 z).wf = true) :
    ∃ a c, v = .slice a n c ∧ IntsV w a n c zs ∧ ∀ x, a = some x → base ≤ x.block := by
  obtain ⟨hl, h⟩ := h
  have hn : zs.length = n := by simpa using hl
  rcases h with ⟨rfl, rfl⟩ | ⟨g, cap, cur, rfl, hb, hg, hnc, hcm, hcs, ht⟩
  · exact ⟨none, 0, rfl, ⟨hn, Nat.le_refl _, Nat.zero_le _, hw, fun h => absurd h (by decide)⟩, fun x hx => by cases hx⟩
  · refine ⟨_, _, rfl, ⟨hn, hnc, hcm, hw, fun h0 => ⟨g, 0, rfl, fun i hi => ?_⟩⟩, fun x hx => by cases hx; exact hb⟩
    rw [Nat.zero_add, cell_of_row w g i cur e (0, 0) hg]
    have : (cur.toList.take (n * 1))[i]? = (zs.map (Value.int .i64))[i]? := by rw [ht]
    rw [List.getElem?_take, if_pos (by omega)] at this
    simp only [Array.getElem?_toList] at this
    rw [this]
    simp [List.getD_eq_getElem?_getD, hn ▸ hi]
theorem wf_small {z : Int} (h0 : -1000000 ≤ z) (h1 : z ≤ 1000000) : (Lit.int .i64 z).wf = true := by
  have h2 : IntKind.i64.min = -9223372036854775808 := by decide
  have h3 : IntKind.i64.max = 9223372036854775807 := by decide
  simp [Lit.wf, h2, h3]
  omega
end Go
namespace Go
open Go.ChangeShapes Go.WideShapes Go.ChangeAt Go.RowKit Go.Deep
/-- A slice of bytes in memory. -/
structure BytesV (w : World) (a : Option Addr) (n c : Nat) (bs : List Int) : Prop where
  len : bs.length = n
  room : n ≤ c
  most : c ≤ maxLen
  wf : ∀ z ∈ bs, 0 ≤ z ∧ z < 256
  cells : Lib.BytesIn w a n bs
  onNil : a = none → c = 0
theorem byte_wf {z : Int} (h : (Lit.int .u8 z).wf = true) : 0 ≤ z ∧ z < 256 := by
  have h2 : IntKind.u8.min = 0 := by decide
  have h3 : IntKind.u8.max = 255 := by decide
  simp [Lit.wf, h2, h3] at h
  omega
theorem BytesV.keep {S : List Nat} {w w' : World} {a : Option Addr} {n c : Nat} {bs : List Int} (h : BytesV w a n c bs) (hk : Keep S w w') (hS : ∀ x, a = some x → x.block ∉ S) : BytesV w' a n c bs :=
  ⟨h.len, h.room, h.most, h.wf, fun hn =>
    let ⟨b, o, h1, h2⟩ := h.cells hn
    ⟨b, o, h1, fun i hi => hk.cell (h2 i hi) (hS ⟨b, o, none⟩ h1)⟩, h.onNil⟩
section
variable {H : Type} {enc : TypeId × Value → H} {P : Program} {W : World}
theorem BytesV.empty (W : World) : BytesV W none 0 0 [] := ⟨rfl, Nat.le_refl _, Nat.zero_le _, by simp, Lib.BytesIn.nil _ _ _, fun _ => rfl⟩
theorem BytesV.ofRow {x : Addr} {n c : Nat} {zs : List Int} (hl : n ≤ c) (hm : c ≤ maxLen) (hz : zs.length = c) (hc : ∀ i, i < zs.length → W.cell? (x.add i) = some (.int .u8 (zs.getD i 0))) (hw : ∀ z ∈ zs, (Lit.int .u8 z).wf = true) :
    BytesV W (some x) n c (zs.take n) := by
  refine ⟨by simp; omega, hl, hm, fun z hz => byte_wf (hw z (List.mem_of_mem_take hz)), fun hn => ?_, fun h => by cases h⟩
  obtain ⟨b, off, spot⟩ := x
  have hspot : spot = none := by simpa [Addr.add] using World.cell?_spot (hc 0 (by omega))
  subst hspot
  refine ⟨b, off, rfl, fun i hi => ?_⟩
  have := hc i (by omega)
  rw [add_plain] at this
  rw [this]
  congr 2
  simp [List.getD_eq_getElem?_getD, hi]
theorem bytes_of {t e : TypeId} {a : Option Addr} {n c : Nat} {d : DataW H} {ps : List MemPlace} (ht : P.underlying t = some (.slice e)) (he : P.underlying e = some (.int .u8)) (ce : P.cellsOf e = 1)
    (h : DataW.Trod enc P W 0 (fun _ => true) true t (.slice a n c) d ps) : ∃ bs, BytesV W a n c bs := by
  obtain ⟨fuel, hf⟩ := h
  rcases open_ints ht he ce hf with ⟨hcs, _⟩ | ⟨x, l, c', zs, hcs, _, hl, hm, hz, _, hcell, hwz⟩
  · simp [Value.cells] at hcs
    obtain ⟨rfl, rfl, rfl⟩ := hcs
    exact ⟨[], BytesV.empty W⟩
  · simp [Value.cells] at hcs
    obtain ⟨rfl, rfl, rfl⟩ := hcs
    exact ⟨_, BytesV.ofRow hl hm (by simpa using hz) hcell hwz⟩
theorem bytes_room {ts : List TypeId} {ds : List (DataW H)} {j : Nat} {t e : TypeId} {a : Option Addr} {n c : Nat} {d : DataW H} {ps : List MemPlace} (ht : P.underlying t = some (.slice e)) (he : P.underlying e = some (.int .u8)) (ce : P.cellsOf e = 1) (be : P.bytesOf e = 1)
    (hs : (DataW.weightsEach P ts ds).all (· ≤ reachBytes) = true) (htj : ts[j]? = some t) (hdj : ds[j]? = some d)
    (h : DataW.Trod enc P W 0 (fun _ => true) true t (.slice a n c) d ps) : n ≤ 140737488351232 := by
  obtain ⟨fuel, hf⟩ := h
  rcases open_ints ht he ce hf with ⟨hcs, _⟩ | ⟨x, l, c', zs, hcs, _, hl, hm, hz, hx, hcell, hwz⟩
  · simp [Value.cells] at hcs
    omega
  · simp [Value.cells] at hcs
    obtain ⟨rfl, rfl, rfl⟩ := hcs
    simp only [Prod.mk.injEq] at hx
    obtain ⟨rfl, _⟩ := hx
    have := sized_slice hs htj hdj ht
    rw [be] at this
    simp only [lits, List.length_map, List.length_take, List.length_drop, reachBytes] at this
    simp only [if_true] at hz
    omega
end
end Go
/- Rows of bytes, as an argument. -/
namespace Go
open Go.ChangeShapes Go.WideShapes Go.ChangeAt Go.RowKit Go.Deep
/-- A slice of slices of bytes. -/
structure BRowsV (w : World) (a : Option Addr) (n c : Nat) (A : Nat → Option Addr) (L C : Nat → Nat) (Z : Nat → List Int) : Prop where
  room : n ≤ c
  most : c ≤ maxLen
  onNil : a = none → c = 0
  cells : 0 < n → ∃ b off, a = some ⟨b, off, none⟩ ∧ ∀ i, i < n → w.cell? ⟨b, off + i, none⟩ = some (.slice (A i) (L i) (C i))
  rows : ∀ i, i < n → BytesV w (A i) (L i) (C i) (Z i)
section
variable {H : Type} {enc : TypeId × Value → H} {P : Program} {W : World}
theorem byterows_of {t e q : TypeId} {a : Option Addr} {n c : Nat} {d : DataW H} {ps : List MemPlace} (ht : P.underlying t = some (.slice e)) (he : P.underlying e = some (.slice q)) (hq : P.underlying q = some (.int .u8)) (ce : P.cellsOf e = 1) (cq : P.cellsOf q = 1)
    (h : DataW.Trod enc P W 0 (fun _ => true) true t (.slice a n c) d ps) : ∃ A L C Z, BRowsV W a n c A L C Z := by
  obtain ⟨fuel, hf⟩ := h
  rcases open_int_rows ht he hq ce cq hf with ⟨hcs, _⟩ | ⟨x, l, c', A, L, C, Z, hcs, _, hl, hm, _, hr⟩
  · simp [Value.cells] at hcs
    obtain ⟨rfl, rfl, rfl⟩ := hcs
    exact ⟨fun _ => none, fun _ => 0, fun _ => 0, fun _ => [], Nat.le_refl _, Nat.zero_le _, fun _ => rfl, fun h => absurd h (by decide), fun i hi => absurd hi (by omega)⟩
  · simp [Value.cells] at hcs
    obtain ⟨rfl, rfl, rfl⟩ := hcs
    refine ⟨A, L, C, fun i => (Z i).take (L i), hl, hm, fun h => (by cases h), fun hn => ?_, fun i hi => ?_⟩
    · obtain ⟨b, off, spot⟩ := x
      have hspot : spot = none := by simpa [Addr.add] using World.cell?_spot (hr 0 (by omega)).1
      subst hspot
      exact ⟨b, off, rfl, fun i hi => by rw [← add_plain]; exact (hr i (by omega)).1⟩
    · obtain ⟨_, h1, h2, h3, h4, h5, h6⟩ := hr i (by omega)
      cases hA : A i with
      | none =>
        have hc := h5 hA
        have hl0 : L i = 0 := by omega
        have hz0 : (Z i).take (L i) = [] := by rw [hl0]; rfl
        (try dsimp only)
        rw [hz0, hl0, hc]
        exact BytesV.empty W
      | some y => exact BytesV.ofRow h1 h2 h3 (fun j hj => (h6 y hA).2 j (by omega)) h4
end
end Go
/- append(s, l...) of one's own row, l of whatever length. -/
namespace Go
theorem World.grownBy.same (w : World) (r : Option Nat) : w.grownBy w r := ⟨rfl, rfl, rfl, Nat.le_refl _, fun _ _ _ => rfl⟩
section
variable {P : Program} {w : World}
theorem run_append_any (t ty : TypeId) (base : Nat) (e : TypeId) (i : TypeInfo) (z : Value) (size bytes : Nat) (ht : P.underlying t = some (.slice e)) (hi : P.info? e = some i) (hz : i.zero = some z)
    (hsize : i.size = size) (hby : i.bytes = bytes) (hzs : z.cells.size = size) (hsz : 0 < size)
    (v : Value) (n : Nat) (xs : List Value) (hown : w.ownsRow base e size v n xs)
    (xa : Option Addr) (m c : Nat) (news : List Value) (hl : news.length = m * size) (hnews : 0 < m → ∃ ad, xa = some ad ∧ ∀ j u, news[j]? = some u → w.cell? (ad.add j) = some u) (h1 : ∀ u ∈ news, u.oneCell' = true)
    (h63 : n + m ≤ maxLen) (hbytes : (n + m) * bytes ≤ 140737488355328) (hbase : base ≤ w.heap.size) :
    ∃ v' w', (Builtin.append_ #[t, t] ty #[v, .slice xa m c]).run P w = .ok v' w' ∧ w'.ownsRow base e size v' (n + m) (xs ++ news) ∧ w.grownBy w' v.ownBlock ∧ (v'.ownBlock = v.ownBlock ∨ v'.ownBlock = some w.heap.size) ∧ ∃ a' c', v' = .slice a' (n + m) c' := by
  rcases Nat.eq_zero_or_pos m with h0 | h0
  · subst h0
    have hnil : news = [] := List.eq_nil_of_length_eq_zero (by omega)
    subst hnil
    have hr : (Builtin.append_ #[t, t] ty #[v, .slice xa 0 c]).run P w = .ok v w := by
      rcases hown.2 with ⟨rfl, rfl⟩ | ⟨g, cap, cur, rfl, _, _, hnc, _⟩
      · cases xa <;> simp [Builtin.append_, run_underlying ht, sizeOf, typeInfo, hi, Builtin.lenOf, Builtin.firstCells, loadCells, loadCellsFrom]
      · cases xa <;> simp [Builtin.append_, run_underlying ht, sizeOf, typeInfo, hi, Builtin.lenOf, Builtin.firstCells, hnc, storeCells, loadCells, loadCellsFrom]
    refine ⟨v, w, hr, by rw [List.append_nil]; exact hown, World.grownBy.same w _, .inl rfl, ?_⟩
    rcases hown.2 with ⟨rfl, rfl⟩ | ⟨g, cap, cur, rfl, _, _, hnc, _⟩
    · exact ⟨_, _, rfl⟩
    · exact ⟨_, _, rfl⟩
  · obtain ⟨ad, rfl, hc⟩ := hnews h0
    obtain ⟨g, cap, w', hr, h2, h3, h4, _⟩ := run_append_lies (P := P) (w := w) t ty base e i z size bytes ht hi hz hsize hby hzs hsz v n xs hown ad m c news hl hc h1 h0 h63 hbytes hbase _ rfl
    exact ⟨_, w', hr, h2, h3, h4.imp (fun h => h.symm) (fun h => by rw [h]; rfl), _, _, rfl⟩
theorem step_append_any {ops : Array Oper} {o : Oper} {a : Act} {K : Act → World → Prop} {Q : Exit → Act → World → Prop} {E : Prop} (hgd : o.guard = none) (s x : Operand) (t : TypeId)
    (ho : o.op = .call { callee := .builtin .append, args := #[s, x], argTypes := #[t, t] })
    (base : Nat) (e : TypeId) (i : TypeInfo) (z : Value) (size bytes : Nat) (ht : P.underlying t = some (.slice e)) (hi : P.info? e = some i) (hz : i.zero = some z)
    (hsize : i.size = size) (hby : i.bytes = bytes) (hzs : z.cells.size = size) (hsz : 0 < size)
    (v : Value) (n : Nat) (xs : List Value) (hs : a.eval s = v) (hown : w.ownsRow base e size v n xs)
    (xa : Option Addr) (m c : Nat) (news : List Value) (hx : a.eval x = .slice xa m c) (hl : news.length = m * size) (hnews : 0 < m → ∃ ad, xa = some ad ∧ ∀ j u, news[j]? = some u → w.cell? (ad.add j) = some u) (h1 : ∀ u ∈ news, u.oneCell' = true)
    (h63 : n + m ≤ maxLen) (hbytes : (n + m) * bytes ≤ 140737488355328) (hbase : base ≤ w.heap.size)
    (h : ∀ a' c' w', w'.ownsRow base e size (.slice a' (n + m) c') (n + m) (xs ++ news) → w.grownBy w' v.ownBlock → ((Value.slice a' (n + m) c').ownBlock = v.ownBlock ∨ (Value.slice a' (n + m) c').ownBlock = some w.heap.size) → K (a.put o.dst (.slice a' (n + m) c')) w') :
    if Region.wanted o (yielded ops a.tmps) = true then Oper.wp P o a w K Q else E := by
  have hw : Region.wanted o (yielded ops a.tmps) = true := by simp [Region.wanted, hgd]
  rw [if_pos hw]
  obtain ⟨v', w', hr, h2, h3, h4, a', c', rfl⟩ := run_append_any (P := P) (w := w) t o.type base e i z size bytes ht hi hz hsize hby hzs hsz v n xs hown xa m c news hl hnews h1 h63 hbytes hbase
  unfold Oper.wp execOp
  simp only [ho, resolve, invoke, builtin, Sem.run_bind, Sem.run_pure, Result.andThen_ok, List.map_toArray, List.map_cons, List.map_nil, hs, hx, hr]
  exact h a' c' w' h2 h3 h4
end
end Go
/- append(s, l...) of one's own row, l of whatever length, in a plain region. -/
namespace Go
theorem wpList_append_any {P : Program} {w : World} {ops : Array Oper} {rest : List Oper} {o : Oper} {a : Act} {Q : Exit → Act → World → Prop} (hgd : o.guard = none) (s x : Operand) (t : TypeId)
    (ho : o.op = .call { callee := .builtin .append, args := #[s, x], argTypes := #[t, t] })
    (base : Nat) (e : TypeId) (i : TypeInfo) (z : Value) (size bytes : Nat) (ht : P.underlying t = some (.slice e)) (hi : P.info? e = some i) (hz : i.zero = some z)
    (hsize : i.size = size) (hby : i.bytes = bytes) (hzs : z.cells.size = size) (hsz : 0 < size)
    (v : Value) (n : Nat) (xs : List Value) (hs : a.eval s = v) (hown : w.ownsRow base e size v n xs)
    (xa : Option Addr) (m c : Nat) (news : List Value) (hx : a.eval x = .slice xa m c) (hl : news.length = m * size) (hnews : 0 < m → ∃ ad, xa = some ad ∧ ∀ j u, news[j]? = some u → w.cell? (ad.add j) = some u) (h1 : ∀ u ∈ news, u.oneCell' = true)
    (h63 : n + m ≤ maxLen) (hbytes : (n + m) * bytes ≤ 140737488355328) (hbase : base ≤ w.heap.size)
    (h : ∀ a' c' w', w'.ownsRow base e size (.slice a' (n + m) c') (n + m) (xs ++ news) → w.grownBy w' v.ownBlock → ((Value.slice a' (n + m) c').ownBlock = v.ownBlock ∨ (Value.slice a' (n + m) c').ownBlock = some w.heap.size) → wpList P ops Q rest (a.put o.dst (.slice a' (n + m) c')) w') : wpList P ops Q (o :: rest) a w := by
  refine wpList_plain hgd fun K hK => ?_
  obtain ⟨v', w', hr, h2, h3, h4, a', c', rfl⟩ := run_append_any (P := P) (w := w) t o.type base e i z size bytes ht hi hz hsize hby hzs hsz v n xs hown xa m c news hl hnews h1 h63 hbytes hbase
  unfold Oper.wp execOp
  simp only [ho, resolve, invoke, builtin, Sem.run_bind, Sem.run_pure, Result.andThen_ok, List.map_toArray, List.map_cons, List.map_nil, hs, hx, hr]
  exact hK _ _ (h a' c' w' h2 h3 h4)
end Go
/- Names: slices of things of several cells. -/
namespace Go
open Go.RowKit
theorem flat_at {α : Type} {C : α → List Value} {k : Nat} (hC : ∀ x, (C x).length = k) : ∀ (ls : List α) (i f : Nat) (x : α), ls[i]? = some x → f < k → (ls.flatMap C)[i * k + f]? = (C x)[f]?
  | [], i, f, x, h, _ => by simp at h
  | l :: ls, 0, f, x, h, hf => by
    simp at h
    subst h
    rw [List.flatMap_cons, List.getElem?_append_left (by rw [hC]; omega), Nat.zero_mul, Nat.zero_add]
  | l :: ls, i + 1, f, x, h, hf => by
    rw [List.getElem?_cons_succ] at h
    rw [List.flatMap_cons, List.getElem?_append_right (by rw [hC, Nat.add_mul]; omega), hC, ← flat_at hC ls i f x h hf]
    congr 1
    rw [Nat.add_mul]
    omega
theorem flat_len {α : Type} {C : α → List Value} {k : Nat} (hC : ∀ x, (C x).length = k) (ls : List α) : (ls.flatMap C).length = ls.length * k := by
  induction ls with
  | nil => simp
  | cons l ls ih => rw [List.flatMap_cons, List.length_append, ih, hC, List.length_cons, Nat.add_mul]; omega
/-- A slice of things, each of k cells. -/
structure EltV {α : Type} (C : α → List Value) (k : Nat) (w : World) (a : Option Addr) (n c : Nat) (ls : List α) : Prop where
  len : ls.length = n
  room : n ≤ c
  most : c ≤ maxLen
  cells : 0 < n → ∃ b off, a = some ⟨b, off, none⟩ ∧ ∀ j, j < n * k → w.cell? ⟨b, off + j, none⟩ = (ls.flatMap C)[j]?
section
variable {α : Type} {C : α → List Value} {k : Nat} {w w' : World} {a : Option Addr} {n c : Nat} {ls : List α}
theorem EltV.nil (C : α → List Value) (k : Nat) (w : World) : EltV C k w none 0 0 [] := ⟨rfl, Nat.le_refl _, Nat.zero_le _, fun h => absurd h (by decide)⟩
theorem EltV.keep {S : List Nat} (hC : ∀ x, (C x).length = k) (h : EltV C k w a n c ls) (hk : Keep S w w') (hs : ∀ x, a = some x → x.block ∉ S) : EltV C k w' a n c ls :=
  ⟨h.len, h.room, h.most, fun hn => by
    obtain ⟨b, off, rfl, hc⟩ := h.cells hn
    refine ⟨b, off, rfl, fun j hj => ?_⟩
    rw [← hc j hj]
    obtain ⟨v, hv⟩ : ∃ v, (ls.flatMap C)[j]? = some v := ⟨_, List.getElem?_eq_getElem (by rw [flat_len hC, h.len]; exact hj)⟩
    have h1 := (hc j hj).trans hv
    rw [h1]
    exact hk.cell h1 (hs ⟨b, off, none⟩ rfl)⟩
theorem EltV.at_ (hC : ∀ x, (C x).length = k) (h : EltV C k w a n c ls) {i : Nat} {x : α} (hx : ls[i]? = some x) : ∃ b off, a = some ⟨b, off, none⟩ ∧ ∀ f, f < k → w.cell? ⟨b, off + i * k + f, none⟩ = (C x)[f]? := by
  have hi : i < n := h.len ▸ (List.getElem?_eq_some_iff.1 hx).1
  obtain ⟨b, off, rfl, hc⟩ := h.cells (by omega)
  refine ⟨b, off, rfl, fun f hf => ?_⟩
  rw [← flat_at hC ls i f x hx hf, Nat.add_assoc]
  refine hc _ ?_
  calc i * k + f < i * k + k := by omega
    _ = (i + 1) * k := by rw [Nat.add_mul]; omega
    _ ≤ n * k := Nat.mul_le_mul_right _ hi
theorem EltV.ofOwn {base e : Nat} {v : Value} (hC : ∀ x, (C x).length = k) (hk : 0 < k) (h : w.ownsRow base e k v n (ls.flatMap C)) : ∃ a c, v = .slice a n c ∧ EltV C k w a n c ls ∧ ∀ x, a = some x → base ≤ x.block ∧ ∃ cs, w.heap[x.block]? = some (.cells cs e (0, 0)) := by
  obtain ⟨hl, h⟩ := h
  have hn : ls.length = n := by
    rw [flat_len hC] at hl
    exact Nat.eq_of_mul_eq_mul_right hk hl
  rcases h with ⟨rfl, h0⟩ | ⟨g, cap, cur, rfl, hb, hg, hnc, hcm, hcs, ht⟩
  · subst h0
    exact ⟨none, 0, rfl, ⟨hn, Nat.le_refl _, Nat.zero_le _, fun h => absurd h (by decide)⟩, fun x hx => by cases hx⟩
  · refine ⟨_, _, rfl, ⟨hn, hnc, hcm, fun h0 => ⟨g, 0, rfl, fun j hj => ?_⟩⟩, fun x hx => by cases hx; exact ⟨hb, cur, hg⟩⟩
    rw [Nat.zero_add, cell_of_row w g j cur e (0, 0) hg]
    have : (cur.toList.take (n * k))[j]? = (ls.flatMap C)[j]? := by rw [ht]
    rw [List.getElem?_take, if_pos hj] at this
    simpa using this
theorem EltV.news (hC : ∀ x, (C x).length = k) (h : EltV C k w a n c ls) : 0 < n → ∃ ad, a = some ad ∧ ∀ j u, (ls.flatMap C)[j]? = some u → w.cell? (ad.add j) = some u := fun hn => by
  obtain ⟨b, off, rfl, hc⟩ := h.cells hn
  refine ⟨_, rfl, fun j u hu => ?_⟩
  have h1 := (List.getElem?_eq_some_iff.1 hu).1
  rw [flat_len hC, h.len] at h1
  rw [Go.WideShapes.add_plain, hc j h1]
  exact hu
end
namespace Nm
open Go.Proofs (encStr)
/-- The cells of a row. -/
def rc (r : Fin 7 × T) : List Value := [encStr (nm r.1), .int .i64 r.2.ref, .int .i64 r.2.count, .int .i64 r.2.node]
theorem rc_len (r : Fin 7 × T) : (rc r).length = 4 := rfl
/-- The cells of a name. -/
def ac (r : Fin 7 × Int) : List Value := [encStr (nm r.1), .int .i64 r.2]
theorem ac_len (r : Fin 7 × Int) : (ac r).length = 2 := rfl
theorem rc_one (l : List (Fin 7 × T)) : ∀ u ∈ l.flatMap rc, u.oneCell' = true := fun u hu => by
  obtain ⟨L, _, hu⟩ := List.mem_flatMap.1 hu
  simp [rc] at hu
  rcases hu with hu | hu | hu | hu <;> (subst hu; rfl)
theorem ac_one (l : List (Fin 7 × Int)) : ∀ u ∈ l.flatMap ac, u.oneCell' = true := fun u hu => by
  obtain ⟨L, _, hu⟩ := List.mem_flatMap.1 hu
  simp [ac] at hu
  rcases hu with hu | hu <;> (subst hu; rfl)
theorem rowV_cells (r : Fin 7 × T) : (rowV r).cells.toList = rc r := by
  simp [rowV, rc, Value.cells, encStr]
/-- A registry. -/
structure Reg where
  node : Int
  count : Int
  f : F
end Nm
end Go
namespace Go.Proofs.Ytfgdgdjdlnchlaa
open Go.RowKit
theorem mixed : Try.prog.follows .mixedOrders = true := by kernel_rfl
set_option maxHeartbeats 400000 in
theorem rest_any (k n : Int) (w : World) (hn : 0 < n) (hn1 : n ≤ 1000000000) : Calls Try.prog 10 #[.int .i64 k, .int .i64 n] w fun e w' => e = .returned (.int .i64 (restI k n)) ∧ w = w' := by
  have hr := Lib.hid (rest_eq k n hn hn1)
  go_enter Try.func10, Try.ntmps10
  go_wp2_with fail
  go_ret
  exact ⟨ret_int hr.out, rfl⟩
theorem rest_at {k n q : Int} {w : World} (h : Hid (restI k n = q)) (hn : 0 < n) (hn1 : n ≤ 1000000000) : Calls Try.prog 10 #[.int .i64 k, .int .i64 n] w fun e w' => e = .returned (.int .i64 q) ∧ w = w' := by
  have := rest_any k n w hn hn1
  rw [h.out] at this
  exact this
/-- 'Rest' neither reads nor writes memory. -/
def isRest (args : Array Value) : Bool :=
  match args.toList with
  | [.int .i64 _, .int .i64 n] => decide (0 < n) && decide (n ≤ 1000000000)
  | _ => false
def quiets : Txt.Quiet := ⟨[10], fun f args => f == 10 && isRest args⟩
theorem quiet : Txt.QuietOk Try.prog quiets := by
  intro f args h
  simp only [quiets, Bool.and_eq_true, beq_iff_eq] at h
  obtain ⟨rfl, h⟩ := h
  refine ⟨by kernel_rfl, fun w => ?_, ?_⟩
  · have h1 : (Try.f10.name == "runtime.NumGoroutine") = false := by kernel_rfl
    have h2 : Try.f10.body.isNone = false := by kernel_rfl
    simp only [callFunc, Sem.run_bind, run_program, Result.andThen_ok, Try.func10, h1, h2, Bool.false_eq_true, if_false, Sem.run_pure]
  · unfold isRest at h
    split at h
    · rename_i k n he
      obtain rfl : args = #[.int .i64 k, .int .i64 n] := by cases args; simp_all
      simp only [Bool.and_eq_true, decide_eq_true_eq] at h
      exact ⟨_, fun w => rest_any k n w h.1 h.2⟩
    · cases h
theorem info3 : (Try.prog.info? 3).map (fun i => (i.zero, i.size, i.bytes)) = some (some (.int .i64 0), 1, 8) := by kernel_rfl
theorem rest_nat (k n : Int) (hn : 0 < n) : ∃ q : Nat, restI k n = q ∧ (q : Int) < n := by
  have h0 := restI_lo k hn
  have h1 := restI_hi k hn
  exact ⟨(restI k n).toNat, by omega, by omega⟩
end Go.Proofs.Ytfgdgdjdlnchlaa
