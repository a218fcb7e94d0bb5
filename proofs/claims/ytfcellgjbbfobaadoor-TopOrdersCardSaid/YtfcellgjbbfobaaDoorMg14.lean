/- Texts laid together: R14 DE6 R16. -/
import Derived.Test.YtfcellgjbbfobaaDoorMg13
import Derived.Deep.WholeRow
/- Breadth first in memory: a queue, and a map of what was seen; steps for the walk. -/
namespace Go
open Go.RowKit
section
variable {P : Program} {w w' : World} {base e size n : Nat} {v : Value} {xs : List Value}
theorem tail_form (h : w.ownsTail base e size v n xs) : ∃ g off c, v = .slice (some ⟨g, off, none⟩) n c ∧ base ≤ g ∧ g < w.heap.size ∧ n ≤ c ∧ c ≤ maxLen ∧ (∃ cs, w.heap[g]? = some (.cells cs e (0, 0))) ∧ ∀ j u, xs[j]? = some u → w.cell? ⟨g, off + j, none⟩ = some u := by
  obtain ⟨hl, g, o, cap, cur, rfl, hb, hg, hnc, hcm, hcs, ht⟩ := h
  refine ⟨g, o * size, cap, rfl, hb, lt_of_blk hg, hnc, hcm, ⟨cur, hg⟩, fun j u hu => ?_⟩
  have hj : j < n * size := by rw [← hl]; exact (List.getElem?_eq_some_iff.1 hu).1
  rw [cell_of_row w g _ cur e (0, 0) hg]
  rw [← ht, List.getElem?_take_of_lt hj, List.getElem?_drop, Array.getElem?_toList] at hu
  exact hu
theorem tail_new (w : World) (e size : Nat) (xs : List Value) (n : Nat) (hl : xs.length = n * size) (hn : n ≤ maxLen) : (w.alloc (.cells xs.toArray e)).ownsTail w.heap.size e size (.slice (some ⟨w.heap.size, 0, none⟩) n n) n xs :=
  ⟨hl, w.heap.size, 0, n, xs.toArray, by rw [Nat.zero_mul], Nat.le_refl _, blk_new w _, Nat.le_refl _, hn, by simp [hl], by rw [Nat.zero_mul, List.drop_zero, ← hl, List.take_length]⟩
theorem tail_keep {S : List Nat} (h : w.ownsTail base e size v n xs) (hk : Keep S w w') (hs : ∀ g, g ∈ S → ∀ cs, w.heap[g]? ≠ some (.cells cs e (0, 0))) : w'.ownsTail base e size v n xs := by
  obtain ⟨_, _, _, rfl, _, _, _, _, ⟨cs, hg⟩, _⟩ := tail_form h
  refine h.keep hk (fun a c ha hm => ?_)
  injection ha with ha _ _
  injection ha with ha
  subst ha
  exact hs _ hm cs hg
theorem tail_base {b' : Nat} (h : w.ownsTail base e size v n xs) (hb : b' ≤ base) : w.ownsTail b' e size v n xs := by
  obtain ⟨hl, g, o, cap, cur, rfl, h1, h2⟩ := h
  exact ⟨hl, g, o, cap, cur, rfl, Nat.le_trans hb h1, h2⟩
theorem wpList_append_tail {ops : Array Oper} {rest : List Oper} {o : Oper} {a : Act} {Q : Exit → Act → World → Prop} (hgd : o.guard = none) (s x : Operand) (t : TypeId)
    (ho : o.op = .call { callee := .builtin .append, args := #[s, x], argTypes := #[t, t] })
    (base : Nat) (e : TypeId) (i : TypeInfo) (z : Value) (size bytes : Nat) (ht : P.underlying t = some (.slice e)) (hi : P.info? e = some i) (hz : i.zero = some z)
    (hsize : i.size = size) (hby : i.bytes = bytes) (hzs : z.cells.size = size)
    (v : Value) (n : Nat) (xs : List Value) (hs : a.eval s = v) (hown : w.ownsTail base e size v n xs)
    (ad : Addr) (m c : Nat) (news : List Value) (hx : a.eval x = .slice (some ad) m c) (hl : news.length = m * size) (hnews : ∀ j u, news[j]? = some u → w.cell? (ad.add j) = some u) (h1 : ∀ u ∈ news, u.oneCell' = true)
    (h63 : n + m ≤ maxLen) (hbytes : (n + m) * bytes ≤ 140737488355328) (hbase : base ≤ w.heap.size)
    (h : ∀ g' off' c' w', w'.ownsTail base e size (.slice (some ⟨g', off', none⟩) (n + m) c') (n + m) (xs ++ news) → (∀ S w0, Keep S w0 w → w0.heap.size ≤ base → Keep S w0 w') → (∀ b, b < base → w'.heap[b]? = w.heap[b]?) → wpList P ops Q rest (a.put o.dst (.slice (some ⟨g', off', none⟩) (n + m) c')) w') : wpList P ops Q (o :: rest) a w := by
  refine wpList_plain hgd fun K hK => ?_
  obtain ⟨v', w', g, hr, h2, h3, h4, ad2, cc, h5, h6⟩ := run_append_tail (P := P) (w := w) base t o.type e i z size bytes ht hi hz hsize hby hzs v n xs hown ad m c news hl hnews h1 h63 hbytes hbase
  obtain ⟨g', off', c', rfl, _⟩ := tail_form h2
  unfold Oper.wp execOp
  simp only [ho, resolve, invoke, builtin, Sem.run_bind, Sem.run_pure, Result.andThen_ok, List.map_toArray, List.map_cons, List.map_nil, hs, hx, hr]
  have hk : Keep [g] w w' := Keep.ofGrown h3 (fun k hk => by injection hk with hk; simp [hk])
  obtain ⟨gg, offg, cg, hvg, _, _, _, _, ⟨csg, hgg⟩, _⟩ := tail_form hown
  rw [hvg] at h5
  injection h5 with h5 _ _
  injection h5 with h5
  subst h5
  simp only at h6
  subst h6
  exact hK _ _ (h g' off' c' w' h2 (fun S w0 h0 hb => h0.call hk (fun b hb' => by rw [List.mem_singleton] at hb'; subst hb'; exact .inr (by omega)))
    (fun b hb => hk.block b (by omega) (fun hm => by rw [List.mem_singleton] at hm; omega)))
theorem wpList_slice_tail {ops : Array Oper} {rest : List Oper} {o : Oper} {a : Act} {Q : Exit → Act → World → Prop} (hgd : o.guard = none) (x : Operand) (t : TypeId)
    (ho : o.op = .slice t x (some (.const (.int .i64 1))) none none)
    (i : TypeInfo) (ht : P.underlying t = some (.slice e)) (hi : P.info? e = some i) (hsize : i.size = size)
    (hs : a.eval x = v) (hown : w.ownsTail base e size v (n + 1) xs)
    (h : ∀ g' off' c', w.ownsTail base e size (.slice (some ⟨g', off', none⟩) n c') n (xs.drop size) → wpList P ops Q rest (a.put o.dst (.slice (some ⟨g', off', none⟩) n c')) w) : wpList P ops Q (o :: rest) a w := by
  refine wpList_plain hgd fun K hK => ?_
  obtain ⟨v', hr, h2⟩ := tail_next (P := P) ht hi hsize hown
  obtain ⟨g', off', c', rfl, _⟩ := tail_form h2
  have he : a.eval (.const (.int .i64 1)) = .int .i64 1 := rfl
  unfold Oper.wp execOp
  simp only [ho, Sem.run_bind, Sem.run_pure, Result.andThen_ok, hs, Option.map_some, Option.map_none, he, Instr.sliceAt, run_underlying ht, hr]
  exact hK _ _ (h g' off' c' h2)
end
section
variable {P : Program}
theorem wpList_store_new {w : World} {ops : Array Oper} {rest : List Oper} {o : Oper} {a : Act} {Q : Exit → Act → World → Prop} (hgd : o.guard = none) (ty x y) (ho : o.op = .store ty x y)
    (t : TypeId) (c c' : Array Value) (hx : a.eval x = .pointer (some ⟨w.heap.size, 0, none⟩)) (hy : a.eval y = .agg c') (hi : (P.info? ty).map (·.size) = some c'.size) (hold : c.size = c'.size) (h1 : c'.all (·.oneCell') = true)
    (h : wpList P ops Q rest (a.put o.dst undef) (w.alloc (.cells c' t))) : wpList P ops Q (o :: rest) a (w.alloc (.cells c t)) := by
  refine wpList_store_row hgd ty x y ho w.heap.size c' hx hy t c (heap_alloc_last w _) hi hold h1 ?_
  rw [World.setRow_alloc_new]
  exact h
theorem wpList_load_new {w : World} {ops : Array Oper} {rest : List Oper} {o : Oper} {a : Act} {Q : Exit → Act → World → Prop} (hgd : o.guard = none) (ty x) (ho : o.op = .load ty x)
    (t : TypeId) (c : Array Value) (hx : a.eval x = .pointer (some ⟨w.heap.size, 0, none⟩)) (d : TypeDesc) (hu : P.underlying ty = some d) (hd : (match d with | .struct _ | .array _ _ => true | _ => false) = true) (hi : (P.info? ty).map (·.size) = some c.size)
    (h : wpList P ops Q rest (a.put o.dst (.agg c)) (w.alloc (.cells c t))) : wpList P ops Q (o :: rest) a (w.alloc (.cells c t)) :=
  wpList_load_row hgd ty x ho w.heap.size hx t c (0, 0) d (heap_alloc_last w _) hu hd hi h
end
/-- The step of a map: something new is seen. -/
theorem wpList_seen_add {P : Program} {k : TypeId} {α : Type} [DecidableEq α] (C : KeyT P k α) (w : World) {ops : Array Oper} {rest : List Oper} {o : Oper} {a : Act} {Q : Exit → Act → World → Prop}
    (hg : o.guard = none) (m x v : Operand) (t : TypeId) (hop : o.op = Op.mapUpdate t m x v ∨ o.op = Op.insert t m x v)
    (e : TypeId) (ht : P.underlying t = some (.map k e)) (b : Nat) (L : List α)
    (hm : a.eval m = .map (some b)) (hown : Seen C w b L) (hn : L.length < maxLen) (key : α) (V : Value) (hV : V = C.val key) (hx : a.eval x = V) (hv : a.eval v = .bool true) (hok : C.ok key) (hnew : key ∉ L)
    (hK : ∀ w', Seen C w' b (L ++ [key]) → Keep [b] w w' → wpList P ops Q rest (a.put o.dst undef) w') : wpList P ops Q (o :: rest) a w := by
  refine wpList_plain hg fun K' hK' => ?_
  obtain ⟨w', hrun, h5, h6⟩ := Seen.add ht hown hn hok hnew
  rw [← hV] at hrun
  unfold Oper.wp
  rcases hop with hop | hop
  all_goals
    simp [execOp, hop, hm, hx, hv, hrun, Result.andThen]
    exact hK' _ _ (hK w' h5 h6)
theorem wpList_seen_look {P : Program} {k : TypeId} {α : Type} [DecidableEq α] (C : KeyT P k α) (w : World) {ops : Array Oper} {rest : List Oper} {o : Oper} {a : Act} {Q : Exit → Act → World → Prop}
    (hg : o.guard = none) (m x : Operand) (t : TypeId) (hop : o.op = Op.lookup t m x false)
    (e : TypeId) (ht : P.underlying t = some (.map k e)) (hz : (zeroValue e).run P w = .ok (.bool false) w) (b : Nat) (L : List α)
    (hm : a.eval m = .map (some b)) (hown : Seen C w b L) (key : α) (V : Value) (hV : V = C.val key) (hx : a.eval x = V) (hok : C.ok key) (A : Bool) (hA : decide (key ∈ L) = A)
    (hK : wpList P ops Q rest (a.put o.dst (.bool A)) w) : wpList P ops Q (o :: rest) a w := by
  refine wpList_plain hg fun K' hK' => ?_
  have hrun := Seen.look ht hz hown hok
  rw [hA, ← hV] at hrun
  unfold Oper.wp
  simp [execOp, hop, hm, hx, hrun, Result.andThen]
  exact hK' _ _ hK
theorem wpList_seen_len {P : Program} {k : TypeId} {α : Type} [DecidableEq α] (C : KeyT P k α) (w : World) {ops : Array Oper} {rest : List Oper} {o : Oper} {a : Act} {Q : Exit → Act → World → Prop}
    (hg : o.guard = none) (m : Operand) (t : TypeId) (ho : o.op = .call { callee := .builtin .len, args := #[m], argTypes := #[t] })
    (e : TypeId) (ht : P.underlying t = some (.map k e)) (b : Nat) (L : List α) (N : Nat) (hN : L.length = N)
    (hm : a.eval m = .map (some b)) (hown : Seen C w b L)
    (hK : wpList P ops Q rest (a.put o.dst (.int .i64 N)) w) : wpList P ops Q (o :: rest) a w := by
  refine wpList_plain hg fun K' hK' => ?_
  have hrun := Seen.len ht hown o.type
  subst hN
  unfold Oper.wp execOp
  simp only [ho, resolve, invoke, builtin, Sem.run_bind, Sem.run_pure, Result.andThen_ok, List.map_toArray, List.map_cons, List.map_nil, hm, hrun]
  exact hK' _ _ hK
/-- The queue and the map. -/
structure BfAt {P : Program} {k : TypeId} {α : Type} [DecidableEq α] (C : KeyT P k α) (enc : α → List Value) (e size base mb : Nat) (w : World) (L : List α) (d : Nat) (q : Value) : Prop where
  seen : Seen C w mb L
  queue : w.ownsTail base e size q (L.length - d) ((L.drop d).flatMap enc)
  low : mb < base
section
variable {P : Program} {k : TypeId} {α : Type} [DecidableEq α] {C : KeyT P k α} {enc : α → List Value} {e size base mb d : Nat} {w w' : World} {L : List α} {q : Value}
theorem BfAt.keep (h : BfAt C enc e size base mb w L d q) (hk : Keep [] w w') : BfAt C enc e size base mb w' L d q :=
  ⟨h.seen.keep hk (by simp), tail_keep h.queue hk (fun g hg => by cases hg), h.low⟩
theorem BfAt.row (h : BfAt C enc e size base mb w L d q) (hk : Keep [mb] w w') : w'.ownsTail base e size q (L.length - d) ((L.drop d).flatMap enc) :=
  tail_keep h.queue hk (fun g hg cs hc => by rw [List.mem_singleton] at hg; subst hg; exact h.seen.notCells hc rfl)
theorem BfAt.push {w9 : World} {q9 : Value} {y : α} {r : Nat} (hd : d ≤ L.length) (hr : L.length - d = r) (hlow : mb < base) (hs : Seen C w mb (L ++ [y])) (ho : w9.ownsTail base e size q9 (r + 1) ((L.drop d).flatMap enc ++ enc y)) (hb : ∀ b, b < base → w9.heap[b]? = w.heap[b]?) : BfAt C enc e size base mb w9 (L ++ [y]) d q9 :=
  ⟨hs.block (hb mb hlow), by
    rw [List.drop_append_of_le_length hd, List.flatMap_append, List.length_append]
    have : L.length + [y].length - d = r + 1 := by simp; omega
    rw [this]
    simpa using ho, hlow⟩
theorem BfAt.next {q9 : Value} {x : α} {r : Nat} (h : BfAt C enc e size base mb w L d q) (hx : L[d]? = some x) (hl : (enc x).length = size) (hr : L.length - (d + 1) = r) (ho : w.ownsTail base e size q9 r (((L.drop d).flatMap enc).drop size)) : BfAt C enc e size base mb w L (d + 1) q9 :=
  ⟨h.seen, by
    obtain ⟨hd, hd2⟩ := List.getElem?_eq_some_iff.1 hx
    rw [List.drop_eq_getElem_cons hd, hd2, List.flatMap_cons, ← hl, List.drop_left] at ho
    rw [hr, hl] at *
    exact ho, h.low⟩
end
end Go
/- Explore: states as keys of a map. -/
namespace Go.Proofs.YtfcellgjbbfobaaDoor
open Go.RowKit Go.Ex Go.WideMaps
theorem law62 : KeyLaw Tryd.prog 41 := deep_law (m := 3) (by omega) (by kernel_rfl) (by kernel_rfl) (by rw [Tryd.underlying41])
theorem cells53 : Tryd.prog.cellsOf 39 = 4 := by kernel_rfl
theorem cells62 : Tryd.prog.cellsOf 41 = 12 := by kernel_rfl
theorem cells3 : Tryd.prog.cellsOf 3 = 1 := by kernel_rfl
theorem keyType62 : Tryd.prog.keyType 41 = true := by kernel_rfl
theorem size62t : ∃ m, Tryd.prog.types.size = m + 2 := ⟨_, rfl⟩
theorem lits53 {m : Nat} {x0 x1 x2 x3 : Int} (w0 : (Lit.int .i64 x0).wf = true) (w1 : (Lit.int .i64 x1).wf = true) (w2 : (Lit.int .i64 x2).wf = true) (w3 : (Lit.int .i64 x3).wf = true) :
    Tryd.prog.keyLits (m + 2) 39 [.int .i64 x0, .int .i64 x1, .int .i64 x2, .int .i64 x3] = some [.int .i64 x0, .int .i64 x1, .int .i64 x2, .int .i64 x3] := by
  unfold Program.keyLits
  simp only [Tryd.underlying39]
  rw [if_pos (by rw [cells53]; rfl), show List.range 4 = [0, 1, 2, 3] from rfl]
  simp only [List.mapM_cons, List.mapM_nil, cells3]
  simp [Program.keyLits, Tryd.underlying3, w0, w1, w2, w3]
set_option maxHeartbeats 1000000 in
theorem key62 {x0 x1 x2 x3 x4 x5 x6 x7 x8 x9 xa xb : Int} (hw : ∀ z ∈ [x0, x1, x2, x3, x4, x5, x6, x7, x8, x9, xa, xb], (Lit.int .i64 z).wf = true) :
    keyOf Tryd.prog 41 (aggI [x0, x1, x2, x3, x4, x5, x6, x7, x8, x9, xa, xb]) = some (.string (keyBytes [.int .i64 x0, .int .i64 x1, .int .i64 x2, .int .i64 x3, .int .i64 x4, .int .i64 x5, .int .i64 x6, .int .i64 x7, .int .i64 x8, .int .i64 x9, .int .i64 xa, .int .i64 xb])) := by
  obtain ⟨m, hm⟩ := size62t
  simp only [List.mem_cons, forall_eq_or_imp, List.not_mem_nil, false_imp_iff, implies_true, and_true] at hw
  obtain ⟨w0, w1, w2, w3, w4, w5, w6, w7, w8, w9, wa, wb⟩ := hw
  unfold keyOf aggI
  simp only [Tryd.underlying41]
  rw [if_pos (by simp [keyType62, Value.formed, Tryd.underlying41, cells62]), hm]
  unfold Program.keyLits
  simp only [Tryd.underlying41, Value.cells]
  rw [if_pos (by refine ⟨by rw [cells62]; rfl, by decide +kernel⟩)]
  simp [cells53, lits53 w0 w1 w2 w3, lits53 w4 w5 w6 w7, lits53 w8 w9 wa wb]
set_option maxRecDepth 100000 in
noncomputable def KS : KeyT Tryd.prog 41 (List Int) where
  val := aggI
  lit x := (keyOf Tryd.prog 41 (aggI x)).getD (.bool false)
  ok x := x.length = 12 ∧ ∀ z ∈ x, (Lit.int .i64 z).wf = true
  keyed := Go.Maps.Keyed.of_law law62
  key x hx := by
    obtain ⟨hl, hw⟩ := hx
    match x, hl with
    | [x0, x1, x2, x3, x4, x5, x6, x7, x8, x9, xa, xb], _ =>
      rw [key62 hw]; rfl
  inj x y hx hy h := by
    obtain ⟨hl, hw⟩ := hx
    obtain ⟨hl', hw'⟩ := hy
    match x, y, hl, hl' with
    | [x0, x1, x2, x3, x4, x5, x6, x7, x8, x9, xa, xb], [y0, y1, y2, y3, y4, y5, y6, y7, y8, y9, ya, yb], _, _ =>
      have h1 := key62 hw
      have h2 := key62 hw'
      rw [h1, h2] at h
      simp only [Option.getD_some] at h
      rw [← h] at h2
      exact aggI_inj (law62.inj h1 h2)
end Go.Proofs.YtfcellgjbbfobaaDoor
/- A queue beside other rows: where the row behind append lies. -/
namespace Go
open Go.RowKit
section
variable {P : Program} {w w' : World} {base e size n : Nat} {v : Value} {xs : List Value}
theorem run_append_tail2 (base : Nat) (t ty e : TypeId) (i : TypeInfo) (z : Value) (size bytes : Nat) (ht : P.underlying t = some (.slice e)) (hi : P.info? e = some i) (hz : i.zero = some z)
    (hsize : i.size = size) (hby : i.bytes = bytes) (hzs : z.cells.size = size)
    (v : Value) (n : Nat) (xs : List Value) (hown : w.ownsTail base e size v n xs)
    (a : Addr) (m c : Nat) (news : List Value) (hl : news.length = m * size) (hnews : ∀ j u, news[j]? = some u → w.cell? (a.add j) = some u) (h1 : ∀ u ∈ news, u.oneCell' = true)
    (h63 : n + m ≤ maxLen) (hbytes : (n + m) * bytes ≤ 140737488355328) (hbase : base ≤ w.heap.size) :
    ∃ v' w' g, (Builtin.append_ #[t, t] ty #[v, .slice (some a) m c]).run P w = .ok v' w' ∧ w'.ownsTail base e size v' (n + m) (xs ++ news) ∧ w.grownBy w' (some g) ∧ base ≤ g ∧ (∃ ad cc, v = .slice (some ad) n cc ∧ ad.block = g) ∧ ∃ ad' cc', v' = .slice (some ad') (n + m) cc' ∧ (ad'.block = g ∨ ad'.block = w.heap.size) := by
  subst hsize
  subst hby
  have hsmall : n + m ≤ 9223372036854775807 := by simp only [maxLen] at h63; omega
  have hlen : (xs ++ news).length = (n + m) * i.size := by rw [List.length_append, hown.1, hl, Nat.add_mul]
  obtain ⟨_, _, he, _, _, _, _, hcell⟩ := tail_cells hown
  obtain ⟨hxl, g, o, cap, cur, rfl, hb, hg, hnc, hcm, hcs, htk⟩ := hown
  injection he with he _ _
  injection he with he
  subst he
  by_cases hroom : n + m ≤ cap
  · have hmul : (o + n + m) * i.size ≤ cur.size := Nat.le_trans (Nat.mul_le_mul_right _ (by omega)) hcs
    have hfit : o * i.size + n * i.size + news.length ≤ cur.size := by rw [hl, ← Nat.add_mul, ← Nat.add_mul]; exact hmul
    have hf := run_firstCells_some (P := P) w i.size m a m c news hl hnews
    have hst := run_storeCells_at P g (o * i.size + n * i.size) e news 0 cur w hg (by simpa using hfit) h1
    simp only [Nat.add_zero] at hst
    refine ⟨.slice (some ⟨g, o * i.size, none⟩) (n + m) cap, w.setRow g (cur.toList.take (o * i.size + n * i.size) ++ news ++ cur.toList.drop (o * i.size + n * i.size + news.length)).toArray, g, ?_, ⟨hlen, g, o, cap, _, rfl, hb, setRow_heap w g cur _ e _ hg, hroom, hcm, ?_, ?_⟩, ⟨rfl, rfl, rfl, by simp, fun k _ hk => setRow_other w g k _ (fun e => hk (by rw [e]))⟩, hb, ⟨_, _, rfl, rfl⟩, _, _, rfl, .inl rfl⟩
    · simp [Builtin.append_, run_underlying ht, sizeOf, typeInfo, hi, Builtin.lenOf, hroom, hf, Go.WideShapes.add_plain, hst]
    · simp only [List.size_toArray, List.length_append, List.length_take, List.length_drop, Array.length_toList]
      omega
    · have hA : (cur.toList.take (o * i.size + n * i.size)).length = o * i.size + n * i.size := by rw [List.length_take, Array.length_toList]; omega
      rw [List.append_assoc, List.drop_append_of_le_length (by rw [hA]; omega), List.drop_take, show o * i.size + n * i.size - o * i.size = n * i.size by omega, htk, ← List.append_assoc, ← hlen]
      exact List.take_left
  · have hr := run_append_grow (P := P) w t ty e i z ht hi hz ⟨g, o * i.size, none⟩ n cap xs hxl hcell a m c news hl hnews (by omega) (by omega) (growslice_fits (by omega) hbytes)
    have hge := grownCap_ge w (n + m) cap e
    have hcm2 : grownCap w (n + m) cap e ≤ maxLen := grownCap_le_maxLen w (n + m) cap e h63
    refine ⟨_, _, g, hr, ⟨hlen, w.heap.size, 0, _, _, by rw [Nat.zero_mul], hbase, blk_new w.drew _, hge, hcm2, ?_, ?_⟩, ⟨rfl, rfl, rfl, by simp, fun k hk _ => Below.heap_alloc w.drew _ _ hk⟩, hb, ⟨_, _, rfl, rfl⟩, _, _, rfl, .inr rfl⟩
    · simp only [Array.size_append, List.size_toArray, size_zeroCells, hzs, hxl, hl, ← Nat.add_mul]
      refine Nat.mul_le_mul_right _ ?_
      omega
    · rw [Nat.zero_mul, List.drop_zero]
      simp only [Array.toList_append, List.append_assoc]
      rw [← List.append_assoc, ← hlen]
      exact List.take_left
theorem wpList_append_tail2 {ops : Array Oper} {rest : List Oper} {o : Oper} {a : Act} {Q : Exit → Act → World → Prop} (hgd : o.guard = none) (s x : Operand) (t : TypeId)
    (ho : o.op = .call { callee := .builtin .append, args := #[s, x], argTypes := #[t, t] })
    (base : Nat) (e : TypeId) (i : TypeInfo) (z : Value) (size bytes : Nat) (ht : P.underlying t = some (.slice e)) (hi : P.info? e = some i) (hz : i.zero = some z)
    (hsize : i.size = size) (hby : i.bytes = bytes) (hzs : z.cells.size = size)
    (g off cap : Nat) (n : Nat) (xs : List Value) (hs : a.eval s = .slice (some ⟨g, off, none⟩) n cap) (hown : w.ownsTail base e size (.slice (some ⟨g, off, none⟩) n cap) n xs)
    (ad : Addr) (m c : Nat) (news : List Value) (hx : a.eval x = .slice (some ad) m c) (hl : news.length = m * size) (hnews : ∀ j u, news[j]? = some u → w.cell? (ad.add j) = some u) (h1 : ∀ u ∈ news, u.oneCell' = true)
    (h63 : n + m ≤ maxLen) (hbytes : (n + m) * bytes ≤ 140737488355328) (hbase : base ≤ w.heap.size)
    (h : ∀ g' off' c' w', w'.ownsTail base e size (.slice (some ⟨g', off', none⟩) (n + m) c') (n + m) (xs ++ news) → Keep [g] w w' → (g' = g ∨ g' = w.heap.size) → wpList P ops Q rest (a.put o.dst (.slice (some ⟨g', off', none⟩) (n + m) c')) w') : wpList P ops Q (o :: rest) a w := by
  refine wpList_plain hgd fun K hK => ?_
  obtain ⟨v', w', g0, hr, h2, h3, h4, ⟨ad2, cc, h5, h6⟩, ad3, cc3, h7, h8⟩ := run_append_tail2 (P := P) (w := w) base t o.type e i z size bytes ht hi hz hsize hby hzs _ n xs hown ad m c news hl hnews h1 h63 hbytes hbase
  obtain ⟨g', off', c', rfl, _⟩ := tail_form h2
  injection h7 with h7 _ _
  injection h7 with h7
  injection h5 with h5 _ _
  injection h5 with h5
  subst h5 h7
  simp only at h6 h8
  subst h6
  unfold Oper.wp execOp
  simp only [ho, resolve, invoke, builtin, Sem.run_bind, Sem.run_pure, Result.andThen_ok, List.map_toArray, List.map_cons, List.map_nil, hs, hx, hr]
  have hk : Keep [g] w w' := Keep.ofGrown h3 (fun k hk => by injection hk with hk; simp [hk])
  exact hK _ _ (h g' off' c' w' h2 hk h8)
theorem tail_next2 {t : TypeId} {i : TypeInfo} (ht : P.underlying t = some (.slice e)) (hi : P.info? e = some i) (hsize : i.size = size) (h : w.ownsTail base e size v (n + 1) xs) :
    ∃ v', (∀ W, (Instr.slice t v (some (.int .i64 1)) none none).run P W = .ok v' W) ∧ w.ownsTail base e size v' n (xs.drop size) ∧ ∃ ad cc ad0 cc0, v' = .slice (some ad) n cc ∧ v = .slice (some ad0) (n + 1) cc0 ∧ ad.block = ad0.block := by
  obtain ⟨hl, g, o, cap, cur, rfl, hb, hg, hnc, hcm, hcs, htk⟩ := h
  subst hsize
  have hdl : (xs.drop i.size).length = n * i.size := by rw [List.length_drop, hl, Nat.add_mul]; omega
  have hnc2 : (n : Int) + 1 ≤ (cap : Int) := by omega
  by_cases hc : cap = 1
  · subst hc
    obtain rfl : n = 0 := by omega
    refine ⟨.slice (some ⟨g, o * i.size, none⟩) 0 0, fun W => ?_, ⟨hdl, g, o, 0, cur, rfl, hb, hg, Nat.le_refl _, Nat.zero_le _, Nat.le_trans (Nat.mul_le_mul_right _ (by omega)) hcs, ?_⟩, _, _, _, _, rfl, rfl, rfl⟩
    · simp [Instr.slice, run_underlying ht, sizeOf, typeInfo, hi, Instr.sliceBounds, Instr.sliceBound, asIntOf, Result.andThen]
    · have : xs.drop i.size = [] := List.eq_nil_of_length_eq_zero (by rw [hdl]; simp)
      rw [this]; simp
  · refine ⟨.slice (some ⟨g, (o + 1) * i.size, none⟩) n (cap - 1), fun W => ?_, ⟨hdl, g, o + 1, cap - 1, cur, rfl, hb, hg, by omega, by omega, ?_, ?_⟩, _, _, _, _, rfl, rfl, rfl⟩
    · have h9 : (1 : Int) ≤ (n : Int) + 1 := by omega
      simp [Instr.slice, run_underlying ht, sizeOf, typeInfo, hi, Instr.sliceBounds, Instr.sliceBound, asIntOf, Result.andThen, h9, hc, Go.WideShapes.add_plain, Nat.add_mul]
    · rw [show o + 1 + (cap - 1) = o + cap by omega]; exact hcs
    · rw [← htk, List.drop_take, List.drop_drop, Nat.add_mul, Nat.add_mul]
      congr 1
      · omega
      · congr 1
        omega
theorem wpList_slice_tail2 {ops : Array Oper} {rest : List Oper} {o : Oper} {a : Act} {Q : Exit → Act → World → Prop} (hgd : o.guard = none) (x : Operand) (t : TypeId)
    (ho : o.op = .slice t x (some (.const (.int .i64 1))) none none)
    (i : TypeInfo) (ht : P.underlying t = some (.slice e)) (hi : P.info? e = some i) (hsize : i.size = size) (g off cap : Nat)
    (hs : a.eval x = .slice (some ⟨g, off, none⟩) (n + 1) cap) (hown : w.ownsTail base e size (.slice (some ⟨g, off, none⟩) (n + 1) cap) (n + 1) xs)
    (h : ∀ off' c', w.ownsTail base e size (.slice (some ⟨g, off', none⟩) n c') n (xs.drop size) → wpList P ops Q rest (a.put o.dst (.slice (some ⟨g, off', none⟩) n c')) w) : wpList P ops Q (o :: rest) a w := by
  refine wpList_plain hgd fun K hK => ?_
  obtain ⟨v', hr, h2, ad, cc, ad0, cc0, h3, h4, h5⟩ := tail_next2 (P := P) ht hi hsize hown
  obtain ⟨g', off', c', rfl, _⟩ := tail_form h2
  injection h3 with h3 _ _
  injection h3 with h3
  injection h4 with h4 _ _
  injection h4 with h4
  subst h3 h4
  simp only at h5
  subst h5
  have he : a.eval (.const (.int .i64 1)) = .int .i64 1 := rfl
  unfold Oper.wp execOp
  simp only [ho, Sem.run_bind, Sem.run_pure, Result.andThen_ok, hs, Option.map_some, Option.map_none, he, Instr.sliceAt, run_underlying ht, hr]
  exact hK _ _ (h off' c' h2)
end
end Go
