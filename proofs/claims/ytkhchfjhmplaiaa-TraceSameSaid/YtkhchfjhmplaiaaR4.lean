import Derived.Test.YtkhchfjhmplaiaaR3
import Derived.Laws.Rows
namespace Go
open Go.RowKit
/-- A whole array or struct read out of the middle of a block. -/
theorem run_loadVar_at {P : Program} (w : World) (a : Addr) (ty : TypeId) (vs : List Value) (d : TypeDesc) (hg : ∀ j v, vs[j]? = some v → w.cell? (a.add j) = some v)
    (hu : P.underlying ty = some d) (hd : (match d with | .struct _ | .array _ _ => true | _ => false) = true) (hi : (P.info? ty).map (·.size) = some vs.length) :
    (loadVar ty a).run P w = .ok (.agg vs.toArray) w := by
  have hl : (loadCells a vs.length).run P w = .ok vs.toArray w := run_loadCells_list (P := P) w a vs hg
  cases hq : P.info? ty with
  | none => simp [hq] at hi
  | some i =>
    have hs : i.size = vs.length := by simpa [hq] using hi
    have hagg : (isAgg ty).run P w = .ok true w := by
      unfold isAgg
      rw [Sem.run_bind, run_underlying hu w]
      cases d <;> simp_all
    simp [loadVar, Sem.run_bind, hagg, sizeOf, typeInfo, hq, hs, hl]
theorem wp_load_at {P : Program} {o : Oper} {a : Act} {w : World} {K : Act → World → Prop} {Q : Exit → Act → World → Prop} (ty : TypeId) (x : Operand) (ho : o.op = .load ty x)
    (ad : Addr) (hx : a.eval x = .pointer (some ad)) (vs : List Value) (d : TypeDesc) (hg : ∀ j v, vs[j]? = some v → w.cell? (ad.add j) = some v)
    (hu : P.underlying ty = some d) (hd : (match d with | .struct _ | .array _ _ => true | _ => false) = true) (hi : (P.info? ty).map (·.size) = some vs.length)
    (h : K (a.put o.dst (.agg vs.toArray)) w) : o.wp P a w K Q := by
  unfold Oper.wp execOp
  simp only [ho, hx, Instr.loadAt, Instr.sureAddr, Sem.run_bind, Sem.run_pure, Result.andThen_ok, run_loadVar_at w ad ty vs d hg hu hd hi]
  exact h
theorem wpList_load_at {P : Program} {ops : Array Oper} {rest : List Oper} {o : Oper} {a : Act} {w : World} {Q : Exit → Act → World → Prop} (hgd : o.guard = none) (ty : TypeId) (x : Operand) (ho : o.op = .load ty x)
    (ad : Addr) (hx : a.eval x = .pointer (some ad)) (vs : List Value) (d : TypeDesc) (hg : ∀ j v, vs[j]? = some v → w.cell? (ad.add j) = some v)
    (hu : P.underlying ty = some d) (hd : (match d with | .struct _ | .array _ _ => true | _ => false) = true) (hi : (P.info? ty).map (·.size) = some vs.length)
    (h : wpList P ops Q rest (a.put o.dst (.agg vs.toArray)) w) : wpList P ops Q (o :: rest) a w :=
  wpList_plain hgd fun _ hK => wp_load_at ty x ho ad hx vs d hg hu hd hi (hK _ _ h)
theorem GAt.rowsAt {T : TypeId} {w : World} {b : Nat} {g : Gs} (h : GAt T w b g) : ∀ j v, (lanesC g.rs)[j]? = some v → w.cell? ((⟨b, 3, none⟩ : Addr).add j) = some v := by
  intro j v hv
  have hj : j < (lanesC g.rs).length := (List.getElem?_eq_some_iff.1 hv).1
  have e : (⟨b, 3, none⟩ : Addr).add j = ⟨b, 3 + j, none⟩ := by unfold Addr.add; split <;> simp_all
  rw [e, cellAt h.1]
  simp only [List.getElem?_toArray, Gs.cells, List.append_assoc]
  rw [List.getElem?_append_right (by simp), List.getElem?_append_left (by simp only [List.length_cons, List.length_nil]; omega)]
  rw [← hv]
  congr 1
  simp only [List.length_cons, List.length_nil]; omega
/-- A new block's cells. -/
theorem cells_new (w : World) (xs : List Value) (t : TypeId) (f : Nat × Nat) : ∀ j u, xs[j]? = some u → (w.alloc (.cells xs.toArray t f)).cell? ((⟨w.heap.size, 0, none⟩ : Addr).add j) = some u := by
  intro j u hj
  have e : (⟨w.heap.size, 0, none⟩ : Addr).add j = ⟨w.heap.size, j, none⟩ := by unfold Addr.add; split <;> simp_all
  rw [e, cell_of_row _ _ _ _ _ _ (blk_new w _)]
  simpa using hj
theorem cells_new2 (w : World) (o : Obj) (xs : List Value) (t : TypeId) : ∀ j u, xs[j]? = some u → ((w.alloc o).alloc (.cells xs.toArray t)).cell? ((⟨w.heap.size + 1, 0, none⟩ : Addr).add j) = some u := by
  have h := cells_new (w.alloc o) xs t (0, 0)
  have e : (w.alloc o).heap.size = w.heap.size + 1 := by simp
  rw [e] at h
  exact h
/-- A slice of rows of three numbers. -/
structure LnsV (w : World) (a : Option Addr) (n c : Nat) (ls : List Ln) : Prop where
  len : ls.length = n
  room : n ≤ c
  most : c ≤ maxLen
  cells : 0 < n → ∃ b off, a = some ⟨b, off, none⟩ ∧ ∀ j, j < 3 * n → w.cell? ⟨b, off + j, none⟩ = (lanesC ls)[j]?
section
variable {w w' : World} {a : Option Addr} {n c : Nat} {ls : List Ln}
theorem LnsV.nil (w : World) : LnsV w none 0 0 [] := ⟨rfl, Nat.le_refl _, Nat.zero_le _, fun h => absurd h (by decide)⟩
theorem LnsV.keep {S : List Nat} (h : LnsV w a n c ls) (k : Keep S w w') (hs : ∀ x, a = some x → x.block ∉ S) : LnsV w' a n c ls :=
  ⟨h.len, h.room, h.most, fun hn => by
    obtain ⟨b, off, rfl, hc⟩ := h.cells hn
    refine ⟨b, off, rfl, fun j hj => ?_⟩
    rw [← hc j hj]
    have hsome : ∃ v, (lanesC ls)[j]? = some v := ⟨_, List.getElem?_eq_getElem (by have := lanesC_len ls; have := h.len; omega)⟩
    obtain ⟨v, hv⟩ := hsome
    have h1 := (hc j hj).trans hv
    rw [h1]
    exact k.cell h1 (hs ⟨b, off, none⟩ rfl)⟩
theorem LnsV.at_ (h : LnsV w a n c ls) {i : Nat} (hi : i < n) : ∃ b off, a = some ⟨b, off, none⟩ ∧ w.cell? ⟨b, off + i * 3, none⟩ = some (.int .i64 (lat ls i).q) ∧ w.cell? ⟨b, off + i * 3 + 1, none⟩ = some (.int .i64 (lat ls i).g) ∧ w.cell? ⟨b, off + i * 3 + 2, none⟩ = some (.int .i64 (lat ls i).u) := by
  obtain ⟨b, off, rfl, hc⟩ := h.cells (by omega)
  have at_ : ∀ f, f < 3 → w.cell? ⟨b, off + (i * 3 + f), none⟩ = (lat ls i).cells[f]? := fun f hf => by
    rw [hc _ (by omega)]
    exact lanesC_at ls i f (by rw [h.len]; exact hi) hf
  exact ⟨b, off, rfl, at_ 0 (by omega), at_ 1 (by omega), at_ 2 (by omega)⟩
theorem LnsV.ofOwn {base e : Nat} {v : Value} (h : w.ownsRow base e 3 v n (lanesC ls)) : ∃ a c, v = .slice a n c ∧ LnsV w a n c ls ∧ ∀ x, a = some x → base ≤ x.block := by
  obtain ⟨hl, h⟩ := h
  have hn : ls.length = n := by have := lanesC_len ls; omega
  rcases h with ⟨rfl, hnil⟩ | ⟨g, cap, cur, rfl, hb, hg, hnc, hcm, hcs, ht⟩
  · have h0 : n = 0 := by rw [hnil] at hl; simp at hl; omega
    subst h0
    exact ⟨none, 0, rfl, ⟨hn, Nat.le_refl _, Nat.zero_le _, fun h => absurd h (by decide)⟩, fun x hx => by cases hx⟩
  · refine ⟨_, _, rfl, ⟨hn, hnc, hcm, fun h0 => ⟨g, 0, rfl, fun j hj => ?_⟩⟩, fun x hx => by cases hx; exact hb⟩
    rw [Nat.zero_add, cell_of_row w g j cur e (0, 0) hg]
    have : (cur.toList.take (n * 3))[j]? = (lanesC ls)[j]? := by rw [ht]
    rw [List.getElem?_take, if_pos (by omega)] at this
    simpa using this
theorem LnsV.drew (h : LnsV w a n c ls) : LnsV w.drew a n c ls := ⟨h.len, h.room, h.most, h.cells⟩
theorem lanesC_snoc (ls : List Ln) (L : Ln) : lanesC (ls ++ [L]) = lanesC ls ++ L.cells := by simp [lanesC]
end
end Go
namespace Go
theorem GAt.alloc {T : TypeId} {w : World} {b : Nat} {g : Gs} (h : GAt T w b g) (o : Obj) : GAt T (w.alloc o) b g := h.keep ((Keep.refl [] w).alloc o) (by simp)
theorem GAt.put3 {T : TypeId} {w : World} {b : Nat} {g : Gs} (h : GAt T w b g) {i : Nat} (hi : i < 9) (x y z : Int) :
    GAt T (((w.setCell ⟨b, 3 + i * 3, none⟩ (.int .i64 x)).setCell ⟨b, 3 + i * 3 + 1, none⟩ (.int .i64 y)).setCell ⟨b, 3 + i * 3 + 2, none⟩ (.int .i64 z)) b { g with rs := g.rs.set i ⟨x, y, z⟩ } := by
  have hl : i < g.rs.length := by have := h.2.1; omega
  have e0 := h.putRow hi 0 (by omega) (.int .i64 x) ⟨x, (lat g.rs i).g, (lat g.rs i).u⟩ rfl
  have e1 := e0.putRow hi 1 (by omega) (.int .i64 y) ⟨x, y, (lat g.rs i).u⟩ (by dsimp only; rw [lat_set _ _ _ _ hl, if_pos rfl]; rfl)
  have e2 := e1.putRow hi 2 (by omega) (.int .i64 z) ⟨x, y, z⟩ (by dsimp only; rw [List.set_set, lat_set _ _ _ _ hl, if_pos rfl]; rfl)
  dsimp only at e2
  rw [List.set_set, List.set_set] at e2
  exact e2
end Go
