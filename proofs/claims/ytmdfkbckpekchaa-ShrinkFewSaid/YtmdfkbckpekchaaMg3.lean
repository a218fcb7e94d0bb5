/- Texts laid together: R4 R5 S4 S5. -/
import Derived.Test.YtmdfkbckpekchaaMg2
import Derived.Laws.Rows
import Derived.OwnWalk
import Derived.Laws.OwnMore
import Derived.Deep.AppendLies
import Derived.Deep.Onto
namespace Go
open Go.RowKit
/-- A whole array or struct read out of the middle of a block. -/
theorem run_loadVar_at {P : Program} (w : World) (a : Addr) (ty : TypeId) (vs : List Value) (d : TypeDesc) (hg : ∀ j v, vs[j]? = some v → w.cell? (a.add j) = some v)
    (hu : P.underlying ty = some d) (hd : (match d with | .struct _ | .array _ _ => true | _ => false) = true) (hi : (P.info? ty).map (·.size) = some vs.length) :
    (loadVar ty a).run P w = .ok (.agg vs.toArray) w := by
  have hl : (loadCells a vs.length).run P w = .ok vs.toArray w := run_loadCells_list (P := P) w a vs hg
  cases hq : P.info? ty with
  | none => simp [hq] at hi
  | some i =>
    have hs : i.size = vs.length := by simpa [hq] using hi
    have hagg : (isAgg ty).run P w = .ok true w := by
      unfold isAgg
      rw [Sem.run_bind, run_underlying hu w]
      cases d <;> simp_all
    simp [loadVar, Sem.run_bind, hagg, sizeOf, typeInfo, hq, hs, hl]
theorem wp_load_at {P : Program} {o : Oper} {a : Act} {w : World} {K : Act → World → Prop} {Q : Exit → Act → World → Prop} (ty : TypeId) (x : Operand) (ho : o.op = .load ty x)
    (ad : Addr) (hx : a.eval x = .pointer (some ad)) (vs : List Value) (d : TypeDesc) (hg : ∀ j v, vs[j]? = some v → w.cell? (ad.add j) = some v)
    (hu : P.underlying ty = some d) (hd : (match d with | .struct _ | .array _ _ => true | _ => false) = true) (hi : (P.info? ty).map (·.size) = some vs.length)
    (h : K (a.put o.dst (.agg vs.toArray)) w) : o.wp P a w K Q := by
  unfold Oper.wp execOp
  simp only [ho, hx, Instr.loadAt, Instr.sureAddr, Sem.run_bind, Sem.run_pure, Result.andThen_ok, run_loadVar_at w ad ty vs d hg hu hd hi]
  exact h
theorem wpList_load_at {P : Program} {ops : Array Oper} {rest : List Oper} {o : Oper} {a : Act} {w : World} {Q : Exit → Act → World → Prop} (hgd : o.guard = none) (ty : TypeId) (x : Operand) (ho : o.op = .load ty x)
    (ad : Addr) (hx : a.eval x = .pointer (some ad)) (vs : List Value) (d : TypeDesc) (hg : ∀ j v, vs[j]? = some v → w.cell? (ad.add j) = some v)
    (hu : P.underlying ty = some d) (hd : (match d with | .struct _ | .array _ _ => true | _ => false) = true) (hi : (P.info? ty).map (·.size) = some vs.length)
    (h : wpList P ops Q rest (a.put o.dst (.agg vs.toArray)) w) : wpList P ops Q (o :: rest) a w :=
  wpList_plain hgd fun _ hK => wp_load_at ty x ho ad hx vs d hg hu hd hi (hK _ _ h)
theorem GAt.rowsAt {T : TypeId} {w : World} {b : Nat} {g : Gs} (h : GAt T w b g) : ∀ j v, (lanesC g.rs)[j]? = some v → w.cell? ((⟨b, 3, none⟩ : Addr).add j) = some v := by
  intro j v hv
  have hj : j < (lanesC g.rs).length := (List.getElem?_eq_some_iff.1 hv).1
  have e : (⟨b, 3, none⟩ : Addr).add j = ⟨b, 3 + j, none⟩ := by unfold Addr.add; split <;> simp_all
  rw [e, cellAt h.1]
  simp only [List.getElem?_toArray, Gs.cells, List.append_assoc]
  rw [List.getElem?_append_right (by simp), List.getElem?_append_left (by simp only [List.length_cons, List.length_nil]; omega)]
  rw [← hv]
  congr 1
  simp only [List.length_cons, List.length_nil]; omega
/-- A new block's cells. -/
theorem cells_new (w : World) (xs : List Value) (t : TypeId) (f : Nat × Nat) : ∀ j u, xs[j]? = some u → (w.alloc (.cells xs.toArray t f)).cell? ((⟨w.heap.size, 0, none⟩ : Addr).add j) = some u := by
  intro j u hj
  have e : (⟨w.heap.size, 0, none⟩ : Addr).add j = ⟨w.heap.size, j, none⟩ := by unfold Addr.add; split <;> simp_all
  rw [e, cell_of_row _ _ _ _ _ _ (blk_new w _)]
  simpa using hj
theorem cells_new2 (w : World) (o : Obj) (xs : List Value) (t : TypeId) : ∀ j u, xs[j]? = some u → ((w.alloc o).alloc (.cells xs.toArray t)).cell? ((⟨w.heap.size + 1, 0, none⟩ : Addr).add j) = some u := by
  have h := cells_new (w.alloc o) xs t (0, 0)
  have e : (w.alloc o).heap.size = w.heap.size + 1 := by simp
  rw [e] at h
  exact h
/-- A slice of rows of three numbers. -/
structure LnsV (w : World) (a : Option Addr) (n c : Nat) (ls : List Ln) : Prop where
  len : ls.length = n
  room : n ≤ c
  most : c ≤ maxLen
  cells : 0 < n → ∃ b off, a = some ⟨b, off, none⟩ ∧ ∀ j, j < 3 * n → w.cell? ⟨b, off + j, none⟩ = (lanesC ls)[j]?
section
variable {w w' : World} {a : Option Addr} {n c : Nat} {ls : List Ln}
theorem LnsV.nil (w : World) : LnsV w none 0 0 [] := ⟨rfl, Nat.le_refl _, Nat.zero_le _, fun h => absurd h (by decide)⟩
theorem LnsV.keep {S : List Nat} (h : LnsV w a n c ls) (k : Keep S w w') (hs : ∀ x, a = some x → x.block ∉ S) : LnsV w' a n c ls :=
  ⟨h.len, h.room, h.most, fun hn => by
    obtain ⟨b, off, rfl, hc⟩ := h.cells hn
    refine ⟨b, off, rfl, fun j hj => ?_⟩
    rw [← hc j hj]
    have hsome : ∃ v, (lanesC ls)[j]? = some v := ⟨_, List.getElem?_eq_getElem (by have := lanesC_len ls; have := h.len; omega)⟩
    obtain ⟨v, hv⟩ := hsome
    have h1 := (hc j hj).trans hv
    rw [h1]
    exact k.cell h1 (hs ⟨b, off, none⟩ rfl)⟩
theorem LnsV.at_ (h : LnsV w a n c ls) {i : Nat} (hi : i < n) : ∃ b off, a = some ⟨b, off, none⟩ ∧ w.cell? ⟨b, off + i * 3, none⟩ = some (.int .i64 (lat ls i).q) ∧ w.cell? ⟨b, off + i * 3 + 1, none⟩ = some (.int .i64 (lat ls i).g) ∧ w.cell? ⟨b, off + i * 3 + 2, none⟩ = some (.int .i64 (lat ls i).u) := by
  obtain ⟨b, off, rfl, hc⟩ := h.cells (by omega)
  have at_ : ∀ f, f < 3 → w.cell? ⟨b, off + (i * 3 + f), none⟩ = (lat ls i).cells[f]? := fun f hf => by
    rw [hc _ (by omega)]
    exact lanesC_at ls i f (by rw [h.len]; exact hi) hf
  exact ⟨b, off, rfl, at_ 0 (by omega), at_ 1 (by omega), at_ 2 (by omega)⟩
theorem LnsV.ofOwn {base e : Nat} {v : Value} (h : w.ownsRow base e 3 v n (lanesC ls)) : ∃ a c, v = .slice a n c ∧ LnsV w a n c ls ∧ ∀ x, a = some x → base ≤ x.block := by
  obtain ⟨hl, h⟩ := h
  have hn : ls.length = n := by have := lanesC_len ls; omega
  rcases h with ⟨rfl, hnil⟩ | ⟨g, cap, cur, rfl, hb, hg, hnc, hcm, hcs, ht⟩
  · have h0 : n = 0 := by rw [hnil] at hl; simp at hl; omega
    subst h0
    exact ⟨none, 0, rfl, ⟨hn, Nat.le_refl _, Nat.zero_le _, fun h => absurd h (by decide)⟩, fun x hx => by cases hx⟩
  · refine ⟨_, _, rfl, ⟨hn, hnc, hcm, fun h0 => ⟨g, 0, rfl, fun j hj => ?_⟩⟩, fun x hx => by cases hx; exact hb⟩
    rw [Nat.zero_add, cell_of_row w g j cur e (0, 0) hg]
    have : (cur.toList.take (n * 3))[j]? = (lanesC ls)[j]? := by rw [ht]
    rw [List.getElem?_take, if_pos (by omega)] at this
    simpa using this
theorem LnsV.drew (h : LnsV w a n c ls) : LnsV w.drew a n c ls := ⟨h.len, h.room, h.most, h.cells⟩
theorem lanesC_snoc (ls : List Ln) (L : Ln) : lanesC (ls ++ [L]) = lanesC ls ++ L.cells := by simp [lanesC]
end
end Go
namespace Go
theorem GAt.alloc {T : TypeId} {w : World} {b : Nat} {g : Gs} (h : GAt T w b g) (o : Obj) : GAt T (w.alloc o) b g := h.keep ((Keep.refl [] w).alloc o) (by simp)
theorem GAt.put3 {T : TypeId} {w : World} {b : Nat} {g : Gs} (h : GAt T w b g) {i : Nat} (hi : i < 9) (x y z : Int) :
    GAt T (((w.setCell ⟨b, 3 + i * 3, none⟩ (.int .i64 x)).setCell ⟨b, 3 + i * 3 + 1, none⟩ (.int .i64 y)).setCell ⟨b, 3 + i * 3 + 2, none⟩ (.int .i64 z)) b { g with rs := g.rs.set i ⟨x, y, z⟩ } := by
  have hl : i < g.rs.length := by have := h.2.1; omega
  have e0 := h.putRow hi 0 (by omega) (.int .i64 x) ⟨x, (lat g.rs i).g, (lat g.rs i).u⟩ rfl
  have e1 := e0.putRow hi 1 (by omega) (.int .i64 y) ⟨x, y, (lat g.rs i).u⟩ (by dsimp only; rw [lat_set _ _ _ _ hl, if_pos rfl]; rfl)
  have e2 := e1.putRow hi 2 (by omega) (.int .i64 z) ⟨x, y, z⟩ (by dsimp only; rw [List.set_set, lat_set _ _ _ _ hl, if_pos rfl]; rfl)
  dsimp only at e2
  rw [List.set_set, List.set_set] at e2
  exact e2
end Go
namespace Go
open Go.RowKit
theorem Keep.more {S S' : List Nat} {w w' : World} (h : Keep S w w') (hs : ∀ b ∈ S, b ∈ S') : Keep S' w w' :=
  ⟨h.os, h.tape, h.output, h.size, fun k hk hn => h.block k hk fun hm => hn (hs k hm)⟩
theorem own_keep {S : List Nat} {w w' : World} {base e size n : Nat} {v : Value} {xs : List Value} (h : w.ownsRow base e size v n xs) (k : Keep S w w') (hs : ∀ b, v.ownBlock = some b → b ∉ S) : w'.ownsRow base e size v n xs := by
  refine ⟨h.1, ?_⟩
  rcases h.2 with hn | ⟨g, cap, cur, rfl, hb, hgg, rest⟩
  · exact .inl hn
  · exact .inr ⟨g, cap, cur, rfl, hb, k.at hgg (hs g rfl), rest⟩
/-- A row's block and a block of another kind are two. -/
theorem own_ne {w : World} {base e size n : Nat} {v : Value} {xs : List Value} (h : w.ownsRow base e size v n xs) {b : Nat} {cs : Array Value} {T : TypeId} {f : Nat × Nat} (hb : w.heap[b]? = some (.cells cs T f)) (hT : e ≠ T) : ∀ g, v.ownBlock = some g → g ≠ b := by
  intro g hg he
  subst he
  rcases h.2 with ⟨rfl, _⟩ | ⟨g', cap, cur, rfl, _, hgg, _⟩
  · simp [Value.ownBlock] at hg
  · simp [Value.ownBlock] at hg
    subst hg
    rw [hb] at hgg
    injection hgg with hgg
    injection hgg with _ h2 _
    exact hT h2.symm
theorem own_own {w : World} {base base' e e' size size' n n' : Nat} {v v' : Value} {xs xs' : List Value} (h : w.ownsRow base e size v n xs) (h' : w.ownsRow base' e' size' v' n' xs') (hT : e ≠ e') : ∀ g, v.ownBlock = some g → v'.ownBlock ≠ some g := by
  intro g hg he
  rcases h'.2 with ⟨rfl, _⟩ | ⟨g', cap, cur, rfl, _, hgg, _⟩
  · simp [Value.ownBlock] at he
  · simp [Value.ownBlock] at he
    subst he
    exact own_ne h hgg hT g' hg rfl
theorem Keep.ofGrown {w w' : World} {row : Option Nat} {S : List Nat} (h : w.grownBy w' row) (hr : ∀ k, row = some k → k ∈ S) : Keep S w w' :=
  ⟨h.os, h.tape, h.output, h.size, fun k hk hn => h.block k hk fun e => hn (hr k e.symm)⟩
/-- What Keep a list of blocks S, and nothing else, may touch: those of S that were there. -/
theorem Keep.fresh {S : List Nat} {w w' : World} (h : Keep S w w') (hs : ∀ b ∈ S, w.heap.size ≤ b) : Keep [] w w' :=
  ⟨h.os, h.tape, h.output, h.size, fun k hk _ => h.block k hk fun hm => by have := hs k hm; omega⟩
/-- A slice of pointers to whole blocks. -/
structure PtrsV (w : World) (a : Option Addr) (n c : Nat) (bs : List Nat) : Prop where
  len : bs.length = n
  room : n ≤ c
  most : c ≤ maxLen
  cells : 0 < n → ∃ b off, a = some ⟨b, off, none⟩ ∧ ∀ i, i < n → w.cell? ⟨b, off + i, none⟩ = some (.pointer (some ⟨bs.getD i 0, 0, none⟩))
theorem PtrsV.keep {S : List Nat} {w w' : World} {a : Option Addr} {n c : Nat} {bs : List Nat} (h : PtrsV w a n c bs) (k : Keep S w w') (hs : ∀ x, a = some x → x.block ∉ S) : PtrsV w' a n c bs :=
  ⟨h.len, h.room, h.most, fun hn => by
    obtain ⟨b, off, rfl, hc⟩ := h.cells hn
    exact ⟨b, off, rfl, fun i hi => k.cell (hc i hi) (hs ⟨b, off, none⟩ rfl)⟩⟩
def ptr (b : Nat) : Value := .pointer (some ⟨b, 0, none⟩)
theorem PtrsV.ofOwn {w : World} {base e n : Nat} {v : Value} {bs : List Nat} (h : w.ownsRow base e 1 v n (bs.map ptr)) : ∃ a c, v = .slice a n c ∧ PtrsV w a n c bs ∧ ∀ x, a = some x → base ≤ x.block ∧ ∃ cs, w.heap[x.block]? = some (.cells cs e (0, 0)) := by
  obtain ⟨hl, h⟩ := h
  have hn : bs.length = n := by simpa using hl
  rcases h with ⟨rfl, h0⟩ | ⟨g, cap, cur, rfl, hb, hg, hnc, hcm, hcs, ht⟩
  · subst h0
    exact ⟨none, 0, rfl, ⟨hn, Nat.le_refl _, Nat.zero_le _, fun h => absurd h (by decide)⟩, fun x hx => by cases hx⟩
  · refine ⟨_, _, rfl, ⟨hn, hnc, hcm, fun h0 => ⟨g, 0, rfl, fun i hi => ?_⟩⟩, fun x hx => by cases hx; exact ⟨hb, cur, hg⟩⟩
    rw [Nat.zero_add, cell_of_row w g i cur e (0, 0) hg]
    have : (cur.toList.take (n * 1))[i]? = (bs.map ptr)[i]? := by rw [ht]
    rw [List.getElem?_take, if_pos (by omega)] at this
    simp only [Array.getElem?_toList] at this
    rw [this]
    simp [List.getD_eq_getElem?_getD, hn ▸ hi, ptr]
end Go
namespace Go
theorem own_sep {w : World} {base base' e e' size size' n n' : Nat} {v v' : Value} {xs xs' : List Value} (h : w.ownsRow base e size v n xs) (h' : w.ownsRow base' e' size' v' n' xs') (hT : e ≠ e') : v.ownBlock = none ∨ v.ownBlock ≠ v'.ownBlock := by
  cases hv : v.ownBlock with
  | none => exact .inl rfl
  | some g => exact .inr fun he => own_own h h' hT g hv he.symm
end Go
namespace Go.Proofs.Ytmdfkbckpekchaa
open Go.RowKit
theorem pair_rows {w w2 : World} {Q g i M c o : Nat} {ys : List Value} (hv : VSl w (some ⟨g, 0, none⟩) M ys) (hi : i + 1 ≤ M) (hk : Keep [] w w2)
    (h0 : w2.cell? ⟨Q, 0, none⟩ = some (.slice (some ⟨g, 0, none⟩) i c)) (h1 : w2.cell? ⟨Q, 1, none⟩ = some (.slice (some ⟨g, o, none⟩) (M - (i + 1)) (c - (i + 1)))) (ho : o = i + 1 ∨ (o = 0 ∧ M = i + 1)) :
    VRows w2 Q 2 (fun _ => g) (fun k => if k = 0 then 0 else o) (fun k => if k = 0 then i else M - (i + 1)) (fun k => if k = 0 then c else c - (i + 1)) (fun k => if k = 0 then ys.take i else ys.drop (i + 1)) := by
  intro k hk2
  rcases (show k = 0 ∨ k = 1 by omega) with rfl | rfl
  · refine ⟨h0, ⟨by simp [hv.len]; omega, fun u hu => hv.one u (List.mem_of_mem_take hu), fun h => (by cases h), fun ad ha j u hu => ?_⟩⟩
    cases ha
    simp only [if_pos] at hu ⊢
    refine hk.cell (hv.cells _ rfl j u ?_) (by simp)
    rw [List.getElem?_take] at hu
    split at hu
    · exact hu
    · cases hu
  · refine ⟨h1, ⟨by simp [hv.len], fun u hu => hv.one u (List.mem_of_mem_drop hu), fun h => (by cases h), fun ad ha j u hu => ?_⟩⟩
    cases ha
    simp only [Nat.one_ne_zero, if_false] at hu ⊢
    rw [List.getElem?_drop] at hu
    refine hk.cell ?_ (by simp)
    rcases ho with rfl | ⟨rfl, rfl⟩
    · have := hv.cells _ rfl (i + 1 + j) u hu
      rw [Go.WideShapes.add_plain] at this ⊢
      rw [show i + 1 + j = 0 + (i + 1 + j) by omega]
      exact this
    · have h3 := (List.getElem?_eq_some_iff.1 hu).1
      rw [hv.len] at h3
      omega
theorem cut46 {wr : World} {g i M c o : Nat} {ys : List Value} (hv : VSl wr (some ⟨g, 0, none⟩) M ys) (hi : i + 1 ≤ M) (hM : M ≤ 1000) (ho : o = i + 1 ∨ (o = 0 ∧ M = i + 1)) :
    Calls Try.prog 46 #[.slice (some ⟨wr.heap.size, 0, none⟩) 2 2] (wr.alloc (.cells #[.slice (some ⟨g, 0, none⟩) i c, .slice (some ⟨g, o, none⟩) (M - (i + 1)) (c - (i + 1))] 22)).drew
      fun e w' => ∃ v, e = .returned v ∧ Keep [] wr w' ∧ w'.ownsRow wr.heap.size 3 1 v (M - 1) (ys.take i ++ ys.drop (i + 1)) := by
  have hk : Keep [] wr (wr.alloc (.cells #[.slice (some ⟨g, 0, none⟩) i c, .slice (some ⟨g, o, none⟩) (M - (i + 1)) (c - (i + 1))] 22)).drew := ((Keep.refl [] wr).alloc _).drew
  obtain ⟨h0, h1, _⟩ := row2 (blk_new wr (.cells #[.slice (some ⟨g, 0, none⟩) i c, .slice (some ⟨g, o, none⟩) (M - (i + 1)) (c - (i + 1))] 22))
  have hR := pair_rows (w2 := (wr.alloc (.cells #[.slice (some ⟨g, 0, none⟩) i c, .slice (some ⟨g, o, none⟩) (M - (i + 1)) (c - (i + 1))] 22)).drew) hv hi hk h0 h1 ho
  have hS : sumN (fun k => if k = 0 then i else M - (i + 1)) 2 = M - 1 := by simp [sumN]; omega
  refine (concat46_any hR (by omega) (Nat.le_refl _) (by unfold maxLen; omega) (by rw [hS]; omega)).mono ?_
  rintro e w' ⟨v, rfl, hk', ho'⟩
  rw [hS] at ho'
  simp only [catV, List.nil_append] at ho'
  exact ⟨v, rfl, hk.trans hk', own_base ho' hk.size⟩
set_option maxRecDepth 100000 in
set_option maxHeartbeats 8000000 in
theorem list31_any {a : Option Addr} {len cap t Bx : Nat} {vs : List Value} {w : World} (hv : VSl w a len vs) (hl : len ≤ 200) (hb : w.cell? ⟨Bx, 0, none⟩ = some (.int .i64 t)) (ht : t ≤ len) :
    Calls Try.prog 29 #[.slice a len cap, .func (.func 31) #[] #[.pointer (some ⟨Bx, 0, none⟩)]] w fun e w' => ∃ a' c', e = .returned (.tuple #[.slice a' t c', .int .i64 0]) ∧ Keep [] w w' := by
  have HV := Lib.hid hv
  have HA := Lib.hid (decide_eq_true ht)
  have HB : Hid (∀ w', Keep [] w w' → w'.cell? ⟨Bx, 0, none⟩ = some (.int .i64 t)) := Lib.hid (fun w' hk => hk.cell hb (by simp))
  clear hb
  clear hv
  have tok1 : True := trivial
  go_enter Try.func29, Try.ntmps29
  go_wp2_with (first | (with_reducible refine Txt.wp_region_text mixed quiet (by decide +kernel) ?_) | (with_reducible refine Txt.text_done (by kernel_rfl) ?_) | (go_at_call 45; have _t := tok1; (with_reducible refine (clone45_any HV.out (by omega)).mono ?_); rintro e w1 ⟨v1, rfl, hk1, ho1⟩; obtain ⟨a1, c1, rfl, -, -, -, -⟩ := own_sl ho1 HV.out.one; have HV1 := Lib.hid (HV.out.keep hk1); clear tok1 _t ho1; have tok2 : True := trivial) | (go_at_call 45; have _t := tok2; (with_reducible refine (clone45_any HV1.out (by omega)).mono ?_); rintro e w2 ⟨v2, rfl, hk2, ho2⟩; obtain ⟨a2, c2, rfl, -, -, -, -⟩ := own_sl ho2 HV.out.one; have HO2 := Lib.hid ho2; have hkk := hk1.trans hk2; clear tok2 _t ho2) | (go_at_call 31; (refine (few31 (HB.out _ hk1) HA.out (by omega)).mono ?_); rintro e w3 ⟨rfl, rfl⟩))
  have HON := Lib.hid HV.out.one
  go_loopw [6, 7, 8, 9] (fun v b _ _ wr => ∃ (L : Nat) (ag : Bool) (a3 : Option Addr) (c3 : Nat) (xs : List Value), v = .slice a3 L c3 ∧ b = .bool ag ∧ t ≤ L ∧ L ≤ 200 ∧ (ag = false → L = t) ∧ Keep [] w wr ∧ Hid (wr.ownsRow w.heap.size 3 1 (.slice a3 L c3) L xs) ∧ Hid (∀ u ∈ xs, u.oneCell' = true)) (fun v b _ _ _ => 2 * sliceN v + boolN b)
  case atStart => exact ⟨len, true, _, _, vs, rfl, rfl, ht, hl, fun h => (by cases h), hkk, Lib.hid (own_base HO2.out hk1.size), HON⟩
  case round =>
    obtain ⟨L, ag, a3, c3, xs, rfl, rfl, htL, hL, hag, hkw, HO, H1⟩ := hrel
    cases ag with
    | false =>
      obtain rfl := hag rfl
      clear hag
      go_wp2_with (first | (with_reducible refine Txt.wp_region_text mixed quiet (by decide +kernel) ?_) | (with_reducible refine Txt.text_done (by kernel_rfl) ?_))
      go_ret2
      exact ⟨_, _, rfl, hkw⟩
    | true =>
      clear hag
      go_wp2_with (first | (with_reducible refine Txt.wp_region_text mixed quiet (by decide +kernel) ?_) | (with_reducible refine Txt.text_done (by kernel_rfl) ?_))
      go_loopw [6, 7, 8, 9] (fun v b i _ wr' => ∃ (M : Nat) (ag : Bool) (k : Nat) (a4 : Option Addr) (c4 : Nat) (ys : List Value), v = .slice a4 M c4 ∧ b = .bool ag ∧ i = .int .i64 ((k : Int) - 1) ∧ k ≤ M ∧ t ≤ M ∧ M ≤ L ∧ (ag = true → M < L) ∧ (ag = false → M = L ∧ (k < L → L ≤ t)) ∧ Keep [] w wr' ∧ Hid (wr'.ownsRow w.heap.size 3 1 (.slice a4 M c4) M ys) ∧ Hid (∀ u ∈ ys, u.oneCell' = true)) (fun _ _ i _ _ => (intOf i + 1).toNat)
      case atStart => exact ⟨L, false, L, a3, c3, xs, rfl, rfl, rfl, by omega, htL, by omega, fun h => (by cases h), fun _ => ⟨rfl, fun h => absurd h (by omega)⟩, hkw, HO, H1⟩
      case round =>
        obtain ⟨M, ag, k, a4, c4, ys, rfl, rfl, rfl, hkM, htM, hML, hat, haf, hkw', HO4, H14⟩ := hrel
        cases k with
        | zero =>
          have hfin : ag = false → M = t := fun h => by
            obtain ⟨h1, h2⟩ := haf h
            by_cases h0 : 0 < L
            · have := h2 h0; omega
            · omega
          have hdec : decide ((0 : Int) ≤ ((0 : Nat) : Int) - 1) = false := by decide
          go_wp2_with (first | (with_reducible refine Txt.wp_region_text mixed quiet (by decide +kernel) ?_) | (with_reducible refine Txt.text_done (by kernel_rfl) ?_))
          go_roundw
          case measure =>
            cases ag with
            | true => have := hat rfl; simp [sliceN, boolN]; omega
            | false => simp [sliceN, boolN]; omega
          case rel => exact ⟨M, ag, a4, c4, ys, rfl, rfl, htM, by omega, hfin, hkw', HO4, H14⟩
        | succ i =>
          obtain ⟨a5, c5, he, hsl, hMc, hcm, hg⟩ := own_sl HO4.out H14.out
          injection he with e1 _ e3
          subst e1 e3
          obtain ⟨g, rfl⟩ := hg (by omega)
          unfold maxLen at hcm
          have HSL := Lib.hid hsl
          have hidx : (((i + 1 : Nat) : Int) - 1) = (i : Int) := by omega
          rw [hidx]
          clear hsl hidx
          obtain ⟨o, HOP, ho⟩ : ∃ o : Nat, Hid ((if c4 = i + 1 then some (⟨g, 0, none⟩ : Addr) else some ⟨g, i + 1, none⟩) = some ⟨g, o, none⟩) ∧ (o = i + 1 ∨ (o = 0 ∧ M = i + 1)) := by
            by_cases hc : c4 = i + 1
            · exact ⟨0, Lib.hid (by rw [if_pos hc]), .inr ⟨rfl, by omega⟩⟩
            · exact ⟨i + 1, Lib.hid (by rw [if_neg hc]), .inl rfl⟩
          have HHO := Lib.hid ho
          have hi1 : i + 1 ≤ M := hkM
          clear ho
          obtain ⟨A, hA⟩ : ∃ A, decide (t ≤ M - 1) = A := ⟨_, rfl⟩
          have HAA := Lib.hid hA
          clear hA
          have HX1 : Hid (∀ u ∈ ys.take i ++ ys.drop (i + 1), u.oneCell' = true) := Lib.hid (fun u hu => by
            rcases List.mem_append.1 hu with h | h
            · exact H14.out u (List.mem_of_mem_take h)
            · exact H14.out u (List.mem_of_mem_drop h))
          go_wp2_with (first | (with_reducible refine Txt.wp_region_text mixed quiet (by decide +kernel) ?_) | (with_reducible refine Txt.text_done (by kernel_rfl) ?_) | (go_at_call 46; rw [HOP.out]; (with_reducible refine (cut46 HSL.out hi1 (by omega) HHO.out).mono ?_); rintro e w5 ⟨v5, rfl, hk5, ho5⟩; obtain ⟨a6, c6, rfl, hsl6, -, -, -⟩ := own_sl ho5 HX1.out; have HO6 := Lib.hid (own_base ho5 hkw'.size); have HSL6 := Lib.hid hsl6; have hkw5 := hkw'.trans hk5; clear ho5 hsl6) | (go_at_call 45; (with_reducible refine (clone45_any HSL6.out (by omega)).mono ?_); rintro e w7 ⟨v7, rfl, hk7, ho7⟩; obtain ⟨a7, c7, rfl, -, -, -, -⟩ := own_sl ho7 HX1.out; have hkw7 := hkw5.trans hk7; have HO7 := Lib.hid (own_keep HO6.out hk7 (by simp)); clear ho7) | (go_at_call 31; (refine (few31 (HB.out _ hkw7) HAA.out (by omega)).mono ?_); rintro e w8 ⟨rfl, rfl⟩))
          all_goals go_roundw
          all_goals first | (case measure => (first | (simp [intOf]; done) | (simp [intOf]; omega))) | (case rel => (refine ⟨M - 1, true, i, a6, c6, _, rfl, rfl, rfl, by omega, of_decide_eq_true (HAA.out.trans (by assumption)), by omega, fun _ => by omega, fun h => (by cases h), hkw7, HO7, HX1⟩)) | (case rel => (have hB : ¬ t ≤ M - 1 := of_decide_eq_false (HAA.out.trans (by assumption)); exact ⟨M, ag, i, _, c4, _, rfl, rfl, rfl, by omega, htM, hML, hat, fun h => ⟨(haf h).1, fun _ => by have := (haf h).1; omega⟩, hkw7, Lib.hid (own_keep HO4.out (hk5.trans hk7) (by simp)), H14⟩))
set_option maxRecDepth 100000 in
set_option maxHeartbeats 8000000 in
theorem list30_any {a : Option Addr} {len cap : Nat} {vs : List Value} {w : World} (hv : VSl w a len vs) (hl : len ≤ 200) (ht : 1 ≤ len) :
    Calls Try.prog 29 #[.slice a len cap, .func (.func 30) #[] #[]] w fun e w' => ∃ a' c', e = .returned (.tuple #[.slice a' 1 c', .int .i64 0]) ∧ Keep [] w w' := by
  have HV := Lib.hid hv
  have HA := Lib.hid (decide_eq_true ht)
  clear hv
  have tok1 : True := trivial
  go_enter Try.func29, Try.ntmps29
  go_wp2_with (first | (with_reducible refine Txt.wp_region_text mixed quiet (by decide +kernel) ?_) | (with_reducible refine Txt.text_done (by kernel_rfl) ?_) | (go_at_call 45; have _t := tok1; (with_reducible refine (clone45_any HV.out (by omega)).mono ?_); rintro e w1 ⟨v1, rfl, hk1, ho1⟩; obtain ⟨a1, c1, rfl, -, -, -, -⟩ := own_sl ho1 HV.out.one; have HV1 := Lib.hid (HV.out.keep hk1); clear tok1 _t ho1; have tok2 : True := trivial) | (go_at_call 45; have _t := tok2; (with_reducible refine (clone45_any HV1.out (by omega)).mono ?_); rintro e w2 ⟨v2, rfl, hk2, ho2⟩; obtain ⟨a2, c2, rfl, -, -, -, -⟩ := own_sl ho2 HV.out.one; have HO2 := Lib.hid ho2; have hkk := hk1.trans hk2; clear tok2 _t ho2) | (go_at_call 30; (refine (few30 HA.out).mono ?_); rintro e w3 ⟨rfl, rfl⟩))
  have HON := Lib.hid HV.out.one
  go_loopw [6, 7, 8, 9] (fun v b _ _ wr => ∃ (L : Nat) (ag : Bool) (a3 : Option Addr) (c3 : Nat) (xs : List Value), v = .slice a3 L c3 ∧ b = .bool ag ∧ 1 ≤ L ∧ L ≤ 200 ∧ (ag = false → L = 1) ∧ Keep [] w wr ∧ Hid (wr.ownsRow w.heap.size 3 1 (.slice a3 L c3) L xs) ∧ Hid (∀ u ∈ xs, u.oneCell' = true)) (fun v b _ _ _ => 2 * sliceN v + boolN b)
  case atStart => exact ⟨len, true, _, _, vs, rfl, rfl, ht, hl, fun h => (by cases h), hkk, Lib.hid (own_base HO2.out hk1.size), HON⟩
  case round =>
    obtain ⟨L, ag, a3, c3, xs, rfl, rfl, htL, hL, hag, hkw, HO, H1⟩ := hrel
    cases ag with
    | false =>
      obtain rfl := hag rfl
      clear hag
      go_wp2_with (first | (with_reducible refine Txt.wp_region_text mixed quiet (by decide +kernel) ?_) | (with_reducible refine Txt.text_done (by kernel_rfl) ?_))
      go_ret2
      exact ⟨_, _, rfl, hkw⟩
    | true =>
      clear hag
      go_wp2_with (first | (with_reducible refine Txt.wp_region_text mixed quiet (by decide +kernel) ?_) | (with_reducible refine Txt.text_done (by kernel_rfl) ?_))
      go_loopw [6, 7, 8, 9] (fun v b i _ wr' => ∃ (M : Nat) (ag : Bool) (k : Nat) (a4 : Option Addr) (c4 : Nat) (ys : List Value), v = .slice a4 M c4 ∧ b = .bool ag ∧ i = .int .i64 ((k : Int) - 1) ∧ k ≤ M ∧ 1 ≤ M ∧ M ≤ L ∧ (ag = true → M < L) ∧ (ag = false → M = L ∧ (k < L → L ≤ 1)) ∧ Keep [] w wr' ∧ Hid (wr'.ownsRow w.heap.size 3 1 (.slice a4 M c4) M ys) ∧ Hid (∀ u ∈ ys, u.oneCell' = true)) (fun _ _ i _ _ => (intOf i + 1).toNat)
      case atStart => exact ⟨L, false, L, a3, c3, xs, rfl, rfl, rfl, by omega, htL, by omega, fun h => (by cases h), fun _ => ⟨rfl, fun h => absurd h (by omega)⟩, hkw, HO, H1⟩
      case round =>
        obtain ⟨M, ag, k, a4, c4, ys, rfl, rfl, rfl, hkM, htM, hML, hat, haf, hkw', HO4, H14⟩ := hrel
        cases k with
        | zero =>
          have hfin : ag = false → M = 1 := fun h => by
            obtain ⟨h1, h2⟩ := haf h
            by_cases h0 : 0 < L
            · have := h2 h0; omega
            · omega
          have hdec : decide ((0 : Int) ≤ ((0 : Nat) : Int) - 1) = false := by decide
          go_wp2_with (first | (with_reducible refine Txt.wp_region_text mixed quiet (by decide +kernel) ?_) | (with_reducible refine Txt.text_done (by kernel_rfl) ?_))
          go_roundw
          case measure =>
            cases ag with
            | true => have := hat rfl; simp [sliceN, boolN]; omega
            | false => simp [sliceN, boolN]; omega
          case rel => exact ⟨M, ag, a4, c4, ys, rfl, rfl, htM, by omega, hfin, hkw', HO4, H14⟩
        | succ i =>
          obtain ⟨a5, c5, he, hsl, hMc, hcm, hg⟩ := own_sl HO4.out H14.out
          injection he with e1 _ e3
          subst e1 e3
          obtain ⟨g, rfl⟩ := hg (by omega)
          unfold maxLen at hcm
          have HSL := Lib.hid hsl
          have hidx : (((i + 1 : Nat) : Int) - 1) = (i : Int) := by omega
          rw [hidx]
          clear hsl hidx
          obtain ⟨o, HOP, ho⟩ : ∃ o : Nat, Hid ((if c4 = i + 1 then some (⟨g, 0, none⟩ : Addr) else some ⟨g, i + 1, none⟩) = some ⟨g, o, none⟩) ∧ (o = i + 1 ∨ (o = 0 ∧ M = i + 1)) := by
            by_cases hc : c4 = i + 1
            · exact ⟨0, Lib.hid (by rw [if_pos hc]), .inr ⟨rfl, by omega⟩⟩
            · exact ⟨i + 1, Lib.hid (by rw [if_neg hc]), .inl rfl⟩
          have HHO := Lib.hid ho
          have hi1 : i + 1 ≤ M := hkM
          clear ho
          obtain ⟨A, hA⟩ : ∃ A, decide (1 ≤ M - 1) = A := ⟨_, rfl⟩
          have HAA := Lib.hid hA
          clear hA
          have HX1 : Hid (∀ u ∈ ys.take i ++ ys.drop (i + 1), u.oneCell' = true) := Lib.hid (fun u hu => by
            rcases List.mem_append.1 hu with h | h
            · exact H14.out u (List.mem_of_mem_take h)
            · exact H14.out u (List.mem_of_mem_drop h))
          go_wp2_with (first | (with_reducible refine Txt.wp_region_text mixed quiet (by decide +kernel) ?_) | (with_reducible refine Txt.text_done (by kernel_rfl) ?_) | (go_at_call 46; rw [HOP.out]; (with_reducible refine (cut46 HSL.out hi1 (by omega) HHO.out).mono ?_); rintro e w5 ⟨v5, rfl, hk5, ho5⟩; obtain ⟨a6, c6, rfl, hsl6, -, -, -⟩ := own_sl ho5 HX1.out; have HO6 := Lib.hid (own_base ho5 hkw'.size); have HSL6 := Lib.hid hsl6; have hkw5 := hkw'.trans hk5; clear ho5 hsl6) | (go_at_call 45; (with_reducible refine (clone45_any HSL6.out (by omega)).mono ?_); rintro e w7 ⟨v7, rfl, hk7, ho7⟩; obtain ⟨a7, c7, rfl, -, -, -, -⟩ := own_sl ho7 HX1.out; have hkw7 := hkw5.trans hk7; have HO7 := Lib.hid (own_keep HO6.out hk7 (by simp)); clear ho7) | (go_at_call 30; (refine (few30 HAA.out).mono ?_); rintro e w8 ⟨rfl, rfl⟩))
          all_goals go_roundw
          all_goals first | (case measure => (first | (simp [intOf]; done) | (simp [intOf]; omega))) | (case rel => (refine ⟨M - 1, true, i, a6, c6, _, rfl, rfl, rfl, by omega, of_decide_eq_true (HAA.out.trans (by assumption)), by omega, fun _ => by omega, fun h => (by cases h), hkw7, HO7, HX1⟩)) | (case rel => (have hB : ¬ 1 ≤ M - 1 := of_decide_eq_false (HAA.out.trans (by assumption)); exact ⟨M, ag, i, _, c4, _, rfl, rfl, rfl, by omega, htM, hML, hat, fun h => ⟨(haf h).1, fun _ => by have := (haf h).1; omega⟩, hkw7, Lib.hid (own_keep HO4.out (hk5.trans hk7) (by simp)), H14⟩))
theorem list31_none {a : Option Addr} {len cap t Bx : Nat} {vs : List Value} {w : World} (hv : VSl w a len vs) (hl : len ≤ 200) (hb : w.cell? ⟨Bx, 0, none⟩ = some (.int .i64 t)) (ht : len < t) :
    Calls Try.prog 29 #[.slice a len cap, .func (.func 31) #[] #[.pointer (some ⟨Bx, 0, none⟩)]] w fun e w' => e = .returned (.tuple #[.slice none 0 0, .int .i64 4]) ∧ Keep [] w w' := by
  have HV := Lib.hid hv
  have HA := Lib.hid (decide_eq_false (show ¬ t ≤ len by omega))
  have HB : Hid (∀ w', Keep [] w w' → w'.cell? ⟨Bx, 0, none⟩ = some (.int .i64 t)) := Lib.hid (fun w' hk => hk.cell hb (by simp))
  clear hb hv
  go_enter Try.func29, Try.ntmps29
  go_wp2_with (first | (with_reducible refine Txt.wp_region_text mixed quiet (by decide +kernel) ?_) | (with_reducible refine Txt.text_done (by kernel_rfl) ?_) | (go_at_call 45; (with_reducible refine (clone45_any HV.out (by omega)).mono ?_); rintro e w1 ⟨v1, rfl, hk1, ho1⟩; obtain ⟨a1, c1, rfl, -, -, -, -⟩ := own_sl ho1 HV.out.one; clear ho1) | (go_at_call 31; (refine (few31 (HB.out _ hk1) HA.out (by omega)).mono ?_); rintro e w3 ⟨rfl, rfl⟩))
  go_ret2
  exact ⟨rfl, hk1⟩
end Go.Proofs.Ytmdfkbckpekchaa
namespace Go.Proofs.Ytmdfkbckpekchaa
open Go.RowKit
theorem vsl_ints {w : World} {a : Option Addr} {n c : Nat} {z : List Int} (h : IntsV w a n c z) {m : Nat} (hm : m ≤ n) : VSl w a m ((z.take m).map (Value.int .i64)) := by
  refine ⟨by simp [h.len]; omega, fun u hu => ?_, fun ha => ?_, fun ad ha j u hu => ?_⟩
  · obtain ⟨x, _, rfl⟩ := List.mem_map.1 hu; rfl
  · rcases Nat.eq_zero_or_pos m with h0 | h0
    · exact h0
    · obtain ⟨b, off, h1, _⟩ := h.cells (by omega)
      rw [ha] at h1; cases h1
  · rw [List.getElem?_map] at hu
    obtain ⟨x, hx, rfl⟩ := Option.map_eq_some_iff.1 hu
    rw [List.getElem?_take] at hx
    split at hx
    · rename_i hj
      obtain ⟨b, off, h1, h2⟩ := h.cells (by omega)
      have h3 := h2 j (by omega)
      rw [ha] at h1
      cases h1
      rw [Go.WideShapes.add_plain, h3, List.getD_eq_getElem?_getD, hx]; rfl
    · cases hx
theorem pair12 (w : World) (n : Int) : VSl ((w.alloc (.cells #[.int .i64 n] 3)).alloc (.cells #[.int .i64 1, .int .i64 2] 3)) (some ⟨w.heap.size + 1, 0, none⟩) 2 [.int .i64 1, .int .i64 2] := by
  have hs : (w.alloc (.cells #[.int .i64 n] 3)).heap.size = w.heap.size + 1 := by
    show (w.heap.push _).size = _
    rw [Array.size_push]
  have hB := blk_new (w.alloc (.cells #[.int .i64 n] 3)) (.cells #[.int .i64 1, .int .i64 2] 3)
  rw [hs] at hB
  obtain ⟨h0, h1, _⟩ := row2 hB
  refine ⟨rfl, fun u hu => ?_, fun h => (by cases h), fun ad ha j u hu => ?_⟩
  · simp at hu
    rcases hu with rfl | rfl <;> rfl
  · cases ha
    rw [Go.WideShapes.add_plain]
    match j, hu with
    | 0, hu => cases hu; exact h0
    | 1, hu => cases hu; exact h1
set_option maxRecDepth 100000 in
set_option maxHeartbeats 4000000 in
theorem shrinkFew (a : Option Addr) (len cap : Nat) (z : List Int) (n : Int) (w : World) (f : IntsV w a len cap z) :
    Calls Try.prog 7 #[.slice a len cap, .int .i64 n] w fun e w' => e = .returned (.bool true) ∧ Keep [] w w' := by
  obtain ⟨t, ht⟩ : ∃ t : Nat, restI n 201 = t := ⟨(restI n 201).toNat, by have := restI_lo n (n := 201) (by decide); omega⟩
  have ht2 : t ≤ 200 := by have := restI_hi n (n := 201) (by decide); omega
  obtain ⟨N, hN⟩ : ∃ N : Nat, (if (200 : Int) < len then 200 else (len : Int)) = N := by
    by_cases h : (200 : Int) < len
    · exact ⟨200, by rw [if_pos h]; rfl⟩
    · exact ⟨len, by rw [if_neg h]⟩
  have hN2 : N ≤ 200 ∧ N ≤ len := by split at hN <;> omega
  have hfm := f.most
  have hfr := f.room
  unfold maxLen at hfm
  have HT := Lib.hid ht
  have HV : Hid (VSl w a N ((z.take N).map (Value.int .i64))) := Lib.hid (vsl_ints f hN2.2)
  have HMN : Hid ((min (len : Int) 200).toNat = N) := Lib.hid (by split at hN <;> omega)
  clear ht f hN
  obtain ⟨hN3, hN4⟩ := hN2
  have tok1 : True := trivial
  have HK0 := Lib.hid (((Keep.refl [] w).alloc (.cells #[.int .i64 n] 3)).alloc (.cells #[.int .i64 1, .int .i64 2] 3))
  have HB0 : Hid (((w.alloc (.cells #[.int .i64 n] 3)).alloc (.cells #[.int .i64 1, .int .i64 2] 3)).heap[w.heap.size]? = some (.cells #[.int .i64 n] 3 (0, 0))) := Lib.hid (by rw [blk_alloc, if_neg (by have := lt_of_blk (blk_new w (.cells #[.int .i64 n] 3)); omega), blk_new])
  by_cases hc : t ≤ N
  · go_enter Try.func7, Try.ntmps7
    go_wp2_with (first | (with_reducible refine Txt.wp_region_text mixed quiet (by decide +kernel) ?_) | (with_reducible refine Txt.text_done (by kernel_rfl) ?_) | (go_at_call 20; (with_reducible refine (rest_any _ _ _ (by decide) (by decide)).mono ?_); rintro e w1 ⟨rfl, rfl⟩; rw [HT.out]) | (go_at_call 29; have _t := tok1; (with_reducible refine (list30_any (pair12 w n) (by decide) (by decide)).mono ?_); rintro e w1 ⟨a1, c1, rfl, hk1⟩; obtain ⟨hb1, hfz1⟩ := row1 (hk1.at HB0.out (by simp)); have hk2 := (HK0.out.trans hk1).setCell (a := w.heap.size) (i := 0) (.inr (Nat.le_refl _)) (.int .i64 t); have HB2 : Hid ((w1.setCell ⟨w.heap.size, 0, none⟩ (.int .i64 t)).heap[w.heap.size]? = some (.cells #[.int .i64 t] 3 (0, 0))) := Lib.hid (by rw [blk_setCell, if_pos rfl, hk1.at HB0.out (by simp)]; rfl); obtain ⟨hb2, _⟩ := row1 HB2.out; clear tok1 _t) | (go_at_call 29; rw [HMN.out]; (refine (list31_any (HV.out.keep hk2) hN3 hb2 hc).mono ?_); rintro e w2 ⟨a2, c2, rfl, hk3⟩; obtain ⟨hb3, _⟩ := row1 (hk3.at HB2.out (by simp)); have hk4 := hk2.trans hk3))
    all_goals (go_ret; exact ⟨by first | rfl | (simp; done), hk4⟩)
  · have hc' : N < t := by omega
    clear hc
    go_enter Try.func7, Try.ntmps7
    go_wp2_with (first | (with_reducible refine Txt.wp_region_text mixed quiet (by decide +kernel) ?_) | (with_reducible refine Txt.text_done (by kernel_rfl) ?_) | (go_at_call 20; (with_reducible refine (rest_any _ _ _ (by decide) (by decide)).mono ?_); rintro e w1 ⟨rfl, rfl⟩; rw [HT.out]) | (go_at_call 29; have _t := tok1; (with_reducible refine (list30_any (pair12 w n) (by decide) (by decide)).mono ?_); rintro e w1 ⟨a1, c1, rfl, hk1⟩; obtain ⟨hb1, hfz1⟩ := row1 (hk1.at HB0.out (by simp)); have hk2 := (HK0.out.trans hk1).setCell (a := w.heap.size) (i := 0) (.inr (Nat.le_refl _)) (.int .i64 t); have HB2 : Hid ((w1.setCell ⟨w.heap.size, 0, none⟩ (.int .i64 t)).heap[w.heap.size]? = some (.cells #[.int .i64 t] 3 (0, 0))) := Lib.hid (by rw [blk_setCell, if_pos rfl, hk1.at HB0.out (by simp)]; rfl); obtain ⟨hb2, _⟩ := row1 HB2.out; clear tok1 _t) | (go_at_call 29; rw [HMN.out]; (refine (list31_none (HV.out.keep hk2) hN3 hb2 hc').mono ?_); rintro e w2 ⟨rfl, hk3⟩; obtain ⟨hb3, _⟩ := row1 (hk3.at HB2.out (by simp)); have hk4 := hk2.trans hk3))
    all_goals (go_ret; exact ⟨by first | rfl | (simp; done), hk4⟩)
end Go.Proofs.Ytmdfkbckpekchaa
