/- Texts laid together: M2 WP1 WRst R6 W1 W2 R8 W3 W4 W5. -/
import Derived.Test.YtfgipbjaaciiiaaMg2
import Derived.Test.YtfgipbjaaciiiaaRows
import Derived.Laws.CopyRow
import Derived.Shelf.SlicesE.Clone
/- A map from integers to integers, as a function: nought where there is nothing. -/
namespace Go
open Go.Maps (Keyed)
def MapI (w : World) (P : Program) (k : TypeId) (b n : Nat) (r : Int → Int) : Prop :=
  ∃ f, MapF w P k b n f ∧ ∀ x, (f x).getD (.int .i64 0) = .int .i64 (r x)
section
variable {w w' : World} {P : Program} {k : TypeId} {b n : Nat} {r : Int → Int}
theorem MapI.made (w : World) (P : Program) (k : TypeId) : MapI (w.alloc (.map #[] 0)) P k w.heap.size 0 (fun _ => 0) := ⟨_, MapF.made w P k, fun _ => rfl⟩
theorem MapI.lt (h : MapI w P k b n r) : b < w.heap.size := let ⟨_, h1, _⟩ := h; h1.lt
theorem MapI.keep {S : List Nat} (h : MapI w P k b n r) (hk : Keep S w w') (hs : b ∉ S) : MapI w' P k b n r := let ⟨f, h1, h2⟩ := h; ⟨f, h1.keep hk hs, h2⟩
theorem MapI.mono (h : MapI w P k b n r) {n' : Nat} (hn : n ≤ n') : MapI w P k b n' r := let ⟨f, h1, h2⟩ := h; ⟨f, h1.mono hn, h2⟩
theorem MapI.notCells (h : MapI w P k b n r) {c : Nat} {cs : Array Value} {T : TypeId} {g : Nat × Nat} (hc : w.heap[c]? = some (.cells cs T g)) : b ≠ c := let ⟨_, h1, _⟩ := h; h1.notCells hc
theorem keep_turned (h : w.mapTurned w' b) : Keep [b] w w' := by
  obtain ⟨es, clock, es', clock', hb, rfl⟩ := h
  refine ⟨rfl, rfl, rfl, ?_, fun i hi hs => ?_⟩
  · show w.heap.size ≤ (w.heap.setIfInBounds b _).size
    simp
  · show (w.heap.setIfInBounds b _)[i]? = w.heap[i]?
    rw [Array.getElem?_setIfInBounds_ne (fun e => hs (by simp [e]))]
end
theorem wpList_lookup_i {P : Program} (w : World) {ops : Array Oper} {rest : List Oper} {o : Oper} {a : Act} {Q : Exit → Act → World → Prop}
    (hg : o.guard = none) (m x : Operand) (t : TypeId) (hop : o.op = Op.lookup t m x false)
    (k e : TypeId) (ht : P.underlying t = some (.map k e)) (hki : P.underlying k = some (.int .i64)) (hz : (zeroValue e).run P w = .ok (.int .i64 0) w) (b n : Nat) (r : Int → Int)
    (hm : a.eval m = .map (some b)) (hown : MapI w P k b n r) (key : Int) (hx : a.eval x = .int .i64 key) (hwf : (Lit.int .i64 key).wf = true)
    (hK : wpList P ops Q rest (a.put o.dst (.int .i64 (r key))) w) : wpList P ops Q (o :: rest) a w := by
  obtain ⟨f, h1, h2⟩ := hown
  exact wpList_lookup_f w hg m x t hop k e ht hki _ hz b n f hm h1 key hx hwf (by rw [h2]; exact hK)
theorem lookup_run_i {P : Program} {w : World} {t k e : TypeId} {b n : Nat} {r : Int → Int} {key : Int} (ht : P.underlying t = some (.map k e)) (hki : P.underlying k = some (.int .i64)) (hz : (zeroValue e).run P w = .ok (.int .i64 0) w) (hown : MapI w P k b n r) (hwf : (Lit.int .i64 key).wf = true) :
    (Instr.lookup t (.map (some b)) (.int .i64 key) false).run P w = .ok (.int .i64 (r key)) w := by
  obtain ⟨f, ⟨D, h1, h2, h3, _⟩, hf⟩ := hown
  obtain ⟨v, ps, hrun, hv⟩ := h1.lookup (Maps.int_keyed hki) ht hz (show asIs (.int .i64 0) = some (.held (.int .i64 0), []) from rfl) (keyI64 hki hwf)
  have hve : v = (f key).getD (.int .i64 0) := by
    rw [h3] at hv
    unfold asIs at hv
    injection hv with hv
    injection hv with hv _
    injection hv
  rw [hrun, hve, hf]
theorem put_i {w' : World} {P : Program} {k : TypeId} {b n : Nat} {r : Int → Int} {D : DataW Value} {f : Int → Option Value} {key v : Int} (hkl : WideAt.IsKeyLit (.int .i64 key)) (h2 : Maps.IsMap D) (h3 : ∀ x z, D.atKey (.int .i64 x) (.held z) = .held ((f x).getD z)) (h4 : ∀ x, Maps.has D (.int .i64 x) = (f x).isSome)
    (hf : ∀ x, (f x).getD (.int .i64 0) = .int .i64 (r x)) (ho : w'.ownsMap P k asIs b n (D.put (.int .i64 key) (.held (.int .i64 v)))) : MapI w' P k b n (fun y => if y = key then v else r y) := by
  refine ⟨fun y => if y = key then some (.int .i64 v) else f y, ⟨_, ho, ?_, fun y z => ?_, fun y => ?_⟩, fun y => ?_⟩
  · obtain ⟨es, rfl⟩ := h2
    exact ⟨_, rfl⟩
  · by_cases e1 : y = key
    · subst e1
      rw [Maps.atKey_put_same h2 hkl]; simp
    · rw [Maps.atKey_put_other (fun h => e1 (by injection h)), h3]; simp [e1]
  · by_cases e1 : y = key
    · subst e1
      rw [Maps.has_put_same h2 hkl]; simp
    · rw [Maps.has_put_other (fun h => e1 (by injection h)), h4]; simp [e1]
  · by_cases e1 : y = key
    · simp [e1]
    · simp [e1, hf]
theorem update_run_i {P : Program} {w : World} {t k e : TypeId} {b n : Nat} {r : Int → Int} {key v : Int} (ht : P.underlying t = some (.map k e)) (hki : P.underlying k = some (.int .i64)) (hown : MapI w P k b n r) (hn : n < maxLen) (hwf : (Lit.int .i64 key).wf = true) :
    ∃ w', (Instr.mapUpdate t (.map (some b)) (.int .i64 key) (.int .i64 v)).run P w = .ok () w' ∧ MapI w' P k b (n + 1) (fun y => if y = key then v else r y) ∧ Keep [b] w w' := by
  obtain ⟨f, ⟨D, h1, h2, h3, h4⟩, hf⟩ := hown
  have hkey := keyI64 hki hwf
  obtain ⟨w', hrun, h5, h6⟩ := h1.store (Maps.int_keyed hki) ht hn (val := .int .i64 v) hkey (show asIs (.int .i64 v) = some (.held (.int .i64 v), []) from rfl)
  exact ⟨w', hrun, put_i ((Maps.int_keyed hki).key hkey) h2 h3 h4 hf h5, keep_turned h6⟩
theorem wpList_update_i {P : Program} (w : World) {ops : Array Oper} {rest : List Oper} {o : Oper} {a : Act} {Q : Exit → Act → World → Prop}
    (hg : o.guard = none) (m x v : Operand) (t : TypeId) (hop : o.op = Op.mapUpdate t m x v ∨ o.op = Op.insert t m x v)
    (k e : TypeId) (ht : P.underlying t = some (.map k e)) (hki : P.underlying k = some (.int .i64)) (b n : Nat) (r : Int → Int)
    (hm : a.eval m = .map (some b)) (hown : MapI w P k b n r) (hn : n < maxLen) (key val : Int) (hx : a.eval x = .int .i64 key) (hv : a.eval v = .int .i64 val) (hwf : (Lit.int .i64 key).wf = true)
    (hK : ∀ w', MapI w' P k b (n + 1) (fun y => if y = key then val else r y) → Keep [b] w w' → wpList P ops Q rest (a.put o.dst undef) w') : wpList P ops Q (o :: rest) a w := by
  refine wpList_plain hg fun K' hK' => ?_
  obtain ⟨w', hrun, h5, h6⟩ := update_run_i (v := val) ht hki hown hn hwf
  unfold Oper.wp
  rcases hop with hop | hop
  all_goals
    simp [execOp, hop, hm, hx, hv, hrun, Result.andThen]
    exact hK' _ _ (hK w' h5 h6)
theorem wpList_delete_i {P : Program} (w : World) {ops : Array Oper} {rest : List Oper} {o : Oper} {a : Act} {Q : Exit → Act → World → Prop}
    (hg : o.guard = none) (m x : Operand) (t k : TypeId) (hop : o.op = Op.call { callee := Callee.builtin Builtin.delete, args := #[m, x], argTypes := #[t, k] })
    (e : TypeId) (ht : P.underlying t = some (.map k e)) (hki : P.underlying k = some (.int .i64)) (b n : Nat) (r : Int → Int)
    (hm : a.eval m = .map (some b)) (hown : MapI w P k b n r) (key : Int) (hx : a.eval x = .int .i64 key) (hwf : (Lit.int .i64 key).wf = true)
    (hK : ∀ w', MapI w' P k b n (fun y => if y = key then 0 else r y) → Keep [b] w w' → wpList P ops Q rest (a.put o.dst (.tuple #[])) w') : wpList P ops Q (o :: rest) a w := by
  obtain ⟨f, ⟨D, h1, h2, h3, h4⟩, hf⟩ := hown
  refine wpList_delete_own w hg m x t k hop e (Maps.int_keyed hki) ht asIs b n D hm h1 _ _ hx (keyI64 hki hwf) fun w' h5 h6 => hK w' ⟨fun y => if y = key then none else f y, ⟨_, h5, ?_, fun y z => ?_, fun y => ?_⟩, fun y => ?_⟩ (keep_turned h6)
  · obtain ⟨es, rfl⟩ := h2
    exact ⟨_, rfl⟩
  · by_cases e1 : y = key
    · subst e1
      rw [Maps.atKey_del_same]; simp
    · rw [Maps.atKey_del_other (fun h => e1 (by injection h)), h3]; simp [e1]
  · by_cases e1 : y = key
    · subst e1
      rw [Maps.has_del_same]; simp
    · rw [Maps.has_del_other (fun h => e1 (by injection h)), h4]; simp [e1]
  · by_cases e1 : y = key
    · simp [e1]
    · simp [e1, hf]
end Go
/- Weighted reference counting, in plain words. -/
namespace Go
structure Wy where
  to : Int
  th : Nat
  wt : Int
  back : Bool
structure Tg where
  home : Int
  back : Int
  refs : Int → Int
structure WS where
  nodes : Int
  th : List Tg
  ways : List Wy
def Wy.cells (x : Wy) : List Value := [.int .i64 x.to, .int .i64 x.th, .int .i64 x.wt, .bool x.back]
def waysC (l : List Wy) : List Value := l.flatMap Wy.cells
theorem waysC_len (l : List Wy) : (waysC l).length = l.length * 4 := by
  induction l with
  | nil => rfl
  | cons a l ih => rw [waysC, List.flatMap_cons, List.length_append]; show 4 + (waysC l).length = _; rw [ih, List.length_cons]; omega
theorem waysC_snoc (l : List Wy) (x : Wy) : waysC (l ++ [x]) = waysC l ++ x.cells := by simp [waysC]
def noTg : Tg := ⟨0, 0, fun _ => 0⟩
def noWy : Wy := ⟨0, 0, 0, false⟩
def tgAt (s : WS) (k : Nat) : Tg := s.th.getD k noTg
def wyAt (s : WS) (k : Nat) : Wy := s.ways.getD k noWy
def isN (s : WS) (x : Int) : Bool := decide (0 ≤ x) && decide (x < s.nodes)
/-- What Has says: the weight, and the error. -/
def hasW (s : WS) (node t : Int) : Int × Int :=
  if isN s node = true ∧ 0 ≤ t ∧ t < s.th.length then
    if (tgAt s t.toNat).refs node = 0 then (0, 4) else ((tgAt s t.toNat).refs node, 0)
  else (0, 1)
def setRef (s : WS) (t : Nat) (node v : Int) : WS := { s with th := s.th.set t { tgAt s t with refs := fun y => if y = node then v else (tgAt s t).refs y } }
def addBack (s : WS) (t : Nat) (v : Int) : WS := { s with th := s.th.set t { tgAt s t with back := v } }
def makeW (s : WS) (node : Int) : WS × Int × Int :=
  if isN s node = true then
    if s.th.length = 20 then (s, 0, 6) else ({ s with th := s.th ++ [⟨node, 0, fun y => if y = node then 65536 else 0⟩] }, s.th.length, 0)
  else (s, 0, 1)
def sendW (s : WS) (node t to : Int) : WS × Int :=
  if (hasW s node t).2 ≠ 0 then (s, (hasW s node t).2)
  else if isN s to = false ∨ to = node then (s, 1)
  else if s.ways.length = 60 then (s, 6)
  else if (hasW s node t).1 = 1 then (s, 8)
  else ({ setRef s t.toNat node ((hasW s node t).1 - (hasW s node t).1 / 2) with ways := s.ways ++ [⟨to, t.toNat, (hasW s node t).1 / 2, false⟩] }, 0)
def dropW (s : WS) (node t : Int) : WS × Int :=
  if (hasW s node t).2 ≠ 0 then (s, (hasW s node t).2)
  else if s.ways.length = 60 then (s, 6)
  else ({ setRef s t.toNat node 0 with ways := s.ways ++ [⟨(tgAt s t.toNat).home, t.toNat, (hasW s node t).1, true⟩] }, 0)
def comeW (s : WS) (i : Int) : WS × Int :=
  if 0 ≤ i ∧ i < s.ways.length then
    let x := wyAt s i.toNat
    let s' : WS := { s with ways := s.ways.eraseIdx i.toNat }
    (if x.back = true then addBack s' x.th ((tgAt s x.th).back + x.wt) else setRef s' x.th x.to ((tgAt s x.th).refs x.to + x.wt), 0)
  else (s, 4)
theorem th_set {l : List Tg} {t : Nat} (ht : t < l.length) (g : Tg) (k : Nat) : (l.set t g).getD k noTg = if k = t then g else l.getD k noTg := by
  simp only [List.getD_eq_getElem?_getD, List.getElem?_set]
  by_cases e : t = k
  · subst e; simp [ht]
  · rw [if_neg e, if_neg (fun h => e h.symm)]
theorem tgAt_setRef {s : WS} {t : Nat} (ht : t < s.th.length) (node v : Int) (k : Nat) : tgAt (setRef s t node v) k = if k = t then { tgAt s t with refs := fun y => if y = node then v else (tgAt s t).refs y } else tgAt s k := th_set ht _ k
theorem tgAt_addBack {s : WS} {t : Nat} (ht : t < s.th.length) (v : Int) (k : Nat) : tgAt (addBack s t v) k = if k = t then { tgAt s t with back := v } else tgAt s k := th_set ht _ k
/-- All numbers are small, and every message is of an object that there is. -/
structure WBd (s : WS) : Prop where
  nodes : 1 ≤ s.nodes ∧ s.nodes ≤ 8
  len : s.th.length ≤ 20
  way : s.ways.length ≤ 60
  tg : ∀ k, k < s.th.length → (0 ≤ (tgAt s k).home ∧ (tgAt s k).home < s.nodes) ∧ 0 ≤ (tgAt s k).back ∧ (tgAt s k).back ≤ 65536 ∧ ∀ x, 0 ≤ (tgAt s k).refs x ∧ (tgAt s k).refs x ≤ 65536
  wy : ∀ x ∈ s.ways, x.th < s.th.length ∧ (0 ≤ x.to ∧ x.to < s.nodes) ∧ 0 ≤ x.wt ∧ x.wt ≤ 65536
end Go
namespace Go.Proofs.Ytfgipbjaaciiiaa
open Go.RowKit
theorem mixed : Try.prog.follows .mixedOrders = true := by kernel_rfl
set_option maxHeartbeats 400000 in
theorem rest_any (k n : Int) (w : World) (hn : 0 < n) (hn1 : n ≤ 1000000000) : Calls Try.prog 12 #[.int .i64 k, .int .i64 n] w fun e w' => e = .returned (.int .i64 (restI k n)) ∧ w = w' := by
  have hr := Lib.hid (rest_eq k n hn hn1)
  go_enter Try.func12, Try.ntmps12
  go_wp2_with fail
  go_ret
  exact ⟨ret_int hr.out, rfl⟩
theorem rest_at {k n q : Int} {w : World} (h : Hid (restI k n = q)) (hn : 0 < n) (hn1 : n ≤ 1000000000) : Calls Try.prog 12 #[.int .i64 k, .int .i64 n] w fun e w' => e = .returned (.int .i64 q) ∧ w = w' := by
  have := rest_any k n w hn hn1
  rw [h.out] at this
  exact this
/-- 'Rest' neither reads nor writes memory. -/
def isRest (args : Array Value) : Bool :=
  match args.toList with
  | [.int .i64 _, .int .i64 n] => decide (0 < n) && decide (n ≤ 1000000000)
  | _ => false
def quiets : Txt.Quiet := ⟨[12], fun f args => f == 12 && isRest args⟩
theorem quiet : Txt.QuietOk Try.prog quiets := by
  intro f args h
  simp only [quiets, Bool.and_eq_true, beq_iff_eq] at h
  obtain ⟨rfl, h⟩ := h
  refine ⟨by kernel_rfl, fun w => ?_, ?_⟩
  · have h1 : (Try.f12.name == "runtime.NumGoroutine") = false := by kernel_rfl
    have h2 : Try.f12.body.isNone = false := by kernel_rfl
    simp only [callFunc, Sem.run_bind, run_program, Result.andThen_ok, Try.func12, h1, h2, Bool.false_eq_true, if_false, Sem.run_pure]
  · unfold isRest at h
    split at h
    · rename_i k n he
      obtain rfl : args = #[.int .i64 k, .int .i64 n] := by cases args; simp_all
      simp only [Bool.and_eq_true, decide_eq_true_eq] at h
      exact ⟨_, fun w => rest_any k n w h.1 h.2⟩
    · cases h
theorem info3 : (Try.prog.info? 3).map (fun i => (i.zero, i.size, i.bytes)) = some (some (.int .i64 0), 1, 8) := by kernel_rfl
theorem rest_nat (k n : Int) (hn : 0 < n) : ∃ q : Nat, restI k n = q ∧ (q : Int) < n := by
  have h0 := restI_lo k hn
  have h1 := restI_hi k hn
  exact ⟨(restI k n).toNat, by omega, by omega⟩
end Go.Proofs.Ytfgipbjaaciiiaa
namespace Go
/-- What the call's own appended row reads as. -/
theorem IntsV.ofOwn {w : World} {base e : Nat} {v : Value} {n : Nat} {zs : List Int} (h : w.ownsRow base e 1 v n (zs.map (Value.int .i64))) (hw : ∀ z ∈ zs, (Lit.int .i64 z).wf = true) :
    ∃ a c, v = .slice a n c ∧ IntsV w a n c zs ∧ ∀ x, a = some x → base ≤ x.block := by
  obtain ⟨hl, h⟩ := h
  have hn : zs.length = n := by simpa using hl
  rcases h with ⟨rfl, rfl⟩ | ⟨g, cap, cur, rfl, hb, hg, hnc, hcm, hcs, ht⟩
  · exact ⟨none, 0, rfl, ⟨hn, Nat.le_refl _, Nat.zero_le _, hw, fun h => absurd h (by decide)⟩, fun x hx => by cases hx⟩
  · refine ⟨_, _, rfl, ⟨hn, hnc, hcm, hw, fun h0 => ⟨g, 0, rfl, fun i hi => ?_⟩⟩, fun x hx => by cases hx; exact hb⟩
    rw [Nat.zero_add, cell_of_row w g i cur e (0, 0) hg]
    have : (cur.toList.take (n * 1))[i]? = (zs.map (Value.int .i64))[i]? := by rw [ht]
    rw [List.getElem?_take, if_pos (by omega)] at this
    simp only [Array.getElem?_toList] at this
    rw [this]
    simp [List.getD_eq_getElem?_getD, hn ▸ hi]
theorem wf_small {z : Int} (h0 : -1000000 ≤ z) (h1 : z ≤ 1000000) : (Lit.int .i64 z).wf = true := by
  have h2 : IntKind.i64.min = -9223372036854775808 := by decide
  have h3 : IntKind.i64.max = 9223372036854775807 := by decide
  simp [Lit.wf, h2, h3]
  omega
end Go
namespace Go.Proofs.Ytfgipbjaaciiiaa
open Go.RowKit
def ptrs (T : Nat → Nat) (n : Nat) : List Value := (List.range n).map fun k => Value.pointer (some ⟨T k, 0, none⟩)
/-- The world of the simulation, in memory. -/
structure WMem (w : World) (B Wb n : Nat) (s : WS) (v1 v2 : Value) (T M : Nat → Nat) : Prop where
  hB : B ≤ Wb
  blk : w.heap[Wb]? = some (.cells #[.int .i64 s.nodes, v1, v2] 88 (0, 0))
  own1 : w.ownsRow B 89 1 v1 s.th.length (ptrs T s.th.length)
  own2 : w.ownsRow B 94 4 v2 s.ways.length (waysC s.ways)
  tb : ∀ k, k < s.th.length → B ≤ T k ∧ B ≤ M k ∧ w.heap[T k]? = some (.cells #[.int .i64 (tgAt s k).home, .int .i64 (tgAt s k).back, .map (some (M k))] 92 (0, 0)) ∧ MapI w Try.prog 3 (M k) n (tgAt s k).refs
  sep : ∀ i j, i < s.th.length → j < s.th.length → i ≠ j → T i ≠ T j ∧ M i ≠ M j
theorem ne_type {w : World} {a b : Nat} {c1 c2 : Array Value} {t1 t2 : TypeId} {f1 f2 : Nat × Nat} (h1 : w.heap[a]? = some (.cells c1 t1 f1)) (h2 : w.heap[b]? = some (.cells c2 t2 f2)) (h : t1 ≠ t2) : a ≠ b := by
  rintro rfl
  rw [h1] at h2
  injection h2 with h2
  injection h2 with _ h2 _
  exact h h2
theorem own_cellsT {w : World} {B e m n g : Nat} {v : Value} {xs : List Value} (ho : w.ownsRow B e m v n xs) (hg : v.ownBlock = some g) : ∃ cs, w.heap[g]? = some (.cells cs e (0, 0)) := by
  rcases ho.2 with ⟨rfl, _⟩ | ⟨g', cap, cur, rfl, _, h, _⟩
  · cases hg
  · cases hg; exact ⟨cur, h⟩
section
variable {w w' : World} {B Wb n : Nat} {s : WS} {v1 v2 : Value} {T M : Nat → Nat}
theorem WMem.keep (h : WMem w B Wb n s v1 v2 T M) (hk : Keep [] w w') : WMem w' B Wb n s v1 v2 T M :=
  ⟨h.hB, hk.at h.blk (by simp), own_keep h.own1 hk (by simp), own_keep h.own2 hk (by simp), fun k hk' => by
    obtain ⟨h1, h2, h3, h4⟩ := h.tb k hk'
    exact ⟨h1, h2, hk.at h3 (by simp), h4.keep hk (by simp)⟩, h.sep⟩
theorem WMem.mono (h : WMem w B Wb n s v1 v2 T M) {n' : Nat} (hn : n ≤ n') : WMem w B Wb n' s v1 v2 T M :=
  ⟨h.hB, h.blk, h.own1, h.own2, fun k hk => let ⟨h1, h2, h3, h4⟩ := h.tb k hk; ⟨h1, h2, h3, h4.mono hn⟩, h.sep⟩
/-- The list of messages was written anew. -/
theorem WMem.setWays (h : WMem w B Wb n s v1 v2 T M) (hk : Keep v2.ownBlock.toList w w') {v2' : Value} {ways' : List Wy} (ho : w'.ownsRow B 94 4 v2' ways'.length (waysC ways')) :
    WMem (w'.setCell ⟨Wb, 2, none⟩ v2') B Wb n { s with ways := ways' } v1 v2' T M := by
  have hw : ∀ (b : Nat) (cs : Array Value) (t : TypeId) (f : Nat × Nat), w.heap[b]? = some (.cells cs t f) → t ≠ 94 → b ∉ v2.ownBlock.toList := fun b cs t f hb ht hm => by
    obtain ⟨c2, h2⟩ := own_cellsT h.own2 (by simpa using hm : v2.ownBlock = some b)
    exact ne_type hb h2 ht rfl
  have hb' := hk.at h.blk (hw _ _ _ _ h.blk (by decide))
  have hkS : Keep [Wb] w' (w'.setCell ⟨Wb, 2, none⟩ v2') := (Keep.refl _ _).setCell (.inl (by simp)) _
  refine ⟨h.hB, ?_, ?_, ?_, fun k hk' => ?_, h.sep⟩
  · rw [blk_setCell, if_pos rfl, hb']; rfl
  · refine own_keep (own_keep h.own1 hk (fun g hg hm => ?_)) hkS (fun g hg hm => ?_)
    · obtain ⟨c1, h1⟩ := own_cellsT h.own1 hg
      exact hw _ _ _ _ h1 (by decide) hm
    · obtain ⟨c1, h1⟩ := own_cellsT h.own1 hg
      exact ne_type h1 h.blk (by decide) (by simpa using hm)
  · refine own_keep ho hkS (fun g hg hm => ?_)
    obtain ⟨c1, h1⟩ := own_cellsT ho hg
    exact ne_type h1 hb' (by decide) (by simpa using hm)
  · obtain ⟨h1, h2, h3, h4⟩ := h.tb k hk'
    have hM : ∀ c : Nat, ∀ cs t f, w.heap[c]? = some (.cells cs t f) → M k ≠ c := fun c cs t f hc => h4.notCells hc
    refine ⟨h1, h2, hkS.at (hk.at h3 (hw _ _ _ _ h3 (by decide))) (fun hm => ne_type h3 h.blk (by decide) (by simpa using hm)), (h4.keep hk (fun hm => ?_)).keep hkS (fun hm => ?_)⟩
    · obtain ⟨c2, h5⟩ := own_cellsT h.own2 (by simpa using hm : v2.ownBlock = some (M k))
      exact hM _ _ _ _ h5 rfl
    · exact hM _ _ _ _ h.blk (by simpa using hm)
/-- An object's references were written anew. -/
theorem WMem.setRefs (h : WMem w B Wb n s v1 v2 T M) {t : Nat} (ht : t < s.th.length) (hk : Keep [M t] w w') {node v : Int} {n' : Nat} (hn : n ≤ n') (hm : MapI w' Try.prog 3 (M t) n' (fun y => if y = node then v else (tgAt s t).refs y)) :
    WMem w' B Wb n' (setRef s t node v) v1 v2 T M := by
  obtain ⟨t1, t2, t3, t4⟩ := h.tb t ht
  have hM : ∀ c : Nat, ∀ cs ty f, w.heap[c]? = some (.cells cs ty f) → c ∉ [M t] := fun c cs ty f hc hm => t4.notCells hc (by simpa using (by simpa using hm : c = M t).symm)
  have hlen : (setRef s t node v).th.length = s.th.length := by simp [setRef]
  have hat := tgAt_setRef ht node v
  refine ⟨h.hB, hk.at h.blk (hM _ _ _ _ h.blk), ?_, own_keep h.own2 hk (fun g hg hm => ?_), fun k hk' => ?_, fun i j hi hj hij => h.sep i j (by rw [← hlen]; exact hi) (by rw [← hlen]; exact hj) hij⟩
  · rw [hlen]
    exact own_keep h.own1 hk (fun g hg hm => by obtain ⟨c1, h1⟩ := own_cellsT h.own1 hg; exact hM _ _ _ _ h1 hm)
  · obtain ⟨c1, h1⟩ := own_cellsT h.own2 hg; exact hM _ _ _ _ h1 hm
  · rw [hlen] at hk'
    obtain ⟨h1, h2, h3, h4⟩ := h.tb k hk'
    rw [hat]
    by_cases e : k = t
    · subst e
      rw [if_pos rfl]
      exact ⟨h1, h2, hk.at h3 (hM _ _ _ _ h3), hm⟩
    · rw [if_neg e]
      exact ⟨h1, h2, hk.at h3 (hM _ _ _ _ h3), (h4.keep hk (by simpa using (h.sep k t hk' ht e).2)).mono hn⟩
/-- The weight that came back was written anew. -/
theorem WMem.setBack (h : WMem w B Wb n s v1 v2 T M) {t : Nat} (ht : t < s.th.length) (v : Int) :
    WMem (w.setCell ⟨T t, 1, none⟩ (.int .i64 v)) B Wb n (addBack s t v) v1 v2 T M := by
  obtain ⟨t1, t2, t3, t4⟩ := h.tb t ht
  have hk : Keep [T t] w (w.setCell ⟨T t, 1, none⟩ (.int .i64 v)) := (Keep.refl _ _).setCell (.inl (by simp)) _
  have hlen : (addBack s t v).th.length = s.th.length := by simp [addBack]
  have hat := tgAt_addBack ht v
  refine ⟨h.hB, hk.at h.blk (fun hm => ne_type h.blk t3 (by decide) (by simpa using hm)), ?_, own_keep h.own2 hk (fun g hg hm => ?_), fun k hk' => ?_, fun i j hi hj hij => h.sep i j (by rw [← hlen]; exact hi) (by rw [← hlen]; exact hj) hij⟩
  · rw [hlen]
    exact own_keep h.own1 hk (fun g hg hm => by obtain ⟨c1, h1⟩ := own_cellsT h.own1 hg; exact ne_type h1 t3 (by decide) (by simpa using hm))
  · obtain ⟨c1, h1⟩ := own_cellsT h.own2 hg; exact ne_type h1 t3 (by decide) (by simpa using hm)
  · rw [hlen] at hk'
    obtain ⟨h1, h2, h3, h4⟩ := h.tb k hk'
    rw [hat]
    by_cases e : k = t
    · subst e
      rw [if_pos rfl]
      refine ⟨h1, h2, ?_, h4.keep hk (fun hm => h4.notCells h3 (by simpa using hm))⟩
      rw [blk_setCell, if_pos rfl, h3]; rfl
    · rw [if_neg e]
      exact ⟨h1, h2, hk.at h3 (fun hm => (h.sep k t hk' ht e).1 (by simpa using hm)), h4.keep hk (fun hm => h4.notCells t3 (by simpa using hm))⟩
end
end Go.Proofs.Ytfgipbjaaciiiaa
namespace Go
open Go.RowKit
theorem own_any {w : World} {B e m n : Nat} {v : Value} {xs : List Value} (ho : w.ownsRow B e m v n xs) : ∃ a c, v = .slice a n c ∧ n ≤ c ∧ c ≤ maxLen ∧ (0 < n → ∃ g, a = some ⟨g, 0, none⟩ ∧ B ≤ g ∧ g < w.heap.size ∧ (∀ i, i < n * m → w.cell? ⟨g, i, none⟩ = xs[i]?) ∧ ∀ i, w.frozen? ⟨g, i, none⟩ = false) := by
  rcases ho.2 with ⟨rfl, h0⟩ | ⟨g, cap, cur, rfl, hb, hg, hnc, hcm, hcs, ht⟩
  · subst h0
    exact ⟨none, 0, rfl, Nat.le_refl _, Nat.zero_le _, fun h => absurd h (by decide)⟩
  · refine ⟨_, _, rfl, hnc, hcm, fun _ => ⟨g, rfl, hb, (Array.getElem?_eq_some_iff.1 hg).1, fun i hi => ?_, thaw hg⟩⟩
    rw [cell_of_row w g i cur e (0, 0) hg]
    have : (cur.toList.take (n * m))[i]? = xs[i]? := by rw [ht]
    rw [List.getElem?_take, if_pos hi] at this
    simpa using this
end Go
namespace Go.Proofs.Ytfgipbjaaciiiaa
open Go.RowKit
/-- What is not of the simulation's own types stays. -/
def Out (w w' : World) : Prop := ∀ (b : Nat) (cs : Array Value) (T : TypeId) (f : Nat × Nat), w.heap[b]? = some (Obj.cells cs T f) → T ≠ 88 → T ≠ 89 → T ≠ 92 → T ≠ 94 → w'.heap[b]? = some (Obj.cells cs T f)
theorem Out.keep {w w' : World} (h : Keep [] w w') : Out w w' := fun _ _ _ _ hb _ _ _ _ => h.at hb (by simp)
theorem Out.trans {w w' w'' : World} (h : Out w w') (k : Out w' w'') : Out w w'' := fun b cs T f hb h1 h2 h3 h4 => k b cs T f (h b cs T f hb h1 h2 h3 h4) h1 h2 h3 h4
def WC (w0 : World) (Wb n : Nat) (s : WS) (w : World) : Prop := Keep [] w0 w ∧ ∃ v1 v2 T M, WMem w w0.heap.size Wb n s v1 v2 T M
theorem WC.keep {w0 w w' : World} {Wb n : Nat} {s : WS} (h : WC w0 Wb n s w) (hk : Keep [] w w') : WC w0 Wb n s w' :=
  let ⟨h1, v1, v2, T, M, h2⟩ := h
  ⟨h1.trans hk, v1, v2, T, M, h2.keep hk⟩
theorem WC.mono {w0 w : World} {Wb n n' : Nat} {s : WS} (h : WC w0 Wb n s w) (hn : n ≤ n') : WC w0 Wb n' s w :=
  let ⟨h1, v1, v2, T, M, h2⟩ := h
  ⟨h1, v1, v2, T, M, h2.mono hn⟩
theorem node42 {Wb : Nat} {w : World} {x N : Int} {v1 v2 : Value} {A : Bool} (hb : w.heap[Wb]? = some (.cells #[.int .i64 N, v1, v2] 88 (0, 0))) (hA : (decide (0 ≤ x) && decide (x < N)) = A) :
    Calls Try.prog 42 #[.pointer (some ⟨Wb, 0, none⟩), .int .i64 x] w fun e w' => e = .returned (.bool A) ∧ w' = w := by
  obtain ⟨c0, _⟩ := row3 hb
  have HA := Lib.hid hA
  clear hb hA
  by_cases h0 : 0 ≤ x
  · by_cases h1 : x < N
    · have hT : Hid (A = true) := Lib.hid (by rw [← HA.out, decide_eq_true h0, decide_eq_true h1]; rfl)
      go_enter Try.func42, Try.ntmps42
      go_wp2_with (first | (with_reducible refine Txt.wp_region_text mixed quiet (by decide +kernel) ?_) | (with_reducible refine Txt.text_done (by kernel_rfl) ?_))
      go_ret
      exact ⟨by rw [hT.out]; rfl, rfl⟩
    · have hT : Hid (A = false) := Lib.hid (by rw [← HA.out, decide_eq_true h0, decide_eq_false h1]; rfl)
      go_enter Try.func42, Try.ntmps42
      go_wp2_with (first | (with_reducible refine Txt.wp_region_text mixed quiet (by decide +kernel) ?_) | (with_reducible refine Txt.text_done (by kernel_rfl) ?_))
      go_ret
      exact ⟨by rw [hT.out]; rfl, rfl⟩
  · have hT : Hid (A = false) := Lib.hid (by rw [← HA.out, decide_eq_false h0]; rfl)
    go_enter Try.func42, Try.ntmps42
    go_wp2_with (first | (with_reducible refine Txt.wp_region_text mixed quiet (by decide +kernel) ?_) | (with_reducible refine Txt.text_done (by kernel_rfl) ?_))
    go_ret
    exact ⟨by rw [hT.out]; rfl, rfl⟩
theorem wf_node {x : Int} (h0 : 0 ≤ x) (h1 : x ≤ 1000000) : (Lit.int .i64 x).wf = true := wf_small (by omega) h1
theorem zero3 (w : World) : (zeroValue 3).run Try.prog w = .ok (.int .i64 0) w := by kernel_rfl
theorem ptrs_at {T : Nat → Nat} {n k : Nat} (hk : k < n) : (ptrs T n)[k]? = some (Value.pointer (some ⟨T k, 0, none⟩)) := by
  simp [ptrs, hk]
set_option maxRecDepth 100000 in
set_option maxHeartbeats 1000000 in
theorem has29_any {w0 w : World} {Wb n : Nat} {s : WS} {node t r c : Int} (h : WC w0 Wb n s w) (hbd : WBd s) (hr : hasW s node t = (r, c)) :
    Calls Try.prog 29 #[.pointer (some ⟨Wb, 0, none⟩), .int .i64 node, .int .i64 t] w fun e w' => e = .returned (.tuple #[.int .i64 r, .int .i64 c]) ∧ w' = w := by
  obtain ⟨_, v1, v2, T, M, hm⟩ := h
  have HB := Lib.hid hm.blk
  obtain ⟨c0, c1, c2, _⟩ := row3 hm.blk
  obtain ⟨a1, p1, rfl, hp1, hp2, hp3⟩ := own_any hm.own1
  have hl20 := hbd.len
  unfold maxLen at hp2
  have hnd := hbd.nodes
  by_cases hn : isN s node = true
  · have hn' : 0 ≤ node ∧ node < s.nodes := by simpa [isN] using hn
    by_cases ht : 0 ≤ t ∧ t < s.th.length
    · obtain ⟨t', rfl⟩ : ∃ t' : Nat, t = t' := ⟨t.toNat, by omega⟩
      have ht' : t' < s.th.length := by omega
      obtain ⟨g, rfl, _, hgl, hgc, _⟩ := hp3 (by omega)
      have hpc := hgc t' (by omega)
      rw [ptrs_at ht'] at hpc
      obtain ⟨_, _, hT, hM⟩ := hm.tb t' ht'
      obtain ⟨d0, d1, d2, _⟩ := row3 hT
      have hlk := lookup_run_i Try.underlying90 Try.underlying3 (zero3 w) hM (wf_node hn'.1 (by omega))
      have HM := Lib.hid hM
      have hhas : hasW s node t' = if (tgAt s t').refs node = 0 then (0, 4) else ((tgAt s t').refs node, 0) := by
        unfold hasW
        rw [if_pos ⟨hn, by omega, by omega⟩]; simp
      rw [hhas] at hr
      have HBR := (hbd.tg t' ht').2.2.2 node
      obtain ⟨q, hq⟩ : ∃ q, (tgAt s t').refs node = q := ⟨_, rfl⟩
      rw [hq] at hr hlk HBR
      obtain ⟨L, hL⟩ : ∃ L, s.th.length = L := ⟨_, rfl⟩
      rw [hL] at c1 ht' hl20
      have HW := Lib.hid (wf_node hn'.1 (show node ≤ 1000000 by omega))
      have HNN := Lib.hid (show (decide (0 ≤ node) && decide (node < s.nodes)) = true from hn)
      have HQ := Lib.hid hq
      have hq0 : (tgAt s t').refs node = q := hq
      clear hm hp1 hp3 hgc hT hM hhas hL hn ht hbd hnd hq
      by_cases hz : q = 0
      · subst hz
        rw [if_pos rfl] at hr
        obtain ⟨rfl, rfl⟩ := Prod.mk.inj hr
        go_enter Try.func29, Try.ntmps29
        go_wp2_with (first | (with_reducible refine Txt.wp_region_text mixed quiet (by decide +kernel) ?_) | (with_reducible refine Txt.text_done (by kernel_rfl) ?_) | (go_at_call 42; (with_reducible refine (node42 HB.out HNN.out).mono ?_); rintro e w1 ⟨rfl, rfl⟩))
        go_ret2
        exact ⟨rfl, rfl⟩
      · rw [if_neg hz] at hr
        obtain ⟨rfl, rfl⟩ := Prod.mk.inj hr
        have hzb : (q == 0) = false := beq_eq_false_iff_ne.2 hz
        go_enter Try.func29, Try.ntmps29
        go_wp2_with (first | (with_reducible refine Txt.wp_region_text mixed quiet (by decide +kernel) ?_) | (with_reducible refine Txt.text_done (by kernel_rfl) ?_) | (go_at_call 42; (with_reducible refine (node42 HB.out HNN.out).mono ?_); rintro e w1 ⟨rfl, rfl⟩))
        go_ret2
        exact ⟨rfl, rfl⟩
    · have hhas : hasW s node t = (0, 1) := by
        unfold hasW
        rw [if_neg (fun h => ht ⟨h.2.1, h.2.2⟩)]
      rw [hhas] at hr
      obtain ⟨rfl, rfl⟩ := Prod.mk.inj hr
      have HNN := Lib.hid (show (decide (0 ≤ node) && decide (node < s.nodes)) = true from hn)
      obtain ⟨L, hL⟩ : ∃ L, s.th.length = L := ⟨_, rfl⟩
      rw [hL] at c1 ht hl20
      clear hm hp1 hp3 hhas hL hn hbd hnd hr
      by_cases h0 : t < 0
      · go_enter Try.func29, Try.ntmps29
        go_wp2_with (first | (with_reducible refine Txt.wp_region_text mixed quiet (by decide +kernel) ?_) | (with_reducible refine Txt.text_done (by kernel_rfl) ?_) | (go_at_call 42; (with_reducible refine (node42 HB.out HNN.out).mono ?_); rintro e w1 ⟨rfl, rfl⟩))
        go_ret2
        exact ⟨rfl, rfl⟩
      · have h1 : (L : Int) ≤ t := by omega
        clear ht
        go_enter Try.func29, Try.ntmps29
        go_wp2_with (first | (with_reducible refine Txt.wp_region_text mixed quiet (by decide +kernel) ?_) | (with_reducible refine Txt.text_done (by kernel_rfl) ?_) | (go_at_call 42; (with_reducible refine (node42 HB.out HNN.out).mono ?_); rintro e w1 ⟨rfl, rfl⟩))
        go_ret2
        exact ⟨rfl, rfl⟩
  · have hhas : hasW s node t = (0, 1) := by
      unfold hasW
      rw [if_neg (fun h => hn h.1)]
    rw [hhas] at hr
    obtain ⟨rfl, rfl⟩ := Prod.mk.inj hr
    have HNN := Lib.hid (show (decide (0 ≤ node) && decide (node < s.nodes)) = false from by simpa [isN] using hn)
    clear hm hp1 hp3 hhas hn hbd hnd hr
    go_enter Try.func29, Try.ntmps29
    go_wp2_with (first | (with_reducible refine Txt.wp_region_text mixed quiet (by decide +kernel) ?_) | (with_reducible refine Txt.text_done (by kernel_rfl) ?_) | (go_at_call 42; (with_reducible refine (node42 HB.out HNN.out).mono ?_); rintro e w1 ⟨rfl, rfl⟩))
    go_ret2
    exact ⟨rfl, rfl⟩
end Go.Proofs.Ytfgipbjaaciiiaa
/- Writing in place into a row of one's own, elements of however many cells. -/
namespace Go
theorem keep_setRow (w : World) (g : Nat) (cs : Array Value) : Keep [g] w (w.setRow g cs) :=
  ⟨rfl, rfl, rfl, by simp, fun i _ hs => setRow_other w g i cs (by simpa using hs)⟩
section
variable {P : Program}
theorem wpList_append_room {w : World} {ops : Array Oper} {rest : List Oper} {o : Oper} {a : Act} {Q : Exit → Act → World → Prop} (hgd : o.guard = none) (s x : Operand) (t : TypeId)
    (ho : o.op = .call { callee := .builtin .append, args := #[s, x], argTypes := #[t, t] })
    (e : TypeId) (i : TypeInfo) (ht : P.underlying t = some (.slice e)) (hi : P.info? e = some i) (size : Nat) (hsz : i.size = size)
    (g sLen sCap : Nat) (cur : Array Value) (hg : w.heap[g]? = some (.cells cur e (0, 0))) (hs : a.eval s = .slice (some ⟨g, 0, none⟩) sLen sCap)
    (ad : Addr) (m c : Nat) (news : List Value) (hx : a.eval x = .slice (some ad) m c) (hl : news.length = m * size) (hnews : ∀ j u, news[j]? = some u → w.cell? (ad.add j) = some u) (h1 : ∀ u ∈ news, u.oneCell' = true)
    (hroom : sLen + m ≤ sCap) (hfit : sLen * size + news.length ≤ cur.size)
    (h : wpList P ops Q rest (a.put o.dst (.slice (some ⟨g, 0, none⟩) (sLen + m) sCap)) (w.setRow g (cur.toList.take (sLen * size) ++ news ++ cur.toList.drop (sLen * size + news.length)).toArray)) : wpList P ops Q (o :: rest) a w := by
  subst hsz
  refine wpList_plain hgd fun K hK => ?_
  have hrun := run_append_room (P := P) (w := w) t o.type e i ht hi g sLen sCap cur hg ad m c news hl hnews h1 hroom hfit
  unfold Oper.wp
  simp [execOp, ho, resolve, invoke, builtin, hs, hx, hrun, Result.andThen]
  exact hK _ _ (by simpa only [List.append_assoc] using h)
theorem wpList_clear_row {w : World} {ops : Array Oper} {rest : List Oper} {o : Oper} {a : Act} {Q : Exit → Act → World → Prop} (hgd : o.guard = none) (s : Operand) (t : TypeId)
    (ho : o.op = .call { callee := .builtin .clear, args := #[s], argTypes := #[t] })
    (e : TypeId) (z : Value) (ht : P.underlying t = some (.slice e)) (hv : ∀ w, (zeroValue e).run P w = .ok z w) (hz1 : ∀ u ∈ z.cells, u.oneCell' = true)
    (g off n c : Nat) (cur : Array Value) (hg : w.heap[g]? = some (.cells cur e (0, 0))) (hs : a.eval s = .slice (some ⟨g, off, none⟩) (n + 1) c) (hfit : off + (n + 1) * z.cells.size ≤ cur.size)
    (h : ∀ L : List Value, L.length = (n + 1) * z.cells.size → wpList P ops Q rest (a.put o.dst (.tuple #[])) (w.setRow g (cur.toList.take off ++ L ++ cur.toList.drop (off + L.length)).toArray)) : wpList P ops Q (o :: rest) a w := by
  refine wpList_plain hgd fun K hK => ?_
  obtain ⟨L, hL⟩ : ∃ L, (Builtin.zeroCells z.cells (n + 1)).toList = L := ⟨_, rfl⟩
  have hlen : L.length = (n + 1) * z.cells.size := by rw [← hL, Array.length_toList, size_zeroCells]
  have hone : ∀ u ∈ L, u.oneCell' = true := fun u hu => by
    rw [← hL] at hu
    have hu' : u ∈ Builtin.zeroCells z.cells (n + 1) := by simpa using hu
    unfold Builtin.zeroCells at hu'
    obtain ⟨j, hj, rfl⟩ := Array.mem_map.1 hu'
    have hj2 := Array.mem_range.1 hj
    have hs0 : 0 < z.cells.size := by
      rcases Nat.eq_zero_or_pos z.cells.size with h0 | h0
      · rw [h0] at hj2; simp at hj2
      · exact h0
    have hlt := Nat.mod_lt j hs0
    rw [getElem!_pos z.cells (j % z.cells.size) hlt]
    exact hz1 _ (Array.getElem_mem hlt)
  have hst := run_storeCells_at P g off e L 0 cur w hg (by omega) hone
  simp only [Nat.add_zero] at hst
  have hL' : Builtin.zeroCells z.cells (n + 1) = L.toArray := by rw [← hL]
  unfold Oper.wp
  simp [execOp, ho, resolve, invoke, builtin, hs, Builtin.clear_, run_underlying ht, hv, hL, hst, Result.andThen]
  exact hK _ _ (by simpa only [List.append_assoc] using h L hlen)
end
end Go
namespace Go
theorem waysC_app (l1 l2 : List Wy) : waysC (l1 ++ l2) = waysC l1 ++ waysC l2 := by simp [waysC]
theorem waysC_take (l : List Wy) (k : Nat) : (waysC l).take (k * 4) = waysC (l.take k) := by
  by_cases hk : k ≤ l.length
  · have h := congrArg waysC (List.take_append_drop k l)
    rw [waysC_app] at h
    rw [← h, List.take_left' (by rw [waysC_len, List.length_take]; omega)]
  · rw [List.take_of_length_le (by rw [waysC_len]; omega), List.take_of_length_le (by omega)]
theorem waysC_drop (l : List Wy) (k : Nat) : (waysC l).drop (k * 4) = waysC (l.drop k) := by
  by_cases hk : k ≤ l.length
  · have h := congrArg waysC (List.take_append_drop k l)
    rw [waysC_app] at h
    rw [← h, List.drop_left' (by rw [waysC_len, List.length_take]; omega)]
  · rw [List.drop_of_length_le (by rw [waysC_len]; omega), List.drop_of_length_le (by omega)]; rfl
end Go
namespace Go.Proofs.Ytfgipbjaaciiiaa
open Go.RowKit
theorem info94 : (Try.prog.info? 94).map (fun i => (i.zero, i.size, i.bytes)) = some (some (.agg #[.int .i64 0, .int .i64 0, .int .i64 0, .bool false]), 4, 32) := by kernel_rfl
theorem zero94 : ∀ w, (zeroValue 94).run Try.prog w = .ok (.agg #[.int .i64 0, .int .i64 0, .int .i64 0, .bool false]) w := fun w => by kernel_rfl
theorem info_parts' {o : Option TypeInfo} {z : Option Value} {s b : Nat} (h : o.map (fun i => (i.zero, i.size, i.bytes)) = some (z, s, b)) : ∃ i, o = some i ∧ i.zero = z ∧ i.size = s ∧ i.bytes = b := by
  obtain ⟨i, hi, he⟩ := Option.map_eq_some_iff.1 h
  simp only [Prod.mk.injEq] at he
  exact ⟨i, hi, he.1, he.2.1, he.2.2⟩
set_option maxRecDepth 100000 in
set_option maxHeartbeats 2000000 in
theorem delete43_any {B i : Nat} {v : Value} {l : List Wy} {w : World} (ho : w.ownsRow B 94 4 v l.length (waysC l)) (hi : i < l.length) (hl : l.length ≤ 100) :
    Calls Try.prog 43 #[v, .int .i64 i, .int .i64 ((i : Int) + 1)] w fun e w' => ∃ v', e = .returned v' ∧ v'.ownBlock = v.ownBlock ∧ Keep v.ownBlock.toList w w' ∧ w'.ownsRow B 94 4 v' (l.length - 1) (waysC (l.eraseIdx i)) := by
  obtain ⟨i0, hi0, hz0, hz1, hz2⟩ := info_parts' info94
  rcases ho.2 with ⟨_, h0⟩ | ⟨g, cap, cur, rfl, hb, hg, hnc, hcm, hcs, ht⟩
  · omega
  obtain ⟨k, hk⟩ : ∃ k, l.length = k + 1 := ⟨l.length - 1, by omega⟩
  rw [hk] at hi hl hnc ht
  have hcurl : (k + 1) * 4 ≤ cur.toList.length := by rw [Array.length_toList, hcs]; omega
  have HNEWS : Hid (∀ j u, (waysC (l.drop (i + 1)))[j]? = some u → w.drew.cell? ((⟨g, (i + 1) * 4, none⟩ : Addr).add j) = some u) := Lib.hid (fun j u hu => by
    rw [Go.WideShapes.add_plain]
    show w.cell? ⟨g, (i + 1) * 4 + j, none⟩ = some u
    rw [cell_of_row w g _ cur 94 (0, 0) hg, ← hu, ← waysC_drop, ← ht, List.getElem?_drop, List.getElem?_take]
    have hj := (List.getElem?_eq_some_iff.1 hu).1
    rw [waysC_len, List.length_drop, hk] at hj
    rw [if_pos (by omega)]
    simp)
  have HLEN : Hid ((waysC (l.drop (i + 1))).length = (k - i) * 4) := Lib.hid (by rw [waysC_len, List.length_drop, hk]; congr 1; omega)
  have HONE : Hid (∀ u ∈ waysC (l.drop (i + 1)), u.oneCell' = true) := Lib.hid (fun u hu => by
    obtain ⟨x, _, hx⟩ := List.mem_flatMap.1 hu
    simp [Wy.cells] at hx
    rcases hx with hx | hx | hx | hx <;> (subst hx; rfl))
  have HG := Lib.hid hg
  have HT := Lib.hid ht
  have HCS := Lib.hid hcs
  have HB := Lib.hid hb
  have hcm' := hcm
  unfold maxLen at hcm'
  clear ho hb hg ht
  have HTI : Hid (cur.toList.take (i * 4) = waysC (l.take i)) := Lib.hid (by
    rw [← waysC_take, ← HT.out, List.take_take, Nat.min_eq_left (by omega)])
  have HSZ : Hid ((cur.toList.take (i * 4) ++ (waysC (l.drop (i + 1)) ++ cur.toList.drop (i * 4 + (waysC (l.drop (i + 1))).length))).length = cap * 4) := Lib.hid (by
    rw [List.length_append, List.length_append, HLEN.out, List.length_take, List.length_drop, Array.length_toList, HCS.out]
    omega)
  have HER : Hid (∀ L : List Value, ((cur.toList.take (i * 4) ++ (waysC (l.drop (i + 1)) ++ cur.toList.drop (i * 4 + (waysC (l.drop (i + 1))).length))).take (k * 4) ++ L).take (k * 4) = waysC (l.eraseIdx i)) := Lib.hid (fun L => by
    have h1 : (cur.toList.take (i * 4)).length = i * 4 := by rw [List.length_take, Array.length_toList, HCS.out]; omega
    have h2 : ((cur.toList.take (i * 4) ++ (waysC (l.drop (i + 1)) ++ cur.toList.drop (i * 4 + (waysC (l.drop (i + 1))).length))).take (k * 4)).length = k * 4 := by rw [List.length_take, HSZ.out]; omega
    rw [List.take_left' h2, ← List.append_assoc, List.take_left' (by rw [List.length_append, h1, HLEN.out]; omega), HTI.out, ← waysC_app, List.eraseIdx_eq_take_drop_succ])
  have HZ1 : Hid (∀ u ∈ (Value.agg #[.int .i64 0, .int .i64 0, .int .i64 0, .bool false]).cells, u.oneCell' = true) := Lib.hid (by
    intro u hu
    simp [Value.cells] at hu
    rcases hu with hu | hu <;> (subst hu; rfl))
  rw [hk]
  have e1 : i + (k - i) = k := by omega
  have HFIT : Hid (k * 4 + (0 + 1) * (Value.agg #[.int .i64 0, .int .i64 0, .int .i64 0, .bool false]).cells.size ≤ (cur.toList.take (i * 4) ++ (waysC (l.drop (i + 1)) ++ cur.toList.drop (i * 4 + (waysC (l.drop (i + 1))).length))).toArray.size) := Lib.hid (by
    show k * 4 + (0 + 1) * 4 ≤ (List.toArray _).size
    rw [List.size_toArray, HSZ.out]
    omega)
  by_cases hcap : cap = i + 1
  · subst hcap
    have hik : i = k := by omega
    subst hik
    have HNIL : Hid (waysC (l.drop (i + 1)) = []) := Lib.hid (by rw [List.drop_eq_nil_of_le (by omega)]; rfl)
    have HL0 : Hid ((waysC (l.drop (i + 1))).length = 0 * 4) := Lib.hid (by rw [HNIL.out]; rfl)
    have HN0 : Hid (∀ j u, (waysC (l.drop (i + 1)))[j]? = some u → w.drew.cell? ((⟨g, 0, none⟩ : Addr).add j) = some u) := Lib.hid (fun j u hu => by rw [HNIL.out] at hu; simp at hu)
    go_enter Try.func43, Try.ntmps43
    go_wp2_with (first | (with_reducible refine Txt.wp_region_text mixed quiet (by decide +kernel) ?_) | (with_reducible refine Txt.text_done (by kernel_rfl) ?_) | (at_builtin; refine wpList_append_room rfl _ _ 69 rfl 94 i0 Try.underlying69 hi0 4 hz1 g i (i + 1) cur HG.out rfl ⟨g, 0, none⟩ 0 0 (waysC (l.drop (i + 1))) rfl HL0.out HN0.out HONE.out (by omega) (by rw [HL0.out]; omega) ?_) | (refine wpList_clear_row rfl _ 69 rfl 94 _ Try.underlying69 zero94 HZ1.out g (i * 4) 0 _ _ (setRow_heap w.drew g cur _ 94 (0, 0) HG.out) rfl HFIT.out ?_; intro L hL))
    go_ret
    have hL4 : L.length = 4 := by rw [hL]; try rfl
    refine ⟨.slice (some ⟨g, 0, none⟩) i (i + 1), rfl, rfl, (((Keep.refl [g] w).drew).trans (keep_setRow _ _ _)).trans (keep_setRow _ _ _), ?_, .inr ⟨g, (i + 1), _, rfl, HB.out, setRow_heap _ g _ _ 94 (0, 0) (setRow_heap w.drew g cur _ 94 (0, 0) HG.out), by omega, hcm, ?_, ?_⟩⟩
    · rw [waysC_len, List.length_eraseIdx, if_pos (by omega), hk]
    · rw [List.size_toArray, List.length_append, List.length_append, List.length_take, List.length_drop, HSZ.out, hL4]; omega
    · have h1 : (cur.toList.take (i * 4)).length = i * 4 := by rw [List.length_take, Array.length_toList, HCS.out]; omega
      show List.take (i * 4) (List.take (i * 4) cur.toList ++ _) = _
      rw [List.take_left' h1, HTI.out, List.eraseIdx_eq_take_drop_succ, waysC_app, HNIL.out, List.append_nil]
  · go_enter Try.func43, Try.ntmps43
    go_wp2_with (first | (with_reducible refine Txt.wp_region_text mixed quiet (by decide +kernel) ?_) | (with_reducible refine Txt.text_done (by kernel_rfl) ?_) | (at_builtin; refine wpList_append_room rfl _ _ 69 rfl 94 i0 Try.underlying69 hi0 4 hz1 g i cap cur HG.out rfl ⟨g, (i + 1) * 4, none⟩ (k - i) (cap - (i + 1)) (waysC (l.drop (i + 1))) rfl HLEN.out HNEWS.out HONE.out (by omega) (by rw [HLEN.out]; omega) ?_) | (refine wpList_clear_row rfl _ 69 rfl 94 _ Try.underlying69 zero94 HZ1.out g (k * 4) 0 _ _ (setRow_heap w.drew g cur _ 94 (0, 0) HG.out) rfl HFIT.out ?_; intro L hL))
    go_ret
    have hL4 : L.length = 4 := by rw [hL]; try rfl
    refine ⟨.slice (some ⟨g, 0, none⟩) k cap, rfl, rfl, (((Keep.refl [g] w).drew).trans (keep_setRow _ _ _)).trans (keep_setRow _ _ _), ?_, .inr ⟨g, cap, _, rfl, HB.out, setRow_heap _ g _ _ 94 (0, 0) (setRow_heap w.drew g cur _ 94 (0, 0) HG.out), by omega, hcm, ?_, ?_⟩⟩
    · rw [waysC_len, List.length_eraseIdx, if_pos (by omega), hk]
    · rw [List.size_toArray, List.length_append, List.length_append, List.length_take, List.length_drop, HSZ.out, hL4]; omega
    · exact HER.out _
end Go.Proofs.Ytfgipbjaaciiiaa
namespace Go.Proofs
open Go.Shelf
def Try.laysSlE041_f44_ren : Go.Shelf.Ren := ⟨fun | 41 => 44 | n => n, fun | 22 => 69 | 23 => 94 | 4 => 4 | n => n, fun | n => n⟩
theorem Try.laysSlE041_f44 : Go.Proofs.SlLaysE0.n41 Try.prog Try.laysSlE041_f44_ren := {
  mixed := by kernel_rfl
  f41 := ⟨Try.f44.name, by decide, Try.func44.trans (congrArg some (by kernel_rfl))⟩
  t4 := Try.underlying4
  a4 := Try.isAgg4
  z4 := Try.sizeOf4
  v4 := Try.zeroValue4
  t22 := Try.underlying69
  a22 := Try.isAgg69
  z22 := Try.sizeOf69
  v22 := Try.zeroValue69 }
end Go.Proofs
namespace Go.Proofs.Ytfgipbjaaciiiaa
open Go.RowKit
theorem one_ways (l : List Wy) : ∀ u ∈ waysC l, u.oneCell' = true := fun u hu => by
  obtain ⟨x, _, hx⟩ := List.mem_flatMap.1 hu
  simp [Wy.cells] at hx
  rcases hx with hx | hx | hx | hx <;> (subst hx; rfl)
theorem clone44_any {B : Nat} {v : Value} {l : List Wy} {w : World} (ho : w.ownsRow B 94 4 v l.length (waysC l)) (hl : l.length ≤ 100) :
    Calls Try.prog 44 #[v] w fun e w' => ∃ v', e = .returned v' ∧ Keep [] w w' ∧ w'.ownsRow w.heap.size 94 4 v' l.length (waysC l) := by
  obtain ⟨i0, hi0, hz0, hz1, hz2⟩ := info_parts' info94
  rcases ho.2 with ⟨rfl, h0⟩ | ⟨g, cap, cur, rfl, hb, hg, hnc, hcm, hcs, ht⟩
  · have hnil : l = [] := List.eq_nil_of_length_eq_zero h0
    subst hnil
    refine (Go.Proofs.AnyE.slices_Clone_nil Try.laysSlE041_f44 0 0 w).mono ?_
    rintro e w' ⟨rfl, rfl⟩
    exact ⟨_, rfl, Keep.refl _ _, World.ownsRow_nil _ _ _ _⟩
  · refine (Go.Proofs.AnyE.slices_Clone Try.laysSlE041_f44 i0 _ 4 32 hi0 hz0 hz1 hz2 rfl (by decide) (fun w => by kernel_rfl) g 0 l.length cap (waysC l) w (waysC_len l) (by unfold maxLen; omega) (by omega) (fun j u hu => ?_) (one_ways l)).mono ?_
    · have hj := (List.getElem?_eq_some_iff.1 hu).1
      rw [waysC_len] at hj
      rw [Nat.zero_add, cell_of_row w g j cur 94 (0, 0) hg, ← hu, ← ht, List.getElem?_take, if_pos hj]
      simp
    · rintro e w' ⟨v', rfl, ho', _, hb'⟩
      exact ⟨v', rfl, ⟨hb'.os, hb'.tape, hb'.output, hb'.size, fun i hi _ => hb'.block i hi⟩, ho'⟩
set_option maxRecDepth 100000 in
theorem under37_any {w0 w : World} {Wb n : Nat} {s : WS} (h : WC w0 Wb n s w) (hbd : WBd s) :
    Calls Try.prog 37 #[.pointer (some ⟨Wb, 0, none⟩)] w fun e w' => ∃ v', e = .returned v' ∧ Keep [] w w' ∧ w'.ownsRow w.heap.size 94 4 v' s.ways.length (waysC s.ways) := by
  obtain ⟨_, v1, v2, T, M, hm⟩ := h
  obtain ⟨c0, c1, c2, _⟩ := row3 hm.blk
  have HC := Lib.hid (clone44_any hm.own2 (by have := hbd.way; omega))
  clear hm hbd
  go_enter Try.func37, Try.ntmps37
  go_wp2_with (first | (go_at_call 44; refine HC.out.mono ?_; rintro e w1 ⟨v', rfl, hk1, ho1⟩; have HO1 := Lib.hid ho1; clear ho1))
  go_ret
  exact ⟨_, rfl, hk1, HO1.out⟩
set_option maxRecDepth 100000 in
theorem freed34_any {w0 w : World} {Wb n t : Nat} {s : WS} {A : Bool} (h : WC w0 Wb n s w) (hbd : WBd s) (ht : t < s.th.length) (hA : decide ((tgAt s t).back = 65536) = A) :
    Calls Try.prog 34 #[.pointer (some ⟨Wb, 0, none⟩), .int .i64 t] w fun e w' => e = .returned (.tuple #[.bool A, .int .i64 0]) ∧ w' = w := by
  obtain ⟨_, v1, v2, T, M, hm⟩ := h
  obtain ⟨c0, c1, c2, _⟩ := row3 hm.blk
  obtain ⟨a1, p1, rfl, hp1, hp2, hp3⟩ := own_any hm.own1
  unfold maxLen at hp2
  obtain ⟨g, rfl, _, hgl, hgc, _⟩ := hp3 (by omega)
  have hpc := hgc t (by omega)
  rw [ptrs_at ht] at hpc
  obtain ⟨_, _, hT, _⟩ := hm.tb t ht
  obtain ⟨d0, d1, d2, _⟩ := row3 hT
  have hl20 := hbd.len
  have hbk := (hbd.tg t ht).2
  obtain ⟨q, hq⟩ : ∃ q, (tgAt s t).back = q := ⟨_, rfl⟩
  rw [hq] at d1 hA hbk
  obtain ⟨L, hL⟩ : ∃ L, s.th.length = L := ⟨_, rfl⟩
  rw [hL] at c1 ht hl20
  have HA := Lib.hid hA
  clear hm hp1 hp3 hgc hT hL hbd hq hA
  by_cases hz : q = 65536
  · have hzb : (q == 65536) = true := by rw [hz]; rfl
    have HT : Hid (A = true) := Lib.hid (by rw [← HA.out]; exact decide_eq_true hz)
    go_enter Try.func34, Try.ntmps34
    go_wp2_with (first | (with_reducible refine Txt.wp_region_text mixed quiet (by decide +kernel) ?_) | (with_reducible refine Txt.text_done (by kernel_rfl) ?_))
    go_ret2
    exact ⟨by rw [HT.out]; rfl, rfl⟩
  · have hzb : (q == 65536) = false := beq_eq_false_iff_ne.2 hz
    have HT : Hid (A = false) := Lib.hid (by rw [← HA.out]; exact decide_eq_false hz)
    go_enter Try.func34, Try.ntmps34
    go_wp2_with (first | (with_reducible refine Txt.wp_region_text mixed quiet (by decide +kernel) ?_) | (with_reducible refine Txt.text_done (by kernel_rfl) ?_))
    go_ret2
    exact ⟨by rw [HT.out]; rfl, rfl⟩
set_option maxRecDepth 100000 in
theorem new27_any {x : Nat} {w : World} (h1 : 1 ≤ x) (h8 : x ≤ 8) :
    Calls Try.prog 27 #[.int .i64 x] w fun e w' => ∃ Wb, e = .returned (.tuple #[.pointer (some ⟨Wb, 0, none⟩), .int .i64 0]) ∧ WC w Wb 0 ⟨x, [], []⟩ w' := by
  go_enter Try.func27, Try.ntmps27
  go_wp2_with (first | (with_reducible refine Txt.wp_region_text mixed quiet (by decide +kernel) ?_) | (with_reducible refine Txt.text_done (by kernel_rfl) ?_))
  go_ret2
  exact ⟨w.heap.size, rfl, (Keep.refl _ _).alloc _, .slice none 0 0, .slice none 0 0, fun _ => 0, fun _ => 0, Nat.le_refl _, blk_new w _, World.ownsRow_nil _ _ _ _, World.ownsRow_nil _ _ _ _, fun k hk => absurd hk (by simp), fun i j hi => absurd hi (by simp)⟩
/-- An object was made. -/
theorem WMem.push {w w5 : World} {B Wb n n' Tn Mn : Nat} {s : WS} {v1 v2 v1' : Value} {T M : Nat → Nat} (h : WMem w B Wb n s v1 v2 T M) (hk : Keep v1.ownBlock.toList w w5) (hn : n ≤ n') (hBw : B ≤ w.heap.size) (hT : w.heap.size ≤ Tn) (hM : w.heap.size ≤ Mn) {node : Int} {r : Int → Int}
    (hb : w5.heap[Tn]? = some (.cells #[.int .i64 node, .int .i64 0, .map (some Mn)] 92 (0, 0))) (hm : MapI w5 Try.prog 3 Mn n' r) (ho : w5.ownsRow B 89 1 v1' (s.th.length + 1) (ptrs T s.th.length ++ [.pointer (some ⟨Tn, 0, none⟩)])) :
    WMem (w5.setCell ⟨Wb, 1, none⟩ v1') B Wb n' { s with th := s.th ++ [⟨node, 0, r⟩] } v1' v2 (fun k => if k = s.th.length then Tn else T k) (fun k => if k = s.th.length then Mn else M k) := by
  have hw : ∀ (b : Nat) (cs : Array Value) (t : TypeId) (f : Nat × Nat), w.heap[b]? = some (.cells cs t f) → t ≠ 89 → b ∉ v1.ownBlock.toList := fun b cs t f hb ht hm => by
    obtain ⟨c2, h2⟩ := own_cellsT h.own1 (by simpa using hm : v1.ownBlock = some b)
    exact ne_type hb h2 ht rfl
  have hb' := hk.at h.blk (hw _ _ _ _ h.blk (by decide))
  have hkS : Keep [Wb] w5 (w5.setCell ⟨Wb, 1, none⟩ v1') := (Keep.refl _ _).setCell (.inl (by simp)) _
  have hat : ∀ k, tgAt { s with th := s.th ++ [(⟨node, 0, r⟩ : Tg)] } k = if k = s.th.length then (⟨node, 0, r⟩ : Tg) else tgAt s k := fun k => by
    show (s.th ++ [(⟨node, 0, r⟩ : Tg)]).getD k noTg = if k = s.th.length then (⟨node, 0, r⟩ : Tg) else s.th.getD k noTg
    simp only [List.getD_eq_getElem?_getD]
    by_cases e : k = s.th.length
    · subst e; simp
    · rw [if_neg e]
      by_cases e2 : k < s.th.length
      · rw [List.getElem?_append_left e2]
      · rw [List.getElem?_eq_none (by simp; omega), List.getElem?_eq_none (by omega)]
  have hpt : ptrs (fun k => if k = s.th.length then Tn else T k) (s.th.length + 1) = ptrs T s.th.length ++ [.pointer (some ⟨Tn, 0, none⟩)] := by
    unfold ptrs
    rw [List.range_succ, List.map_append]
    congr 1
    · refine List.map_congr_left fun k hk => ?_
      have := List.mem_range.1 hk
      dsimp only
      rw [if_neg (by omega)]
    · simp
  refine ⟨h.hB, ?_, ?_, ?_, fun k hk' => ?_, fun i j hi hj hij => ?_⟩
  · rw [blk_setCell, if_pos rfl, hb']; rfl
  · show World.ownsRow _ B 89 1 v1' (s.th ++ [(⟨node, 0, r⟩ : Tg)]).length (ptrs _ (s.th ++ [(⟨node, 0, r⟩ : Tg)]).length)
    rw [List.length_append, List.length_singleton, hpt]
    refine own_keep ho hkS (fun g hg hm => ?_)
    obtain ⟨c1, h1⟩ := own_cellsT ho hg
    exact ne_type h1 hb' (by decide) (by simpa using hm)
  · refine own_keep (own_keep h.own2 hk (fun g hg hm => ?_)) hkS (fun g hg hm => ?_)
    · obtain ⟨c1, h1⟩ := own_cellsT h.own2 hg
      exact hw _ _ _ _ h1 (by decide) hm
    · obtain ⟨c1, h1⟩ := own_cellsT h.own2 hg
      exact ne_type h1 h.blk (by decide) (by simpa using hm)
  · simp only [List.length_append, List.length_singleton] at hk'
    rw [hat]
    by_cases e : k = s.th.length
    · subst e
      simp only [if_pos]
      exact ⟨by omega, by omega, hkS.at hb (fun hm => ne_type hb hb' (by decide) (by simpa using hm)), hm.keep hkS (fun hx => hm.notCells hb' (by simpa using hx))⟩
    · simp only [if_neg e]
      obtain ⟨h1, h2, h3, h4⟩ := h.tb k (by omega)
      refine ⟨h1, h2, hkS.at (hk.at h3 (hw _ _ _ _ h3 (by decide))) (fun hm => ne_type h3 h.blk (by decide) (by simpa using hm)), ((h4.keep hk (fun hm => ?_)).keep hkS (fun hm => ?_)).mono hn⟩
      · obtain ⟨c2, h5⟩ := own_cellsT h.own1 (by simpa using hm : v1.ownBlock = some (M k))
        exact h4.notCells h5 rfl
      · exact h4.notCells h.blk (by simpa using hm)
  · simp only [List.length_append, List.length_singleton] at hi hj
    have hTl : ∀ k, k < s.th.length → T k < w.heap.size ∧ M k < w.heap.size := fun k hk => by
      obtain ⟨_, _, h3, h4⟩ := h.tb k hk
      exact ⟨lt_of_blk h3, h4.lt⟩
    by_cases e1 : i = s.th.length
    · have := hTl j (by omega)
      simp only [if_pos e1, if_neg (show ¬ j = s.th.length by omega)]
      omega
    · by_cases e2 : j = s.th.length
      · have := hTl i (by omega)
        simp only [if_neg e1, if_pos e2]
        omega
      · simp only [if_neg e1, if_neg e2]
        exact h.sep i j (by omega) (by omega) hij
end Go.Proofs.Ytfgipbjaaciiiaa
namespace Go.Proofs.Ytfgipbjaaciiiaa
open Go.RowKit
theorem cells_new2 (w : World) (o : Obj) (vs : List Value) (T : TypeId) : ∀ j u, vs[j]? = some u → ((w.alloc o).alloc (.cells vs.toArray T)).cell? ((⟨w.heap.size + 1, 0, none⟩ : Addr).add j) = some u := by
  have h := cells_new (w.alloc o) vs T (0, 0)
  have e : (w.alloc o).heap.size = w.heap.size + 1 := by simp
  rw [e] at h
  exact h
theorem info89 : (Try.prog.info? 89).map (fun i => (i.zero, i.size, i.bytes)) = some (some (.pointer none), 1, 8) := by kernel_rfl
theorem Out.keepS {w w' : World} {S : List Nat} (hk : Keep S w w') (hS : ∀ b ∈ S, ∀ cs T f, w.heap[b]? = some (.cells cs T f) → T = 88 ∨ T = 89 ∨ T = 92 ∨ T = 94) : Out w w' := fun b cs T f hb h1 h2 h3 h4 => by
  refine hk.at hb (fun hm => ?_)
  rcases hS b hm cs T f hb with h | h | h | h
  · exact h1 h
  · exact h2 h
  · exact h3 h
  · exact h4 h
theorem own_type {w : World} {B e m n b : Nat} {v : Value} {xs : List Value} (ho : w.ownsRow B e m v n xs) (hb : b ∈ v.ownBlock.toList) {cs : Array Value} {T : TypeId} {f : Nat × Nat} (hc : w.heap[b]? = some (.cells cs T f)) : T = e := by
  obtain ⟨c1, h1⟩ := own_cellsT ho (by simpa using hb : v.ownBlock = some b)
  rw [h1] at hc
  injection hc with hc
  injection hc with _ hc _
  exact hc.symm
set_option maxRecDepth 100000 in
set_option maxHeartbeats 2000000 in
theorem make28_any {w0 w : World} {Wb n : Nat} {s s' : WS} {node r c : Int} (h : WC w0 Wb n s w) (hbd : WBd s) (hn : n ≤ 1000000) (hnode : isN s node = true) (hr : makeW s node = (s', r, c)) :
    Calls Try.prog 28 #[.pointer (some ⟨Wb, 0, none⟩), .int .i64 node] w fun e w' => e = .returned (.tuple #[.int .i64 r, .int .i64 c]) ∧ WC w0 Wb (n + 1) s' w' ∧ Out w w' := by
  have h0 := h
  obtain ⟨hk0, v1, v2, T, M, hm⟩ := h
  have hn' : 0 ≤ node ∧ node < s.nodes := by simpa [isN] using hnode
  have hnd := hbd.nodes
  have hl20 := hbd.len
  have HNN := Lib.hid (show (decide (0 ≤ node) && decide (node < s.nodes)) = true from hnode)
  have HB := Lib.hid hm.blk
  obtain ⟨c0, c1, c2, _⟩ := row3 hm.blk
  obtain ⟨a1, p1, hv1, hp1, hp2, _⟩ := own_any hm.own1
  unfold maxLen at hp2
  rw [makeW, if_pos hnode] at hr
  by_cases h20 : s.th.length = 20
  · rw [if_pos h20] at hr
    obtain ⟨rfl, hr2⟩ := Prod.mk.inj hr
    obtain ⟨rfl, rfl⟩ := Prod.mk.inj hr2
    subst hv1
    rw [h20] at c1
    have HW0 := Lib.hid h0
    clear hm h0 hbd hp1
    go_enter Try.func28, Try.ntmps28
    go_wp2_with (first | (with_reducible refine Txt.wp_region_text mixed quiet (by decide +kernel) ?_) | (with_reducible refine Txt.text_done (by kernel_rfl) ?_) | (go_at_call 42; (with_reducible refine (node42 HB.out HNN.out).mono ?_); rintro e w1 ⟨rfl, rfl⟩))
    go_ret2
    exact ⟨rfl, HW0.out.mono (by omega), Out.keep (Keep.refl _ _)⟩
  · rw [if_neg h20] at hr
    obtain ⟨rfl, hr2⟩ := Prod.mk.inj hr
    obtain ⟨rfl, rfl⟩ := Prod.mk.inj hr2
    have hmm := @run_makeMap Try.prog
    obtain ⟨ip, hip, hq0, hq1, hq2⟩ := info_parts' info89
    have HW := Lib.hid (wf_node hn'.1 (show node ≤ 1000000 by omega))
    have HM := Lib.hid hm
    have HK0 := Lib.hid hk0
    have hsz := hk0.size
    have hWl := lt_of_blk hm.blk
    have HV1 := Lib.hid hv1
    obtain ⟨L, hL⟩ : ∃ L, s.th.length = L := ⟨_, rfl⟩
    have c1' : w.cell? ⟨Wb, 1, none⟩ = some (.slice a1 L p1) := by rw [c1, hv1, hL]
    have h20b : ((L : Int) == 20) = false := beq_eq_false_iff_ne.2 (by omega)
    have HL := Lib.hid hL
    have HO1 : Hid (w.ownsRow w0.heap.size 89 1 (.slice a1 L p1) L (ptrs T L)) := Lib.hid (by have h9 := hm.own1; rw [hv1, hL] at h9; exact h9)
    rw [hL] at hl20 hp1 h20
    clear hm h0 hbd c1 hnode hL
    go_enter Try.func28, Try.ntmps28
    go_wp2_with (first | (with_reducible refine Txt.wp_region_text mixed quiet (by decide +kernel) ?_) | (with_reducible refine Txt.text_done (by kernel_rfl) ?_) | (go_at_call 42; (with_reducible refine (node42 HB.out HNN.out).mono ?_); rintro e w1 ⟨rfl, rfl⟩) | (refine wpList_update_i _ rfl _ _ _ 90 (.inr rfl) 3 3 Try.underlying90 Try.underlying3 w1.heap.size 0 (fun _ => 0) rfl (MapI.made w1 Try.prog 3) (by unfold maxLen; omega) node 65536 rfl rfl HW.out ?_; intro w2 hm2 hk2; have HM2 := Lib.hid hm2; have hk12 : Keep [] w1 w2 := Keep.call ((Keep.refl [] w1).alloc _) hk2 (fun z hz => .inr (by simp at hz; omega)); have hs2 := hk2.size; have HO2 := Lib.hid (own_keep HO1.out hk12 (by simp)); clear hm2) | (at_builtin; refine wpList_append_own _ rfl _ _ 86 rfl w0.heap.size 89 ip (.pointer none) 1 8 Try.underlying86 hip hq0 hq1 hq2 rfl (by decide) _ _ _ rfl ((HO2.out.alloc _).alloc _) ⟨w2.heap.size + 1, 0, none⟩ 1 1 [.pointer (some ⟨w2.heap.size, 0, none⟩)] rfl rfl (cells_new2 _ _ _ _) (by intro u hu; simp at hu; subst hu; rfl) (by unfold maxLen; omega) (by omega) (by simp at hs2; simp; omega) ?_; intro v6 w6 hown6 hgr6 _; have HO6 := Lib.hid hown6; have HGR6 := Lib.hid hgr6; obtain ⟨a6, p6, rfl, hp6, _⟩ := own_any hown6; have hk26 : Keep (Value.slice a1 L p1).ownBlock.toList w2 w6 := (((Keep.refl _ w2).alloc _).alloc _).grown hgr6 (fun x hx => .inl (by have h9 : (Value.slice a1 L p1).ownBlock = some x := hx; simp [h9])); have hb6 := hk26.at (hk12.at HB.out (by simp)) (fun hm => absurd (own_type HO2.out hm (hk12.at HB.out (by simp))) (by decide)); obtain ⟨d0, d1, d2, _⟩ := row3 hb6; have z6 := thaw hb6; have hbl6 := lt_of_blk hb6; clear hown6 hgr6))
    have hvo : v1.ownBlock = (Value.slice a1 L p1).ownBlock := by rw [HV1.out]; cases a1 <;> rfl
    have hgr : ((w2.alloc (.cells #[.int .i64 node, .int .i64 0, .map (some w1.heap.size)] 92)).alloc (.cells #[.pointer (some ⟨w2.heap.size, 0, none⟩)] 89)).grownBy w6 (Value.slice a1 L p1).ownBlock := HGR6.out
    have hkT : Keep (Value.slice a1 L p1).ownBlock.toList (w2.alloc (.cells #[.int .i64 node, .int .i64 0, .map (some w1.heap.size)] 92)) w6 := ((Keep.refl _ _).alloc _).grown hgr (fun x hx => .inl (by simp [hx]))
    have hX := blk_new w2 (.cells #[.int .i64 node, .int .i64 0, .map (some w1.heap.size)] 92)
    have hTb := hkT.at hX (fun hm => absurd (own_type (HO2.out.alloc _) hm hX) (by decide))
    have hMm := HM2.out.keep hk26 (fun hm => by
      obtain ⟨c1, h1⟩ := own_cellsT HO2.out (by simpa using hm)
      exact HM2.out.notCells h1 rfl)
    have hk16 : Keep v1.ownBlock.toList w1 w6 := by
      rw [hvo]
      exact (Keep.more hk12 (by simp)).trans hk26
    have hs1 := (Keep.alloc (Keep.refl [] w1) (.map #[] 0)).size
    have hpush := WMem.push (n' := n + 1) HM.out hk16 (by omega) hsz (by simp at hs2; omega) (Nat.le_refl _) hTb (hMm.mono (by omega)) (v1' := .slice a6 (L + 1) p6) (by rw [HL.out]; exact HO6.out)
    have hkF : Keep (Wb :: v1.ownBlock.toList) w1 (w6.setCell ⟨Wb, 1, none⟩ (.slice a6 (L + 1) p6)) := (hk16.more (fun b hb => List.mem_cons_of_mem _ hb)).setCell (.inl (by simp)) _
    go_ret2
    refine ⟨by rw [HL.out]; try rfl, ⟨Keep.call HK0.out hkF (fun z hz => .inr ?_), _, _, _, _, hpush⟩, Out.keepS hkF (fun b hb cs t f hc => ?_)⟩
    · rcases List.mem_cons.1 hz with h | h
      · rw [h]; exact HM.out.hB
      · exact (HM.out.own1.lt z (by simpa using h)).1
    · rcases List.mem_cons.1 hb with h | h
      · subst h
        have h9 := HM.out.blk
        rw [h9] at hc
        injection hc with hc
        injection hc with _ hc _
        exact .inl hc.symm
      · exact .inr (.inl (own_type HM.out.own1 h hc))
end Go.Proofs.Ytfgipbjaaciiiaa
