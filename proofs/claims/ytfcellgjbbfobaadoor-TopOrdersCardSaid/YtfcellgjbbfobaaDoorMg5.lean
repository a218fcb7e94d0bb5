/- Texts laid together: M4 M6 M7 R6 R8 BP1 EP1 R13. -/
import Derived.Test.YtfcellgjbbfobaaDoorMg4
import Derived.StringKeys
import Derived.Maps.OwnSet
import Derived.WideKeyPair
import Derived.Laws.CopyRow
import Derived.Deep.MidRow
/- A map with keys of any type that the kit keys, seen as a function of what stands for the keys. -/
namespace Go
open Go.Maps (Keyed)
open Go.WideMaps
structure KeyT (P : Program) (k : TypeId) (α : Type) where
  val : α → Value
  lit : α → Lit
  ok : α → Prop
  keyed : Keyed P k
  key : ∀ x, ok x → keyOf P k (val x) = some (lit x)
  inj : ∀ x y, ok x → ok y → lit x = lit y → x = y
def MapK {P : Program} {k : TypeId} {α : Type} (C : KeyT P k α) (w : World) (b n : Nat) (f : α → Option Value) : Prop :=
  ∃ D : DataW Value, w.ownsMap P k asIs b n D ∧ Maps.IsMap D ∧ (∀ x, C.ok x → ∀ z, D.atKey (C.lit x) (.held z) = .held ((f x).getD z)) ∧ ∀ x, C.ok x → Maps.has D (C.lit x) = (f x).isSome
section
variable {w w' : World} {P : Program} {k : TypeId} {α : Type} {C : KeyT P k α} {b n : Nat} {f : α → Option Value}
theorem MapK.made (C : KeyT P k α) (w : World) : MapK C (w.alloc (.map #[] 0)) w.heap.size 0 (fun _ => none) :=
  ⟨.map [], World.ownsMap_made w P k asIs, ⟨[], rfl⟩, fun _ _ _ => rfl, fun _ _ => rfl⟩
theorem MapK.lt (h : MapK C w b n f) : b < w.heap.size := let ⟨_, h1, _⟩ := h; h1.lt
theorem MapK.block (h : MapK C w b n f) (hb : w'.heap[b]? = w.heap[b]?) : MapK C w' b n f := by
  obtain ⟨D, ⟨es, clock, h1, h2⟩, h3⟩ := h
  exact ⟨D, ⟨es, clock, hb.trans h1, h2⟩, h3⟩
theorem MapK.keep {S : List Nat} (h : MapK C w b n f) (hk : Keep S w w') (hs : b ∉ S) : MapK C w' b n f := h.block (hk.block b h.lt hs)
theorem MapK.drew (h : MapK C w b n f) : MapK C w.drew b n f := h
theorem MapK.mono (h : MapK C w b n f) {n' : Nat} (hn : n ≤ n') : MapK C w b n' f := let ⟨D, h1, h2⟩ := h; ⟨D, h1.mono hn, h2⟩
theorem MapK.notCells (h : MapK C w b n f) {c : Nat} {cs : Array Value} {T : TypeId} {g : Nat × Nat} (hc : w.heap[c]? = some (.cells cs T g)) : b ≠ c := by
  rintro rfl
  obtain ⟨D, ⟨es, clock, h1, _⟩, _⟩ := h
  rw [hc] at h1
  cases h1
theorem put_k [DecidableEq α] {D : DataW Value} {key : α} {v : Value} (hx : C.ok key) (h2 : Maps.IsMap D) (h3 : ∀ x, C.ok x → ∀ z, D.atKey (C.lit x) (.held z) = .held ((f x).getD z)) (h4 : ∀ x, C.ok x → Maps.has D (C.lit x) = (f x).isSome)
    (ho : w'.ownsMap P k asIs b n (D.put (C.lit key) (.held v))) : MapK C w' b n (fun y => if y = key then some v else f y) := by
  have hkl := C.keyed.key (C.key key hx)
  refine ⟨_, ho, ?_, fun y hy z => ?_, fun y hy => ?_⟩
  · obtain ⟨es, rfl⟩ := h2
    exact ⟨_, rfl⟩
  · by_cases e1 : y = key
    · subst e1
      rw [Maps.atKey_put_same h2 hkl]; simp
    · rw [Maps.atKey_put_other (fun h => e1 (C.inj _ _ hy hx h)), h3 y hy]; simp [e1]
  · by_cases e1 : y = key
    · subst e1
      rw [Maps.has_put_same h2 hkl]; simp
    · rw [Maps.has_put_other (fun h => e1 (C.inj _ _ hy hx h)), h4 y hy]; simp [e1]
theorem lookup_run_k {t e : TypeId} {z : Value} {key : α} (ht : P.underlying t = some (.map k e)) (hz : (zeroValue e).run P w = .ok z w) (hown : MapK C w b n f) (hx : C.ok key) :
    (Instr.lookup t (.map (some b)) (C.val key) false).run P w = .ok ((f key).getD z) w := by
  obtain ⟨D, h1, h2, h3, _⟩ := hown
  obtain ⟨v, ps, hrun, hv⟩ := h1.lookup C.keyed ht hz (show asIs z = some (.held z, []) from rfl) (C.key key hx)
  have hve : v = (f key).getD z := by
    rw [h3 key hx] at hv
    unfold asIs at hv
    injection hv with hv
    injection hv with hv _
    injection hv
  rw [hrun, hve]
theorem update_run_k [DecidableEq α] {t e : TypeId} {key : α} {v : Value} (ht : P.underlying t = some (.map k e)) (hown : MapK C w b n f) (hn : n < maxLen) (hx : C.ok key) :
    ∃ w', (Instr.mapUpdate t (.map (some b)) (C.val key) v).run P w = .ok () w' ∧ MapK C w' b (n + 1) (fun y => if y = key then some v else f y) ∧ Keep [b] w w' := by
  obtain ⟨D, h1, h2, h3, h4⟩ := hown
  have hkey := C.key key hx
  obtain ⟨w', hrun, h5, h6⟩ := h1.store C.keyed ht hn (val := v) hkey (show asIs v = some (.held v, []) from rfl)
  exact ⟨w', hrun, put_k hx h2 h3 h4 h5, keep_turned h6⟩
end
theorem wpList_lookup_k {P : Program} {k : TypeId} {α : Type} (C : KeyT P k α) (w : World) {ops : Array Oper} {rest : List Oper} {o : Oper} {a : Act} {Q : Exit → Act → World → Prop}
    (hg : o.guard = none) (m x : Operand) (t : TypeId) (hop : o.op = Op.lookup t m x false)
    (e : TypeId) (ht : P.underlying t = some (.map k e)) (z : Value) (hz : (zeroValue e).run P w = .ok z w) (b n : Nat) (f : α → Option Value)
    (hm : a.eval m = .map (some b)) (hown : MapK C w b n f) (key : α) (hx : a.eval x = C.val key) (hok : C.ok key)
    (hK : wpList P ops Q rest (a.put o.dst ((f key).getD z)) w) : wpList P ops Q (o :: rest) a w := by
  refine wpList_plain hg fun K' hK' => ?_
  have hrun := lookup_run_k ht hz hown hok
  unfold Oper.wp
  simp [execOp, hop, hm, hx, hrun, Result.andThen]
  exact hK' _ _ hK
theorem wpList_lookup_k2 {P : Program} {k : TypeId} {α : Type} (C : KeyT P k α) (w : World) {ops : Array Oper} {rest : List Oper} {o : Oper} {a : Act} {Q : Exit → Act → World → Prop}
    (hg : o.guard = none) (m x : Operand) (t : TypeId) (hop : o.op = Op.lookup t m x true)
    (e : TypeId) (ht : P.underlying t = some (.map k e)) (z : Value) (hz : (zeroValue e).run P w = .ok z w) (b n : Nat) (f : α → Option Value)
    (hm : a.eval m = .map (some b)) (hown : MapK C w b n f) (key : α) (hx : a.eval x = C.val key) (hok : C.ok key)
    (hK : wpList P ops Q rest (a.put o.dst (.tuple #[(f key).getD z, .bool (f key).isSome])) w) : wpList P ops Q (o :: rest) a w := by
  obtain ⟨D, h1, h2, h3, h4⟩ := hown
  refine wpList_lookup_own_ok w hg m x t hop k e C.keyed ht asIs hz (.held z) [] rfl b n D hm h1 _ _ hx (C.key key hok) fun v ps hv => ?_
  rw [h3 key hok] at hv
  unfold asIs at hv
  injection hv with hv
  injection hv with hv _
  injection hv with hv
  subst hv
  rw [h4 key hok]
  exact hK
theorem wpList_update_kk {P : Program} {k : TypeId} {α : Type} [DecidableEq α] (C : KeyT P k α) (w : World) {ops : Array Oper} {rest : List Oper} {o : Oper} {a : Act} {Q : Exit → Act → World → Prop}
    (hg : o.guard = none) (m x v : Operand) (t : TypeId) (hop : o.op = Op.mapUpdate t m x v ∨ o.op = Op.insert t m x v)
    (e : TypeId) (ht : P.underlying t = some (.map k e)) (b n : Nat) (f : α → Option Value)
    (hm : a.eval m = .map (some b)) (hown : MapK C w b n f) (hn : n < maxLen) (key : α) (val : Value) (hx : a.eval x = C.val key) (hv : a.eval v = val) (hok : C.ok key)
    (hK : ∀ w', MapK C w' b (n + 1) (fun y => if y = key then some val else f y) → Keep [b] w w' → wpList P ops Q rest (a.put o.dst undef) w') : wpList P ops Q (o :: rest) a w := by
  refine wpList_plain hg fun K' hK' => ?_
  obtain ⟨w', hrun, h5, h6⟩ := update_run_k (v := val) ht hown hn hok
  unfold Oper.wp
  rcases hop with hop | hop
  all_goals
    simp [execOp, hop, hm, hx, hv, hrun, Result.andThen]
    exact hK' _ _ (hK w' h5 h6)
/-- Strings for keys. -/
def KeyStr {P : Program} {k : TypeId} (hk : P.underlying k = some .string) : KeyT P k ByteArray where
  val s := .string s
  lit s := .string s.data.toList
  ok s := s.size ≤ maxLen
  keyed := Maps.string_keyed hk
  key s h := keyOf_string_mk hk h
  inj s t _ _ h := by
    injection h with h
    have h' : s.data = t.data := by
      rw [← Array.toArray_toList (xs := s.data), h, Array.toArray_toList]
    cases s; cases t
    simp at h'
    subst h'
    rfl
end Go
/- A map[K]bool as the list of what was put in. -/
namespace Go
open Go.Maps (Keyed)
open Go.WideMaps
/-- What is in: each once. -/
def Seen {P : Program} {k : TypeId} {α : Type} [DecidableEq α] (C : KeyT P k α) (w : World) (b : Nat) (L : List α) : Prop :=
  ∃ D : DataW Value, w.ownsMap P k asIs b L.length D ∧ Maps.IsMap D ∧ (∀ x, C.ok x → ∀ z, D.atKey (C.lit x) (.held z) = .held ((if x ∈ L then some (.bool true) else none : Option Value).getD z)) ∧ (∀ x, C.ok x → Maps.has D (C.lit x) = (if x ∈ L then some (.bool true) else none : Option Value).isSome) ∧ Maps.size D = L.length
section
variable {w w' : World} {P : Program} {k : TypeId} {α : Type} [DecidableEq α] {C : KeyT P k α} {b : Nat} {L : List α}
theorem Seen.made (C : KeyT P k α) (w : World) : Seen C (w.alloc (.map #[] 0)) w.heap.size [] :=
  ⟨.map [], World.ownsMap_made w P k asIs, ⟨[], rfl⟩, fun _ _ _ => rfl, fun _ _ => rfl, rfl⟩
theorem Seen.lt (h : Seen C w b L) : b < w.heap.size := let ⟨_, h1, _⟩ := h; h1.lt
theorem Seen.block (h : Seen C w b L) (hb : w'.heap[b]? = w.heap[b]?) : Seen C w' b L := by
  obtain ⟨D, ⟨es, clock, h1, h2⟩, h3⟩ := h
  exact ⟨D, ⟨es, clock, hb.trans h1, h2⟩, h3⟩
theorem Seen.keep {S : List Nat} (h : Seen C w b L) (hk : Keep S w w') (hs : b ∉ S) : Seen C w' b L := h.block (hk.block b h.lt hs)
theorem Seen.drew (h : Seen C w b L) : Seen C w.drew b L := h
theorem Seen.notCells (h : Seen C w b L) {c : Nat} {cs : Array Value} {T : TypeId} {g : Nat × Nat} (hc : w.heap[c]? = some (.cells cs T g)) : b ≠ c := by
  rintro rfl
  obtain ⟨D, ⟨es, clock, h1, _⟩, _⟩ := h
  rw [hc] at h1
  cases h1
theorem Seen.add {t e : TypeId} {key : α} (ht : P.underlying t = some (.map k e)) (h : Seen C w b L) (hn : L.length < maxLen) (hx : C.ok key) (hnew : key ∉ L) :
    ∃ w', (Instr.mapUpdate t (.map (some b)) (C.val key) (.bool true)).run P w = .ok () w' ∧ Seen C w' b (L ++ [key]) ∧ Keep [b] w w' := by
  obtain ⟨D, h1, h2, h3, h4, h5⟩ := h
  have hkey := C.key key hx
  have hkl := C.keyed.key hkey
  obtain ⟨w', hrun, h6, h7⟩ := h1.store C.keyed ht hn (val := .bool true) hkey (show asIs (.bool true) = some (.held (.bool true), []) from rfl)
  have hhas : Maps.has D (C.lit key) = false := by rw [h4 key hx, if_neg hnew]; rfl
  refine ⟨w', hrun, ⟨_, by rw [List.length_append]; exact h6, ?_, fun y hy z => ?_, fun y hy => ?_, ?_⟩, keep_turned h7⟩
  · obtain ⟨es, rfl⟩ := h2
    exact ⟨_, rfl⟩
  · by_cases e1 : y = key
    · subst e1
      rw [Maps.atKey_put_same h2 hkl]; simp
    · rw [Maps.atKey_put_other (fun h => e1 (C.inj _ _ hy hx h)), h3 y hy]; simp [e1]
  · by_cases e1 : y = key
    · subst e1
      rw [Maps.has_put_same h2 hkl]; simp
    · rw [Maps.has_put_other (fun h => e1 (C.inj _ _ hy hx h)), h4 y hy]; simp [e1]
  · rw [Maps.size_put (h1.tidy C.keyed), hhas, h5, List.length_append]; rfl
theorem Seen.look {t e : TypeId} {key : α} (ht : P.underlying t = some (.map k e)) (hz : (zeroValue e).run P w = .ok (.bool false) w) (h : Seen C w b L) (hx : C.ok key) :
    (Instr.lookup t (.map (some b)) (C.val key) false).run P w = .ok (.bool (decide (key ∈ L))) w := by
  obtain ⟨D, h1, h2, h3, _⟩ := h
  obtain ⟨v, ps, hrun, hv⟩ := h1.lookup C.keyed ht hz (show asIs (.bool false) = some (.held (.bool false), []) from rfl) (C.key key hx)
  rw [h3 key hx] at hv
  unfold asIs at hv
  injection hv with hv
  injection hv with hv _
  injection hv with hv
  rw [hrun, hv]
  by_cases e1 : key ∈ L
  · simp [e1]
  · simp [e1]
theorem Seen.len {t e : TypeId} (ht : P.underlying t = some (.map k e)) (h : Seen C w b L) (ty : TypeId) : (Builtin.len_ #[t] ty #[.map (some b)]).run P w = .ok (.int .i64 L.length) w := by
  obtain ⟨D, h1, _, _, _, h5⟩ := h
  rw [h1.len ht ty, h5]
end
end Go
/- Keys that are arrays of eight ints. -/
namespace Go
open Go.Maps (Keyed)
open Go.WideMaps
def aggI (xs : List Int) : Value := .agg (xs.map (Value.int .i64)).toArray
theorem aggI_inj {xs ys : List Int} (h : aggI xs = aggI ys) : xs = ys := by
  unfold aggI at h
  injection h with h
  have h2 := congrArg Array.toList h
  simp only [] at h2
  exact (List.map_inj_right (fun a b hab => by injection hab)).1 h2
theorem keyOf_eight {P : Program} {k e : TypeId} (A : ArrKey P k e 8) (he : P.underlying e = some (.int .i64)) (hsz : ∃ m, P.types.size = m + 1) {x0 x1 x2 x3 x4 x5 x6 x7 : Int} (hw : ∀ z ∈ [x0, x1, x2, x3, x4, x5, x6, x7], (Lit.int .i64 z).wf = true) :
    keyOf P k (aggI [x0, x1, x2, x3, x4, x5, x6, x7]) = some (.string (keyBytes [.int .i64 x0, .int .i64 x1, .int .i64 x2, .int .i64 x3, .int .i64 x4, .int .i64 x5, .int .i64 x6, .int .i64 x7])) := by
  have hkt := A.keyType hsz
  obtain ⟨m, hm⟩ := hsz
  simp only [List.mem_cons, forall_eq_or_imp, List.not_mem_nil, false_imp_iff, implies_true, and_true] at hw
  obtain ⟨w0, w1, w2, w3, w4, w5, w6, w7⟩ := hw
  unfold keyOf aggI
  simp only [A.hu]
  rw [if_pos (by simp [hkt, Value.formed, A.hu, A.size]), hm]
  unfold Program.keyLits
  simp only [A.hu, Value.cells]
  rw [if_pos (by rw [A.size]; rfl), show List.range 8 = [0, 1, 2, 3, 4, 5, 6, 7] from rfl]
  simp only [List.mapM_cons, List.mapM_nil]
  simp [A.one, Program.keyLits, he, w0, w1, w2, w3, w4, w5, w6, w7]
def Key8 {P : Program} {k e : TypeId} (A : ArrKey P k e 8) (he : P.underlying e = some (.int .i64)) (hsz : ∃ m, P.types.size = m + 1) : KeyT P k (List Int) where
  val := aggI
  lit x := (keyOf P k (aggI x)).getD (.bool false)
  ok x := x.length = 8 ∧ ∀ z ∈ x, (Lit.int .i64 z).wf = true
  keyed := Keyed.of_law A.law
  key x hx := by
    obtain ⟨hl, hw⟩ := hx
    match x, hl with
    | [x0, x1, x2, x3, x4, x5, x6, x7], _ =>
      rw [keyOf_eight A he hsz hw]; rfl
  inj x y hx hy h := by
    obtain ⟨hl, hw⟩ := hx
    obtain ⟨hl', hw'⟩ := hy
    match x, y, hl, hl' with
    | [x0, x1, x2, x3, x4, x5, x6, x7], [y0, y1, y2, y3, y4, y5, y6, y7], _, _ =>
      have h1 := keyOf_eight A he hsz hw
      have h2 := keyOf_eight A he hsz hw'
      rw [h1, h2] at h
      simp only [Option.getD_some] at h
      rw [← h] at h2
      exact aggI_inj (A.law.inj h1 h2)
end Go
namespace Go
/-- What the call's own appended row reads as. -/
theorem IntsV.ofOwn {w : World} {base e : Nat} {v : Value} {n : Nat} {zs : List Int} (h : w.ownsRow base e 1 v n (zs.map (Value.int .i64))) (hw : ∀ z ∈ zs, (Lit.int .i64 z).wf = true) :
    ∃ a c, v = .slice a n c ∧ IntsV w a n c zs ∧ ∀ x, a = some x → base ≤ x.block := by
  obtain ⟨hl, h⟩ := h
  have hn : zs.length = n := by simpa using hl
  rcases h with ⟨rfl, rfl⟩ | ⟨g, cap, cur, rfl, hb, hg, hnc, hcm, hcs, ht⟩
  · exact ⟨none, 0, rfl, ⟨hn, Nat.le_refl _, Nat.zero_le _, hw, fun h => absurd h (by decide)⟩, fun x hx => by cases hx⟩
  · refine ⟨_, _, rfl, ⟨hn, hnc, hcm, hw, fun h0 => ⟨g, 0, rfl, fun i hi => ?_⟩⟩, fun x hx => by cases hx; exact hb⟩
    rw [Nat.zero_add, cell_of_row w g i cur e (0, 0) hg]
    have : (cur.toList.take (n * 1))[i]? = (zs.map (Value.int .i64))[i]? := by rw [ht]
    rw [List.getElem?_take, if_pos (by omega)] at this
    simp only [Array.getElem?_toList] at this
    rw [this]
    simp [List.getD_eq_getElem?_getD, hn ▸ hi]
theorem wf_small {z : Int} (h0 : -1000000 ≤ z) (h1 : z ≤ 1000000) : (Lit.int .i64 z).wf = true := by
  have h2 : IntKind.i64.min = -9223372036854775808 := by decide
  have h3 : IntKind.i64.max = 9223372036854775807 := by decide
  simp [Lit.wf, h2, h3]
  omega
end Go
/- Writing in place into a row of one's own, elements of however many cells. -/
namespace Go
theorem keep_setRow (w : World) (g : Nat) (cs : Array Value) : Keep [g] w (w.setRow g cs) :=
  ⟨rfl, rfl, rfl, by simp, fun i _ hs => setRow_other w g i cs (by simpa using hs)⟩
section
variable {P : Program}
theorem wpList_append_room {w : World} {ops : Array Oper} {rest : List Oper} {o : Oper} {a : Act} {Q : Exit → Act → World → Prop} (hgd : o.guard = none) (s x : Operand) (t : TypeId)
    (ho : o.op = .call { callee := .builtin .append, args := #[s, x], argTypes := #[t, t] })
    (e : TypeId) (i : TypeInfo) (ht : P.underlying t = some (.slice e)) (hi : P.info? e = some i) (size : Nat) (hsz : i.size = size)
    (g sLen sCap : Nat) (cur : Array Value) (hg : w.heap[g]? = some (.cells cur e (0, 0))) (hs : a.eval s = .slice (some ⟨g, 0, none⟩) sLen sCap)
    (ad : Addr) (m c : Nat) (news : List Value) (hx : a.eval x = .slice (some ad) m c) (hl : news.length = m * size) (hnews : ∀ j u, news[j]? = some u → w.cell? (ad.add j) = some u) (h1 : ∀ u ∈ news, u.oneCell' = true)
    (hroom : sLen + m ≤ sCap) (hfit : sLen * size + news.length ≤ cur.size)
    (h : wpList P ops Q rest (a.put o.dst (.slice (some ⟨g, 0, none⟩) (sLen + m) sCap)) (w.setRow g (cur.toList.take (sLen * size) ++ news ++ cur.toList.drop (sLen * size + news.length)).toArray)) : wpList P ops Q (o :: rest) a w := by
  subst hsz
  refine wpList_plain hgd fun K hK => ?_
  have hrun := run_append_room (P := P) (w := w) t o.type e i ht hi g sLen sCap cur hg ad m c news hl hnews h1 hroom hfit
  unfold Oper.wp
  simp [execOp, ho, resolve, invoke, builtin, hs, hx, hrun, Result.andThen]
  exact hK _ _ (by simpa only [List.append_assoc] using h)
theorem wpList_clear_row {w : World} {ops : Array Oper} {rest : List Oper} {o : Oper} {a : Act} {Q : Exit → Act → World → Prop} (hgd : o.guard = none) (s : Operand) (t : TypeId)
    (ho : o.op = .call { callee := .builtin .clear, args := #[s], argTypes := #[t] })
    (e : TypeId) (z : Value) (ht : P.underlying t = some (.slice e)) (hv : ∀ w, (zeroValue e).run P w = .ok z w) (hz1 : ∀ u ∈ z.cells, u.oneCell' = true)
    (g off n c : Nat) (cur : Array Value) (hg : w.heap[g]? = some (.cells cur e (0, 0))) (hs : a.eval s = .slice (some ⟨g, off, none⟩) (n + 1) c) (hfit : off + (n + 1) * z.cells.size ≤ cur.size)
    (h : ∀ L : List Value, L.length = (n + 1) * z.cells.size → wpList P ops Q rest (a.put o.dst (.tuple #[])) (w.setRow g (cur.toList.take off ++ L ++ cur.toList.drop (off + L.length)).toArray)) : wpList P ops Q (o :: rest) a w := by
  refine wpList_plain hgd fun K hK => ?_
  obtain ⟨L, hL⟩ : ∃ L, (Builtin.zeroCells z.cells (n + 1)).toList = L := ⟨_, rfl⟩
  have hlen : L.length = (n + 1) * z.cells.size := by rw [← hL, Array.length_toList, size_zeroCells]
  have hone : ∀ u ∈ L, u.oneCell' = true := fun u hu => by
    rw [← hL] at hu
    have hu' : u ∈ Builtin.zeroCells z.cells (n + 1) := by simpa using hu
    unfold Builtin.zeroCells at hu'
    obtain ⟨j, hj, rfl⟩ := Array.mem_map.1 hu'
    have hj2 := Array.mem_range.1 hj
    have hs0 : 0 < z.cells.size := by
      rcases Nat.eq_zero_or_pos z.cells.size with h0 | h0
      · rw [h0] at hj2; simp at hj2
      · exact h0
    have hlt := Nat.mod_lt j hs0
    rw [getElem!_pos z.cells (j % z.cells.size) hlt]
    exact hz1 _ (Array.getElem_mem hlt)
  have hst := run_storeCells_at P g off e L 0 cur w hg (by omega) hone
  simp only [Nat.add_zero] at hst
  have hL' : Builtin.zeroCells z.cells (n + 1) = L.toArray := by rw [← hL]
  unfold Oper.wp
  simp [execOp, ho, resolve, invoke, builtin, hs, Builtin.clear_, run_underlying ht, hv, hL, hst, Result.andThen]
  exact hK _ _ (by simpa only [List.append_assoc] using h L hlen)
end
end Go
/- Breadth first: the states in the order in which they are come to; the queue is what is left of that list. -/
namespace Go.Bf
variable {α : Type}
/-- What can be come to. -/
inductive Rc (m : Nat) (nx : Nat → α → Option α) (s0 : α) : α → Prop
  | start : Rc m nx s0 s0
  | step {c s : α} {j : Nat} : Rc m nx s0 c → j < m → nx j c = some s → Rc m nx s0 s
structure BF (m : Nat) (nx : Nat → α → Option α) (s0 : α) (L : List α) (d i : Nat) : Prop where
  nodup : L.Nodup
  first : s0 ∈ L
  reach : ∀ x ∈ L, Rc m nx s0 x
  done : ∀ c ∈ L.take d, ∀ j, j < m → ∀ s, nx j c = some s → s ∈ L
  now : ∀ c, L[d]? = some c → ∀ j, j < i → j < m → ∀ s, nx j c = some s → s ∈ L
section
variable {m : Nat} {nx : Nat → α → Option α} {s0 : α} {L : List α} {d i : Nat}
theorem BF.start (m : Nat) (nx : Nat → α → Option α) (s0 : α) : BF m nx s0 [s0] 0 0 :=
  ⟨by simp, by simp, fun x hx => by rw [List.mem_singleton.1 hx]; exact .start, fun c hc => by simp at hc, fun _ _ j hj => absurd hj (Nat.not_lt_zero _)⟩
theorem BF.skip (h : BF m nx s0 L d i) {c : α} (hc : L[d]? = some c) (hs : ∀ s, nx i c = some s → s ∈ L) : BF m nx s0 L d (i + 1) :=
  ⟨h.nodup, h.first, h.reach, h.done, fun c' hc' j hj hjm s hns => by
    rw [hc] at hc'
    injection hc' with hc'
    subst hc'
    by_cases e : j = i
    · subst e; exact hs s hns
    · exact h.now c hc j (by omega) hjm s hns⟩
theorem BF.add (h : BF m nx s0 L d i) {c s : α} (hc : L[d]? = some c) (him : i < m) (hn : nx i c = some s) (hs : s ∉ L) : BF m nx s0 (L ++ [s]) d (i + 1) := by
  have hd := (List.getElem?_eq_some_iff.1 hc).1
  refine ⟨?_, List.mem_append_left _ h.first, fun x hx => ?_, fun c' hc' j hj s' hs' => ?_, fun c' hc' j hj hjm s' hs' => ?_⟩
  · rw [List.nodup_append]
    refine ⟨h.nodup, by simp, fun a ha b hb e => ?_⟩
    rw [List.mem_singleton.1 hb] at e
    exact hs (e ▸ ha)
  · rcases List.mem_append.1 hx with hx | hx
    · exact h.reach x hx
    · rw [List.mem_singleton.1 hx]
      exact .step (h.reach c (List.mem_of_getElem? hc)) him hn
  · rw [List.take_append_of_le_length (by omega)] at hc'
    exact List.mem_append_left _ (h.done c' hc' j hj s' hs')
  · rw [List.getElem?_append_left hd, hc] at hc'
    injection hc' with hc'
    subst hc'
    by_cases e : j = i
    · subst e
      rw [hn] at hs'
      injection hs' with hs'
      subst hs'
      exact List.mem_append_right _ (List.mem_singleton.2 rfl)
    · exact List.mem_append_left _ (h.now c hc j (by omega) hjm s' hs')
theorem BF.next (h : BF m nx s0 L d i) {c : α} (hc : L[d]? = some c) (him : m ≤ i) : BF m nx s0 L (d + 1) 0 :=
  ⟨h.nodup, h.first, h.reach, fun c' hc' j hj s hs => by
    rw [List.take_add_one, hc] at hc'
    rcases List.mem_append.1 hc' with hc' | hc'
    · exact h.done c' hc' j hj s hs
    · have e : c' = c := by simpa using hc'
      subst e
      exact h.now c' hc j (by omega) hj s hs, fun _ _ j hj => absurd hj (Nat.not_lt_zero _)⟩
theorem BF.all (h : BF m nx s0 L d i) (hd : L.length ≤ d) : ∀ x, Rc m nx s0 x ↔ x ∈ L := fun x => by
  refine ⟨fun hx => ?_, h.reach x⟩
  induction hx with
  | start => exact h.first
  | step _ hj hn ih => exact h.done _ (by rw [List.take_of_length_le hd]; exact ih) _ hj _ hn
/-- No more than there are at all. -/
theorem nodup_le [DecidableEq α] : ∀ {L U : List α}, L.Nodup → (∀ x ∈ L, x ∈ U) → L.length ≤ U.length
  | [], _, _, _ => Nat.zero_le _
  | a :: L, U, hn, hs => by
    rw [List.nodup_cons] at hn
    have h1 := hs a (List.mem_cons_self ..)
    have h2 : L.length ≤ (U.erase a).length := nodup_le hn.2 (fun x hx => (List.mem_erase_of_ne (fun e => by subst e; exact hn.1 hx)).2 (hs x (List.mem_cons_of_mem _ hx)))
    rw [List.length_erase_of_mem h1] at h2
    have h3 := List.length_pos_of_mem h1
    rw [List.length_cons]
    omega
theorem BF.le [DecidableEq α] (h : BF m nx s0 L d i) {U : List α} (hU : ∀ x, Rc m nx s0 x → x ∈ U) : L.length ≤ U.length :=
  nodup_le h.nodup (fun x hx => hU x (h.reach x hx))
/-- As many as there are at all, where all are come to. -/
theorem BF.eq [DecidableEq α] (h : BF m nx s0 L d i) (hd : L.length ≤ d) {U : List α} (hn : U.Nodup) (hU : ∀ x, Rc m nx s0 x ↔ x ∈ U) : L.length = U.length :=
  Nat.le_antisymm (h.le (fun x hx => (hU x).1 hx)) (nodup_le hn (fun x hx => (h.all hd x).1 ((hU x).2 hx)))
end
end Go.Bf
/- Explore: programs, states (twelve numbers: cells, hands, places), what the next step of one does; plain. -/
namespace Go.Ex
open Go.Bf
def DoOk (d : Ln) : Prop := (1 ≤ d.q ∧ d.q ≤ 4) ∧ (0 ≤ d.g ∧ d.g < 4) ∧ -1000 ≤ d.u ∧ d.u ≤ 1000
structure PsOk (ps : List (List Ln)) : Prop where
  few : ps.length ≤ 4
  all : ∀ p ∈ ps, ∀ d ∈ p, DoOk d
  tot : ps.flatten.length ≤ 12
def eff (d : Ln) (who : Nat) (s : List Int) : List Int :=
  if d.q = 1 then s.set (4 + who) (s.getD d.g.toNat 0)
  else if d.q = 2 then s.set d.g.toNat (s.getD (4 + who) 0 + d.u)
  else if d.q = 3 then s.set d.g.toNat (s.getD d.g.toNat 0 + d.u)
  else s
def opAt (ps : List (List Ln)) (who : Nat) (s : List Int) : Option Ln := (ps.getD who [])[(s.getD (8 + who) 0).toNat]?
def nx (ps : List (List Ln)) (who : Nat) (s : List Int) : Option (List Int) :=
  match opAt ps who s with
  | none => none
  | some d => if d.q = 4 ∧ s.getD d.g.toNat 0 ≠ d.u then none else some ((eff d who s).set (8 + who) (s.getD (8 + who) 0 + 1))
def s0 : List Int := [0, 0, 0, 0, 0, 0, 0, 0, 0, 0, 0, 0]
/-- How many steps were done. -/
def steps (s : List Int) : Int := s.getD 8 0 + s.getD 9 0 + s.getD 10 0 + s.getD 11 0
structure SOk (ps : List (List Ln)) (s : List Int) : Prop where
  len : s.length = 12
  at_ : ∀ who, who < 4 → 0 ≤ s.getD (8 + who) 0 ∧ s.getD (8 + who) 0 ≤ (ps.getD who []).length
  bd : ∀ i, i < 8 → -1000 * steps s ≤ s.getD i 0 ∧ s.getD i 0 ≤ 1000 * steps s
theorem getD_set {s : List Int} {i j : Nat} {v : Int} (hi : i < s.length) : (s.set i v).getD j 0 = if j = i then v else s.getD j 0 := by
  rw [List.getD_eq_getElem?_getD, List.getElem?_set]
  by_cases e : j = i
  · subst e; rw [if_pos rfl, if_pos hi, if_pos rfl]; rfl
  · rw [if_neg (fun h => e h.symm), if_neg e, List.getD_eq_getElem?_getD]
theorem sum4_le (ps : List (List Ln)) (h : ps.length ≤ 4) : (ps.getD 0 []).length + (ps.getD 1 []).length + (ps.getD 2 []).length + (ps.getD 3 []).length = ps.flatten.length := by
  match ps, h with
  | [], _ => rfl
  | [a], _ => simp
  | [a, b], _ => simp
  | [a, b, c], _ => simp; omega
  | [a, b, c, d], _ => simp; omega
theorem steps_le {ps : List (List Ln)} {s : List Int} (hp : PsOk ps) (h : SOk ps s) : 0 ≤ steps s ∧ steps s ≤ ps.flatten.length := by
  have h0 := h.at_ 0 (by omega)
  have h1 := h.at_ 1 (by omega)
  have h2 := h.at_ 2 (by omega)
  have h3 := h.at_ 3 (by omega)
  have h4 := sum4_le ps hp.few
  unfold steps
  simp only [Nat.add_zero, show 8 + 1 = 9 from rfl, show 8 + 2 = 10 from rfl, show 8 + 3 = 11 from rfl] at h0 h1 h2 h3
  omega
theorem SOk.start (ps : List (List Ln)) : SOk ps s0 := by
  refine ⟨rfl, fun who h => ?_, fun i h => ?_⟩
  · obtain rfl | rfl | rfl | rfl : who = 0 ∨ who = 1 ∨ who = 2 ∨ who = 3 := by omega
    all_goals (refine ⟨by decide, ?_⟩; show (0 : Int) ≤ _; omega)
  · obtain rfl | rfl | rfl | rfl | rfl | rfl | rfl | rfl : i = 0 ∨ i = 1 ∨ i = 2 ∨ i = 3 ∨ i = 4 ∨ i = 5 ∨ i = 6 ∨ i = 7 := by omega
    all_goals decide
theorem opAt_lt {ps : List (List Ln)} {who : Nat} {s : List Int} {d : Ln} (h : opAt ps who s = some d) : who < ps.length ∧ d ∈ ps.getD who [] ∧ ps.getD who [] ∈ ps ∧ (s.getD (8 + who) 0).toNat < (ps.getD who []).length := by
  unfold opAt at h
  have hl := (List.getElem?_eq_some_iff.1 h).1
  have hw : who < ps.length := by
    refine Classical.byContradiction fun hn => ?_
    have e : ps.getD who [] = [] := by rw [List.getD_eq_getElem?_getD, List.getElem?_eq_none (by omega)]; rfl
    rw [e] at hl
    simp at hl
  refine ⟨hw, List.mem_of_getElem? h, ?_, hl⟩
  rw [List.getD_eq_getElem?_getD, List.getElem?_eq_getElem hw]
  exact List.getElem_mem hw
theorem nx_some {ps : List (List Ln)} {who : Nat} {s t : List Int} (h : nx ps who s = some t) : ∃ d, opAt ps who s = some d ∧ ¬ (d.q = 4 ∧ s.getD d.g.toNat 0 ≠ d.u) ∧ t = (eff d who s).set (8 + who) (s.getD (8 + who) 0 + 1) := by
  unfold nx at h
  split at h
  · cases h
  · rename_i d hd
    split at h
    · cases h
    · rename_i hg
      injection h with h
      exact ⟨d, hd, hg, h.symm⟩
theorem eff_len (d : Ln) (who : Nat) (s : List Int) : (eff d who s).length = s.length := by
  unfold eff
  split
  · simp
  · split
    · simp
    · split
      · simp
      · rfl
theorem eff_hi {d : Ln} (hd : DoOk d) {who : Nat} (hw : who < 4) {s : List Int} (hl : s.length = 12) {i : Nat} (hi : 8 ≤ i) : (eff d who s).getD i 0 = s.getD i 0 := by
  obtain ⟨_, ⟨h1, h2⟩, _⟩ := hd
  unfold eff
  split
  · rw [getD_set (by omega), if_neg (by omega)]
  · split
    · rw [getD_set (by omega), if_neg (by omega)]
    · split
      · rw [getD_set (by omega), if_neg (by omega)]
      · rfl
theorem SOk.next {ps : List (List Ln)} {who : Nat} {s t : List Int} (hp : PsOk ps) (h : SOk ps s) (hn : nx ps who s = some t) : SOk ps t ∧ steps t = steps s + 1 ∧ who < ps.length := by
  obtain ⟨d, hd, _, rfl⟩ := nx_some hn
  obtain ⟨hw, hmem, hpm, hlt⟩ := opAt_lt hd
  have hok := hp.all _ hpm _ hmem
  have hw4 : who < 4 := by have := hp.few; omega
  have hl := h.len
  have hle : (eff d who s).length = 12 := by rw [eff_len, hl]
  have hg : ∀ j, ((eff d who s).set (8 + who) (s.getD (8 + who) 0 + 1)).getD j 0 = if j = 8 + who then s.getD (8 + who) 0 + 1 else (eff d who s).getD j 0 := fun j => getD_set (by omega)
  have hhi : ∀ j, 8 ≤ j → ((eff d who s).set (8 + who) (s.getD (8 + who) 0 + 1)).getD j 0 = if j = 8 + who then s.getD (8 + who) 0 + 1 else s.getD j 0 := fun j hj => by rw [hg, eff_hi hok hw4 hl hj]
  have hst : steps ((eff d who s).set (8 + who) (s.getD (8 + who) 0 + 1)) = steps s + 1 := by
    unfold steps
    rw [hhi 8 (by omega), hhi 9 (by omega), hhi 10 (by omega), hhi 11 (by omega)]
    obtain rfl | rfl | rfl | rfl : who = 0 ∨ who = 1 ∨ who = 2 ∨ who = 3 := by omega
    all_goals (simp; omega)
  refine ⟨⟨by rw [List.length_set, hle], fun z hz => ?_, fun i hi => ?_⟩, hst, hw⟩
  · have h1 := h.at_ z hz
    rw [hhi _ (by omega)]
    by_cases e : z = who
    · subst e
      rw [if_pos rfl]
      omega
    · rw [if_neg (by omega)]; exact h1
  · rw [hst, hg, if_neg (by omega)]
    have hsl := (steps_le hp h).1
    have hb := h.bd i hi
    obtain ⟨_, ⟨h1, h2⟩, h3, h4⟩ := hok
    have hbg := h.bd d.g.toNat (by omega)
    have hbh := h.bd (4 + who) (by omega)
    unfold eff
    split
    · rw [getD_set (by omega)]
      split <;> omega
    · split
      · rw [getD_set (by omega)]
        split <;> omega
      · split
        · rw [getD_set (by omega)]
          split <;> omega
        · omega
theorem reach_ok {ps : List (List Ln)} (hp : PsOk ps) {s : List Int} (h : Rc ps.length (nx ps) s0 s) : SOk ps s := by
  induction h with
  | start => exact .start ps
  | step _ _ hn ih => exact (ih.next hp hn).1
/-- All that can be come to in k steps. -/
def lvl (ps : List (List Ln)) : Nat → List (List Int)
  | 0 => [s0]
  | k + 1 => (lvl ps k).flatMap fun s => (List.range ps.length).filterMap fun j => nx ps j s
def allS (ps : List (List Ln)) : List (List Int) := (List.range 13).flatMap (lvl ps)
theorem reach_lvl {ps : List (List Ln)} (hp : PsOk ps) {s : List Int} (h : Rc ps.length (nx ps) s0 s) : s ∈ lvl ps (steps s).toNat := by
  induction h with
  | start => exact List.mem_singleton.2 rfl
  | step hr hj hn ih =>
    rename_i c s j
    have hok := reach_ok hp hr
    obtain ⟨_, h2, _⟩ := hok.next hp hn
    have h3 := (steps_le hp hok).1
    rw [h2, show (steps c + 1).toNat = (steps c).toNat + 1 by omega]
    exact List.mem_flatMap.2 ⟨c, ih, List.mem_filterMap.2 ⟨j, List.mem_range.2 hj, hn⟩⟩
theorem reach_all {ps : List (List Ln)} (hp : PsOk ps) {s : List Int} (h : Rc ps.length (nx ps) s0 s) : s ∈ allS ps := by
  have h1 := steps_le hp (reach_ok hp h)
  have h2 := hp.tot
  exact List.mem_flatMap.2 ⟨_, List.mem_range.2 (by omega), reach_lvl hp h⟩
theorem flatMap_len {α β : Type} {f : α → List β} {m : Nat} : ∀ {l : List α}, (∀ x ∈ l, (f x).length ≤ m) → (l.flatMap f).length ≤ l.length * m
  | [], _ => by simp
  | a :: l, h => by
    rw [List.flatMap_cons, List.length_append, List.length_cons, Nat.succ_mul]
    have h1 := h a (List.mem_cons_self ..)
    have h2 := flatMap_len (l := l) (fun x hx => h x (List.mem_cons_of_mem _ hx))
    omega
theorem lvl_len {ps : List (List Ln)} (hp : PsOk ps) : ∀ k, (lvl ps k).length ≤ 4 ^ k
  | 0 => Nat.le_refl _
  | k + 1 => by
    have h1 := lvl_len hp k
    have h2 := flatMap_len (l := lvl ps k) (f := fun s => (List.range ps.length).filterMap fun j => nx ps j s) (m := 4) (fun s _ => Nat.le_trans (List.length_filterMap_le ..) (by rw [List.length_range]; exact hp.few))
    show ((lvl ps k).flatMap _).length ≤ _
    rw [Nat.pow_succ]
    exact Nat.le_trans h2 (Nat.mul_le_mul_right _ h1)
theorem allS_len {ps : List (List Ln)} (hp : PsOk ps) : (allS ps).length ≤ 218103808 := by
  have h := flatMap_len (l := List.range 13) (f := lvl ps) (m := 4 ^ 12) (fun k hk => by
    rw [List.mem_range] at hk
    exact Nat.le_trans (lvl_len hp k) (Nat.pow_le_pow_right (by omega) (by omega)))
  rw [List.length_range] at h
  exact Nat.le_trans h (by decide)
/-- Nothing more can be done. -/
def fin (ps : List (List Ln)) (s : List Int) : Bool := (List.range ps.length).all fun j => (nx ps j s).isNone
theorem fin_iff {ps : List (List Ln)} {s : List Int} : fin ps s = true ↔ ∀ j, j < ps.length → nx ps j s = none := by
  unfold fin
  rw [List.all_eq_true]
  constructor
  · intro h j hj
    have := h j (List.mem_range.2 hj)
    simpa using this
  · intro h j hj
    rw [List.mem_range] at hj
    simp [h j hj]
theorem fin_ex {ps : List (List Ln)} (hp : PsOk ps) : ∀ (k : Nat) (s : List Int), Rc ps.length (nx ps) s0 s → ((12 : Int) - steps s).toNat ≤ k → ∃ t, Rc ps.length (nx ps) s0 t ∧ fin ps t = true := by
  intro k
  induction k with
  | zero =>
    intro s hr hk
    refine ⟨s, hr, fin_iff.2 fun j hj => ?_⟩
    cases hn : nx ps j s with
    | none => rfl
    | some t =>
      have h1 := (reach_ok hp hr).next hp hn
      have h2 := steps_le hp h1.1
      have h3 := hp.tot
      omega
  | succ k ih =>
    intro s hr hk
    by_cases hf : fin ps s = true
    · exact ⟨s, hr, hf⟩
    · have hf' : ¬ ∀ j, j < ps.length → nx ps j s = none := fun h => hf (fin_iff.2 h)
      obtain ⟨j, hj, t, hn⟩ : ∃ j, j < ps.length ∧ ∃ t, nx ps j s = some t := by
        refine Classical.byContradiction fun hno => hf' fun j hj => ?_
        cases hn : nx ps j s with
        | none => rfl
        | some t => exact absurd ⟨j, hj, t, hn⟩ hno
      have h1 := (reach_ok hp hr).next hp hn
      exact ih t (.step hr hj hn) (by omega)
end Go.Ex
/- Rows of rows of three numbers; a state of numbers in a block of its own. -/
namespace Go
open Go.RowKit
structure RowsL (w : World) (a : Option Addr) (n c : Nat) (rs : List (List Ln)) : Prop where
  len : rs.length = n
  room : n ≤ c
  most : c ≤ 9223372036854775807
  at_ : ∀ (r : Nat) (l : List Ln), rs[r]? = some l → ∃ b off ar cr, a = some ⟨b, off, none⟩ ∧ w.cell? ⟨b, off + r, none⟩ = some (.slice ar l.length cr) ∧ LnsV w ar l.length cr l
theorem RowsL.keep {w w' : World} {a : Option Addr} {n c : Nat} {rs : List (List Ln)} (h : RowsL w a n c rs) (hk : Keep [] w w') : RowsL w' a n c rs :=
  ⟨h.len, h.room, h.most, fun r l hl => by
    obtain ⟨b, off, ar, cr, h1, h2, h3⟩ := h.at_ r l hl
    exact ⟨b, off, ar, cr, h1, hk.cell h2 (by simp), h3.keep hk (by simp)⟩⟩
/-- Numbers in a block of their own. -/
def ArrAt (T : TypeId) (w : World) (b : Nat) (s : List Int) : Prop := w.heap[b]? = some (.cells (s.map (Value.int .i64)).toArray T (0, 0))
section
variable {T : TypeId} {w w' : World} {b : Nat} {s : List Int}
theorem ArrAt.cell (h : ArrAt T w b s) {i : Nat} (hi : i < s.length) : w.cell? ⟨b, i, none⟩ = some (.int .i64 (s.getD i 0)) := by
  rw [cellAt h]
  simp [List.getD_eq_getElem?_getD, hi]
theorem ArrAt.put (h : ArrAt T w b s) (i : Nat) (v : Int) : ArrAt T (w.setCell ⟨b, i, none⟩ (.int .i64 v)) b (s.set i v) := by
  unfold ArrAt at *
  rw [blk_setCell, if_pos rfl, h]
  simp only [Option.map_some, Obj.put_cells, List.setIfInBounds_toArray, List.map_set]
theorem ArrAt.keep {S : List Nat} (h : ArrAt T w b s) (hk : Keep S w w') (hs : b ∉ S) : ArrAt T w' b s := hk.at h hs
theorem ArrAt.drew (h : ArrAt T w b s) : ArrAt T w.drew b s := h
theorem ArrAt.lt (h : ArrAt T w b s) : b < w.heap.size := lt_of_blk h
theorem ArrAt.new (T : TypeId) (w : World) (s : List Int) : ArrAt T (w.alloc (.cells (s.map (Value.int .i64)).toArray T)) w.heap.size s := blk_new w _
theorem ArrAt.other (h : ArrAt T w b s) {c i : Nat} (hc : b ≠ c) (v : Value) : ArrAt T (w.setCell ⟨c, i, none⟩ v) b s := by
  unfold ArrAt at *
  rw [blk_setCell, if_neg (fun e => hc e.symm)]
  exact h
theorem ArrAt.row (h : ArrAt T w b s) (t : List Int) : ArrAt T (w.setRow b (t.map (Value.int .i64)).toArray) b t := setRow_heap w b _ _ T _ h
end
theorem ints_one (s : List Int) : ((s.map (Value.int .i64)).toArray).all (·.oneCell') = true :=
  all_oneCell_toArray (fun v hv => by
    obtain ⟨z, _, rfl⟩ := List.mem_map.1 hv
    rfl)
theorem results_cell2 {P : Program} {fn : Func} {s r : Tmp} {t : TypeId} (h : fn.results = #[.cell s t, .tmp r]) {tmps : Array Value} {w : World} {a : Addr} (ha : tmps.getD s undef = .pointer (some a)) {v : Value} (hl : (loadVar t a).run P w = .ok v w) : (results fn tmps).run P w = .ok (.tuple #[v, tmps.getD r undef]) w := by
  have ha' : tmps[s]?.getD undef = .pointer (some a) := by simpa using ha
  simp [results, h, ha', hl, asAddr]
end Go
