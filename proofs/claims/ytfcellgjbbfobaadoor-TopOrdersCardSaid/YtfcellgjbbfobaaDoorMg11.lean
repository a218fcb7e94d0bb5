/- Texts laid together: EP4 R15 DQ6 DQ7. -/
import Derived.Test.YtfcellgjbbfobaaDoorMg10
import Derived.Shelf.SlSortCmp.WholeK
/- The order of states, for the sort. -/
namespace Go.Ex
open Go.Sort Go.Shelf Go.Proofs Go.Lib
abbrev St12 : Type := {s : List Int // s.length = 12}
instance : Inhabited St12 := ⟨⟨[0, 0, 0, 0, 0, 0, 0, 0, 0, 0, 0, 0], rfl⟩⟩
def stI (x : St12) : List Value := x.1.map (Value.int .i64)
theorem stI_len (x : St12) : (stI x).length = 12 := by unfold stI; rw [List.length_map]; exact x.2
theorem stI_one (x : St12) : ∀ v ∈ stI x, v.oneCell' = true := fun v hv => by
  obtain ⟨z, _, rfl⟩ := List.mem_map.1 hv
  rfl
def cmpS (x y : St12) : Int := cmpL x.1 y.1
theorem swoS : SWO (ltOf cmpS) := by
  have hs := fun x y : St12 => cmpL_swap x.1 y.1
  have ht := fun x y z : St12 => @cmpL_trans x.1 y.1 z.1 (by rw [x.2, y.2]) (by rw [y.2, z.2])
  refine ⟨fun x => ?_, fun x y z => ?_, fun x y z => ?_⟩
  · simp only [ltOf, cmpS, cmpL_self]; decide
  · intro h1 h2
    have h1 : cmpL x.1 y.1 < 0 := of_decide_eq_true h1
    have h2 : cmpL y.1 z.1 < 0 := of_decide_eq_true h2
    refine decide_eq_true (show cmpL x.1 z.1 < 0 from ?_)
    have a1 := hs x y
    have a2 := hs y z
    have a3 := hs x z
    have h3 := ht x y z (by omega) (by omega)
    refine Classical.byContradiction fun h4 => ?_
    have h5 := ht z x y (by omega) (by omega)
    omega
  · intro h1 h2
    have h1 : ¬ cmpL x.1 y.1 < 0 := of_decide_eq_false h1
    have h2 : ¬ cmpL y.1 z.1 < 0 := of_decide_eq_false h2
    refine decide_eq_false (show ¬ cmpL x.1 z.1 < 0 from ?_)
    have a1 := hs x y
    have a2 := hs y z
    have a3 := hs x z
    have h3 := ht z y x (by omega) (by omega)
    omega
end Go.Ex
/- Rows of one's own and the sort: things of whatever number of cells. -/
namespace Go
open Go.RowKit Go.Sort Go.Shelf Go.Proofs Go.Lib
theorem flat_at {α : Type} {enc : α → List Value} {k : Nat} (hk : ∀ x, (enc x).length = k) (l : List α) : ∀ (i j : Nat) (x : α), l[i]? = some x → j < k → (l.flatMap enc)[i * k + j]? = (enc x)[j]? := by
  induction l with
  | nil => intro i j x h; simp at h
  | cons y l ih =>
    intro i j x h hj
    rw [List.flatMap_cons]
    cases i with
    | zero =>
      simp at h
      subst h
      rw [Nat.zero_mul, Nat.zero_add, List.getElem?_append_left (by rw [hk]; exact hj)]
    | succ i =>
      simp at h
      rw [List.getElem?_append_right (by rw [hk, Nat.succ_mul]; omega), hk, show (i + 1) * k + j - k = i * k + j by rw [Nat.succ_mul]; omega]
      exact ih i j x h hj
theorem flat_len {α : Type} {enc : α → List Value} {k : Nat} (hk : ∀ x, (enc x).length = k) (l : List α) : (l.flatMap enc).length = l.length * k := by
  induction l with
  | nil => simp
  | cons y l ih => rw [List.flatMap_cons, List.length_append, ih, hk, List.length_cons, Nat.succ_mul]; omega
theorem flatK_list {α : Type} [Inhabited α] {enc : α → List Value} {k : Nat} (hk : ∀ x, (enc x).length = k) (l : List α) : (flatK enc k l.toArray).toList = l.flatMap enc := by
  refine List.ext_getElem? fun t => ?_
  by_cases ht : t < l.length * k
  · have hk0 : 0 < k := by
      rcases Nat.eq_zero_or_pos k with h | h
      · rw [h] at ht; omega
      · exact h
    have hi : t / k < l.length := (Nat.div_lt_iff_lt_mul hk0).2 ht
    have hm := Nat.mod_lt t hk0
    have h1 := flat_at hk l (t / k) (t % k) _ (List.getElem?_eq_getElem hi) hm
    rw [Nat.div_add_mod' t k] at h1
    rw [h1, Array.getElem?_toList]
    have h2 := get_flatK enc k l.toArray t (by simpa using ht)
    rw [Array.getElem?_eq_getElem (by simpa using ht)]
    rw [getElem!_pos _ t (by simpa using ht)] at h2
    rw [h2]
    simp only [List.getElem!_toArray]
    rw [getElem!_pos l _ hi, getElem!_pos _ _ (by rw [hk]; exact hm), List.getElem?_eq_getElem (by rw [hk]; exact hm)]
  · rw [List.getElem?_eq_none (by simp; omega), List.getElem?_eq_none (by rw [flat_len hk]; omega)]
theorem holdsK_own {α : Type} [Inhabited α] {enc : α → List Value} {k : Nat} (hk : ∀ x, (enc x).length = k) {w : World} {g : Nat} {cur : Array Value} {e : TypeId} {l : List α} (hb : w.heap[g]? = some (.cells cur e (0, 0))) (ht : cur.toList.take (l.length * k) = l.flatMap enc) : HoldsK enc k w g 0 l.toArray := by
  intro j hj
  rw [size_flatK] at hj
  have hj2 : j < l.length * k := by simpa using hj
  refine ⟨?_, thaw hb _⟩
  rw [Nat.zero_add, cellAt hb]
  show cur[j]? = some ((flatK enc k l.toArray)[j]!)
  rw [getElem!_pos (flatK enc k l.toArray) j (by simpa using hj2)]
  have h1 : (cur.toList.take (l.length * k))[j]? = (flatK enc k l.toArray).toList[j]? := by rw [ht, flatK_list hk]
  rw [List.getElem?_take, if_pos hj2, Array.getElem?_toList, Array.getElem?_toList, Array.getElem?_eq_getElem (xs := flatK enc k l.toArray) (i := j) (by simpa using hj2)] at h1
  exact h1
theorem sortedK_heap {α : Type} [Inhabited α] {enc : α → List Value} {k : Nat} {w : World} {g n : Nat} {os : Array Obj} {cur : Array Value} {e : TypeId} {fr : Nat × Nat} (d : Array α) (hb : w.heap[g]? = some (.cells cur e fr)) :
    (sortWorldK enc k w g 0 n d os).heap[g]? = some (.cells (putCells id 0 (flatK enc k d) cur) e fr) := by
  have hg : g < w.heap.size := (Array.getElem?_eq_some_iff.1 hb).1
  unfold sortWorldK
  rw [heap_grow_old _ _ (by simpa [putRowK, putRow, mapBlock, Sort.ahead] using hg)]
  simp [putRowK, putRow, mapBlock, Sort.ahead, Array.getElem?_modify, hb, onCells]
theorem sortedK_keep {α : Type} [Inhabited α] {enc : α → List Value} {k : Nat} {w : World} {g n : Nat} {os : Array Obj} (d : Array α) : Keep [g] w (sortWorldK enc k w g 0 n d os) := by
  refine Keep.ofGrown (row := some g) ⟨rfl, rfl, rfl, by simp [sortWorldK, putRowK, putRow, mapBlock, Sort.ahead, grow], fun j hj hne => ?_⟩ (fun x hx => by simp at hx; simp [hx])
  unfold sortWorldK
  rw [heap_grow_old _ _ (by simpa [putRowK, putRow, mapBlock, Sort.ahead] using hj)]
  have : g ≠ j := fun e => hne (by rw [e])
  simp [putRowK, putRow, mapBlock, Sort.ahead, Array.getElem?_modify, this]
theorem sortedK_own {α : Type} [Inhabited α] {enc : α → List Value} {k : Nat} (hk : ∀ x, (enc x).length = k) {w : World} {B g cap n : Nat} {os : Array Obj} {e : TypeId} {l m : List α} (ho : w.ownsRow B e k (.slice (some ⟨g, 0, none⟩) l.length cap) l.length (l.flatMap enc)) (hm : m.length = l.length) : (sortWorldK enc k w g 0 n m.toArray os).ownsRow B e k (.slice (some ⟨g, 0, none⟩) l.length cap) l.length (m.flatMap enc) := by
  refine ⟨by rw [flat_len hk, hm], ?_⟩
  rcases ho.2 with ⟨h, _⟩ | ⟨g', cap', cur, hv, hb, hg, hnc, hcm, hcs, ht⟩
  · cases h
  · cases hv
    refine .inr ⟨g, cap, _, rfl, hb, sortedK_heap _ hg, hnc, hcm, by simp [putCells, hcs], ?_⟩
    rw [← flatK_list hk m]
    have hle : l.length * k ≤ cap * k := Nat.mul_le_mul_right _ hnc
    refine List.ext_getElem? fun j => ?_
    by_cases hj : j < l.length * k
    · rw [List.getElem?_take_of_lt hj, Array.getElem?_toList, Array.getElem?_toList]
      have h2 : j < m.length * k := by rw [hm]; exact hj
      have h3 : j < cur.size := by rw [hcs]; omega
      simp [putCells, h2, h3]
    · rw [List.getElem?_take_eq_none (by omega), List.getElem?_eq_none (by simp [hm]; omega)]
end Go
/- Part: slices.SortFunc of a row of steps of the call's own. -/
namespace Go
open Go.RowKit Go.Sort Go.Shelf Go.Proofs Go.Lib
end Go
namespace Go.Proofs.YtfcellgjbbfobaaDoor
open Go.RowKit Go.Sort Go.Shelf Go.Proofs
theorem who34 (x y : Ln) (hx : StOk x) (hy : StOk y) (w : World) : Calls Tryd.prog 43 #[.agg x.cells.toArray, .agg y.cells.toArray] w fun e w' => e = .returned (.int .i64 (x.q - y.q)) ∧ w' = (w.alloc (.cells x.cells.toArray 52)).alloc (.cells y.cells.toArray 52) := by
  obtain ⟨⟨h1, h2⟩, -⟩ := hx
  obtain ⟨⟨h3, h4⟩, -⟩ := hy
  obtain ⟨q, g, u⟩ := x
  obtain ⟨q2, g2, u2⟩ := y
  simp only at h1 h2 h3 h4
  have hw : wrap64 (q - q2) = q - q2 := by unfold wrap64; omega
  simp only [Ln.cells]
  clear h1 h2 h3 h4
  go_enter Tryd.func43, Tryd.ntmps43
  go_wp2_with (first | (with_reducible refine Txt.wp_region_text mixed quiet (by decide +kernel) ?_) | (with_reducible refine Txt.text_done (by kernel_rfl) ?_))
  go_ret
  exact ⟨ret_int hw, rfl⟩
abbrev StT : Type := {x : Ln // StOk x}
instance : Inhabited StT := ⟨⟨⟨0, 0, 0⟩, by decide, by decide, by decide⟩⟩
def stC (x : StT) : List Value := x.1.cells
theorem stC_flat (l : List StT) : l.flatMap stC = lanesC (l.map (·.1)) := by
  induction l with
  | nil => rfl
  | cons x l ih => rw [List.flatMap_cons, ih]; rfl
theorem attach_st {l : List Ln} (h : ∀ x ∈ l, StOk x) : ∃ m : List StT, m.map (·.1) = l := by
  induction l with
  | nil => exact ⟨[], rfl⟩
  | cons x l ih =>
    obtain ⟨m, hm⟩ := ih (fun y hy => h y (by simp [hy]))
    exact ⟨⟨x, h x (by simp)⟩ :: m, by rw [List.map_cons, hm]⟩
theorem swoSt : SWO (ltOf (fun x y : StT => x.1.q - y.1.q)) := by
  refine ⟨fun x => ?_, fun x y z => ?_, fun x y z => ?_⟩
  all_goals
    simp only [ltOf, decide_eq_true_eq, decide_eq_false_iff_not]
    intros
    omega
theorem sort33_own {w : World} {B : Nat} {v : Value} {l : List Ln} (ho : w.ownsRow B 52 3 v l.length (lanesC l)) (hl : 0 < l.length) (hap : l.Pairwise (fun x y => dep x y = false)) (hok : ∀ x ∈ l, StOk x) (hn : l.length ≤ 1000) :
    Calls Tryd.prog 42 #[v, .func (.func 43) #[] #[]] w fun e w' => e = .returned (.tuple #[]) ∧ w'.ownsRow B 52 3 v l.length (lanesC (Tr.sortQ Ln.q l)) ∧ Keep v.ownBlock.toList w w' := by
  obtain ⟨m, rfl⟩ := attach_st hok
  rw [← stC_flat, List.length_map] at ho
  rw [List.length_map] at hl hn ⊢
  have hk : ∀ x : StT, (stC x).length = 3 := fun x => rfl
  rcases ho.2 with ⟨_, h0⟩ | ⟨g, cap, cur, rfl, hb, hg, hnc, hcm, hcs, ht⟩
  · omega
  · have hH := holdsK_own hk hg ht
    have hsz : m.toArray.size = m.length := by simp
    have h := AnyQ.slices_SortFunc Tryd.sort33 3 (fun w => by kernel_rfl) (fun w => by kernel_rfl) stC hk (fun x u hu => by simp [stC, Ln.cells] at hu; rcases hu with hu | hu | hu <;> (subst hu; rfl)) (fun x y : StT => x.1.q - y.1.q) swoSt 43 #[] g 0 cap m.toArray w (fun args w => by kernel_rfl) (fun k os dk _ x y => (who34 x.1 y.1 x.2 y.2 _).mono (by
      rintro e w' ⟨rfl, rfl⟩
      exact ⟨rfl, 0, #[.cells x.1.cells.toArray 52 (0, 0), .cells y.1.cells.toArray 52 (0, 0)], by rw [alloc_eq_grow, alloc_eq_grow, grow_grow]; rfl⟩)) hH (Array.getElem?_eq_some_iff.1 hg).1 (by rw [hsz]; omega)
    rw [hsz] at h
    refine h.mono ?_
    rintro e w' ⟨rfl, d', n, os, hp, hsd, rfl⟩
    obtain ⟨m', rfl⟩ : ∃ m' : List StT, d' = m'.toArray := ⟨d'.toList, by simp⟩
    have hlen : m'.length = m.length := by have := hp.1; simpa using this
    have hperm : m'.Perm m := by
      have := hp.2.2
      simp only [List.extract_toArray, List.extract_eq_take_drop, Nat.sub_zero, List.drop_zero] at this
      rw [List.take_of_length_le (by omega), List.take_of_length_le (Nat.le_refl _)] at this
      exact this
    have hsorted : (m'.map (·.1)).Pairwise (fun x y : Ln => x.q ≤ y.q) := by
      rw [List.pairwise_map, List.pairwise_iff_getElem]
      intro i j hi hj hij
      have h1 := hsd i j (Nat.zero_le _) hij (by omega)
      simp only [ltOf, decide_eq_false_iff_not, List.getElem!_toArray] at h1
      rw [getElem!_pos m' j hj, getElem!_pos m' i hi] at h1
      omega
    have heq := Tr.sortQ_ext (D := dep) (q := Ln.q) dep_q dep_symm hap (hperm.map (·.1)) hsorted
    have h9 := sortedK_own hk (n := n) (os := os) ho hlen
    rw [stC_flat, heq] at h9
    exact ⟨rfl, h9, sortedK_keep _⟩
end Go.Proofs.YtfcellgjbbfobaaDoor
/- Part: the rounds under way, in plain words and in memory. -/
namespace Go
open Go.RowKit
def lvs (l : List Ln) : List Nat := (Tr.lv dep l).map Prod.snd
def rsOf (l : List Ln) : List (List Ln) := (List.range (Tr.nr dep l)).map (Tr.rnd dep l)
/-- The levels while the one at i is reckoned. -/
def LVx (l : List Ln) (n i x : Nat) : List Int := ((lvs (l.take i) ++ x :: List.replicate (n - (i + 1)) 0).map (fun k : Nat => (k : Int)))
theorem lvs_len (l : List Ln) : (lvs l).length = l.length := by unfold lvs; rw [List.length_map, Tr.lv_len]
theorem LVx_len {l : List Ln} {n i x : Nat} (hl : l.length = n) (hi : i < n) : (LVx l n i x).length = n := by
  unfold LVx
  rw [List.length_map, List.length_append, lvs_len, List.length_take, List.length_cons, List.length_replicate]; omega
theorem LVx_at {l : List Ln} {n i x : Nat} (hl : l.length = n) (hi : i < n) : (LVx l n i x)[i]? = some (x : Int) := by
  unfold LVx
  rw [List.getElem?_map, List.getElem?_append_right (by rw [lvs_len, List.length_take]; omega), lvs_len, List.length_take, Nat.min_eq_left (by omega), Nat.sub_self]; rfl
theorem LVx_lo {l : List Ln} {n i x k : Nat} (hl : l.length = n) (hi : i < n) (hk : k < i) : ∃ (m : Nat) (t : Ln), (LVx l n i x)[k]? = some (m : Int) ∧ l[k]? = some t ∧ (Tr.lv dep (l.take i))[k]? = some (t, m) := by
  have hkl : k < (Tr.lv dep (l.take i)).length := by rw [Tr.lv_len, List.length_take]; omega
  obtain ⟨⟨t, m⟩, ht⟩ : ∃ p, (Tr.lv dep (l.take i))[k]? = some p := ⟨_, List.getElem?_eq_getElem hkl⟩
  refine ⟨m, t, ?_, ?_, ht⟩
  · unfold LVx lvs
    rw [List.getElem?_map, List.getElem?_append_left (by rw [List.length_map]; exact hkl), List.getElem?_map, ht]; rfl
  · have h1 := congrArg (fun l => l[k]?) (Tr.lv_fst (D := dep) (l.take i))
    simp only [List.getElem?_map, ht, Option.map_some, List.getElem?_take, if_pos hk] at h1
    exact h1.symm
theorem LVx_set {l : List Ln} {n i x y : Nat} (hl : l.length = n) (hi : i < n) : (LVx l n i x).set i (y : Int) = LVx l n i y := by
  unfold LVx
  rw [List.map_append, List.map_append, List.set_append_right _ _ (by rw [List.length_map, lvs_len, List.length_take]; omega), List.length_map, lvs_len, List.length_take, Nat.min_eq_left (by omega), Nat.sub_self]; rfl
theorem LVx_next {l : List Ln} {n i : Nat} {s : Ln} (hi : i + 1 < n) (hs : l[i]? = some s) : LVx l n i (Tr.lvOf dep (Tr.lv dep (l.take i)) s) = LVx l n (i + 1) 0 := by
  unfold LVx lvs
  have h1 : l.take (i + 1) = l.take i ++ [s] := by rw [List.take_add_one, hs]; rfl
  rw [h1, Tr.lv_snoc, List.map_append (f := Prod.snd), List.append_assoc]
  have h2 : List.replicate (n - (i + 1)) 0 = 0 :: List.replicate (n - (i + 1 + 1)) 0 := by
    rw [show n - (i + 1) = (n - (i + 1 + 1)) + 1 by omega, List.replicate_succ]
  rw [h2]; rfl
theorem LVx_zero {l : List Ln} {n : Nat} (hn : 0 < n) : (List.replicate n 0).map (fun k : Nat => (k : Int)) = LVx l n 0 0 := by
  unfold LVx
  rw [List.take_zero, show n = (n - (0 + 1)) + 1 by omega, List.replicate_succ]
  simp [lvs, Tr.lv, Tr.lvFrom]
theorem lvOf_take {p : List (Ln × Nat)} {k m : Nat} {t s : Ln} (h : p[k]? = some (t, m)) : Tr.lvOf dep (p.take (k + 1)) s = if dep s t = true then max (Tr.lvOf dep (p.take k) s) (m + 1) else Tr.lvOf dep (p.take k) s := by
  rw [List.take_add_one, h, Option.toList_some, Tr.lvOf_snoc]
theorem rsOf_len (l : List Ln) : (rsOf l).length = Tr.nr dep l := by simp [rsOf]
theorem rsOf_at {l : List Ln} {r : Nat} (h : r < Tr.nr dep l) : (rsOf l)[r]? = some (Tr.rnd dep l r) := by
  unfold rsOf
  rw [List.getElem?_map, List.getElem?_range h]; rfl
theorem rsOf_none {l : List Ln} {r : Nat} (h : ¬ r < Tr.nr dep l) : (rsOf l)[r]? = none := List.getElem?_eq_none (by rw [rsOf_len]; omega)
/-- One more step comes into its round. -/
theorem rsOf_old {l : List Ln} {s : Ln} (h : Tr.lvOf dep (Tr.lv dep l) s < Tr.nr dep l) : rsOf (l ++ [s]) = (rsOf l).set (Tr.lvOf dep (Tr.lv dep l) s) (Tr.rnd dep l (Tr.lvOf dep (Tr.lv dep l) s) ++ [s]) := by
  have hn : Tr.nr dep (l ++ [s]) = Tr.nr dep l := by rw [Tr.nr_snoc]; omega
  refine List.ext_getElem? fun r => ?_
  rw [List.getElem?_set]
  by_cases hr : r < Tr.nr dep l
  · rw [rsOf_at (hn ▸ hr), Tr.rnd_snoc]
    by_cases he : Tr.lvOf dep (Tr.lv dep l) s = r
    · rw [if_pos he, if_pos he, if_pos (by rw [rsOf_len]; omega), he]
    · rw [if_neg he, if_neg he, List.append_nil, rsOf_at hr]
  · rw [rsOf_none (by rw [hn]; exact hr), if_neg (by omega), rsOf_none hr]
theorem rsOf_new {l : List Ln} {s : Ln} (h : Tr.lvOf dep (Tr.lv dep l) s = Tr.nr dep l) : rsOf (l ++ [s]) = (rsOf l ++ [[]]).set (Tr.nr dep l) ([] ++ [s]) := by
  have hn : Tr.nr dep (l ++ [s]) = Tr.nr dep l + 1 := by rw [Tr.nr_snoc]; omega
  refine List.ext_getElem? fun r => ?_
  rw [List.getElem?_set]
  by_cases hr : r < Tr.nr dep l
  · rw [rsOf_at (by omega), Tr.rnd_snoc, if_neg (by omega), List.append_nil, if_neg (by omega), List.getElem?_append_left (by rw [rsOf_len]; exact hr), rsOf_at hr]
  · by_cases he : Tr.nr dep l = r
    · subst he
      have h0 : Tr.rnd dep l (Tr.nr dep l) = [] := by
        rw [List.eq_nil_iff_forall_not_mem]
        intro x hx
        have := Tr.lt_nr (Tr.mem_rnd.1 hx)
        omega
      rw [rsOf_at (by omega), Tr.rnd_snoc, if_pos h, h0, if_pos rfl, if_pos (by rw [List.length_append, rsOf_len]; simp)]
    · rw [rsOf_none (by omega), if_neg he, List.getElem?_eq_none (by rw [List.length_append, rsOf_len]; simp; omega)]
theorem rsOf_rnds (l : List Ln) : (rsOf l).map (Tr.sortQ Ln.q) = Tr.rnds dep Ln.q l := by
  unfold rsOf Tr.rnds
  rw [List.map_map]; rfl
theorem rnd_sub {l : List Ln} {r : Nat} {x : Ln} (h : x ∈ Tr.rnd dep l r) : x ∈ l := by
  have h1 := Tr.mem_rnd.1 h
  have h2 := List.mem_map_of_mem (f := Prod.fst) h1
  rwa [Tr.lv_fst] at h2
theorem rnd_len (l : List Ln) (r : Nat) : (Tr.rnd dep l r).length ≤ l.length := by
  unfold Tr.rnd
  rw [List.length_map]
  exact Nat.le_trans (List.length_filter_le _ _) (by rw [Tr.lv_len]; exact Nat.le_refl _)
theorem nr_le (l : List Ln) : Tr.nr dep l ≤ l.length := by
  refine Tr.snoc_ind (P := fun l => Tr.nr dep l ≤ l.length) (Nat.le_refl _) (fun l s ih => ?_) l
  rw [Tr.nr_snoc, List.length_append, List.length_singleton]
  have := Tr.lvOf_le_nr (D := dep) l s
  omega
/-- Rows of rows of steps, of the call's own. -/
structure RndAt (w : World) (B : Nat) (v : Value) (vals : List Value) (rs : List (List Ln)) : Prop where
  len : vals.length = rs.length
  out : w.ownsRow B 44 1 v rs.length vals
  row : ∀ (r : Nat) (x : Value) (l : List Ln), vals[r]? = some x → rs[r]? = some l → w.ownsRow B 52 3 x l.length (lanesC l)
  apart : ∀ (i j : Nat) (x y : Value) (g : Nat), vals[i]? = some x → vals[j]? = some y → x.ownBlock = some g → y.ownBlock = some g → i = j
theorem own_put_cellQ {w : World} {B e m n : Nat} {g cap : Nat} {xs : List Value} (h : w.ownsRow B e m (.slice (some ⟨g, 0, none⟩) n cap) n xs) (j : Nat) (x : Value) :
    (w.setCell ⟨g, j, none⟩ x).ownsRow B e m (.slice (some ⟨g, 0, none⟩) n cap) n (xs.set j x) := by
  obtain ⟨hl, h⟩ := h
  refine ⟨by simpa using hl, ?_⟩
  rcases h with ⟨h0, _⟩ | ⟨g', cap', cur, hv, hb, hg, hnc, hcm, hcs, ht⟩
  · cases h0
  · cases hv
    refine .inr ⟨g, cap, cur.setIfInBounds j x, rfl, hb, by rw [blk_setCell, if_pos rfl, hg]; rfl, hnc, hcm, by simpa using hcs, ?_⟩
    rw [← ht]
    simp only [Array.toList_setIfInBounds]
    rw [List.take_set]
theorem own_cellQ {w : World} {B e n : Nat} {v : Value} {vs : List Value} (h : w.ownsRow B e 1 v n vs) (hn : 0 < n) : ∃ g cap, v = .slice (some ⟨g, 0, none⟩) n cap ∧ B ≤ g ∧ g < w.heap.size ∧ (∃ cs, w.heap[g]? = some (.cells cs e (0, 0))) ∧ (∀ i x, vs[i]? = some x → w.cell? ⟨g, i, none⟩ = some x) ∧ ∀ i, w.frozen? ⟨g, i, none⟩ = false := by
  obtain ⟨hl, h⟩ := h
  rcases h with ⟨_, h0⟩ | ⟨g, cap, cur, rfl, hb, hg, hnc, hcm, hcs, ht⟩
  · omega
  · refine ⟨g, cap, rfl, hb, (Array.getElem?_eq_some_iff.1 hg).1, ⟨cur, hg⟩, fun i x hx => ?_, thaw hg⟩
    rw [cell_of_row w g i cur e (0, 0) hg]
    have hi := (List.getElem?_eq_some_iff.1 hx).1
    have : (cur.toList.take (n * 1))[i]? = vs[i]? := by rw [ht]
    rw [List.getElem?_take, if_pos (by omega)] at this
    simp only [Array.getElem?_toList] at this
    rw [this, hx]
section
variable {w w' : World} {B : Nat} {v : Value} {vals : List Value} {rs : List (List Ln)} {S : List Nat}
theorem RndAt.start (w : World) (B : Nat) : RndAt w B (.slice none 0 0) [] [] :=
  ⟨rfl, World.ownsRow_nil _ _ _ _, fun r x l h => by simp at h, fun i j x y g h => by simp at h⟩
theorem RndAt.keep (h : RndAt w B v vals rs) (hk : Keep S w w') (hS : ∀ g ∈ S, ∀ cs T fr, w.heap[g]? = some (.cells cs T fr) → T ≠ 44 ∧ T ≠ 52) : RndAt w' B v vals rs :=
  ⟨h.len, own_keep h.out hk (fun g hg hm => by obtain ⟨_, _, cs, hc⟩ := ownLtQ h.out g hg; exact (hS g hm _ _ _ hc).1 rfl), fun r x l hx hl => own_keep (h.row r x l hx hl) hk (fun g hg hm => by obtain ⟨_, _, cs, hc⟩ := ownLtQ (h.row r x l hx hl) g hg; exact (hS g hm _ _ _ hc).2 rfl), h.apart⟩
theorem RndAt.keep0 (h : RndAt w B v vals rs) (hk : Keep [] w w') : RndAt w' B v vals rs := h.keep hk (fun g hg => by cases hg)
/-- An empty row more. -/
theorem RndAt.more {v' : Value} (h : RndAt w B v vals rs) (hk : Keep v.ownBlock.toList w w') (ho : w'.ownsRow B 44 1 v' (rs.length + 1) (vals ++ [.slice none 0 0])) : RndAt w' B v' (vals ++ [.slice none 0 0]) (rs ++ [[]]) := by
  have hg : ∀ {l : List Value} {i : Nat} {x : Value}, (l ++ [Value.slice none 0 0])[i]? = some x → l[i]? = some x ∨ (i = l.length ∧ x = .slice none 0 0) := fun {l i x} hx => by
    by_cases hi : i < l.length
    · rw [List.getElem?_append_left hi] at hx; exact .inl hx
    · rw [List.getElem?_append_right (by omega)] at hx
      have h1 := (List.getElem?_eq_some_iff.1 hx).1
      simp at h1
      have h2 : i - l.length = 0 := by omega
      rw [h2] at hx
      simp at hx
      exact .inr ⟨by omega, hx.symm⟩
  refine ⟨by simp [h.len], by rw [List.length_append]; exact ho, fun r x l hx hl => ?_, fun i j x y g hx hy h1 h2 => ?_⟩
  · rcases hg hx with hx | ⟨rfl, rfl⟩
    · have hr := (List.getElem?_eq_some_iff.1 hx).1
      rw [h.len] at hr
      rw [List.getElem?_append_left hr] at hl
      refine own_keep (h.row r x l hx hl) hk (fun g hg hm => ?_)
      obtain ⟨_, _, cs, hc⟩ := ownLtQ (h.row r x l hx hl) g hg
      obtain ⟨_, _, cs', hc'⟩ := ownLtQ h.out g (by simpa using hm)
      exact neTypeQ hc hc' (by decide) rfl
    · rw [h.len, List.getElem?_append_right (Nat.le_refl _), Nat.sub_self] at hl
      simp at hl
      subst hl
      exact World.ownsRow_nil _ _ _ _
  · rcases hg hx with hx | ⟨_, rfl⟩
    · rcases hg hy with hy | ⟨_, rfl⟩
      · exact h.apart i j x y g hx hy h1 h2
      · simp [Value.ownBlock] at h2
    · simp [Value.ownBlock] at h1
/-- A row is written anew. -/
theorem RndAt.put {wa w9 : World} {go n cap r : Nat} {x x9 : Value} {l l9 : List Ln} (h : RndAt w B (.slice (some ⟨go, 0, none⟩) n cap) vals rs) (hn : rs.length = n) (hx : vals[r]? = some x) (hl : rs[r]? = some l) (hka : Keep [] w wa) (hk9 : Keep x.ownBlock.toList wa w9) (ho9 : w9.ownsRow B 52 3 x9 l9.length (lanesC l9)) (hx9 : x9.ownBlock = x.ownBlock ∨ x9.ownBlock = some wa.heap.size) : RndAt (w9.setCell ⟨go, r, none⟩ x9) B (.slice (some ⟨go, 0, none⟩) n cap) (vals.set r x9) (rs.set r l9) := by
  have hrl := (List.getElem?_eq_some_iff.1 hx).1
  have hox := h.row r x l hx hl
  have hout := h.out
  rw [hn] at hout
  have ho1 := own_keep (own_keep hout hka (by simp)) hk9 (fun g hg hm => by
    obtain ⟨_, _, cs, hc⟩ := ownLtQ hout g hg
    obtain ⟨_, _, cs', hc'⟩ := ownLtQ hox g (by simpa using hm)
    exact neTypeQ hc hc' (by decide) rfl)
  have ho2 := own_put_cellQ ho1 r x9
  have hgo : go ∉ ([] : List Nat) := by simp
  obtain ⟨_, _, cgo, hgob⟩ := ownLtQ ho1 go (by simp [Value.ownBlock])
  have hset : ∀ (j : Nat) (u : Value), (vals.set r x9)[j]? = some u → (j = r ∧ u = x9) ∨ (j ≠ r ∧ vals[j]? = some u) := fun j u hu => by
    by_cases hj : r = j
    · subst hj
      rw [List.getElem?_set_self hrl] at hu
      injection hu with hu
      exact .inl ⟨rfl, hu.symm⟩
    · rw [List.getElem?_set_ne hj] at hu
      exact .inr ⟨fun e => hj e.symm, hu⟩
  have hkS : Keep [go] w9 (w9.setCell ⟨go, r, none⟩ x9) := (Keep.refl [go] w9).setCell (.inl (by simp)) x9
  have hcell : ∀ {u : Value} {m : Nat} {xs : List Value}, w9.ownsRow B 52 3 u m xs → (w9.setCell ⟨go, r, none⟩ x9).ownsRow B 52 3 u m xs := fun {u m xs} ho => own_keep ho hkS (fun g hg hm => by
    obtain ⟨_, _, cs, hc⟩ := ownLtQ ho g hg
    rw [List.mem_singleton.1 hm] at hc
    exact neTypeQ hc hgob (by decide) rfl)
  have hlt9 : ∀ (j : Nat) (u : Value) (g : Nat), vals[j]? = some u → u.ownBlock = some g → g < wa.heap.size := fun j u g h3 h4 => by
    have hj := (List.getElem?_eq_some_iff.1 h3).1
    rw [h.len] at hj
    exact Nat.lt_of_lt_of_le (ownLtQ (h.row j u _ h3 (List.getElem?_eq_getElem hj)) g h4).2.1 hka.size
  refine ⟨by rw [List.length_set, List.length_set]; exact h.len, by rw [List.length_set, hn]; exact ho2, fun j u m hu hm => ?_, fun i j u u' g hi hj h1 h2 => ?_⟩
  · rcases hset j u hu with ⟨rfl, rfl⟩ | ⟨hne, hu⟩
    · rw [List.getElem?_set_self (by rw [← h.len]; exact hrl)] at hm
      injection hm with hm
      subst hm
      exact hcell ho9
    · rw [List.getElem?_set_ne (fun e => hne e.symm)] at hm
      exact hcell (own_keep (own_keep (h.row j u m hu hm) hka (by simp)) hk9 (fun g hg hm2 => hne (h.apart j r u x g hu hx hg (by simpa using hm2))))
  · rcases hset i u hi with ⟨e1, e2⟩ | ⟨hne, hi⟩ <;> rcases hset j u' hj with ⟨e3, e4⟩ | ⟨hne2, hj⟩
    · rw [e1, e3]
    · rw [e1]
      rw [e2] at h1
      rcases hx9 with h3 | h3
      · exact h.apart _ _ _ _ g hx hj (h3 ▸ h1) h2
      · rw [h3] at h1
        injection h1 with h1
        have := hlt9 _ _ _ hj h2
        omega
    · rw [e3]
      rw [e4] at h2
      rcases hx9 with h3 | h3
      · exact h.apart _ _ _ _ g hi hx h1 (h3 ▸ h2)
      · rw [h3] at h2
        injection h2 with h2
        have := hlt9 _ _ _ hi h1
        omega
    · exact h.apart i j u u' g hi hj h1 h2
theorem RndAt.rowSl (h : RndAt w B v vals rs) {r : Nat} (hr : r < rs.length) : ∃ x l, vals[r]? = some x ∧ rs[r]? = some l ∧ w.ownsRow B 52 3 x l.length (lanesC l) := by
  have hv : r < vals.length := by rw [h.len]; exact hr
  exact ⟨_, _, List.getElem?_eq_getElem hv, List.getElem?_eq_getElem hr, h.row r _ _ (List.getElem?_eq_getElem hv) (List.getElem?_eq_getElem hr)⟩
end
end Go
