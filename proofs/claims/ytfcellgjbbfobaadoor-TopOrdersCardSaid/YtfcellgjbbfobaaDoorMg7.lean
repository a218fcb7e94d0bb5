/- Texts laid together: TP1 TP2 DQ1 R7. -/
import Derived.Test.YtfcellgjbbfobaaDoorMg6
import Derived.Shelf.Bytes.SlEqualAll
/- Traces, in plain words: levels, rounds (Foata), and what lists that are the same have in common. -/
namespace Go
namespace Tr
variable {α : Type} (D : α → α → Bool)
/-- The level of s behind p: one more than the greatest of those that it depends on. -/
def lvOf (p : List (α × Nat)) (s : α) : Nat := p.foldl (fun m t => if D s t.1 then max m (t.2 + 1) else m) 0
def lvFrom (p : List (α × Nat)) (l : List α) : List (α × Nat) := l.foldl (fun p s => p ++ [(s, lvOf D p s)]) p
def lv (l : List α) : List (α × Nat) := lvFrom D [] l
variable {D}
theorem lvOf_snoc (p : List (α × Nat)) (t : α × Nat) (s : α) : lvOf D (p ++ [t]) s = if D s t.1 then max (lvOf D p s) (t.2 + 1) else lvOf D p s := by
  unfold lvOf; rw [List.foldl_append]; rfl
theorem lvOf_nil (s : α) : lvOf D [] s = 0 := rfl
theorem snoc_ind {β : Type} {P : List β → Prop} (h0 : P []) (h1 : ∀ l x, P l → P (l ++ [x])) (l : List β) : P l := by
  rw [← l.reverse_reverse]
  induction l.reverse with
  | nil => exact h0
  | cons x l ih => rw [List.reverse_cons]; exact h1 _ _ ih
theorem le_lvOf (p : List (α × Nat)) (s : α) : ∀ t ∈ p, D s t.1 = true → t.2 + 1 ≤ lvOf D p s := by
  refine snoc_ind (P := fun p => ∀ t ∈ p, D s t.1 = true → t.2 + 1 ≤ lvOf D p s) (fun t h => by cases h) (fun p u ih t ht hd => ?_) p
  rw [lvOf_snoc]
  rcases List.mem_append.1 ht with ht | ht
  · have := ih t ht hd
    split <;> omega
  · rw [List.mem_singleton.1 ht] at hd ⊢
    rw [if_pos hd]; omega
theorem lvOf_wit (p : List (α × Nat)) (s : α) : 0 < lvOf D p s → ∃ t ∈ p, D s t.1 = true ∧ t.2 + 1 = lvOf D p s := by
  refine snoc_ind (P := fun p => 0 < lvOf D p s → ∃ t ∈ p, D s t.1 = true ∧ t.2 + 1 = lvOf D p s) (fun h => by simp [lvOf] at h) (fun p u ih h => ?_) p
  rw [lvOf_snoc] at h ⊢
  split
  · rename_i hd
    by_cases hle : lvOf D p s ≤ u.2 + 1
    · exact ⟨u, by simp, hd, by omega⟩
    · obtain ⟨t, h1, h2, h3⟩ := ih (by omega)
      exact ⟨t, by simp [h1], h2, by omega⟩
  · rename_i hd
    rw [if_neg hd] at h
    obtain ⟨t, h1, h2, h3⟩ := ih h
    exact ⟨t, by simp [h1], h2, h3⟩
theorem lvOf_eq {p : List (α × Nat)} {s : α} {n : Nat} (h1 : ∀ t ∈ p, D s t.1 = true → t.2 + 1 ≤ n) (h2 : 0 < n → ∃ t ∈ p, D s t.1 = true ∧ t.2 + 1 = n) : lvOf D p s = n := by
  have h3 : lvOf D p s ≤ n := by
    by_cases h0 : 0 < lvOf D p s
    · obtain ⟨t, ht, hd, he⟩ := lvOf_wit p s h0
      have := h1 t ht hd
      omega
    · omega
  have h4 : n ≤ lvOf D p s := by
    by_cases h0 : 0 < n
    · obtain ⟨t, ht, hd, he⟩ := h2 h0
      have := le_lvOf p s t ht hd
      omega
    · omega
  omega
theorem lvOf_perm {p p' : List (α × Nat)} (h : p.Perm p') (s : α) : lvOf D p s = lvOf D p' s :=
  lvOf_eq (fun t ht hd => le_lvOf p' s t (h.mem_iff.1 ht) hd) (fun h0 => by obtain ⟨t, h1, h2, h3⟩ := lvOf_wit p' s h0; exact ⟨t, h.mem_iff.2 h1, h2, h3⟩)
theorem lvFrom_cons (p : List (α × Nat)) (s : α) (l : List α) : lvFrom D p (s :: l) = lvFrom D (p ++ [(s, lvOf D p s)]) l := rfl
theorem lvFrom_app (p : List (α × Nat)) (l m : List α) : lvFrom D p (l ++ m) = lvFrom D (lvFrom D p l) m := by unfold lvFrom; rw [List.foldl_append]
theorem lv_snoc (l : List α) (s : α) : lv D (l ++ [s]) = lv D l ++ [(s, lvOf D (lv D l) s)] := by unfold lv; rw [lvFrom_app]; rfl
theorem lvFrom_perm {p p' : List (α × Nat)} (h : p.Perm p') (l : List α) : (lvFrom D p l).Perm (lvFrom D p' l) := by
  induction l generalizing p p' with
  | nil => exact h
  | cons s l ih =>
    rw [lvFrom_cons, lvFrom_cons, lvOf_perm h s]
    exact ih (h.append_right _)
theorem lv_fst (l : List α) : (lv D l).map Prod.fst = l := by
  refine snoc_ind (P := fun l => (lv D l).map Prod.fst = l) rfl (fun l s ih => ?_) l
  rw [lv_snoc, List.map_append, ih]; rfl
theorem lv_len (l : List α) : (lv D l).length = l.length := by
  have := congrArg List.length (lv_fst (D := D) l)
  rwa [List.length_map] at this
/-- Levels rise from one to another that depends on it. -/
theorem lv_inc (l : List α) : (lv D l).Pairwise (fun s t => D t.1 s.1 = true → s.2 < t.2) := by
  refine snoc_ind (P := fun l => (lv D l).Pairwise (fun s t => D t.1 s.1 = true → s.2 < t.2)) List.Pairwise.nil (fun l s ih => ?_) l
  rw [lv_snoc, List.pairwise_append]
  refine ⟨ih, List.pairwise_singleton _ _, fun t ht u hu hd => ?_⟩
  rw [List.mem_singleton.1 hu] at hd ⊢
  have := le_lvOf (lv D l) s t ht hd
  show t.2 < lvOf D (lv D l) s
  omega
theorem lv_wit (l : List α) : ∀ t ∈ lv D l, 0 < t.2 → ∃ s ∈ lv D l, D t.1 s.1 = true ∧ s.2 + 1 = t.2 := by
  refine snoc_ind (P := fun l => ∀ t ∈ lv D l, 0 < t.2 → ∃ s ∈ lv D l, D t.1 s.1 = true ∧ s.2 + 1 = t.2) (fun t h => by cases h) (fun l s ih t ht h0 => ?_) l
  rw [lv_snoc] at ht ⊢
  rcases List.mem_append.1 ht with ht | ht
  · obtain ⟨u, h1, h2⟩ := ih t ht h0
    exact ⟨u, List.mem_append_left _ h1, h2⟩
  · rw [List.mem_singleton.1 ht] at h0 ⊢
    obtain ⟨u, h1, h2⟩ := lvOf_wit _ _ h0
    exact ⟨u, List.mem_append_left _ h1, h2⟩
/-- Two that don't depend may change places. -/
theorem lv_swap (u v : List α) {x y : α} (h1 : D y x = false) (h2 : D x y = false) : (lv D (u ++ x :: y :: v)).Perm (lv D (u ++ y :: x :: v)) := by
  unfold lv
  rw [lvFrom_app, lvFrom_app, lvFrom_cons, lvFrom_cons, lvFrom_cons, lvFrom_cons]
  refine lvFrom_perm ?_ v
  rw [lvOf_snoc, lvOf_snoc]
  simp only [h1, h2, Bool.false_eq_true, if_false]
  rw [List.append_assoc, List.append_assoc]
  exact (List.Perm.swap _ _ _).append_left _
/-- What all depends on one another stands in one order. -/
theorem lv_own {a b : List α} (h : (lv D a).Perm (lv D b)) {C : α → Bool} (hC : ∀ x y, C x = true → C y = true → D x y = true) : a.filter C = b.filter C := by
  have hf : ∀ l : List α, l.filter C = ((lv D l).filter (fun t => C t.1)).map Prod.fst := fun l => by
    have := List.filter_map (p := C) (f := Prod.fst) (l := lv D l)
    rw [lv_fst] at this
    exact this
  have hp : ∀ l : List α, ((lv D l).filter (fun t => C t.1)).Pairwise (fun s t => s.2 < t.2) := fun l => by
    have h1 := (lv_inc (D := D) l).filter (fun t => C t.1)
    rw [List.pairwise_iff_getElem] at h1 ⊢
    intro i j hi hj hij
    have hci := (List.mem_filter.1 (List.getElem_mem hi)).2
    have hcj := (List.mem_filter.1 (List.getElem_mem hj)).2
    exact h1 i j hi hj hij (hC _ _ hcj hci)
  rw [hf a, hf b, List.Perm.eq_of_pairwise (fun x y _ _ h5 h6 => absurd h5 (by omega)) (hp a) (hp b) (h.filter _)]
theorem lv_perm {a b : List α} (h : (lv D a).Perm (lv D b)) : a.Perm b := by
  have := h.map Prod.fst
  rwa [lv_fst, lv_fst] at this
/-- How many pairs don't depend. -/
def cnt (D : α → α → Bool) : List α → Nat
  | [] => 0
  | x :: l => cnt D l + (l.filter (fun y => !D x y)).length
theorem cnt_perm (hs : ∀ x y, D x y = D y x) {a b : List α} (h : a.Perm b) : cnt D a = cnt D b := by
  induction h with
  | nil => rfl
  | cons x h ih => simp only [cnt]; rw [ih, (h.filter _).length_eq]
  | swap x y l =>
    simp only [cnt, List.filter_cons]
    rw [hs x y]
    cases D y x <;> simp <;> omega
  | trans _ _ ih1 ih2 => rw [ih1, ih2]
/-- The rounds, as they come. -/
def rnd (D : α → α → Bool) (l : List α) (r : Nat) : List α := ((lv D l).filter (fun t => t.2 == r)).map Prod.fst
def nr (D : α → α → Bool) (l : List α) : Nat := (lv D l).foldl (fun m t => max m (t.2 + 1)) 0
theorem rnd_snoc (l : List α) (s : α) (r : Nat) : rnd D (l ++ [s]) r = rnd D l r ++ (if lvOf D (lv D l) s = r then [s] else []) := by
  unfold rnd
  rw [lv_snoc, List.filter_append, List.map_append]
  congr 1
  by_cases h : lvOf D (lv D l) s = r
  · simp [h]
  · simp [h]
theorem nr_snoc (l : List α) (s : α) : nr D (l ++ [s]) = max (nr D l) (lvOf D (lv D l) s + 1) := by
  unfold nr; rw [lv_snoc, List.foldl_append]; rfl
theorem nr_nil : nr D ([] : List α) = 0 := rfl
theorem foldl_max_le {l : List (α × Nat)} {m : Nat} : m ≤ l.foldl (fun m t => max m (t.2 + 1)) m ∧ ∀ t ∈ l, t.2 < l.foldl (fun m t => max m (t.2 + 1)) m := by
  induction l generalizing m with
  | nil => exact ⟨Nat.le_refl _, fun t h => by cases h⟩
  | cons u l ih =>
    obtain ⟨h1, h2⟩ := ih (m := max m (u.2 + 1))
    refine ⟨by simp only [List.foldl_cons]; omega, fun t ht => ?_⟩
    simp only [List.foldl_cons]
    rcases List.mem_cons.1 ht with rfl | ht
    · omega
    · exact h2 t ht
theorem lt_nr {l : List α} {t : α × Nat} (h : t ∈ lv D l) : t.2 < nr D l := (foldl_max_le (m := 0)).2 t h
theorem nr_wit (l : List α) : 0 < nr D l → ∃ t ∈ lv D l, t.2 + 1 = nr D l := by
  refine snoc_ind (P := fun l => 0 < nr D l → ∃ t ∈ lv D l, t.2 + 1 = nr D l) (fun h => by simp [nr, lv, lvFrom] at h) (fun l s ih h => ?_) l
  rw [nr_snoc, lv_snoc] at *
  by_cases hle : nr D l ≤ lvOf D (lv D l) s + 1
  · exact ⟨(s, lvOf D (lv D l) s), by simp, by show lvOf D (lv D l) s + 1 = _; omega⟩
  · obtain ⟨t, h1, h2⟩ := ih (by omega)
    exact ⟨t, by simp [h1], by omega⟩
theorem lvOf_le_nr (l : List α) (s : α) : lvOf D (lv D l) s ≤ nr D l := by
  by_cases h : 0 < lvOf D (lv D l) s
  · obtain ⟨t, h1, _, h3⟩ := lvOf_wit _ _ h
    have := lt_nr h1
    omega
  · omega
theorem nr_perm {a b : List α} (h : (lv D a).Perm (lv D b)) : nr D a = nr D b := by
  have key : ∀ {a b : List α}, (lv D a).Perm (lv D b) → nr D a ≤ nr D b := fun {a b} h => by
    by_cases h0 : 0 < nr D a
    · obtain ⟨t, h1, h2⟩ := nr_wit a h0
      have := lt_nr (h.mem_iff.1 h1)
      omega
    · omega
  exact Nat.le_antisymm (key h) (key h.symm)
theorem mem_rnd {l : List α} {r : Nat} {x : α} : x ∈ rnd D l r ↔ (x, r) ∈ lv D l := by
  unfold rnd
  rw [List.mem_map]
  constructor
  · rintro ⟨t, ht, rfl⟩
    obtain ⟨h1, h2⟩ := List.mem_filter.1 ht
    have : t.2 = r := by simpa using h2
    rw [← this]; exact h1
  · intro h
    exact ⟨(x, r), List.mem_filter.2 ⟨h, by simp⟩, rfl⟩
/-- Of a round no two depend. -/
theorem rnd_apart (hs : ∀ x y, D x y = D y x) (l : List α) (r : Nat) : (rnd D l r).Pairwise (fun x y => D x y = false) := by
  unfold rnd
  rw [List.pairwise_map]
  have h1 := (lv_inc (D := D) l).filter (fun t => t.2 == r)
  rw [List.pairwise_iff_getElem] at h1 ⊢
  intro i j hi hj hij
  have hci := (List.mem_filter.1 (List.getElem_mem hi)).2
  have hcj := (List.mem_filter.1 (List.getElem_mem hj)).2
  have h2 := h1 i j hi hj hij
  simp only [beq_iff_eq] at hci hcj
  rw [hs]
  refine Bool.eq_false_iff.2 (fun hd => ?_)
  have := h2 hd
  omega
theorem rnd_wit {l : List α} {r : Nat} {x : α} (h : x ∈ rnd D l (r + 1)) : ∃ y ∈ rnd D l r, D x y = true := by
  obtain ⟨s, h1, h2, h3⟩ := lv_wit l _ (mem_rnd.1 h) (by show 0 < r + 1; omega)
  refine ⟨s.1, mem_rnd.2 ?_, h2⟩
  have : s.2 = r := by simpa using h3
  rw [← this]; exact h1
theorem rnd_pos {l : List α} {r : Nat} (h : r < nr D l) : rnd D l r ≠ [] := by
  have key : ∀ k, k < nr D l → ∃ x, x ∈ rnd D l (nr D l - 1 - k) := fun k hk => by
    induction k with
    | zero =>
      obtain ⟨t, h1, h2⟩ := nr_wit l (by omega)
      exact ⟨t.1, mem_rnd.2 (by rw [show nr D l - 1 - 0 = t.2 by omega]; exact h1)⟩
    | succ k ih =>
      obtain ⟨x, hx⟩ := ih (by omega)
      rw [show nr D l - 1 - k = (nr D l - 1 - (k + 1)) + 1 by omega] at hx
      obtain ⟨y, hy, _⟩ := rnd_wit hx
      exact ⟨y, hy⟩
  obtain ⟨x, hx⟩ := key (nr D l - 1 - r) (by omega)
  rw [show nr D l - 1 - (nr D l - 1 - r) = r by omega] at hx
  exact List.ne_nil_of_mem hx
/-- The rounds, each sorted by who. -/
def sortQ (q : α → Int) (l : List α) : List α := l.mergeSort (fun x y => decide (q x ≤ q y))
theorem sortQ_perm (q : α → Int) (l : List α) : (sortQ q l).Perm l := List.mergeSort_perm l _
theorem sortQ_sorted (q : α → Int) (l : List α) : (sortQ q l).Pairwise (fun x y => q x ≤ q y) := by
  have := List.pairwise_mergeSort (le := fun x y : α => decide (q x ≤ q y)) (fun a b c h1 h2 => by simp at *; omega) (fun a b => by simp; omega) l
  exact this.imp (fun h => by simpa using h)
theorem apart_inj {q : α → Int} (hq : ∀ x y, q x = q y → D x y = true) (hs : ∀ x y, D x y = D y x) {l : List α} (h : l.Pairwise (fun x y => D x y = false)) {x y : α} (hx : x ∈ l) (hy : y ∈ l) (he : q x = q y) : x = y := by
  obtain ⟨i, hi, rfl⟩ := List.getElem_of_mem hx
  obtain ⟨j, hj, rfl⟩ := List.getElem_of_mem hy
  rw [List.pairwise_iff_getElem] at h
  have hd := hq _ _ he
  rcases Nat.lt_trichotomy i j with hij | rfl | hij
  · rw [h i j hi hj hij] at hd; cases hd
  · rfl
  · rw [hs, h j i hj hi hij] at hd; cases hd
theorem sortQ_ext {q : α → Int} (hq : ∀ x y, q x = q y → D x y = true) (hs : ∀ x y, D x y = D y x) {l m : List α} (h : l.Pairwise (fun x y => D x y = false)) (hp : m.Perm l) (hm : m.Pairwise (fun x y => q x ≤ q y)) : m = sortQ q l :=
  List.Perm.eq_of_pairwise (fun x y hx hy h1 h2 => apart_inj hq hs h (hp.mem_iff.1 hx) ((sortQ_perm q l).mem_iff.1 hy) (Int.le_antisymm h1 h2)) hm (sortQ_sorted q l) (hp.trans (sortQ_perm q l).symm)
def rnds (D : α → α → Bool) (q : α → Int) (l : List α) : List (List α) := (List.range (nr D l)).map (fun r => sortQ q (rnd D l r))
theorem rnds_of_perm {q : α → Int} (hq : ∀ x y, q x = q y → D x y = true) (hs : ∀ x y, D x y = D y x) {a b : List α} (h : (lv D a).Perm (lv D b)) : rnds D q a = rnds D q b := by
  unfold rnds
  rw [nr_perm h]
  refine List.map_congr_left (fun r _ => ?_)
  exact sortQ_ext hq hs (rnd_apart hs b r) ((sortQ_perm q _).trans ((h.filter _).map _)) (sortQ_sorted q _)
theorem perm_of_rnds [DecidableEq α] {q : α → Int} {a b : List α} (h : rnds D q a = rnds D q b) : (lv D a).Perm (lv D b) := by
  have hn : nr D a = nr D b := by have := congrArg List.length h; simpa [rnds] using this
  have hr : ∀ r, (rnd D a r).Perm (rnd D b r) := fun r => by
    by_cases hlt : r < nr D a
    · have h1 : (rnds D q a)[r]? = (rnds D q b)[r]? := by rw [h]
      unfold rnds at h1
      rw [List.getElem?_map, List.getElem?_map, List.getElem?_range hlt, List.getElem?_range (hn ▸ hlt)] at h1
      simp only [Option.map_some, Option.some.injEq] at h1
      exact (sortQ_perm q _).symm.trans (h1 ▸ sortQ_perm q _)
    · have e : ∀ (l : List α), ¬ r < nr D l → rnd D l r = [] := fun l hl => by
        rw [List.eq_nil_iff_forall_not_mem]
        intro x hx
        exact hl (lt_nr (mem_rnd.1 hx))
      rw [e a hlt, e b (hn ▸ hlt)]
  have hc : ∀ (l : List α) (x : α) (r : Nat), (lv D l).count (x, r) = (rnd D l r).count x := fun l x r => by
    unfold rnd
    induction lv D l with
    | nil => rfl
    | cons t p ih =>
      rw [List.count_cons, ih, List.filter_cons]
      by_cases h2 : t.2 = r
      · simp only [h2, beq_self_eq_true, if_true, List.map_cons, List.count_cons]
        by_cases h1 : t.1 = x
        · simp [h1, ← h2, Prod.ext_iff]
        · simp [h1, Prod.ext_iff]
      · simp [h2, Prod.ext_iff]
  rw [List.perm_iff_count]
  rintro ⟨x, r⟩
  rw [hc, hc]
  exact (hr r).count_eq x
theorem same_iff [DecidableEq α] {q : α → Int} (hq : ∀ x y, q x = q y → D x y = true) (hs : ∀ x y, D x y = D y x) (a b : List α) : rnds D q a = rnds D q b ↔ (lv D a).Perm (lv D b) := ⟨perm_of_rnds, rnds_of_perm hq hs⟩
/-- Two that depend, and are not one, cannot change places. -/
theorem swap_dep {u v : List α} [DecidableEq α] {x y : α} (hr : ∀ x, D x x = true) (hs : ∀ x y, D x y = D y x) (hd : D x y = true) (h : (lv D (u ++ x :: y :: v)).Perm (lv D (u ++ y :: x :: v))) : x = y := by
  have h1 := lv_own (C := fun z => decide (z = x ∨ z = y)) h (fun a b ha hb => by
    simp only [decide_eq_true_eq] at ha hb
    rcases ha with rfl | rfl <;> rcases hb with rfl | rfl
    · exact hr _
    · exact hd
    · rw [hs]; exact hd
    · exact hr _)
  rw [List.filter_append, List.filter_append] at h1
  have h2 := List.append_cancel_left h1
  simp only [List.filter_cons, true_or, or_true, decide_true, if_true] at h2
  injection h2
end Tr
end Go
/- Traces, in plain words: the rounds one behind the other; the normal form (Mazurkiewicz). -/
namespace Go
namespace Tr
variable {α : Type} {D : α → α → Bool}
theorem lv_round (hs : ∀ x y, D x y = D y x) {pre : List α} {n : Nat} {R : List α} (h1 : ∀ t ∈ lv D pre, t.2 < n) (h2 : 0 < n → ∀ x ∈ R, ∃ t ∈ lv D pre, D x t.1 = true ∧ t.2 + 1 = n) (h3 : R.Pairwise (fun x y => D x y = false)) : lv D (pre ++ R) = lv D pre ++ R.map (fun x => (x, n)) := by
  revert h2 h3
  refine snoc_ind (P := fun R => (0 < n → ∀ x ∈ R, ∃ t ∈ lv D pre, D x t.1 = true ∧ t.2 + 1 = n) → R.Pairwise (fun x y => D x y = false) → lv D (pre ++ R) = lv D pre ++ R.map (fun x => (x, n))) (fun _ _ => by simp) (fun R x ih h2 h3 => ?_) R
  rw [List.pairwise_append] at h3
  rw [← List.append_assoc, lv_snoc, ih (fun h0 y hy => h2 h0 y (by simp [hy])) h3.1, List.map_append, List.append_assoc]
  congr 2
  have he : lvOf D (lv D pre ++ R.map (fun x => (x, n))) x = n := lvOf_eq (fun t ht hd => by
    rcases List.mem_append.1 ht with ht | ht
    · have := h1 t ht; omega
    · obtain ⟨y, hy, rfl⟩ := List.mem_map.1 ht
      have := h3.2.2 y hy x (by simp)
      rw [hs] at this
      rw [this] at hd
      cases hd) (fun h0 => by
    obtain ⟨t, ht, hd⟩ := h2 h0 x (by simp)
    exact ⟨t, by simp [ht], hd⟩)
  rw [he]; rfl
theorem parts_perm (p : List (α × Nat)) (n : Nat) : (((List.range n).map (fun r => p.filter (fun t => t.2 == r))).flatten).Perm (p.filter (fun t => decide (t.2 < n))) := by
  induction n with
  | zero => simp
  | succ n ih =>
    rw [List.range_succ, List.map_append, List.flatten_append, List.map_singleton, List.flatten_singleton]
    refine (ih.append_right _).trans ?_
    clear ih
    induction p with
    | nil => exact List.Perm.refl _
    | cons t p ih =>
      simp only [List.filter_cons]
      by_cases h1 : t.2 < n
      · have h2 : ¬ t.2 = n := by omega
        have h3 : t.2 < n + 1 := by omega
        simp only [h1, h2, h3, decide_true, if_true, beq_iff_eq, if_false, List.cons_append]
        exact ih.cons t
      · by_cases h2 : t.2 = n
        · have h3 : t.2 < n + 1 := by omega
          have h4 : (t.2 == n) = true := by simpa using h2
          rw [if_neg (by simpa using h1), if_pos h4, if_pos (by simpa using h3)]
          exact List.perm_middle.trans (ih.cons t)
        · have h3 : ¬ t.2 < n + 1 := by omega
          simp only [h1, h2, h3, decide_false, Bool.false_eq_true, if_false, beq_iff_eq]
          exact ih
/-- All rounds, one behind the other, are the same as the list. -/
theorem flat_same {q : α → Int} (hs : ∀ x y, D x y = D y x) (l : List α) : (lv D (rnds D q l).flatten).Perm (lv D l) := by
  have key : ∀ n, n ≤ nr D l → lv D (((List.range n).map (fun r => sortQ q (rnd D l r))).flatten) = ((List.range n).map (fun r => (sortQ q (rnd D l r)).map (fun x => (x, r)))).flatten := fun n hn => by
    induction n with
    | zero => rfl
    | succ n ih =>
      have ih := ih (by omega)
      rw [List.range_succ, List.map_append, List.flatten_append, List.map_singleton, List.flatten_singleton, List.map_append, List.flatten_append, List.map_singleton, List.flatten_singleton]
      rw [lv_round hs (n := n) (R := sortQ q (rnd D l n)), ih]
      · intro t ht
        rw [ih] at ht
        obtain ⟨m, hm, ht⟩ := List.mem_flatten.1 ht
        obtain ⟨r, hr, rfl⟩ := List.mem_map.1 hm
        obtain ⟨x, _, rfl⟩ := List.mem_map.1 ht
        exact List.mem_range.1 hr
      · intro h0 x hx
        obtain ⟨m, rfl⟩ : ∃ m, n = m + 1 := ⟨n - 1, by omega⟩
        obtain ⟨y, hy, hd⟩ := rnd_wit ((sortQ_perm q _).mem_iff.1 hx)
        refine ⟨(y, m), ?_, hd, rfl⟩
        rw [ih]
        exact List.mem_flatten.2 ⟨_, List.mem_map.2 ⟨m, List.mem_range.2 (by omega), rfl⟩, List.mem_map.2 ⟨y, (sortQ_perm q _).mem_iff.2 hy, rfl⟩⟩
      · have h := rnd_apart (D := D) hs l n
        exact ((sortQ_perm q _).pairwise_iff (fun {x y} h => by rw [hs]; exact h)).2 h
  unfold rnds
  rw [key _ (Nat.le_refl _)]
  have h1 : ∀ r, ((sortQ q (rnd D l r)).map (fun x => (x, r))).Perm ((lv D l).filter (fun t => t.2 == r)) := fun r => by
    refine ((sortQ_perm q _).map _).trans ?_
    unfold rnd
    rw [List.map_map]
    have : ((lv D l).filter (fun t => t.2 == r)).map ((fun x => (x, r)) ∘ Prod.fst) = ((lv D l).filter (fun t => t.2 == r)).map id := List.map_congr_left (fun t ht => by
      have h2 : t.2 = r := by simpa using (List.mem_filter.1 ht).2
      show (t.1, r) = t
      rw [← h2])
    rw [this, List.map_id]
  have h2 : (((List.range (nr D l)).map (fun r => (sortQ q (rnd D l r)).map (fun x => (x, r)))).flatten).Perm (((List.range (nr D l)).map (fun r => (lv D l).filter (fun t => t.2 == r))).flatten) := by
    induction List.range (nr D l) with
    | nil => exact List.Perm.refl _
    | cons r rs ih =>
      simp only [List.map_cons, List.flatten_cons]
      exact (h1 r).append ih
  refine h2.trans ((parts_perm _ _).trans ?_)
  rw [List.filter_eq_self.2 (fun t ht => decide_eq_true (lt_nr ht))]
/-- Lists that come to be one another by changes of places. -/
inductive Eqv (D : α → α → Bool) : List α → List α → Prop
  | refl (a : List α) : Eqv D a a
  | step (u v : List α) {x y : α} : D x y = false → Eqv D (u ++ x :: y :: v) (u ++ y :: x :: v)
  | trans {a b c : List α} : Eqv D a b → Eqv D b c → Eqv D a c
theorem Eqv.cons {a b : List α} (s : α) (h : Eqv D a b) : Eqv D (s :: a) (s :: b) := by
  induction h with
  | refl a => exact .refl _
  | step u v h => exact .step (s :: u) v h
  | trans _ _ h1 h2 => exact h1.trans h2
theorem Eqv.lvs {a b : List α} (hs : ∀ x y, D x y = D y x) (h : Eqv D a b) : (lv D a).Perm (lv D b) := by
  induction h with
  | refl a => exact List.Perm.refl _
  | step u v h => exact lv_swap u v (by rw [hs]; exact h) h
  | trans _ _ h1 h2 => exact h1.trans h2
theorem Eqv.front (hs : ∀ x y, D x y = D y x) (u v : List α) (s : α) (h : ∀ t ∈ u, D s t = false) : Eqv D (u ++ s :: v) (s :: (u ++ v)) := by
  induction u with
  | nil => exact .refl _
  | cons t u ih =>
    refine ((ih (fun x hx => h x (by simp [hx]))).cons t).trans ?_
    exact .step [] (u ++ v) (by rw [hs]; exact h t (by simp))
/-- What all cliques say of two lists. -/
def Ag (D : α → α → Bool) (a b : List α) : Prop := ∀ C : α → Bool, (∀ x y, C x = true → C y = true → D x y = true) → a.filter C = b.filter C
theorem Ag.symm {a b : List α} (h : Ag D a b) : Ag D b a := fun C hC => (h C hC).symm
theorem ag_of_lv {a b : List α} (h : (lv D a).Perm (lv D b)) : Ag D a b := fun _ hC => lv_own h hC
def isFree (D : α → α → Bool) (p : List α) (s : α) : Bool := !p.any (fun t => D s t)
theorem isFree_iff {p : List α} {s : α} : isFree D p s = true ↔ ∀ t ∈ p, D s t = false := by
  unfold isFree
  simp
/-- The first of those with the least who, among the first i that are free. -/
def bst (D : α → α → Bool) (q : α → Int) (l : List α) : Nat → Option (Nat × α)
  | 0 => none
  | i + 1 => match l[i]? with
    | none => bst D q l i
    | some s => if (isFree D (l.take i) s && (match bst D q l i with | none => true | some b => decide (q s < q b.2))) = true then some (i, s) else bst D q l i
theorem bst_spec (q : α → Int) (l : List α) (i : Nat) (hi : i ≤ l.length) : (i = 0 ∧ bst D q l i = none) ∨ ∃ j b, bst D q l i = some (j, b) ∧ j < i ∧ l[j]? = some b ∧ isFree D (l.take j) b = true ∧ ∀ (k : Nat) (s : α), k < i → l[k]? = some s → isFree D (l.take k) s = true → q b ≤ q s := by
  induction i with
  | zero => exact .inl ⟨rfl, rfl⟩
  | succ i ih =>
    right
    obtain ⟨s, hsl⟩ : ∃ s, l[i]? = some s := ⟨_, List.getElem?_eq_getElem (by omega)⟩
    rcases ih (by omega) with ⟨rfl, h0⟩ | ⟨j, b, h0, h1, h2, h3, h4⟩
    · refine ⟨0, s, ?_, by omega, hsl, by simp [isFree], fun k t hk ht _ => ?_⟩
      · simp only [bst, hsl]
        simp [isFree]
      · obtain rfl : k = 0 := by omega
        rw [hsl] at ht; injection ht with ht; rw [ht]; exact Int.le_refl _
    · simp only [bst, hsl, h0]
      by_cases hc : (isFree D (l.take i) s && decide (q s < q b)) = true
      · rw [if_pos hc]
        simp only [Bool.and_eq_true, decide_eq_true_eq] at hc
        refine ⟨i, s, rfl, by omega, hsl, hc.1, fun k t hk ht hf => ?_⟩
        by_cases hki : k = i
        · subst hki; rw [hsl] at ht; injection ht with ht; rw [ht]; exact Int.le_refl _
        · have := h4 k t (by omega) ht hf; omega
      · rw [if_neg hc]
        refine ⟨j, b, rfl, by omega, h2, h3, fun k t hk ht hf => ?_⟩
        by_cases hki : k = i
        · subst hki
          rw [hsl] at ht; injection ht with ht; subst ht
          simp only [Bool.and_eq_true, decide_eq_true_eq, not_and] at hc
          have := hc hf; omega
        · exact h4 k t (by omega) ht hf
def norm (D : α → α → Bool) (q : α → Int) : Nat → List α → List α
  | 0, _ => []
  | n + 1, l => match bst D q l l.length with
    | none => []
    | some b => b.2 :: norm D q n (l.eraseIdx b.1)
theorem split_at {l : List α} {j : Nat} {b : α} (h : l[j]? = some b) : l = l.take j ++ b :: l.drop (j + 1) ∧ l.eraseIdx j = l.take j ++ l.drop (j + 1) := by
  obtain ⟨hj, he⟩ := List.getElem?_eq_some_iff.1 h
  refine ⟨?_, List.eraseIdx_eq_take_drop_succ l j⟩
  rw [← he, List.getElem_cons_drop, List.take_append_drop]
theorem norm_eqv (hs : ∀ x y, D x y = D y x) (q : α → Int) : ∀ (n : Nat) (l : List α), l.length = n → Eqv D l (norm D q n l)
  | 0, l, h => by rw [List.eq_nil_of_length_eq_zero h]; exact .refl _
  | n + 1, l, h => by
    rcases bst_spec (D := D) q l l.length (Nat.le_refl _) with ⟨h0, _⟩ | ⟨j, b, h0, h1, h2, h3, _⟩
    · omega
    · simp only [norm, h0]
      obtain ⟨e1, e2⟩ := split_at h2
      have hf := Eqv.front hs (l.take j) (l.drop (j + 1)) b (isFree_iff.1 h3)
      rw [← e1, ← e2] at hf
      refine hf.trans (Eqv.cons b (norm_eqv hs q n _ ?_))
      rw [List.length_eraseIdx, if_pos h1]; omega
theorem filt_free {C : α → Bool} (hC : ∀ x y, C x = true → C y = true → D x y = true) {u : List α} {b : α} (hf : ∀ t ∈ u, D b t = false) (hb : C b = true) : u.filter C = [] := by
  rw [List.filter_eq_nil_iff]
  intro t ht hc
  have := hC b t hb hc
  rw [hf t ht] at this
  cases this
theorem Ag.cut {u v u' v' : List α} {b : α} (h : Ag D (u ++ b :: v) (u' ++ b :: v')) (h1 : ∀ t ∈ u, D b t = false) (h2 : ∀ t ∈ u', D b t = false) : Ag D (u ++ v) (u' ++ v') := fun C hC => by
  have := h C hC
  rw [List.filter_append, List.filter_append, List.filter_cons, List.filter_cons] at this
  rw [List.filter_append, List.filter_append]
  cases hb : C b with
  | true =>
    rw [hb, filt_free hC h1 hb, filt_free hC h2 hb] at this
    rw [filt_free hC h1 hb, filt_free hC h2 hb]
    simpa using this
  | false =>
    rw [hb] at this
    simpa using this
/-- What is free in one is free in the other. -/
theorem Ag.free [DecidableEq α] (hr : ∀ x, D x x = true) (hs : ∀ x y, D x y = D y x) {u v m : List α} {b : α} (h : Ag D (u ++ b :: v) m) (hf : ∀ t ∈ u, D b t = false) : ∃ j, m[j]? = some b ∧ ∀ t ∈ m.take j, D b t = false := by
  have hbm : b ∈ m := by
    have h1 := h (fun z => decide (z = b)) (fun x y hx hy => by simp at hx hy; rw [hx, hy]; exact hr b)
    have h2 : b ∈ (u ++ b :: v).filter (fun z => decide (z = b)) := List.mem_filter.2 ⟨by simp, by simp⟩
    rw [h1] at h2
    exact (List.mem_filter.1 h2).1
  have hlt := List.idxOf_lt_length_of_mem hbm
  refine ⟨m.idxOf b, by rw [List.getElem?_eq_getElem hlt, List.getElem_idxOf hlt], fun t ht => Bool.eq_false_iff.2 (fun hd => ?_)⟩
  have hnb : b ∉ m.take (m.idxOf b) := fun hb => by
    obtain ⟨i, hi, he⟩ := List.getElem_of_mem hb
    rw [List.length_take] at hi
    rw [List.getElem_take] at he
    have h1 := List.not_of_lt_findIdx (p := (· == b)) (xs := m) (i := i) (by unfold List.idxOf at hi; omega)
    simp [he] at h1
  have hC : ∀ x y, (decide (x = b ∨ x = t)) = true → (decide (y = b ∨ y = t)) = true → D x y = true := fun x y hx hy => by
    simp only [decide_eq_true_eq] at hx hy
    rcases hx with rfl | rfl <;> rcases hy with rfl | rfl
    · exact hr _
    · exact hd
    · rw [hs]; exact hd
    · exact hr _
  have h1 := h _ hC
  rw [List.filter_append, filt_free hC hf (by simp), List.nil_append, List.filter_cons, if_pos (by simp)] at h1
  have h2 : m = m.take (m.idxOf b) ++ m.drop (m.idxOf b) := (List.take_append_drop _ _).symm
  rw [h2, List.filter_append] at h1
  cases hq : (m.take (m.idxOf b)).filter (fun z => decide (z = b ∨ z = t)) with
  | nil =>
    have := List.filter_eq_nil_iff.1 hq t ht
    simp at this
  | cons z zs =>
    rw [hq] at h1
    injection h1 with h1 _
    have h3 : z ∈ (m.take (m.idxOf b)).filter (fun z => decide (z = b ∨ z = t)) := by rw [hq]; simp
    exact hnb (h1 ▸ (List.mem_filter.1 h3).1)
theorem norm_ag [DecidableEq α] {q : α → Int} (hq : ∀ x y, q x = q y → D x y = true) (hr : ∀ x, D x x = true) (hs : ∀ x y, D x y = D y x) : ∀ (n : Nat) (a b : List α), a.length = n → b.length = n → Ag D a b → norm D q n a = norm D q n b
  | 0, _, _, _, _, _ => rfl
  | n + 1, a, b, ha, hb, h => by
    rcases bst_spec (D := D) q a a.length (Nat.le_refl _) with ⟨h0, _⟩ | ⟨j, x, h0, h1, h2, h3, h4⟩
    · omega
    rcases bst_spec (D := D) q b b.length (Nat.le_refl _) with ⟨g0, _⟩ | ⟨k, y, g0, g1, g2, g3, g4⟩
    · omega
    simp only [norm, h0, g0]
    obtain ⟨e1, e2⟩ := split_at h2
    obtain ⟨e3, e4⟩ := split_at g2
    have hx := isFree_iff.1 h3
    have hy := isFree_iff.1 g3
    obtain ⟨j', hj1, hj2⟩ := Ag.free hr hs (e1 ▸ h) hx
    obtain ⟨k', hk1, hk2⟩ := Ag.free hr hs (e3 ▸ h.symm) hy
    have hle1 := g4 j' x (List.getElem?_eq_some_iff.1 hj1).1 hj1 (isFree_iff.2 hj2)
    have hle2 := h4 k' y (List.getElem?_eq_some_iff.1 hk1).1 hk1 (isFree_iff.2 hk2)
    have hxy : q x = q y := Int.le_antisymm hle2 hle1
    have hd := hq x y hxy
    have hmem : ∀ {l : List α} {i k : Nat} {z : α}, l[i]? = some z → i < k → z ∈ l.take k := fun {l i k z} h hlt => List.mem_of_getElem? (i := i) (by rw [List.getElem?_take, if_pos hlt]; exact h)
    have he : x = y := by
      rcases Nat.lt_trichotomy j k' with hlt | heq | hlt
      · have := hk2 x (hmem h2 hlt)
        rw [hs, hd] at this; cases this
      · subst heq; rw [h2] at hk1; injection hk1
      · have := hx y (hmem hk1 hlt)
        rw [hd] at this; cases this
    subst he
    congr 1
    refine norm_ag hq hr hs n _ _ (by rw [List.length_eraseIdx, if_pos h1]; omega) (by rw [List.length_eraseIdx, if_pos g1]; omega) ?_
    rw [e2, e4]
    have h5 : Ag D (a.take j ++ x :: a.drop (j + 1)) (b.take k ++ x :: b.drop (k + 1)) := by rw [← e1, ← e3]; exact h
    exact h5.cut hx hy
def normal (D : α → α → Bool) (q : α → Int) (l : List α) : List α := norm D q l.length l
theorem normal_same (hs : ∀ x y, D x y = D y x) (q : α → Int) (l : List α) : (lv D l).Perm (lv D (normal D q l)) := (norm_eqv hs q _ l rfl).lvs hs
theorem normal_iff [DecidableEq α] {q : α → Int} (hq : ∀ x y, q x = q y → D x y = true) (hr : ∀ x, D x x = true) (hs : ∀ x y, D x y = D y x) (a b : List α) : (lv D a).Perm (lv D b) ↔ normal D q a = normal D q b := by
  constructor
  · intro h
    have hl := (lv_perm h).length_eq
    unfold normal
    rw [hl]
    exact norm_ag hq hr hs _ a b hl rfl (ag_of_lv h)
  · intro h
    exact (normal_same hs q a).trans (h ▸ (normal_same hs q b).symm)
theorem normal_again [DecidableEq α] {q : α → Int} (hq : ∀ x y, q x = q y → D x y = true) (hr : ∀ x, D x x = true) (hs : ∀ x y, D x y = D y x) (a : List α) : normal D q (normal D q a) = normal D q a :=
  ((normal_iff hq hr hs _ _).1 (normal_same hs q a)).symm
end Tr
end Go
/- Part: what depends, what is checked. -/
namespace Go
instance : DecidableEq Ln := fun a b => if h : a.q = b.q ∧ a.g = b.g ∧ a.u = b.u then isTrue (by cases a; cases b; simp_all) else isFalse (by rintro rfl; exact h ⟨rfl, rfl, rfl⟩)
def lnV (a : Ln) : Value := .agg #[.int .i64 a.q, .int .i64 a.g, .int .i64 a.u]
def dep (a b : Ln) : Bool := (a.q == b.q) || (bits .and .i64 a.u (bits .or .i64 b.g b.u) != 0) || (bits .and .i64 b.u (bits .or .i64 a.g a.u) != 0)
theorem dep_refl (a : Ln) : dep a a = true := by simp [dep]
theorem dep_q (a b : Ln) (h : a.q = b.q) : dep a b = true := by simp [dep, h]
theorem dep_symm (a b : Ln) : dep a b = dep b a := by
  unfold dep
  rw [show (a.q == b.q) = (b.q == a.q) from Bool.beq_comm]
  cases (b.q == a.q) <;> simp [Bool.or_comm]
/-- A step within the bounds. -/
def StOk (a : Ln) : Prop := (0 ≤ a.q ∧ a.q < 8) ∧ (0 ≤ a.g ∧ a.g < 256) ∧ 0 ≤ a.u ∧ a.u < 256
end Go
namespace Go.Proofs.YtfcellgjbbfobaaDoor
open Go.RowKit
theorem dep31 (a b : Ln) (w : World) : Calls Tryd.prog 29 #[lnV a, lnV b] w fun e w' => e = .returned (.bool (dep a b)) ∧ Keep [] w w' := by
  obtain ⟨q1, g1, u1⟩ := a
  obtain ⟨q2, g2, u2⟩ := b
  unfold lnV
  obtain ⟨b1, h1⟩ : ∃ b1, (q1 == q2) = b1 := ⟨_, rfl⟩
  obtain ⟨b2, h2⟩ : ∃ b2, (bits .and .i64 u1 (bits .or .i64 g2 u2) != 0) = b2 := ⟨_, rfl⟩
  obtain ⟨b3, h3⟩ : ∃ b3, (bits .and .i64 u2 (bits .or .i64 g1 u1) != 0) = b3 := ⟨_, rfl⟩
  have HD : Hid (dep ⟨q1, g1, u1⟩ ⟨q2, g2, u2⟩ = (b1 || b2 || b3)) := Lib.hid (by unfold dep; simp only [h1, h2, h3])
  rw [HD.out]
  go_enter Tryd.func29, Tryd.ntmps29
  cases b1 <;> cases b2 <;> cases b3
  all_goals
    go_wp2_with (first | (with_reducible refine Txt.wp_region_text mixed quiet (by decide +kernel) ?_) | (with_reducible refine Txt.text_done (by kernel_rfl) ?_))
    go_ret
    exact ⟨rfl, ((Keep.refl [] w).alloc _).alloc _⟩
theorem mask44 (n : Int) (w : World) : Calls Tryd.prog 40 #[.int .i64 n] w fun e w' => e = .returned (.bool (decide (0 ≤ n) && decide (n < 256))) ∧ w' = w := by
  obtain ⟨b1, h1⟩ : ∃ b1, decide (0 ≤ n) = b1 := ⟨_, rfl⟩
  obtain ⟨b2, h2⟩ : ∃ b2, decide (n < 256) = b2 := ⟨_, rfl⟩
  rw [h1, h2]
  go_enter Tryd.func40, Tryd.ntmps40
  cases b1 <;> cases b2
  all_goals
    go_wp2_with (first | (with_reducible refine Txt.wp_region_text mixed quiet (by decide +kernel) ?_) | (with_reducible refine Txt.text_done (by kernel_rfl) ?_))
    go_ret
    exact ⟨rfl, rfl⟩
theorem lnsAt {w : World} {a : Option Addr} {n c i : Nat} {ls : List Ln} {x : Ln} (h : LnsV w a n c ls) (hx : ls[i]? = some x) : ∃ b off, a = some ⟨b, off, none⟩ ∧ w.cell? ⟨b, off + i * 3, none⟩ = some (.int .i64 x.q) ∧ w.cell? ⟨b, off + i * 3 + 1, none⟩ = some (.int .i64 x.g) ∧ w.cell? ⟨b, off + i * 3 + 2, none⟩ = some (.int .i64 x.u) := by
  have hi : i < n := by have := (List.getElem?_eq_some_iff.1 hx).1; rw [h.len] at this; exact this
  have he : lat ls i = x := by unfold lat; rw [List.getD_eq_getElem?_getD, hx]; rfl
  have := h.at_ hi
  rw [he] at this
  exact this
set_option maxHeartbeats 1000000 in
theorem check30_ok {w : World} {a : Option Addr} {n c : Nat} {ls : List Ln} (hv : LnsV w a n c ls) (hn : n ≤ 40) (hok : ∀ x ∈ ls, StOk x) :
    Calls Tryd.prog 25 #[.slice a n c] w fun e w' => e = .returned (.int .i64 0) ∧ Keep [] w w' := by
  have HV := Lib.hid hv
  have HOK := Lib.hid hok
  have hl := hv.len
  have hrm := hv.room
  have hms := hv.most
  have HL := Lib.hid hl
  rw [show maxLen = 9223372036854775807 from rfl] at hms
  have hdec0 : decide ((n : Int) > 40) = false := by simp; omega
  clear hv hok hl
  go_enter Tryd.func25, Tryd.ntmps25
  go_wp2_with (first | (with_reducible refine Txt.wp_region_text mixed quiet (by decide +kernel) ?_) | (with_reducible refine Txt.text_done (by kernel_rfl) ?_))
  go_loopw [11] (fun j wr => ∃ i : Nat, i ≤ n ∧ j = .int .i64 i ∧ Hid (Keep [] w wr)) (fun j _ => n - (intOf j).toNat)
  case atStart => exact ⟨0, by omega, rfl, Lib.hid (Keep.refl _ _)⟩
  case round =>
    obtain ⟨i, hi, rfl, HK⟩ := hrel
    by_cases hlt : i < n
    · obtain ⟨x, hx⟩ : ∃ x, ls[i]? = some x := ⟨_, List.getElem?_eq_getElem (by rw [HL.out]; exact hlt)⟩
      obtain ⟨⟨h1, h2⟩, ⟨h3, h4⟩, h5, h6⟩ := HOK.out x (List.mem_of_getElem? hx)
      obtain ⟨b, off, hab, c0, c1, c2⟩ := lnsAt (HV.out.keep HK.out (by simp)) hx
      obtain ⟨q, g, u⟩ := x
      simp only at h1 h2 h3 h4 h5 h6 c0 c1 c2
      subst hab
      have d1 : decide (q < 0) = false := by simp; omega
      have d2 : decide (q ≥ 8) = false := by simp; omega
      have hdec : decide ((i : Int) < (n : Int)) = true := by simp; omega
      have HG : Hid ((decide (0 ≤ g) && decide (g < 256)) = true) := Lib.hid (by simp; omega)
      have HU : Hid ((decide (0 ≤ u) && decide (u < 256)) = true) := Lib.hid (by simp; omega)
      clear hx
      go_wp2_with (first | (with_reducible refine Txt.wp_region_text mixed quiet (by decide +kernel) ?_) | (with_reducible refine Txt.text_done (by kernel_rfl) ?_) | (go_at_call 40; (with_reducible refine (mask44 g _).mono ?_); rintro e2 w2 ⟨rfl, rfl⟩; rw [HG.out]) | (go_at_call 40; (with_reducible refine (mask44 u _).mono ?_); rintro e2 w2 ⟨rfl, rfl⟩; rw [HU.out]))
      exact ⟨⟨i + 1, hlt, by go_num, Lib.hid (HK.out.alloc _)⟩, by simp [intOf]; omega⟩
    · obtain rfl : i = n := by omega
      go_wp2_with (first | (with_reducible refine Txt.wp_region_text mixed quiet (by decide +kernel) ?_) | (with_reducible refine Txt.text_done (by kernel_rfl) ?_))
      go_ret
      exact ⟨rfl, HK.out⟩
end Go.Proofs.YtfcellgjbbfobaaDoor
namespace Go
open Go.ChangeShapes Go.WideShapes Go.ChangeAt Go.RowKit Go.Deep
/-- A slice of bytes in memory. -/
structure BytesV (w : World) (a : Option Addr) (n c : Nat) (bs : List Int) : Prop where
  len : bs.length = n
  room : n ≤ c
  most : c ≤ maxLen
  wf : ∀ z ∈ bs, 0 ≤ z ∧ z < 256
  cells : Lib.BytesIn w a n bs
  onNil : a = none → c = 0
theorem byte_wf {z : Int} (h : (Lit.int .u8 z).wf = true) : 0 ≤ z ∧ z < 256 := by
  have h2 : IntKind.u8.min = 0 := by decide
  have h3 : IntKind.u8.max = 255 := by decide
  simp [Lit.wf, h2, h3] at h
  omega
theorem BytesV.keep {S : List Nat} {w w' : World} {a : Option Addr} {n c : Nat} {bs : List Int} (h : BytesV w a n c bs) (hk : Keep S w w') (hS : ∀ x, a = some x → x.block ∉ S) : BytesV w' a n c bs :=
  ⟨h.len, h.room, h.most, h.wf, fun hn =>
    let ⟨b, o, h1, h2⟩ := h.cells hn
    ⟨b, o, h1, fun i hi => hk.cell (h2 i hi) (hS ⟨b, o, none⟩ h1)⟩, h.onNil⟩
section
variable {H : Type} {enc : TypeId × Value → H} {P : Program} {W : World}
theorem BytesV.empty (W : World) : BytesV W none 0 0 [] := ⟨rfl, Nat.le_refl _, Nat.zero_le _, by simp, Lib.BytesIn.nil _ _ _, fun _ => rfl⟩
theorem BytesV.ofRow {x : Addr} {n c : Nat} {zs : List Int} (hl : n ≤ c) (hm : c ≤ maxLen) (hz : zs.length = c) (hc : ∀ i, i < zs.length → W.cell? (x.add i) = some (.int .u8 (zs.getD i 0))) (hw : ∀ z ∈ zs, (Lit.int .u8 z).wf = true) :
    BytesV W (some x) n c (zs.take n) := by
  refine ⟨by simp; omega, hl, hm, fun z hz => byte_wf (hw z (List.mem_of_mem_take hz)), fun hn => ?_, fun h => by cases h⟩
  obtain ⟨b, off, spot⟩ := x
  have hspot : spot = none := by simpa [Addr.add] using World.cell?_spot (hc 0 (by omega))
  subst hspot
  refine ⟨b, off, rfl, fun i hi => ?_⟩
  have := hc i (by omega)
  rw [add_plain] at this
  rw [this]
  congr 2
  simp [List.getD_eq_getElem?_getD, hi]
theorem bytes_of {t e : TypeId} {a : Option Addr} {n c : Nat} {d : DataW H} {ps : List MemPlace} (ht : P.underlying t = some (.slice e)) (he : P.underlying e = some (.int .u8)) (ce : P.cellsOf e = 1)
    (h : DataW.Trod enc P W 0 (fun _ => true) true t (.slice a n c) d ps) : ∃ bs, BytesV W a n c bs := by
  obtain ⟨fuel, hf⟩ := h
  rcases open_ints ht he ce hf with ⟨hcs, _⟩ | ⟨x, l, c', zs, hcs, _, hl, hm, hz, _, hcell, hwz⟩
  · simp [Value.cells] at hcs
    obtain ⟨rfl, rfl, rfl⟩ := hcs
    exact ⟨[], BytesV.empty W⟩
  · simp [Value.cells] at hcs
    obtain ⟨rfl, rfl, rfl⟩ := hcs
    exact ⟨_, BytesV.ofRow hl hm (by simpa using hz) hcell hwz⟩
theorem bytes_room {ts : List TypeId} {ds : List (DataW H)} {j : Nat} {t e : TypeId} {a : Option Addr} {n c : Nat} {d : DataW H} {ps : List MemPlace} (ht : P.underlying t = some (.slice e)) (he : P.underlying e = some (.int .u8)) (ce : P.cellsOf e = 1) (be : P.bytesOf e = 1)
    (hs : (DataW.weightsEach P ts ds).all (· ≤ reachBytes) = true) (htj : ts[j]? = some t) (hdj : ds[j]? = some d)
    (h : DataW.Trod enc P W 0 (fun _ => true) true t (.slice a n c) d ps) : n ≤ 140737488351232 := by
  obtain ⟨fuel, hf⟩ := h
  rcases open_ints ht he ce hf with ⟨hcs, _⟩ | ⟨x, l, c', zs, hcs, _, hl, hm, hz, hx, hcell, hwz⟩
  · simp [Value.cells] at hcs
    omega
  · simp [Value.cells] at hcs
    obtain ⟨rfl, rfl, rfl⟩ := hcs
    simp only [Prod.mk.injEq] at hx
    obtain ⟨rfl, _⟩ := hx
    have := sized_slice hs htj hdj ht
    rw [be] at this
    simp only [lits, List.length_map, List.length_take, List.length_drop, reachBytes] at this
    simp only [if_true] at hz
    omega
end
end Go
