import Derived.Test.YtmdfkbckpekchaaC3
namespace Go
def belowL (xs ys : List Int) : Bool := lessL xs ys || (!lessL ys xs && alikeL xs ys)
theorem getD_past {xs : List Int} {i : Nat} (h : xs.length ≤ i) : xs.getD i 0 = 0 := by
  simp [List.getD_eq_getElem?_getD, List.getElem?_eq_none h]
theorem joinL_getD (xs ys : List Int) (i : Nat) : (joinL xs ys).getD i 0 = max (xs.getD i 0) (ys.getD i 0) := by
  by_cases h : i < max xs.length ys.length
  · simp [joinL, List.getD_eq_getElem?_getD, h]
  · rw [getD_past (by simp [joinL]; omega), getD_past (by omega), getD_past (by omega)]; rfl
theorem lowL_getD (xs : List Int) (i : Nat) : (lowL xs).getD i 0 = max (xs.getD i 0) 0 := by
  by_cases h : i < xs.length
  · simp [lowL, List.getD_eq_getElem?_getD, h]
  · rw [getD_past (by simp [lowL]; omega), getD_past (by omega)]; rfl
theorem lessL_iff (xs ys : List Int) : lessL xs ys = true ↔ (∀ i, xs.getD i 0 ≤ ys.getD i 0) ∧ ∃ i, xs.getD i 0 < ys.getD i 0 := by
  have past : ∀ i, ¬ i < max xs.length ys.length → xs.getD i 0 = 0 ∧ ys.getD i 0 = 0 := fun i hi => ⟨getD_past (by omega), getD_past (by omega)⟩
  simp only [lessL, geTo, ltTo, Bool.and_eq_true, List.all_eq_true, List.any_eq_true, List.mem_range, decide_eq_true_eq]
  constructor
  · rintro ⟨h1, j, hj, h2⟩
    refine ⟨fun i => ?_, j, h2⟩
    by_cases hi : i < max xs.length ys.length
    · exact h1 i hi
    · rw [(past i hi).1, (past i hi).2]; exact Int.le_refl _
  · rintro ⟨h1, j, h2⟩
    refine ⟨fun i _ => h1 i, j, ?_, h2⟩
    refine Classical.byContradiction fun hn => ?_
    rw [(past j hn).1, (past j hn).2] at h2
    exact absurd h2 (by decide)
theorem alikeL_iff (xs ys : List Int) : alikeL xs ys = true ↔ ∀ i, xs.getD i 0 = ys.getD i 0 := by
  have past : ∀ i, ¬ i < max xs.length ys.length → xs.getD i 0 = 0 ∧ ys.getD i 0 = 0 := fun i hi => ⟨getD_past (by omega), getD_past (by omega)⟩
  simp only [alikeL, eqTo, List.all_eq_true, List.mem_range, decide_eq_true_eq]
  constructor
  · intro h i
    by_cases hi : i < max xs.length ys.length
    · exact h i hi
    · rw [(past i hi).1, (past i hi).2]
  · exact fun h i _ => h i
theorem belowL_iff (xs ys : List Int) : belowL xs ys = true ↔ ∀ i, xs.getD i 0 ≤ ys.getD i 0 := by
  simp only [belowL, Bool.or_eq_true, Bool.and_eq_true, Bool.not_eq_true']
  constructor
  · rintro (h | ⟨_, h⟩) i
    · exact ((lessL_iff _ _).1 h).1 i
    · rw [(alikeL_iff _ _).1 h i]; exact Int.le_refl _
  · intro h
    by_cases he : ∃ i, xs.getD i 0 < ys.getD i 0
    · exact .inl ((lessL_iff _ _).2 ⟨h, he⟩)
    · right
      have heq : ∀ i, xs.getD i 0 = ys.getD i 0 := fun i => by
        have := h i
        have h2 : ¬ xs.getD i 0 < ys.getD i 0 := fun h3 => he ⟨i, h3⟩
        omega
      refine ⟨?_, (alikeL_iff _ _).2 heq⟩
      rw [← Bool.not_eq_true, lessL_iff]
      rintro ⟨_, i, hi⟩
      have := heq i
      omega
theorem below_low (xs ys : List Int) : belowL (lowL xs) (joinL (lowL xs) (lowL ys)) = true := by
  rw [belowL_iff]; intro i; rw [joinL_getD]; omega
theorem alike_comm (xs ys : List Int) : alikeL (joinL xs ys) (joinL ys xs) = true := by
  rw [alikeL_iff]; intro i; rw [joinL_getD, joinL_getD]; omega
theorem below_join {xs ys zs : List Int} (h1 : belowL xs zs = true) (h2 : belowL ys zs = true) : belowL (joinL xs ys) zs = true := by
  rw [belowL_iff] at *; intro i; rw [joinL_getD]; have := h1 i; have := h2 i; omega
theorem alike_assoc (xs ys zs : List Int) : alikeL (joinL (joinL xs ys) zs) (joinL xs (joinL ys zs)) = true := by
  rw [alikeL_iff]; intro i; simp only [joinL_getD]; omega
theorem blk_old {w : World} {k : Nat} {o o' : Obj} (h : w.heap[k]? = some o) : (w.alloc o').heap[k]? = some o := by
  rw [blk_alloc, if_neg (by have := lt_of_blk h; omega)]; exact h
/-- A row whose cells are written out. -/
theorem IntsV.lit {w : World} {b : Nat} {T : TypeId} {f : Nat × Nat} {cs : Array Value} (zs : List Int) (n : Nat) (h : w.heap[b]? = some (.cells cs T f)) (hc : cs = (zs.map (Value.int .i64)).toArray) (hn : zs.length = n) (hm : n ≤ maxLen) (hw : ∀ z ∈ zs, (Lit.int .i64 z).wf = true) : IntsV w (some ⟨b, 0, none⟩) n n zs := by
  subst hc
  refine ⟨hn, Nat.le_refl _, hm, hw, fun _ => ⟨b, 0, rfl, fun i hi => ?_⟩⟩
  rw [Nat.zero_add, cell_of_row w b i _ T f h]
  simp [List.getD_eq_getElem?_getD, hn ▸ hi]
end Go
namespace Go.Proofs.Ytmdfkbckpekchaa
open Go.RowKit
set_option maxHeartbeats 1000000 in
theorem below_any {a1 a2 : Option Addr} {n1 c1 n2 c2 : Nat} {xs ys : List Int} {w : World} (hx : IntsV w a1 n1 c1 xs) (hy : IntsV w a2 n2 c2 ys) :
    Calls Try.prog 15 #[.slice a1 n1 c1, .slice a2 n2 c2] w fun e w' => e = .returned (.bool (belowL xs ys)) ∧ w = w' := by
  have l1 := Lib.hid (less_any hx hy)
  have l2 := Lib.hid (less_any hy hx)
  have l3 := Lib.hid (alike_any hx hy)
  have hb := Lib.hid (show belowL xs ys = (lessL xs ys || (!lessL ys xs && alikeL xs ys)) from rfl)
  clear hx hy
  generalize lessL xs ys = b1 at *
  generalize lessL ys xs = b2 at *
  generalize alikeL xs ys = b3 at *
  cases b1 <;> cases b2
  all_goals
    go_enter Try.func15, Try.ntmps15
    go_wp2_with fail
    refine (l1.out).mono ?_
    rintro e w' ⟨rfl, rfl⟩
    go_wp2_with (first | (go_at_call 12; (with_reducible refine (l2.out).mono ?_); rintro e w' ⟨rfl, rfl⟩) | (go_at_call 16; (with_reducible refine (l3.out).mono ?_); rintro e w' ⟨rfl, rfl⟩))
    go_ret
    exact ⟨ret_bool (by rw [hb.out]; rfl), rfl⟩
end Go.Proofs.Ytmdfkbckpekchaa
