import Derived.Test.YtkhchfjhmplaiaaHP6
namespace Go
open Go.RowKit
/-- Lamport's number of event k, from those ahead. -/
def nstep (h : List Ln) (k : Nat) (ns : List Int) : Int :=
  (if (lat h k).g = 3 then max ((lastIx h (lat h k).q k).elim 0 fun i => ns.getD i 0) ((sendIx h (lat h k).u k).elim 0 fun i => ns.getD i 0) else (lastIx h (lat h k).q k).elim 0 fun i => ns.getD i 0) + 1
def nums (h : List Ln) : Nat → List Int
  | 0 => []
  | k + 1 => nums h k ++ [nstep h k (nums h k)]
def num (h : List Ln) (i : Nat) : Int := nstep h i (nums h i)
theorem nums_len (h : List Ln) (k : Nat) : (nums h k).length = k := by
  induction k with
  | zero => rfl
  | succ k ih => simp [nums, ih]
theorem nums_getD (h : List Ln) (k i : Nat) (hi : i < k) : (nums h k).getD i 0 = num h i := by
  induction k with
  | zero => omega
  | succ k ih =>
    rw [nums]
    by_cases e : i = k
    · subst e
      simp [List.getD_eq_getElem?_getD, nums_len, num]
    · have := ih (by omega)
      rw [List.getD_eq_getElem?_getD] at this ⊢
      rw [List.getElem?_append_left (by rw [nums_len]; omega)]
      exact this
theorem num_eq (h : List Ln) (k : Nat) : num h k = (if (lat h k).g = 3 then max ((lastIx h (lat h k).q k).elim 0 (num h)) ((sendIx h (lat h k).u k).elim 0 (num h)) else (lastIx h (lat h k).q k).elim 0 (num h)) + 1 := by
  have e1 : ((lastIx h (lat h k).q k).elim 0 fun i => (nums h k).getD i 0) = (lastIx h (lat h k).q k).elim 0 (num h) := by
    cases hj : lastIx h (lat h k).q k with
    | none => rfl
    | some j => exact nums_getD h k j (lastIx_lt hj).1
  have e2 : ((sendIx h (lat h k).u k).elim 0 fun i => (nums h k).getD i 0) = (sendIx h (lat h k).u k).elim 0 (num h) := by
    cases hj : sendIx h (lat h k).u k with
    | none => rfl
    | some j => exact nums_getD h k j (sendIx_lt hj).1
  show nstep h k (nums h k) = _
  unfold nstep
  rw [e1, e2]
theorem num_bd (h : List Ln) : ∀ (n k : Nat), k < n → 1 ≤ num h k ∧ num h k ≤ k + 1 := by
  intro n
  induction n with
  | zero => intro k h; omega
  | succ n ih =>
    intro k hn
    have h1 : 0 ≤ (lastIx h (lat h k).q k).elim 0 (num h) ∧ (lastIx h (lat h k).q k).elim 0 (num h) ≤ k := by
      cases hj : lastIx h (lat h k).q k with
      | none => exact ⟨Int.le_refl _, by show (0 : Int) ≤ k; omega⟩
      | some j => have := ih j (by have := (lastIx_lt hj).1; omega); have := (lastIx_lt hj).1; show 0 ≤ num h j ∧ num h j ≤ k; omega
    have h2 : 0 ≤ (sendIx h (lat h k).u k).elim 0 (num h) ∧ (sendIx h (lat h k).u k).elim 0 (num h) ≤ k := by
      cases hj : sendIx h (lat h k).u k with
      | none => exact ⟨Int.le_refl _, by show (0 : Int) ≤ k; omega⟩
      | some j => have := ih j (by have := (sendIx_lt hj).1; omega); have := (sendIx_lt hj).1; show 0 ≤ num h j ∧ num h j ≤ k; omega
    rw [num_eq]
    split <;> omega
theorem last_num (h : List Ln) (k : Nat) : (lastIx h (lat h k).q k).elim 0 (num h) < num h k := by
  rw [num_eq h k]; split <;> omega
theorem same_num {h : List Ln} : ∀ (n k : Nat), k < n → ∀ i, i < k → (lat h i).q = (lat h k).q → num h i < num h k := by
  intro n
  induction n with
  | zero => intro k h; omega
  | succ n ih =>
    intro k hn i hi hq
    obtain ⟨j, hj, hij⟩ := lastIx_ge (h := h) hi hq
    have hjl := lastIx_lt hj
    have h1 := last_num h k
    rw [hj] at h1
    have h2 : num h j < num h k := h1
    by_cases e : i = j
    · rw [e]; exact h2
    · have := ih j (by omega) i (by omega) (by rw [hq, hjl.2.1]); omega
theorem edge_num {h : List Ln} (hk : HOk h) {x y : Nat} (hxy : x < y) (hl : y < h.length) (he : edgeB h x y = true) : num h x < num h y := by
  unfold edgeB at he
  simp only [Bool.or_eq_true, Bool.and_eq_true, decide_eq_true_eq] at he
  rcases he with he | ⟨h1, h2, h3⟩
  · exact same_num (y + 1) y (by omega) x hxy he
  · rw [num_eq h y, if_pos h2, sendIx_eq hk hxy hl h1 h3]
    show num h x < max _ (num h x) + 1
    omega
theorem past_num {h : List Ln} (hk : HOk h) {i k : Nat} (r : Past h i k) (hl : k < h.length) : i = k ∨ num h i < num h k := by
  induction r with
  | here => exact .inl rfl
  | step _ h1 h2 ih =>
    have h3 := edge_num hk h1 hl h2
    rcases ih (by omega) with e | e
    · rw [e]; exact .inr h3
    · exact .inr (by omega)
/-- The law of numbers. -/
theorem clockNumbers_law {h : List Ln} (hk : HOk h) {i k : Nat} (hki : k < i) (hi : i < h.length) : (lessL (clk h k) (clk h i) = true → num h k < num h i) ∧ lessL (clk h i) (clk h k) = false := by
  constructor
  · intro hb
    rcases past_num hk (le_reach hk (by omega) hi (lessL_iff.1 hb).1) hi with e | e
    · omega
    · exact e
  · cases hb : lessL (clk h i) (clk h k) with
    | false => rfl
    | true => have := lessL_lt hk hi (by omega) hb; omega
end Go
