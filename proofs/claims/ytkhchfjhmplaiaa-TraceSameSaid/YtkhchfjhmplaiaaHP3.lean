import Derived.Test.YtkhchfjhmplaiaaHP1
import Derived.Test.YtkhchfjhmplaiaaHP2
namespace Go
open Go.RowKit
def lastIx (h : List Ln) (p : Int) : Nat → Option Nat
  | 0 => none
  | k + 1 => if (lat h k).q = p then some k else lastIx h p k
def sendIx (h : List Ln) (u : Int) : Nat → Option Nat
  | 0 => none
  | k + 1 => if (lat h k).g = 2 ∧ (lat h k).u = u then some k else sendIx h u k
def zeros8 : List Int := List.replicate 8 0
def bump (c : List Int) (p : Nat) : List Int := c.set p (c.getD p 0 + 1)
def cstep (h : List Ln) (k : Nat) (cs : List (List Int)) : List Int :=
  bump (if (lat h k).g = 3 then joinL ((lastIx h (lat h k).q k).elim zeros8 fun i => cs.getD i []) ((sendIx h (lat h k).u k).elim [] fun i => cs.getD i []) else (lastIx h (lat h k).q k).elim zeros8 fun i => cs.getD i []) (lat h k).q.toNat
def clks (h : List Ln) : Nat → List (List Int)
  | 0 => []
  | k + 1 => clks h k ++ [cstep h k (clks h k)]
def clk (h : List Ln) (i : Nat) : List Int := cstep h i (clks h i)
theorem clks_len (h : List Ln) (k : Nat) : (clks h k).length = k := by
  induction k with
  | zero => rfl
  | succ k ih => simp [clks, ih]
theorem clks_getD (h : List Ln) (k i : Nat) (hi : i < k) : (clks h k).getD i [] = clk h i := by
  induction k with
  | zero => omega
  | succ k ih =>
    rw [clks]
    by_cases e : i = k
    · subst e
      simp [List.getD_eq_getElem?_getD, clks_len, clk]
    · have := ih (by omega)
      rw [List.getD_eq_getElem?_getD] at this ⊢
      rw [List.getElem?_append_left (by rw [clks_len]; omega)]
      exact this
theorem lastIx_lt {h : List Ln} {p : Int} {k i : Nat} (hi : lastIx h p k = some i) : i < k ∧ (lat h i).q = p ∧ ∀ j, i < j → j < k → (lat h j).q ≠ p := by
  induction k with
  | zero => cases hi
  | succ k ih =>
    rw [lastIx] at hi
    split at hi
    · rename_i hq
      obtain rfl := Option.some.inj hi
      exact ⟨by omega, hq, fun j h1 h2 => by omega⟩
    · rename_i hq
      obtain ⟨h1, h2, h3⟩ := ih hi
      refine ⟨by omega, h2, fun j h4 h5 => ?_⟩
      by_cases e : j = k
      · rw [e]; exact hq
      · exact h3 j h4 (by omega)
theorem lastIx_none {h : List Ln} {p : Int} {k : Nat} (hi : lastIx h p k = none) : ∀ j, j < k → (lat h j).q ≠ p := by
  induction k with
  | zero => intro j hj; omega
  | succ k ih =>
    rw [lastIx] at hi
    split at hi
    · cases hi
    · rename_i hq
      intro j hj
      by_cases e : j = k
      · rw [e]; exact hq
      · exact ih hi j (by omega)
theorem sendIx_lt {h : List Ln} {u : Int} {k i : Nat} (hi : sendIx h u k = some i) : i < k ∧ (lat h i).g = 2 ∧ (lat h i).u = u := by
  induction k with
  | zero => cases hi
  | succ k ih =>
    rw [sendIx] at hi
    split at hi
    · rename_i hq
      obtain rfl := Option.some.inj hi
      exact ⟨by omega, hq⟩
    · obtain ⟨h1, h2⟩ := ih hi
      exact ⟨by omega, h2⟩
theorem sendIx_none {h : List Ln} {u : Int} {k : Nat} (hi : sendIx h u k = none) : ∀ j, j < k → ¬ ((lat h j).g = 2 ∧ (lat h j).u = u) := by
  induction k with
  | zero => intro j hj; omega
  | succ k ih =>
    rw [sendIx] at hi
    split at hi
    · cases hi
    · rename_i hq
      intro j hj
      by_cases e : j = k
      · rw [e]; exact hq
      · exact ih hi j (by omega)
theorem sendIx_take {h : List Ln} (hk : HOk h) {k : Nat} (hlt : k < h.length) (hg : (lat h k).g = 3) : ∃ j, sendIx h (lat h k).u k = some j := by
  cases hs : sendIx h (lat h k).u k with
  | some j => exact ⟨j, rfl⟩
  | none =>
    obtain ⟨j, h1, h2, h3⟩ := hk.sent k hlt hg
    exact absurd ⟨h2, h3⟩ (sendIx_none hs j h1)
/-- A clock: eight small numbers. -/
structure Clk (B : Int) (c : List Int) : Prop where
  len : c.length = 8
  bd : ∀ x ∈ c, 0 ≤ x ∧ x ≤ B
theorem Clk.more {B B' : Int} {c : List Int} (h : Clk B c) (hB : B ≤ B') : Clk B' c := ⟨h.len, fun x hx => by have := h.bd x hx; omega⟩
theorem Clk.at_ {B : Int} {c : List Int} (h : Clk B c) (h0 : 0 ≤ B) (i : Nat) : 0 ≤ c.getD i 0 ∧ c.getD i 0 ≤ B := by
  rw [List.getD_eq_getElem?_getD]
  cases hi : c[i]? with
  | none => exact ⟨Int.le_refl _, h0⟩
  | some x => exact h.bd x (List.mem_of_getElem? hi)
theorem zeros8_clk : Clk 0 zeros8 := ⟨rfl, fun x hx => by simp [zeros8] at hx; omega⟩
theorem bump_clk {B : Int} {c : List Int} (h : Clk B c) (h0 : 0 ≤ B) (p : Nat) : Clk (B + 1) (bump c p) := by
  refine ⟨by simp [bump, h.len], fun x hx => ?_⟩
  rcases List.mem_or_eq_of_mem_set hx with h1 | h1
  · have := h.bd x h1; omega
  · have := h.at_ h0 p; omega
theorem joinL_getD (a b : List Int) (i : Nat) (hi : i < max a.length b.length) : (joinL a b).getD i 0 = max (a.getD i 0) (b.getD i 0) := by
  simp [joinL, List.getD_eq_getElem?_getD, hi]
theorem join_clk {B : Int} {a b : List Int} (ha : Clk B a) (hb : Clk B b) (h0 : 0 ≤ B) : Clk B (joinL a b) := by
  refine ⟨by simp [joinL, ha.len, hb.len], fun x hx => ?_⟩
  unfold joinL at hx
  obtain ⟨i, _, rfl⟩ := List.mem_map.1 hx
  have := ha.at_ h0 i
  have := hb.at_ h0 i
  omega
theorem join_nil {B : Int} {a : List Int} (ha : Clk B a) (h0 : 0 ≤ B) : joinL a [] = a := by
  refine List.ext_getElem (by simp [joinL]) fun i h1 h2 => ?_
  have := ha.at_ h0 i
  simp [joinL, List.getD_eq_getElem?_getD, h2] at this ⊢
  omega
theorem clk_clk {h : List Ln} (hk : HOk h) : ∀ (k i : Nat), i < k → i < h.length → Clk (i + 1) (clk h i) := by
  intro k
  induction k with
  | zero => intro i hi; omega
  | succ k ih =>
    intro i hi hl
    have hlast : ∀ p, Clk (i : Int) ((lastIx h p i).elim zeros8 fun j => (clks h i).getD j []) := fun p => by
      cases hj : lastIx h p i with
      | none => exact zeros8_clk.more (by omega)
      | some j =>
        have := lastIx_lt hj
        show Clk (i : Int) ((clks h i).getD j [])
        rw [clks_getD h i j this.1]
        exact (ih j (by omega) (by omega)).more (by omega)
    unfold clk cstep
    refine bump_clk ?_ (by omega) _
    split
    · rename_i hg
      obtain ⟨j, hj⟩ := sendIx_take hk hl hg
      have := sendIx_lt hj
      refine join_clk (hlast _) ?_ (by omega)
      rw [hj]
      show Clk (i : Int) ((clks h i).getD j [])
      rw [clks_getD h i j this.1]
      exact (ih j (by omega) (by omega)).more (by omega)
    · exact hlast _
theorem clk_ok {h : List Ln} (hk : HOk h) (i : Nat) (hl : i < h.length) : Clk (i + 1) (clk h i) := clk_clk hk (i + 1) i (by omega) hl
/-- One clock, by those ahead. -/
theorem clk_eq (h : List Ln) (k : Nat) : clk h k = bump (if (lat h k).g = 3 then joinL ((lastIx h (lat h k).q k).elim zeros8 (clk h)) ((sendIx h (lat h k).u k).elim [] (clk h)) else (lastIx h (lat h k).q k).elim zeros8 (clk h)) (lat h k).q.toNat := by
  have e1 : ((lastIx h (lat h k).q k).elim zeros8 fun i => (clks h k).getD i []) = (lastIx h (lat h k).q k).elim zeros8 (clk h) := by
    cases hj : lastIx h (lat h k).q k with
    | none => rfl
    | some j => exact clks_getD h k j (lastIx_lt hj).1
  have e2 : ((sendIx h (lat h k).u k).elim [] fun i => (clks h k).getD i []) = (sendIx h (lat h k).u k).elim [] (clk h) := by
    cases hj : sendIx h (lat h k).u k with
    | none => rfl
    | some j => exact clks_getD h k j (sendIx_lt hj).1
  unfold clk cstep
  rw [e1, e2]
  rfl
end Go
