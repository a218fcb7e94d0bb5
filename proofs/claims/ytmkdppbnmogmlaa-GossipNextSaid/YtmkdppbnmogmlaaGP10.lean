import Derived.Test.YtmkdppbnmogmlaaGP7
namespace Go
open Go.RowKit
def nxGo (E : Nat → Bool) (l : Nat) : Nat → Nat → Option Nat
  | 0, _ => none
  | c + 1, k => if E ((l + k) % 8 + 1) then some ((l + k) % 8 + 1) else nxGo E l c (k + 1)
def nx (E : Nat → Bool) (l : Nat) : Option Nat := nxGo E l 8 0
theorem nxGo_mem (E : Nat → Bool) (l : Nat) : ∀ (c k m : Nat), nxGo E l c k = some m → 1 ≤ m ∧ m ≤ 8 ∧ E m = true := by
  intro c
  induction c with
  | zero => intro k m h; cases h
  | succ c ih =>
    intro k m h
    rw [nxGo] at h
    split at h
    · rename_i he
      obtain rfl := Option.some.inj h
      exact ⟨by omega, by omega, he⟩
    · exact ih _ _ h
theorem nx_mem {E : Nat → Bool} {l m : Nat} (h : nx E l = some m) : 1 ≤ m ∧ m ≤ 8 ∧ E m = true := nxGo_mem E l _ _ _ h
theorem nxGo_congr {E E' : Nat → Bool} (h : ∀ m, 1 ≤ m → m ≤ 8 → E m = E' m) (l : Nat) : ∀ c k, nxGo E l c k = nxGo E' l c k := by
  intro c
  induction c with
  | zero => intro k; rfl
  | succ c ih => intro k; rw [nxGo, nxGo, h _ (by omega) (by omega), ih]
theorem nx_congr {E E' : Nat → Bool} (h : ∀ m, 1 ≤ m → m ≤ 8 → E m = E' m) (l : Nat) : nx E l = nx E' l := nxGo_congr h l _ _
/-- Who is asked: known, not oneself, not dead. -/
def elig (g : Gs) (m : Nat) : Bool := decide ((lat g.rs m).q ≠ 0) && decide ((m : Int) ≠ g.me) && decide ((lat g.rs m).u ≠ 3)
def others (n me dead m : Nat) : Bool := decide (1 ≤ m) && decide (m ≤ n) && decide (m ≠ me) && decide (m ≠ dead)
/-- Where the turn stands after j askings. -/
def pos (E : Nat → Bool) : Nat → Nat
  | 0 => 0
  | j + 1 => (nx E (pos E j)).getD (pos E j)
def cnt' (n me dead : Nat) : Nat := if dead = me then n - 1 else n - 2
def goodB (n me dead f : Nat) : Bool :=
  (List.range (cnt' n me dead)).all (fun i => decide (nx (others n me dead) (pos (others n me dead) (f + i)) = some (pos (others n me dead) (f + i + 1))) &&
    (List.range i).all fun j => decide (pos (others n me dead) (f + j + 1) ≠ pos (others n me dead) (f + i + 1))) &&
  (if cnt' n me dead = 0 then decide (nx (others n me dead) (pos (others n me dead) f) = none)
   else decide (nx (others n me dead) (pos (others n me dead) (f + cnt' n me dead)) = some (pos (others n me dead) (f + 1))))
theorem good_all : (List.range 7).all (fun a => (List.range (a + 2)).all fun b => (List.range (a + 2)).all fun c => (List.range 5).all fun f => goodB (a + 2) (b + 1) (c + 1) f) = true := by decide +kernel
theorem good {n me dead f : Nat} (h1 : 2 ≤ n) (h8 : n ≤ 8) (m1 : 1 ≤ me) (m2 : me ≤ n) (d1 : 1 ≤ dead) (d2 : dead ≤ n) (hf : f < 5) : goodB n me dead f = true := by
  have := List.all_eq_true.1 (List.all_eq_true.1 (List.all_eq_true.1 (List.all_eq_true.1 good_all (n - 2) (List.mem_range.2 (by omega))) (me - 1) (List.mem_range.2 (by omega))) (dead - 1) (List.mem_range.2 (by omega))) f (List.mem_range.2 hf)
  rwa [show n - 2 + 2 = n by omega, show me - 1 + 1 = me by omega, show dead - 1 + 1 = dead by omega] at this
theorem good_next {n me dead f : Nat} (h : goodB n me dead f = true) {i : Nat} (hi : i < cnt' n me dead) : nx (others n me dead) (pos (others n me dead) (f + i)) = some (pos (others n me dead) (f + i + 1)) := by
  unfold goodB at h
  simp only [Bool.and_eq_true] at h
  have := List.all_eq_true.1 h.1 i (List.mem_range.2 hi)
  simp only [Bool.and_eq_true, decide_eq_true_eq] at this
  exact this.1
theorem good_new {n me dead f : Nat} (h : goodB n me dead f = true) {i j : Nat} (hi : i < cnt' n me dead) (hj : j < i) : pos (others n me dead) (f + j + 1) ≠ pos (others n me dead) (f + i + 1) := by
  unfold goodB at h
  simp only [Bool.and_eq_true] at h
  have := List.all_eq_true.1 h.1 i (List.mem_range.2 hi)
  simp only [Bool.and_eq_true, decide_eq_true_eq] at this
  have := List.all_eq_true.1 this.2 j (List.mem_range.2 hj)
  simpa using this
theorem good_none {n me dead f : Nat} (h : goodB n me dead f = true) (h0 : cnt' n me dead = 0) : nx (others n me dead) (pos (others n me dead) f) = none := by
  unfold goodB at h
  simp only [Bool.and_eq_true] at h
  have := h.2
  rw [if_pos h0] at this
  simpa using this
theorem good_last {n me dead f : Nat} (h : goodB n me dead f = true) (h0 : cnt' n me dead ≠ 0) : nx (others n me dead) (pos (others n me dead) (f + cnt' n me dead)) = some (pos (others n me dead) (f + 1)) := by
  unfold goodB at h
  simp only [Bool.and_eq_true] at h
  have := h.2
  rw [if_neg h0] at this
  simpa using this
theorem pos_le (E : Nat → Bool) : ∀ j, pos E j ≤ 8 := by
  intro j
  induction j with
  | zero => exact Nat.zero_le _
  | succ j ih =>
    rw [pos]
    cases h : nx E (pos E j) with
    | none => exact ih
    | some m => exact (nx_mem h).2.1
end Go
